/- Part C4 of a proof that runs a program's calls on a small machine whose values bear no addresses: no conditions. -/
import Derived.Test.YtbppacknigeiaaaDoorAmC1
import Derived.Test.YtbppacknigeiaaaDoorAmZ1
import Derived.Test.YtbppacknigeiaaaDoorAmJ1
import Derived.Test.YtbppacknigeiaaaDoorAmY6
set_option autoImplicit false
set_option linter.unusedSimpArgs false
set_option linter.unusedVariables false
set_option linter.unusedSectionVars false
namespace Go.Am
open Go Go.Proofs
variable {fz : Nat → Md}
def swI (nl : List Bool) : Nat → List Ex → List Nat → List Nat
  | _, [], F => F
  | i, x :: l, F => swI nl (i + 1) l (F.set i (bgE F nl x).1)
def swN (nl : List Bool) (bs : List Ex) : Nat → List Nat → List Nat
  | 0, F => F
  | n + 1, F => swN nl bs n (swI nl 0 bs F)
section
variable {nl : List Bool} {t : Int} {r : Nat}
theorem swI_ok {bs : List Ex} (ht : t ≤ 64) (hok : ∀ y ∈ bs, okE t r y) : ∀ (l : List Ex) (i : Nat) (F : List Nat), (∀ k x, l[k]? = some x → bs[i + k]? = some x) → F.length = bs.length → Lt64 F → (swI nl i l F).length = bs.length ∧ Lt64 (swI nl i l F)
  | [], i, F, _, hl, hF => ⟨hl, hF⟩
  | x :: l, i, F, hk, hl, hF => by
    rw [swI]
    refine swI_ok ht hok l (i + 1) _ (fun k y hy => by have := hk (k + 1) y (by simpa using hy); rwa [show i + 1 + k = i + (k + 1) by omega]) (by rw [List.length_set]; exact hl) fun m => ?_
    rw [getD_setN]; split
    · exact bgE_lt hF ht x (hok x (List.mem_of_getElem? (hk 0 x rfl)))
    · exact hF m
theorem bgE_dep {F E : List Nat} : ∀ x : Ex, (∀ m, Beg (qOf nl) x m → F.getD m 0 = E.getD m 0) → (bgE F nl x).1 = (bgE E nl x).1 := fun x h => by
  have hsub : ∀ y ∈ x.l, (∀ m, Beg (qOf nl) y m → F.getD m 0 = E.getD m 0) → (bgE F nl y).1 = (bgE E nl y).1 := fun y hy => bgE_dep y
  rw [bgE_eq, bgE_eq]
  by_cases k1 : x.kind = 1
  · rw [if_pos k1, if_pos k1]
  by_cases k2 : x.kind = 2
  · rw [if_neg k1, if_neg k1, if_pos k2, if_pos k2]; exact h _ (.call k2)
  by_cases k3 : x.kind = 3
  · rw [if_neg k1, if_neg k1, if_neg k2, if_neg k2, if_pos k3, if_pos k3]
    have gen : ∀ (l pre : List Ex) (a : Nat), x.l = pre ++ l → (∀ z ∈ pre, canE false (qOf nl) z = true) → (bgS F nl l a).1 = (bgS E nl l a).1 := by
      intro l
      induction l with
      | nil => intro pre a _ _; rw [bgS, bgS]
      | cons y l ih =>
        intro pre a hx hp
        have hy : y ∈ x.l := by rw [hx]; simp
        have e := hsub y hy (fun m hm => h m (.seq hx hp hm))
        rw [bgS, bgS, bg2, bg2, e]
        cases hb : canE false (qOf nl) y with
        | true =>
          rw [if_pos rfl, if_pos rfl]
          refine ih (pre ++ [y]) _ (by rw [hx]; simp) fun z hz => ?_
          rcases List.mem_append.1 hz with q | q
          · exact hp z q
          · rw [List.mem_singleton.1 q]; exact hb
        | false => rw [if_neg (by simp), if_neg (by simp)]
    exact gen x.l [] 0 rfl (by simp)
  · rw [if_neg k1, if_neg k1, if_neg k2, if_neg k2, if_neg k3, if_neg k3]
    have gen : ∀ (l : List Ex) (a : Nat) (b b' : Bool), (∀ y ∈ l, y ∈ x.l) → (bgA F nl l a b).1 = (bgA E nl l a b').1 := by
      intro l
      induction l with
      | nil => intro a b b' _; rw [bgA, bgA]
      | cons y l ih =>
        intro a b b' hl
        have hy := hl y (by simp)
        rw [bgA, bgA, hsub y hy (fun m hm => h m (.sub k3 hy hm))]
        exact ih _ _ _ fun z hz => hl z (by simp [hz])
    exact gen x.l 0 _ _ fun _ h => h
termination_by x => x
decreasing_by exact Ex.sub_lt hy
def plc (rk : Nat → Nat) (N m : Nat) : Nat := (List.range N).countP fun n => decide (rk n < rk m)
theorem plc_lt {rk : Nat → Nat} {N n m : Nat} (hn : n < N) (h : rk n < rk m) : plc rk N n < plc rk N m :=
  countP_lt (fun x _ hx => by simp only [decide_eq_true_eq] at *; omega) ⟨n, List.mem_range.2 hn, by simpa using h, by simp⟩
theorem plc_le {rk : Nat → Nat} {N m : Nat} (hm : m < N) : plc rk N m < N := by
  have h : plc rk N m < (List.range N).countP fun _ => true := countP_lt (fun _ _ _ => rfl) ⟨m, List.mem_range.2 hm, rfl, by simp⟩
  rw [List.countP_true, List.length_range] at h; exact h
theorem swI_is {bs : List Ex} {E : List Nat} {rk : Nat → Nat} {t : Int} (hok : ∀ y ∈ bs, okE t bs.length y) (hE : ∀ (n : Nat) (x : Ex), bs[n]? = some x → (bgE E nl x).1 = E.getD n 0) (hrk : ∀ (n m : Nat) (y : Ex), bs[n]? = some y → Beg (qOf nl) y m → rk m < rk n) (k : Nat) :
    ∀ (l : List Ex) (i : Nat) (F : List Nat), (∀ j x, l[j]? = some x → bs[i + j]? = some x) → i + l.length = bs.length → F.length = bs.length → (∀ n, n < bs.length → (plc rk bs.length n < k ∨ (plc rk bs.length n < k + 1 ∧ n < i)) → F.getD n 0 = E.getD n 0) →
      ∀ n, n < bs.length → plc rk bs.length n < k + 1 → (swI nl i l F).getD n 0 = E.getD n 0
  | [], i, F, _, hi, _, h => fun n hn hp => h n hn (.inr ⟨hp, by simp at hi; omega⟩)
  | x :: l, i, F, hx, hi, hl, h => by
    rw [swI]
    have hb := hx 0 x rfl
    rw [Nat.add_zero] at hb
    refine swI_is hok hE hrk k l (i + 1) _ (fun j y hy => by have := hx (j + 1) y (by simpa using hy); rwa [show i + 1 + j = i + (j + 1) by omega]) (by simp at hi ⊢; omega) (by rw [List.length_set]; exact hl) fun n hn hp => ?_
    rw [getD_setN]
    by_cases e : n = i
    · subst e
      rw [if_pos ⟨rfl, by omega⟩]
      have hpn : plc rk bs.length n < k + 1 := by rcases hp with q | q <;> omega
      rw [bgE_dep (E := E) x fun m hm => by
        have hr := hrk n m x hb hm
        have hml := beg_lt hm (hok x (List.mem_of_getElem? hb))
        have := plc_lt (N := bs.length) hml hr
        exact h m hml (.inl (by omega))]
      exact hE n x hb
    · rw [if_neg (by omega)]
      exact h n hn (by rcases hp with q | q; exact .inl q; exact .inr ⟨q.1, by omega⟩)
theorem swN_is {bs : List Ex} {E : List Nat} {rk : Nat → Nat} {t : Int} (ht : t ≤ 64) (hok : ∀ y ∈ bs, okE t bs.length y) (hE : ∀ (n : Nat) (x : Ex), bs[n]? = some x → (bgE E nl x).1 = E.getD n 0) (hrk : ∀ (n m : Nat) (y : Ex), bs[n]? = some y → Beg (qOf nl) y m → rk m < rk n) :
    ∀ (c k : Nat) (F : List Nat), F.length = bs.length → Lt64 F → (∀ n, n < bs.length → plc rk bs.length n < k → F.getD n 0 = E.getD n 0) → ∀ n, n < bs.length → plc rk bs.length n < k + c → (swN nl bs c F).getD n 0 = E.getD n 0
  | 0, k, F, _, _, h => fun n hn hp => h n hn hp
  | c + 1, k, F, hl, hF, h => fun n hn hp => by
    rw [swN]
    obtain ⟨p1, p2⟩ := swI_ok ht hok bs 0 F (fun k x h => by rw [Nat.zero_add]; exact h) hl hF
    exact swN_is ht hok hE hrk c (k + 1) _ p1 p2 (fun n hn hp => swI_is hok hE hrk k bs 0 F (fun k x h => by rw [Nat.zero_add]; exact h) (by omega) hl (fun n hn hp => h n hn (by rcases hp with q | q; exact q; omega)) n hn hp) n hn (by omega)
end
theorem firsts_is {g : Gr} (hc : checkP g = 0) : swN g.null g.bodies g.rules.length (fr0 g.rules.length) = frG g := by
  have h := GOk.of hc
  have hch := chk_iff.1 hc
  have hbl : g.bodies.length = g.rules.length := by rw [Gr.bodies, List.length_map]
  obtain ⟨f1, f2, -⟩ := frG_ok h
  have hz : Lt64 (fr0 g.rules.length) := fun m => by rw [fr0_get]; omega
  have hlen : ∀ (c : Nat) (F : List Nat), F.length = g.bodies.length → Lt64 F → (swN g.null g.bodies c F).length = g.bodies.length := by
    intro c
    induction c with
    | zero => intro F hl _; exact hl
    | succ c ih =>
      intro F hl hF
      obtain ⟨p1, p2⟩ := swI_ok (nl := g.null) h.tok h.ok g.bodies 0 F (fun k x h => by rw [Nat.zero_add]; exact h) hl hF
      exact ih _ p1 p2
  have hl0 : (fr0 g.rules.length).length = g.bodies.length := by simp [fr0, hbl]
  have hs := swN_is (nl := g.null) (rk := rkOf g.bodies (qOf g.null)) h.tok h.ok f2 (fun n m y hy hb => rank_of h.ok hch.left hy hb) g.rules.length 0 (fr0 g.rules.length) hl0 hz (fun n _ hp => by omega)
  refine List.ext_getElem? fun n => ?_
  rcases Nat.lt_or_ge n g.bodies.length with q | q
  · have := hs n q (by have := plc_le (rk := rkOf g.bodies (qOf g.null)) q; omega)
    rw [List.getD_eq_getElem?_getD, List.getD_eq_getElem?_getD, List.getElem?_eq_getElem (by rw [hlen _ _ hl0 hz]; exact q), List.getElem?_eq_getElem (by rw [f1.l]; exact q)] at this
    rw [List.getElem?_eq_getElem (by rw [hlen _ _ hl0 hz]; exact q), List.getElem?_eq_getElem (by rw [f1.l]; exact q)]
    exact congrArg some this
  · rw [List.getElem?_eq_none (by rw [hlen _ _ hl0 hz]; exact q), List.getElem?_eq_none (by rw [f1.l]; exact q)]
end Go.Am
namespace Go.Am
open Go Go.Proofs
variable {fz : Nat → Md}
set_option maxHeartbeats 8000000 in
theorem firsts_c (h41 : fz 41 = .keep) (h78 : fz 78 = .cut) (h98 : fz 98 = .cut) (h74 : fz 74 = .ice) (h96 : fz 96 = .cut) (g : Gr) (hg : SmallG g) (hc : checkP g = 0) (σ : St) :
    ∃ a σ' T, CallsTo (XX fz) (.func 41 []) [g.a] σ a σ' T ∧ T = [] ∧ NewM σ σ' [] ∧ ∃ k, a = .row k 0 g.rules.length 1 ∧ σ'.get k = .cells (ubA (frG g)) ∧ σ.n ≤ k ∧ k < σ'.n := by
  have h := GOk.of hc
  have hbl : g.bodies.length = g.rules.length := by rw [Gr.bodies, List.length_map]
  have hle := h.le
  have hnl : g.null.length = g.rules.length := by rw [← hbl]; exact growsP_len _ _
  refine CallsTo.keepE h41 fn41 (by simp) ?_
  simp only [Tryd.f41, Option.getD_some]
  simp only [go_sem, ↓reduceIte, Int.reduceEq, Nat.reduceBEq, Int.reduceBEq, Nat.reduceAdd, Nat.reduceEqDiff, Nat.reduceLT, Nat.reduceSub, Gr.a]
  refine ⟨_, _, _, nullR_call h74 h96 g (σ.push (.cells g.c)) hg (by omega) (fun r hr => (by rw [← hbl]; exact (h.ok _ (List.mem_map.2 ⟨r, hr, rfl⟩)).calls)), ?_⟩
  rw [null_is (by rw [chk_is]; exact hc)]
  have hmk := fun σ : St => mksE_nat (σ := σ) (kd := .int .u64) (s := 1) (b := 8) (n := g.rules.length) (z := [.d (.int .u64 0)]) (zv := .d (.int .u64 0)) ⟨rfl, by omega, by omega, by omega⟩
  simp only [go_sem, ↓reduceIte, Int.reduceEq, Nat.reduceBEq, Int.reduceBEq, Nat.reduceAdd, Nat.reduceEqDiff, Nat.reduceLT, Nat.reduceSub, hmk, rep_ub]
  have hz : Lt64 (fr0 g.rules.length) := fun m => by rw [fr0_get]; omega
  refine Ev.loop_ind (fun m tm τ W => ∃ (r : Nat) (F : List Nat), m = g.rules.length - r ∧ r ≤ g.rules.length ∧ W = [] ∧ τ.n = σ.n + 2 ∧ (∀ j, j < σ.n → τ.get j = σ.get j) ∧ τ.get σ.n = .cells g.c ∧ τ.get (σ.n + 1) = .cells (ubA F) ∧ F.length = g.rules.length ∧ Lt64 F ∧ swN g.null g.bodies (g.rules.length - r) F = frG g ∧
    tm.at 1 = .ptr σ.n 0 ∧ tm.at 3 = .d (.slc false (boolsD g.null)) ∧ tm.at 4 = .row (σ.n + 1) 0 g.rules.length 1 ∧ tm.at 5 = .d (.int .i64 r)) ?_ g.rules.length _ _ _ ⟨0, fr0 g.rules.length, rfl, by omega, rfl, by simp only [St.n_push], fun j hj => by rw [St.get_push_ne (by rw [St.n_push]; omega), St.get_push_ne hj], by rw [St.get_push_ne (by rw [St.n_push]; omega), St.get_push_eq], by rw [St.get_push_eq' (by rw [St.n_push])], by simp [fr0], hz, firsts_is hc, ?_, ?_, ?_, ?_⟩
  · rintro m tm τ W ⟨r, F, rfl, hr, rfl, hn, hsm, g0, g1, hFl, hF, hsw, t1, t3, t4, t5⟩ ih
    have hlr : ∀ τ : St, τ.get (σ.n + 1) = .cells (ubA F) → sliceLen τ (.row (σ.n + 1) 0 g.rules.length 1) = some g.rules.length := fun τ h => by rw [sliceLen_row, h]; rfl
    by_cases hl : r < g.rules.length
    · obtain ⟨c, hc'⟩ : ∃ c, g.rules.length - r = c + 1 := ⟨g.rules.length - r - 1, by omega⟩
      rw [hc', swN] at hsw
      simp only [go_sem, ↓reduceIte, Int.reduceEq, Nat.reduceBEq, Int.reduceBEq, Nat.reduceAdd, Nat.reduceEqDiff, Nat.reduceLT, Nat.reduceSub, t1, t3, t4, t5, g1, hlr _ g1, dec_lt' hl]
      refine Ev.loop_ind (fun m tm τ W => ∃ (i : Nat) (F' : List Nat), m = g.rules.length - i ∧ i ≤ g.rules.length ∧ W = [] ∧ τ.n = σ.n + 2 ∧ (∀ j, j < σ.n → τ.get j = σ.get j) ∧ τ.get σ.n = .cells g.c ∧ τ.get (σ.n + 1) = .cells (ubA F') ∧ F'.length = g.rules.length ∧ Lt64 F' ∧ swI g.null i (g.bodies.drop i) F' = swI g.null 0 g.bodies F ∧
        tm.at 1 = .ptr σ.n 0 ∧ tm.at 3 = .d (.slc false (boolsD g.null)) ∧ tm.at 4 = .row (σ.n + 1) 0 g.rules.length 1 ∧ tm.at 5 = .d (.int .i64 r) ∧ tm.at 6 = .d (.int .i64 i)) ?_ g.rules.length _ _ _ ⟨0, F, rfl, by omega, rfl, hn, hsm, g0, g1, hFl, hF, rfl, ?_, ?_, ?_, ?_, ?_⟩
      · clear t1 t3 t4 t5 hsm g0 g1 hn
        rintro m tm τ W ⟨i, F', rfl, hi, rfl, hn, hsm, g0, g1, hFl', hF', hsw', t1, t3, t4, t5, t6⟩ ih2
        have hlr : sliceLen τ (.row (σ.n + 1) 0 g.rules.length 1) = some g.rules.length := by rw [sliceLen_row, g1]; rfl
        by_cases hil : i < g.rules.length
        · have hget : g.rules[i]? = some g.rules[i] := by simp [hil]
          have hmem : g.rules[i] ∈ g.rules := List.getElem_mem hil
          have hbx : g.bodies[i]? = some g.rules[i].body := by rw [Gr.bodies, List.getElem?_map, hget]; rfl
          have hd1 : g.bodies.drop i = g.rules[i].body :: g.bodies.drop (i + 1) := by
            rw [List.drop_eq_getElem_cons (by rw [hbl]; exact hil)]; simp [Gr.bodies]
          have hox : okE g.tokens F'.length g.rules[i].body := by rw [hFl', ← hbl]; exact h.ok _ (List.mem_of_getElem? hbx)
          rw [hd1, swI] at hsw'
          have ix := fun (ρ : St) (cs : List A) => indexR_nat (σ := ρ) (k := σ.n + 1) (off := 0) (s := 1) (cs := cs) hil
          simp only [Nat.zero_add, Nat.mul_one] at ix
          simp only [go_sem, ↓reduceIte, Int.reduceEq, Nat.reduceBEq, Int.reduceBEq, Nat.reduceAdd, Nat.reduceEqDiff, Nat.reduceLT, Nat.reduceSub, t1, t3, t4, t5, t6, hlr, g1, dec_lt' hil, g0, Gr.index_rd hget]
          have hcall := first78_c h78 h98 hF' h.tok false g.null (by rw [hnl, hFl']) g.rules[i].body τ (hg _ hmem) hox g1 (by omega)
          rw [hFl'] at hcall
          refine ⟨_, _, _, hcall, ?_⟩
          have lz : low σ.n [σ.n + 1] = [] := by rw [low_cons_ge (by omega)]; rfl
          have hul : i < (ubA F').length := by rw [ubA_len, hFl']; exact hil
          have hlt := bgE_lt (nl := g.null) hF' h.tok g.rules[i].body (by rw [hFl'] at hox; exact hox)
          simp only [go_sem, ↓reduceIte, Int.reduceEq, Nat.reduceBEq, Int.reduceBEq, Nat.reduceAdd, Nat.reduceEqDiff, Nat.reduceLT, Nat.reduceSub, t1, t3, t4, t5, t6, g1, ix, hul, ubA_set, lz, wrap_succ' hil (show g.rules.length < 1000000000 by omega)]
          refine ih2 _ _ _ _ (by omega) ⟨i + 1, F'.set i (bgE F' g.null g.rules[i].body).1, rfl, hil, rfl, by rw [St.n_set]; exact hn, fun j hj => by rw [St.get_set_ne (by omega)]; exact hsm j hj, by rw [St.get_set_ne (by omega)]; exact g0, St.get_set_eq, by rw [List.length_set]; exact hFl', fun m => ?_, hsw', ?_, ?_, ?_, ?_, ?_⟩
          · rw [getD_setN]; split
            · exact hlt
            · exact hF' m
          all_goals (simp only [go_sem, ↓reduceIte, Int.reduceEq, Nat.reduceBEq, Int.reduceBEq, Nat.reduceAdd, Nat.reduceEqDiff, Nat.reduceLT, Nat.reduceSub, t1, t3, t4, t5])
        · rw [List.drop_eq_nil_of_le (by omega), swI] at hsw'
          rw [← hsw'] at hsw
          have hw : IntKind.i64.wrap ((r : Int) + 1) = ((r + 1 : Nat) : Int) := wrap_succ' hl (by omega)
          simp only [go_sem, ↓reduceIte, Int.reduceEq, Nat.reduceBEq, Int.reduceBEq, Nat.reduceAdd, Nat.reduceEqDiff, Nat.reduceLT, Nat.reduceSub, t1, t3, t4, t5, t6, hlr, g1, dec_ge' hil, hw]
          refine ih _ _ _ _ (by omega) ⟨r + 1, F', rfl, hl, rfl, hn, hsm, g0, g1, hFl', hF', by rw [show g.rules.length - (r + 1) = c by omega]; exact hsw, ?_, ?_, ?_, ?_⟩
          all_goals (simp only [go_sem, ↓reduceIte, Int.reduceEq, Nat.reduceBEq, Int.reduceBEq, Nat.reduceAdd, Nat.reduceEqDiff, Nat.reduceLT, Nat.reduceSub, t1, t3, t4])
      all_goals (simp only [go_sem, ↓reduceIte, Int.reduceEq, Nat.reduceBEq, Int.reduceBEq, Nat.reduceAdd, Nat.reduceEqDiff, Nat.reduceLT, Nat.reduceSub, t1, t3, t4, t5]; try rfl)
    · have hrr : g.rules.length - r = 0 := by omega
      rw [hrr, swN] at hsw
      simp only [go_sem, ↓reduceIte, Int.reduceEq, Nat.reduceBEq, Int.reduceBEq, Nat.reduceAdd, Nat.reduceEqDiff, Nat.reduceLT, Nat.reduceSub, t1, t3, t4, t5, g1, hlr _ g1, dec_ge' hl]
      exact ⟨⟨by omega, hsm, by simp⟩, σ.n + 1, rfl, by rw [← hsw]; exact g1, by omega, by omega⟩
  all_goals first | rfl | (simp only [go_sem, ↓reduceIte, Int.reduceEq, Nat.reduceBEq, Int.reduceBEq, Nat.reduceAdd, Nat.reduceEqDiff, Nat.reduceLT, Nat.reduceSub]; done) | (simp only [go_sem, ↓reduceIte, Int.reduceEq, Nat.reduceBEq, Int.reduceBEq, Nat.reduceAdd, Nat.reduceEqDiff, Nat.reduceLT, Nat.reduceSub]; rfl)
end Go.Am
namespace Go.Am
open Go Go.Proofs
variable {fz : Nat → Md}
def bitsU (k i : Nat) : List Int := ((List.range i).filter fun j => k.testBit j).map fun (n : Nat) => (n : Int)
theorem bitsU_64 (k : Nat) : bitsU k 64 = bitsI k := rfl
theorem bitsU_succ (k i : Nat) : bitsU k (i + 1) = if k.testBit i = true then bitsU k i ++ [(i : Int)] else bitsU k i := by
  unfold bitsU
  rw [List.range_succ, List.filter_append, List.map_append]
  split
  · rename_i h; simp [h]
  · rename_i h; simp [h]
theorem bitsU_len (k i : Nat) : (bitsU k i).length ≤ i := by
  unfold bitsU
  rw [List.length_map]
  have := List.length_filter_le (fun j => k.testBit j) (List.range i)
  rwa [List.length_range] at this
theorem bit_w {k i : Nat} (hk : k < 2 ^ 64) (hi : i < 64) : (IntKind.u64.wrap ((BitVec.ofInt 64 ((k : Int).fdiv (2 ^ min i 64)) &&& BitVec.ofInt 64 1).toNat : Int) == 1) = k.testBit i := by
  have e1 : (k : Int).fdiv (2 ^ min i 64) = ((k / 2 ^ i : Nat) : Int) := by
    rw [Nat.min_eq_left (by omega), Int.fdiv_eq_ediv_of_nonneg _ (by exact Int.pow_nonneg (by omega))]
    push_cast; rfl
  rw [e1]
  have hlt : k / 2 ^ i < 2 ^ 64 := Nat.lt_of_le_of_lt (Nat.div_le_self _ _) hk
  have h2 : IntKind.u64.wrap ((BitVec.ofInt 64 ((k / 2 ^ i : Nat) : Int) &&& BitVec.ofInt 64 ((1 : Nat) : Int)).toNat : Int) = ((k / 2 ^ i &&& 1 : Nat) : Int) := bits_and_u64_nat (k / 2 ^ i) 1 hlt (by omega)
  have h3 : IntKind.u64.wrap ((BitVec.ofInt 64 ((k / 2 ^ i : Nat) : Int) &&& BitVec.ofInt 64 1).toNat : Int) = ((k / 2 ^ i &&& 1 : Nat) : Int) := h2
  rw [h3, Nat.and_one_is_mod, Nat.testBit_eq_decide_div_mod_eq]
  rw [Bool.eq_iff_iff, beq_iff_eq, decide_eq_true_iff]
  omega
set_option maxHeartbeats 8000000 in
theorem kinds_c (h77 : fz 77 = .ice) (k : Nat) (hk : k < 2 ^ 64) (σ : St) : CallsTo (XX fz) (.func 77 []) [.d (.int .u64 (k : Int))] σ (.d (slD (bitsI k))) σ [] := by
  refine CallsTo.ice0 h77 fn77 (by simp) ?_
  simp only [Tryd.f77, Option.getD_some]
  simp only [go_sem, ↓reduceIte, Int.reduceEq, Nat.reduceBEq, Int.reduceBEq, Int.reduceBNe, Int.reduceLT, Int.reduceLE, Nat.reduceAdd, Nat.reducePow, Nat.reduceEqDiff, Nat.reduceLT, Nat.reduceLeDiff, Nat.reduceMul, Nat.reduceSub]
  refine Ev.loop_ind (fun m tm τ W => ∃ (i : Nat) (a : A) (bs : List Nat), m = 64 - i ∧ i ≤ 64 ∧ W = [] ∧ σ.n ≤ τ.n ∧ RowN 1 τ a (intsD (bitsU k i)) bs ∧ (∀ k ∈ bs, σ.n ≤ k) ∧
      tm.at 0 = .d (.int .u64 (k : Int)) ∧ tm.at 3 = a ∧ tm.at 4 = .d (.int .i64 (i : Int))) ?_ 64 _ _ _ ⟨0, .d (.slc true []), [], rfl, by omega, rfl, Nat.le_refl _, RowN.nil, by simp, ?_, ?_, ?_⟩
  · rintro m tm τ W ⟨i, a, bs, rfl, hi, rfl, hn, hR, hbs, t0, t3, t4⟩ ih
    by_cases hl : i < 64
    · have hd : decide ((i : Int) < 64) = true := decide_eq_true (by omega)
      simp only [go_sem, ↓reduceIte, Int.reduceEq, Nat.reduceBEq, Int.reduceBEq, Int.reduceBNe, Int.reduceLT, Int.reduceLE, Nat.reduceAdd, Nat.reducePow, Nat.reduceEqDiff, Nat.reduceLT, Nat.reduceLeDiff, Nat.reduceMul, Nat.reduceSub, t0, t3, t4, hd]
      generalize hb : ((IntKind.u64.wrap _ : Int) == 1) = bb
      have hbb : bb = k.testBit i := by rw [← hb]; exact bit_w hk hl
      have hs := bitsU_succ k i
      rw [← hbb] at hs
      have hw : IntKind.i64.wrap ((i : Int) + 1) = ((i + 1 : Nat) : Int) := by rw [wrap_small (by omega) (by omega)]; rfl
      cases bb with
      | false =>
        rw [if_neg (by simp)] at hs
        simp only [go_sem, ↓reduceIte, Int.reduceEq, Nat.reduceBEq, Int.reduceBEq, Int.reduceBNe, Int.reduceLT, Int.reduceLE, Nat.reduceAdd, Nat.reducePow, Nat.reduceEqDiff, Nat.reduceLT, Nat.reduceLeDiff, Nat.reduceMul, Nat.reduceSub, t0, t3, t4, hw]
        refine ih _ _ _ _ (by omega) ⟨i + 1, a, bs, rfl, hl, rfl, hn, by rw [hs]; exact hR, hbs, ?_, ?_, ?_⟩
        all_goals (simp only [go_sem, ↓reduceIte, Int.reduceEq, Nat.reduceBEq, Int.reduceBEq, Int.reduceBNe, Int.reduceLT, Int.reduceLE, Nat.reduceAdd, Nat.reducePow, Nat.reduceEqDiff, Nat.reduceLT, Nat.reduceLeDiff, Nat.reduceMul, Nat.reduceSub, t0, t3])
      | true =>
        rw [if_pos rfl] at hs
        have hlen := bitsU_len k i
        obtain ⟨a', τ', T, bs', happ, hR', hK, hc1, hc2⟩ := app_ex (es := 1) (b := 8) (x := [.int .i64 (i : Int)]) (j := τ.n) rfl (by omega) (hR.stay (τ := τ.push (.cells [.d (.int .i64 (i : Int))])) (by simp only [St.n_push]; omega) fun k hk => St.get_push_ne (hR.1.lt hk)) St.get_push_eq (by
          rw [intsD_len]; omega)
        have hT : low σ.n T = [] := low_all fun k hk => by
          rcases hK.w k hk with h | h
          · exact hbs k h
          · simp only [St.n_push] at h; omega
        have hn' := hK.n
        simp only [St.n_push] at hn'
        simp only [go_sem, ↓reduceIte, Int.reduceEq, Nat.reduceBEq, Int.reduceBEq, Int.reduceBNe, Int.reduceLT, Int.reduceLE, Nat.reduceAdd, Nat.reducePow, Nat.reduceEqDiff, Nat.reduceLT, Nat.reduceLeDiff, Nat.reduceMul, Nat.reduceSub, t0, t3, t4, happ, hT, hw]
        refine ih _ _ _ _ (by omega) ⟨i + 1, a', bs', rfl, hl, rfl, by omega, by rw [hs, show intsD (bitsU k i ++ [(i : Int)]) = intsD (bitsU k i) ++ [[.int .i64 (i : Int)]] by simp [intsD]]; exact hR', fun k hk => ?_, ?_, ?_, ?_⟩
        · rcases hK.o k hk with h | h
          · exact hbs k h
          · simp only [St.n_push] at h; omega
        all_goals (simp only [go_sem, ↓reduceIte, Int.reduceEq, Nat.reduceBEq, Int.reduceBEq, Int.reduceBNe, Int.reduceLT, Int.reduceLE, Nat.reduceAdd, Nat.reducePow, Nat.reduceEqDiff, Nat.reduceLT, Nat.reduceLeDiff, Nat.reduceMul, Nat.reduceSub, t0])
    · have hi64 : i = 64 := by omega
      subst hi64
      rw [bitsU_64] at hR
      have hd : decide (((64 : Nat) : Int) < 64) = false := by decide
      have hf := hR.freeze (lo := σ.n) (n := fzDepth) hbs (by
        have h1 := bitsU_len k 64
        rw [bitsU_64] at h1
        rw [intsD_len]; unfold fzDepth; omega)
      rw [isE] at hf
      simp only [go_sem, ↓reduceIte, Int.reduceEq, Nat.reduceBEq, Int.reduceBEq, Int.reduceBNe, Int.reduceLT, Int.reduceLE, Nat.reduceAdd, Nat.reducePow, Nat.reduceEqDiff, Nat.reduceLT, Nat.reduceLeDiff, Nat.reduceMul, Nat.reduceSub, t0, t3, t4, hd]
      rcases hR.1.2 with ⟨-, rfl, -⟩ | ⟨j, rfl, -⟩
      · rw [freezeV, freezeW, hf]
        · rfl
        · intro cs h; cases h
        · intro cs h; cases h
      · rw [freezeV, freezeW, hf]
        · rfl
        · intro cs h; cases h
        · intro cs h; cases h
  all_goals first | rfl | (simp only [go_sem, ↓reduceIte, Int.reduceEq, Nat.reduceBEq, Int.reduceBEq, Int.reduceBNe, Int.reduceLT, Int.reduceLE, Nat.reduceAdd, Nat.reducePow, Nat.reduceEqDiff, Nat.reduceLT, Nat.reduceLeDiff, Nat.reduceMul, Nat.reduceSub]; done) | (simp only [go_sem, ↓reduceIte, Int.reduceEq, Nat.reduceBEq, Int.reduceBEq, Int.reduceBNe, Int.reduceLT, Int.reduceLE, Nat.reduceAdd, Nat.reducePow, Nat.reduceEqDiff, Nat.reduceLT, Nat.reduceLeDiff, Nat.reduceMul, Nat.reduceSub]; rfl)
set_option maxHeartbeats 8000000 in
theorem all_c (h40 : fz 40 = .ice) (h77 : fz 77 = .ice) (F : List Nat) (hF : Lt64 F) (hl : F.length ≤ 1000) (σ : St) {k1 : Nat} (hk : σ.get k1 = .cells (ubA F)) (hlt : k1 < σ.n) :
    CallsTo (XX fz) (.func 40 []) [.row k1 0 F.length 1] σ (.d (setsD F)) σ [] := by
  refine CallsTo.ice0 h40 fn40 (by simp) ?_
  simp only [Tryd.f40, Option.getD_some]
  simp only [go_sem, ↓reduceIte, Int.reduceEq, Nat.reduceBEq, Int.reduceBEq, Int.reduceBNe, Int.reduceLT, Int.reduceLE, Nat.reduceAdd, Nat.reducePow, Nat.reduceEqDiff, Nat.reduceLT, Nat.reduceLeDiff, Nat.reduceMul, Nat.reduceSub]
  refine Ev.loop_ind (fun m tm τ W => ∃ (i : Nat) (a : A) (bs : List Nat), m = F.length - i ∧ i ≤ F.length ∧ W = [] ∧ σ.n ≤ τ.n ∧ τ.get k1 = .cells (ubA F) ∧ RowN 1 τ a (setsR (F.take i)) bs ∧ (∀ k ∈ bs, σ.n ≤ k) ∧
      tm.at 0 = .row k1 0 F.length 1 ∧ tm.at 3 = a ∧ tm.at 4 = .d (.int .i64 (i : Int))) ?_ F.length _ _ _ ⟨0, .d (.slc true []), [], rfl, by omega, rfl, Nat.le_refl _, hk, RowN.nil, by simp, ?_, ?_, ?_⟩
  · rintro m tm τ W ⟨i, a, bs, rfl, hi, rfl, hn, hk1, hR, hbs, t0, t3, t4⟩ ih
    have hlr : sliceLen τ (.row k1 0 F.length 1) = some F.length := by rw [sliceLen_row, hk1]; rfl
    by_cases hil : i < F.length
    · have ix := fun ρ : St => indexR_nat (σ := ρ) (k := k1) (off := 0) (s := 1) (cs := ubA F) hil
      simp only [Nat.zero_add, Nat.mul_one] at ix
      have cg := ubA_get (l := F) hil
      simp only [go_sem, ↓reduceIte, Int.reduceEq, Nat.reduceBEq, Int.reduceBEq, Int.reduceBNe, Int.reduceLT, Int.reduceLE, Nat.reduceAdd, Nat.reducePow, Nat.reduceEqDiff, Nat.reduceLT, Nat.reduceLeDiff, Nat.reduceMul, Nat.reduceSub, t0, t3, t4, hlr, dec_lt' hil, hk1, ix, cg]
      refine ⟨_, _, _, kinds_c h77 (F.getD i 0) (hF i) τ, ?_⟩
      obtain ⟨a', τ', T, bs', happ, hR', hK, hc1, hc2⟩ := app_ex (es := 1) (b := 24) (x := [slD (bitsI (F.getD i 0))]) (j := τ.n) rfl (by omega) (hR.stay (τ := τ.push (.cells [.d (slD (bitsI (F.getD i 0)))])) (by simp only [St.n_push]; omega) fun k hk => St.get_push_ne (hR.1.lt hk)) St.get_push_eq (by
        rw [setsR_len, List.length_take]; omega)
      have hT : low σ.n T = [] := low_all fun k hk => by
        rcases hK.w k hk with h | h
        · exact hbs k h
        · simp only [St.n_push] at h; omega
      have hn' := hK.n
      simp only [St.n_push] at hn'
      have h1 : τ'.get k1 = τ.get k1 := by
        rw [hK.same k1 (by simp only [St.n_push]; omega) (fun h => by have := hbs _ h; omega), St.get_push_ne (by omega)]
      have hR2 : RowN 1 τ' a' (setsR (F.take (i + 1))) bs' := by
        have : F.take (i + 1) = F.take i ++ [F.getD i 0] := by
          rw [List.take_add_one, List.getD_eq_getElem?_getD, List.getElem?_eq_getElem hil]; rfl
        rw [this]; unfold setsR; rw [List.map_append]; exact hR'
      simp only [go_sem, ↓reduceIte, Int.reduceEq, Nat.reduceBEq, Int.reduceBEq, Int.reduceBNe, Int.reduceLT, Int.reduceLE, Nat.reduceAdd, Nat.reducePow, Nat.reduceEqDiff, Nat.reduceLT, Nat.reduceLeDiff, Nat.reduceMul, Nat.reduceSub, slD, happ, hT, t4, wrap_succ' hil (show F.length < 1000000000 by omega)] at happ ⊢
      refine ih _ _ _ _ (by omega) ⟨i + 1, a', bs', rfl, hil, rfl, by omega, h1.trans hk1, hR2, fun k hk => ?_, ?_, ?_, ?_⟩
      · rcases hK.o k hk with h | h
        · exact hbs k h
        · simp only [St.n_push] at h; omega
      all_goals (simp only [go_sem, ↓reduceIte, Int.reduceEq, Nat.reduceBEq, Int.reduceBEq, Int.reduceBNe, Int.reduceLT, Int.reduceLE, Nat.reduceAdd, Nat.reducePow, Nat.reduceEqDiff, Nat.reduceLT, Nat.reduceLeDiff, Nat.reduceMul, Nat.reduceSub, t0])
    · have hin : i = F.length := by omega
      rw [hin, List.take_length] at hR
      have hf := hR.freeze (lo := σ.n) (n := fzDepth) hbs (by rw [setsR_len]; unfold fzDepth; omega)
      simp only [go_sem, ↓reduceIte, Int.reduceEq, Nat.reduceBEq, Int.reduceBEq, Int.reduceBNe, Int.reduceLT, Int.reduceLE, Nat.reduceAdd, Nat.reducePow, Nat.reduceEqDiff, Nat.reduceLT, Nat.reduceLeDiff, Nat.reduceMul, Nat.reduceSub, t0, t3, t4, hlr, hk1, dec_ge' hil]
      rcases hR.1.2 with ⟨-, rfl, -⟩ | ⟨k, rfl, -⟩
      · rw [freezeV, freezeW, hf]
        · rfl
        · intro cs h; cases h
        · intro cs h; cases h
      · rw [freezeV, freezeW, hf]
        · rfl
        · intro cs h; cases h
        · intro cs h; cases h
  all_goals first | rfl | (simp only [go_sem, ↓reduceIte, Int.reduceEq, Nat.reduceBEq, Int.reduceBEq, Int.reduceBNe, Int.reduceLT, Int.reduceLE, Nat.reduceAdd, Nat.reducePow, Nat.reduceEqDiff, Nat.reduceLT, Nat.reduceLeDiff, Nat.reduceMul, Nat.reduceSub]; done) | (simp only [go_sem, ↓reduceIte, Int.reduceEq, Nat.reduceBEq, Int.reduceBEq, Int.reduceBNe, Int.reduceLT, Int.reduceLE, Nat.reduceAdd, Nat.reducePow, Nat.reduceEqDiff, Nat.reduceLT, Nat.reduceLeDiff, Nat.reduceMul, Nat.reduceSub]; rfl)
set_option maxHeartbeats 4000000 in
theorem first14_c (h14 : fz 14 = .ice) (h40 : fz 40 = .ice) (h77 : fz 77 = .ice) (h41 : fz 41 = .keep) (h78 : fz 78 = .cut) (h98 : fz 98 = .cut) (hz : FzR fz) (g : Gr) (hg : SmallG g) (hL : g.rules.length < 1000000000) (σ : St) :
    CallsTo (XX fz) (.func 14 []) [g.a] σ (.tup [.d (firstV g), .d (.int .i64 (checkP g))]) σ [] := by
  refine CallsTo.ice0 h14 fn14 (by simp) ?_
  simp only [Tryd.f14, Option.getD_some]
  simp only [go_sem, ↓reduceIte, Int.reduceEq, Nat.reduceBEq, Int.reduceBEq, Int.reduceBNe, Int.reduceLT, Int.reduceLE, Nat.reduceAdd, Nat.reducePow, Nat.reduceEqDiff, Nat.reduceLT, Nat.reduceLeDiff, Nat.reduceMul, Nat.reduceSub, Gr.a]
  refine ⟨_, _, _, chk_r hz g hg hL (hok_g g) _, ?_⟩
  rw [chk_is]
  unfold firstV
  cases hcc : (checkP g != 0) with
  | true =>
    have hc0 : ¬ checkP g = 0 := by simpa using hcc
    rw [if_neg hc0]
    simp only [go_sem, ↓reduceIte, Int.reduceEq, Nat.reduceBEq, Int.reduceBEq, Int.reduceBNe, Int.reduceLT, Int.reduceLE, Nat.reduceAdd, Nat.reducePow, Nat.reduceEqDiff, Nat.reduceLT, Nat.reduceLeDiff, Nat.reduceMul, Nat.reduceSub, hcc]
  | false =>
    have hc0 : checkP g = 0 := by simpa using hcc
    have h := GOk.of hc0
    have hle := h.le
    rw [if_pos hc0]
    simp only [go_sem, ↓reduceIte, Int.reduceEq, Nat.reduceBEq, Int.reduceBEq, Int.reduceBNe, Int.reduceLT, Int.reduceLE, Nat.reduceAdd, Nat.reducePow, Nat.reduceEqDiff, Nat.reduceLT, Nat.reduceLeDiff, Nat.reduceMul, Nat.reduceSub, hcc]
    obtain ⟨a, σ', T, hcall, rfl, hN, k, rfl, hk, hk1, hk2⟩ := firsts_c h41 h78 h98 hz.h88 hz.h109 g hg hc0 (σ.push (.cells g.c))
    refine ⟨_, _, _, hcall, ?_⟩
    simp only [go_sem, ↓reduceIte, Int.reduceEq, Nat.reduceBEq, Int.reduceBEq, Int.reduceBNe, Int.reduceLT, Int.reduceLE, Nat.reduceAdd, Nat.reducePow, Nat.reduceEqDiff, Nat.reduceLT, Nat.reduceLeDiff, Nat.reduceMul, Nat.reduceSub]
    have hl := all_c h40 h77 (frG g) (frG_ok h).1.lt (by rw [frG_len h]; omega) σ' hk hk2
    rw [frG_len h] at hl
    refine ⟨_, _, _, hl, ?_⟩
    simp only [go_sem, ↓reduceIte, Int.reduceEq, Nat.reduceBEq, Int.reduceBEq, Int.reduceBNe, Int.reduceLT, Int.reduceLE, Nat.reduceAdd, Nat.reducePow, Nat.reduceEqDiff, Nat.reduceLT, Nat.reduceLeDiff, Nat.reduceMul, Nat.reduceSub, hc0]
end Go.Am

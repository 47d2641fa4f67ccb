/- Part CA of a proof that runs a program's calls on a small machine whose values bear no addresses: no conditions. -/
import Derived.Test.YtbppacknigeiaaaDoorAmC7
set_option autoImplicit false
set_option linter.unusedSimpArgs false
set_option linter.unusedVariables false
set_option linter.unusedSectionVars false
namespace Go.Am
open Go Go.Proofs
variable {fz : Nat → Md}
def totN (s : HR) : Nat → Nat
  | 0 => 0
  | i + 1 => totN s i + (if s.2.getD i false = true then 1 else 0) + (bitsI (s.1.getD i 0)).length
theorem totN_le (s : HR) : ∀ i, totN s i ≤ 65 * i
  | 0 => Nat.le_refl _
  | i + 1 => by
    have h1 := totN_le s i
    have h2 := bitsI_len' (s.1.getD i 0)
    rw [totN]; split <;> omega
where bitsI_len' (k : Nat) : (bitsI k).length ≤ 64 := by
        have := bitsU_len k 64
        rwa [bitsU_64] at this
set_option maxHeartbeats 8000000 in
theorem total_c (h80 : fz 80 = .cut) (h77 : fz 77 = .ice) {n : Nat} {nl : List Bool} {ks k1 k2 k3 : Nat} {F : List Nat} (hn : n ≤ 1000) (s : HR) (σ : St) (hs : HrI n s) (hm : WM n nl ks k1 k2 k3 F s.1 s.2 σ) :
    CallsTo (XX fz) (.func 80 []) [.ptr ks 0] σ (.d (.int .i64 (totN s n : Int))) σ [] := by
  refine CallsTo.cut0 h80 fn80 (by simp) rfl ?_
  simp only [Tryd.f80, Option.getD_some]
  simp only [go_sem, ↓reduceIte, Int.reduceEq, Nat.reduceBEq, Int.reduceBEq, Nat.reduceAdd, Nat.reduceEqDiff, Nat.reduceLT, Nat.reduceSub]
  refine Ev.loop_ind (fun m tm τ W => ∃ i : Nat, m = n - i ∧ i ≤ n ∧ W = [] ∧ τ = σ ∧ tm.at 0 = .ptr ks 0 ∧ tm.at 3 = .d (.int .i64 (totN s i : Int)) ∧ tm.at 4 = .d (.int .i64 (i : Int))) ?_ n _ _ _ ⟨0, rfl, by omega, rfl, rfl, ?_, ?_, ?_⟩
  · rintro m tm τ W ⟨i, rfl, hi, rfl, rfl, t0, t3, t4⟩ ih
    obtain ⟨z, hms⟩ := hm.s
    have hlr : sliceLen τ (.row k2 0 n 1) = some n := by rw [sliceLen_row, hm.h]; rfl
    by_cases hil : i < n
    · have ix := fun (ρ : St) (cs : List A) (k : Nat) => indexR_nat (σ := ρ) (k := k) (off := 0) (s := 1) (cs := cs) hil
      simp only [Nat.zero_add, Nat.mul_one] at ix
      have cg := ubA_get (l := s.1) (i := i) (by rw [hm.hl]; exact hil)
      have cb := bA_get (l := s.2) (i := i) (by rw [hm.rl]; exact hil)
      have hle := totN_le s i
      have hb := totN_le.bitsI_len' (s.1.getD i 0)
      have hlb : ∀ ρ : St, sliceLen ρ (.d (slD (bitsI (s.1.getD i 0)))) = some (bitsI (s.1.getD i 0)).length := fun ρ => len_ints
      cases hR : s.2.getD i false with
      | true =>
        rw [hR] at cb
        have w1 : IntKind.i64.wrap ((totN s i : Int) + 1) = ((totN s i + 1 : Nat) : Int) := by rw [wrap_small (by omega) (by omega)]; rfl
        have w2 : IntKind.i64.wrap (((totN s i + 1 : Nat) : Int) + ((bitsI (s.1.getD i 0)).length : Int)) = ((totN s (i + 1) : Nat) : Int) := by
          rw [wrap_small (by omega) (by omega), totN, hR, if_pos rfl]; omega
        simp only [go_sem, ↓reduceIte, Int.reduceEq, Nat.reduceBEq, Int.reduceBEq, Nat.reduceAdd, Nat.reduceEqDiff, Nat.reduceLT, Nat.reduceSub, t0, t3, t4, hms, hm.h, hm.r, hlr, dec_lt' hil, ix, cb, cg, w1]
        refine ⟨_, _, _, kinds_c h77 (s.1.getD i 0) (hs.lt i) τ, ?_⟩
        simp only [go_sem, ↓reduceIte, Int.reduceEq, Nat.reduceBEq, Int.reduceBEq, Nat.reduceAdd, Nat.reduceEqDiff, Nat.reduceLT, Nat.reduceSub, t0, t3, t4, hlb, w2, wrap_succ' hil (show n < 1000000000 by omega)]
        refine ih _ _ _ _ (by omega) ⟨i + 1, rfl, hil, rfl, rfl, ?_, ?_, ?_⟩
        all_goals (simp only [go_sem, ↓reduceIte, Int.reduceEq, Nat.reduceBEq, Int.reduceBEq, Nat.reduceAdd, Nat.reduceEqDiff, Nat.reduceLT, Nat.reduceSub, t0])
      | false =>
        rw [hR] at cb
        have w2 : IntKind.i64.wrap ((totN s i : Int) + ((bitsI (s.1.getD i 0)).length : Int)) = ((totN s (i + 1) : Nat) : Int) := by
          rw [wrap_small (by omega) (by omega), totN, hR, if_neg (by simp)]; omega
        simp only [go_sem, ↓reduceIte, Int.reduceEq, Nat.reduceBEq, Int.reduceBEq, Nat.reduceAdd, Nat.reduceEqDiff, Nat.reduceLT, Nat.reduceSub, t0, t3, t4, hms, hm.h, hm.r, hlr, dec_lt' hil, ix, cb, cg]
        refine ⟨_, _, _, kinds_c h77 (s.1.getD i 0) (hs.lt i) τ, ?_⟩
        simp only [go_sem, ↓reduceIte, Int.reduceEq, Nat.reduceBEq, Int.reduceBEq, Nat.reduceAdd, Nat.reduceEqDiff, Nat.reduceLT, Nat.reduceSub, t0, t3, t4, hlb, w2, wrap_succ' hil (show n < 1000000000 by omega)]
        refine ih _ _ _ _ (by omega) ⟨i + 1, rfl, hil, rfl, rfl, ?_, ?_, ?_⟩
        all_goals (simp only [go_sem, ↓reduceIte, Int.reduceEq, Nat.reduceBEq, Int.reduceBEq, Nat.reduceAdd, Nat.reduceEqDiff, Nat.reduceLT, Nat.reduceSub, t0])
    · have hin : i = n := by omega
      subst hin
      simp only [go_sem, ↓reduceIte, Int.reduceEq, Nat.reduceBEq, Int.reduceBEq, Nat.reduceAdd, Nat.reduceEqDiff, Nat.reduceLT, Nat.reduceSub, t0, t3, t4, hms, hm.h, hlr, dec_ge' hil]
  all_goals first | rfl | (simp only [go_sem, ↓reduceIte, Int.reduceEq, Nat.reduceBEq, Int.reduceBEq, Nat.reduceAdd, Nat.reduceEqDiff, Nat.reduceLT, Nat.reduceSub]; done) | (simp only [go_sem, ↓reduceIte, Int.reduceEq, Nat.reduceBEq, Int.reduceBEq, Nat.reduceAdd, Nat.reduceEqDiff, Nat.reduceLT, Nat.reduceSub]; rfl)
def rdI (F : List Nat) (nl : List Bool) : Nat → List Ex → HR → HR
  | _, [], s => s
  | i, x :: l, s => rdI F nl (i + 1) l (if s.2.getD i false = true then (bhE F nl x (s.1.getD i 0) s).1 else s)
theorem rdI_ok {F : List Nat} {nl : List Bool} (hF : Lt64 F) {t : Int} {n : Nat} (ht : t ≤ 64) : ∀ (l : List Ex) (i : Nat) (s : HR), (∀ y ∈ l, okE t n y) → HrI n s → ∃ f, HrG n s (rdI F nl i l s) f ∧ (f = false → ∀ (k : Nat) (x : Ex), l[k]? = some x → s.2.getD (i + k) false = true → (bhE F nl x (s.1.getD (i + k) 0) s).2 = false)
  | [], i, s, _, hs => ⟨false, HrG.refl hs, fun _ k x hk => by simp at hk⟩
  | x :: l, i, s, ho, hs => by
    rw [rdI]
    by_cases hR : s.2.getD i false = true
    · rw [if_pos hR]
      have h1 := bhE_ok (nl := nl) hF ht x (s.1.getD i 0) s (ho x (by simp)) (hs.lt i) hs
      obtain ⟨f, h2, h3⟩ := rdI_ok hF ht l (i + 1) (bhE F nl x (s.1.getD i 0) s).1 (fun y hy => ho y (by simp [hy])) h1.i
      refine ⟨f || (bhE F nl x (s.1.getD i 0) s).2, h1.trans h2, fun hf k y hk hr => ?_⟩
      rw [Bool.or_eq_false_iff] at hf
      have hsame := h1.same hf.2
      cases k with
      | zero => simp only [List.getElem?_cons_zero, Option.some.injEq] at hk; subst hk; exact hf.2
      | succ k =>
        have := h3 hf.1 k y (by simpa using hk)
        rw [hsame, show i + 1 + k = i + (k + 1) by omega] at this
        exact this hr
    · rw [if_neg hR]
      obtain ⟨f, h2, h3⟩ := rdI_ok hF ht l (i + 1) s (fun y hy => ho y (by simp [hy])) hs
      refine ⟨f, h2, fun hf k y hk hr => ?_⟩
      cases k with
      | zero => exact absurd hr hR
      | succ k =>
        have := h3 hf k y (by simpa using hk)
        rw [show i + 1 + k = i + (k + 1) by omega] at this
        exact this hr
theorem pop_bits (a : Nat) : pop a = (bitsI a).length := by
  unfold pop bitsI bitsN
  rw [List.length_map, List.countP_eq_length_filter]
theorem tot_hrM : ∀ (H : List Nat) (R : List Bool), H.length = R.length → Lt64 H → totN (H, R) H.length + hrM (H, R) = 65 * H.length := by
  have gen : ∀ (m : Nat) (H : List Nat) (R : List Bool), H.length = m → R.length = m → Lt64 H → totN (H, R) m + hrM (H, R) = 65 * m := by
    intro m
    induction m with
    | zero =>
      intro H R h1 h2 _
      have e1 := List.eq_nil_of_length_eq_zero h1
      have e2 := List.eq_nil_of_length_eq_zero h2
      subst e1; subst e2
      rfl
    | succ m ih =>
      intro H R h1 h2 hH
      obtain ⟨H', a, rfl⟩ : ∃ H' a, H = H' ++ [a] := ⟨H.dropLast, H.getLast (by intro h; rw [h] at h1; cases h1), (List.dropLast_concat_getLast _).symm⟩
      obtain ⟨R', b, rfl⟩ : ∃ R' b, R = R' ++ [b] := ⟨R.dropLast, R.getLast (by intro h; rw [h] at h2; cases h2), (List.dropLast_concat_getLast _).symm⟩
      rw [List.length_append, List.length_singleton] at h1 h2
      have hl1 : H'.length = m := by omega
      have hl2 : R'.length = m := by omega
      have hH' : Lt64 H' := fun k => by
        rcases Nat.lt_or_ge k m with q | q
        · have := hH k
          rwa [List.getD_eq_getElem?_getD, List.getElem?_append_left (by omega), ← List.getD_eq_getElem?_getD] at this
        · rw [List.getD_eq_getElem?_getD, List.getElem?_eq_none (by omega)]; exact Nat.two_pow_pos 64
      have := ih H' R' hl1 hl2 hH'
      have hc : ∀ j, j ≤ m → totN (H' ++ [a], R' ++ [b]) j = totN (H', R') j := by
        intro j
        induction j with
        | zero => intro _; rfl
        | succ j ihj =>
          intro hj
          rw [totN, totN, ihj (by omega)]
          dsimp only
          rw [List.getD_eq_getElem?_getD (l := H' ++ [a]), List.getD_eq_getElem?_getD (l := R' ++ [b]), List.getElem?_append_left (by omega), List.getElem?_append_left (by omega), ← List.getD_eq_getElem?_getD, ← List.getD_eq_getElem?_getD]
      rw [totN, hc m (Nat.le_refl _)]
      have g1 : (H' ++ [a]).getD m 0 = a := by rw [List.getD_eq_getElem?_getD, List.getElem?_append_right (by omega), hl1, Nat.sub_self]; rfl
      have g2 : (R' ++ [b]).getD m false = b := by rw [List.getD_eq_getElem?_getD, List.getElem?_append_right (by omega), hl2, Nat.sub_self]; rfl
      dsimp only
      rw [g1, g2]
      have hp := pop_le a
      have hpb := pop_bits a
      unfold hrM mdMeas at this ⊢
      dsimp only at this ⊢
      rw [List.map_append, List.sum_append, List.countP_append]
      simp only [List.map_cons, List.map_nil, List.sum_cons, List.sum_nil, List.countP_cons, List.countP_nil]
      cases b <;> simp <;> omega
  intro H R h hH
  exact gen H.length H R rfl h.symm hH
end Go.Am
namespace Go.Am
open Go Go.Proofs
def HrLe (s t : HR) : Prop := SubL s.1 t.1 ∧ ∀ m, s.2.getD m false = true → t.2.getD m false = true
theorem HrLe.refl (s : HR) : HrLe s s := ⟨fun _ => Sub.refl _, fun _ h => h⟩
def ClosedR (F : List Nat) (nl : List Bool) (bs : List Ex) (s : HR) : Prop := ∀ (k : Nat) (x : Ex), bs[k]? = some x → s.2.getD k false = true → (bhE F nl x (s.1.getD k 0) s).2 = false
section
variable {F : List Nat} {nl : List Bool} {t : Int} {n : Nat}
theorem bhA_fresh : ∀ (l : List Ex) (b : Nat) (s : HR) (f : Bool), (bhA F nl l b s f).2 = false → f = false
  | [], b, s, f, h => by rw [bhA] at h; exact h
  | x :: l, b, s, f, h => by
    rw [bhA] at h
    have := bhA_fresh l _ _ _ h
    rw [Bool.or_eq_false_iff] at this; exact this.2
theorem bhE_under (hF : Lt64 F) (ht : t ≤ 64) : ∀ (x : Ex) (b b' : Nat) (s u : HR), okE t n x → b < 2 ^ 64 → b' < 2 ^ 64 → HrI n s → HrI n u → Sub b b' → HrLe s u → (bhE F nl x b' u).2 = false → HrLe (bhE F nl x b s).1 u := fun x b b' s u ho hb hb' hs hu hbb hsu hcl => by
  have hsub : ∀ y ∈ x.l, ∀ (b b' : Nat) (s : HR), b < 2 ^ 64 → b' < 2 ^ 64 → HrI n s → Sub b b' → HrLe s u → (bhE F nl y b' u).2 = false → HrLe (bhE F nl y b s).1 u := fun y hy b b' s hb hb' hs hbb hsu hcl => bhE_under hF ht y b b' s u (ho.sub hy) hb hb' hs hu hbb hsu hcl
  have hg : ∀ y ∈ x.l, (bgE F nl y).1 < 2 ^ 64 := fun y hy => bgE_lt hF ht y (ho.sub hy)
  have hG : ∀ y ∈ x.l, ∀ b s, b < 2 ^ 64 → HrI n s → HrG n s (bhE F nl y b s).1 (bhE F nl y b s).2 := fun y hy b s hb hs => bhE_ok hF ht y b s (ho.sub hy) hb hs
  rw [bhE_eq] at hcl ⊢
  by_cases k2 : x.kind = 2
  · rw [if_pos k2] at hcl ⊢
    obtain ⟨c1, c2⟩ := ho.call k2
    rw [Bool.or_eq_false_iff] at hcl
    have e1 : u.2.getD x.num.toNat false = true := by simpa using hcl.1
    have e2 : u.1.getD x.num.toNat 0 ||| b' = u.1.getD x.num.toNat 0 := by simpa using hcl.2
    refine ⟨fun m => ?_, fun m hm => ?_⟩
    · show Sub ((s.1.set _ _).getD m 0) _
      rw [getD_setN]; split
      · rename_i c
        rw [c.1, ← e2]
        exact Sub.or (hsu.1 _) hbb
      · exact hsu.1 m
    · rw [show (s.1.set x.num.toNat (s.1.getD x.num.toNat 0 ||| b), s.2.set x.num.toNat true).2 = s.2.set x.num.toNat true from rfl, getD_setH] at hm
      split at hm
      · rename_i c; rw [c.1]; exact e1
      · exact hsu.2 m hm
  rw [if_neg k2] at hcl ⊢
  by_cases k3 : x.kind = 3
  · rw [if_pos k3] at hcl ⊢
    have gen : ∀ (l : List Ex), (∀ y ∈ l, y ∈ x.l) → (bhS F nl l b' u).2.2 = false → HrLe (bhS F nl l b s).1 u ∧ HrI n (bhS F nl l b s).1 ∧ (bhS F nl l b' u).1 = u ∧ Sub (bhS F nl l b s).2.1 (bhS F nl l b' u).2.1 ∧ (bhS F nl l b s).2.1 < 2 ^ 64 ∧ (bhS F nl l b' u).2.1 < 2 ^ 64 := by
      intro l
      induction l with
      | nil => intro _ _; rw [bhS, bhS]; exact ⟨hsu, hs, rfl, hbb, hb, hb'⟩
      | cons y l ih =>
        intro hl hc
        have hy := hl y (by simp)
        have hc' : ((bhE F nl y (bhS F nl l b' u).2.1 (bhS F nl l b' u).1).2 || (bhS F nl l b' u).2.2) = false := by rw [bhS] at hc; exact hc
        rw [Bool.or_eq_false_iff] at hc'
        obtain ⟨i1, i2, i3, i4, i5, i6⟩ := ih (fun z hz => hl z (by simp [hz])) hc'.2
        have hc1 := hc'.1
        rw [i3] at hc1
        have h1 := hsub y hy _ _ _ i5 i6 i2 i4 i1 hc1
        have h2 := (hG y hy _ _ i5 i2).i
        have h3 := (hG y hy _ _ i6 hu).same hc1
        rw [bhS, bhS]
        dsimp only
        rw [i3]
        refine ⟨h1, h2, h3, ?_, ?_, ?_⟩
        · split
          · exact Sub.or (Sub.refl _) i4
          · exact Sub.refl _
        · split
          · exact or_lt (hg y hy) i5
          · exact hg y hy
        · split
          · exact or_lt (hg y hy) i6
          · exact hg y hy
    exact (gen x.l (fun _ h => h) hcl).1
  rw [if_neg k3] at hcl ⊢
  by_cases k5 : x.kind = 5
  · rw [if_pos k5] at hcl ⊢
    obtain ⟨y, hl⟩ := ho.star (.inl k5)
    have hy : y ∈ x.l := by rw [hl]; simp
    rw [hl, bhH] at hcl ⊢
    exact hsub y hy _ _ _ (or_lt hb (hg y hy)) (or_lt hb' (hg y hy)) hs (Sub.or hbb (Sub.refl _)) hsu hcl
  · rw [if_neg k5] at hcl ⊢
    have gen : ∀ (l : List Ex) (s : HR) (f f' : Bool), (∀ y ∈ l, y ∈ x.l) → HrI n s → HrLe s u → (bhA F nl l b' u f').2 = false → HrLe (bhA F nl l b s f).1 u := by
      intro l
      induction l with
      | nil => intro s f f' _ _ h _; rw [bhA]; exact h
      | cons y l ih =>
        intro s f f' hl hs hsu hc
        have hy := hl y (by simp)
        rw [bhA] at hc
        have h0 := bhA_fresh _ _ _ _ hc
        rw [Bool.or_eq_false_iff] at h0
        have h3 := (hG y hy _ _ hb' hu).same h0.1
        rw [h3] at hc
        rw [bhA]
        exact ih _ _ _ (fun z hz => hl z (by simp [hz])) (hG y hy _ _ hb hs).i (hsub y hy _ _ _ hb hb' hs hbb hsu h0.1) hc
    exact gen x.l s false false (fun _ h => h) hs hsu hcl
termination_by x => x
decreasing_by exact Ex.sub_lt hy
theorem fwAt_under (hF : Lt64 F) (ht : t ≤ 64) {bs : List Ex} (ho : ∀ y ∈ bs, okE t n y) {s u v : HR} (hs : HrI n s) (hu : HrI n u) (hsu : HrLe s u) (hcl : ClosedR F nl bs u) : ∀ {l : List Ex} {i : Nat}, (∀ k x, l[k]? = some x → bs[i + k]? = some x) → fwAt F nl s i l = some v → HrLe v u
  | [], i, _, h => by rw [fwAt] at h; cases h
  | x :: l, i, hk, h => by
    rw [fwAt] at h
    have hb := hk 0 x rfl
    rw [Nat.add_zero] at hb
    split at h
    · rename_i c
      cases h
      have hox := ho x (List.mem_of_getElem? hb)
      exact bhE_under hF ht x _ _ s u hox (hs.lt i) (hu.lt i) hs hu (hsu.1 i) hsu (hcl i x hb (hsu.2 i c.1))
    · exact fwAt_under hF ht ho hs hu hsu hcl (fun k y hy => by have := hk (k + 1) y (by simpa using hy); rwa [show i + 1 + k = i + (k + 1) by omega]) h
theorem fwRun_under (hF : Lt64 F) (ht : t ≤ 64) {bs : List Ex} (ho : ∀ y ∈ bs, okE t n y) {u : HR} (hu : HrI n u) (hcl : ClosedR F nl bs u) : ∀ (m : Nat) (s : HR), HrI n s → HrLe s u → HrLe (fwRun F nl bs m s) u
  | 0, s, _, h => h
  | m + 1, s, hs, h => by
    rw [fwRun]
    cases e : fwAt F nl s 0 bs with
    | none => exact h
    | some v => exact fwRun_under hF ht ho hu hcl m v (fwAt_some hF ht hs ho e).i (fwAt_under hF ht ho hs hu h hcl (fun k x hk => by rw [Nat.zero_add]; exact hk) e)
theorem rdI_under (hF : Lt64 F) (ht : t ≤ 64) {bs : List Ex} (ho : ∀ y ∈ bs, okE t n y) {u : HR} (hu : HrI n u) (hcl : ClosedR F nl bs u) : ∀ (l : List Ex) (i : Nat) (s : HR), (∀ k x, l[k]? = some x → bs[i + k]? = some x) → HrI n s → HrLe s u → HrLe (rdI F nl i l s) u
  | [], i, s, _, _, h => h
  | x :: l, i, s, hk, hs, h => by
    rw [rdI]
    have hb := hk 0 x rfl
    rw [Nat.add_zero] at hb
    have hox := ho x (List.mem_of_getElem? hb)
    have hk' : ∀ k y, l[k]? = some y → bs[i + 1 + k]? = some y := fun k y hy => by have := hk (k + 1) y (by simpa using hy); rwa [show i + 1 + k = i + (k + 1) by omega]
    by_cases hR : s.2.getD i false = true
    · rw [if_pos hR]
      exact rdI_under hF ht ho hu hcl l (i + 1) _ hk' (bhE_ok hF ht x _ s hox (hs.lt i) hs).i (bhE_under hF ht x _ _ s u hox (hs.lt i) (hu.lt i) hs hu (h.1 i) h (hcl i x hb (h.2 i hR)))
    · rw [if_neg hR]
      exact rdI_under hF ht ho hu hcl l (i + 1) s hk' hs h
end
theorem HrLe.anti {n : Nat} {s t : HR} (hs : HrI n s) (ht : HrI n t) (h : HrLe s t) (k : HrLe t s) : s = t := by
  have e1 : s.1 = t.1 := by
    refine List.ext_getElem? fun j => ?_
    rcases Nat.lt_or_ge j n with q | q
    · have := (h.1 j).eq (k.1 j)
      rw [List.getD_eq_getElem?_getD, List.getD_eq_getElem?_getD, List.getElem?_eq_getElem (by rw [hs.hl]; exact q), List.getElem?_eq_getElem (by rw [ht.hl]; exact q)] at this
      rw [List.getElem?_eq_getElem (by rw [hs.hl]; exact q), List.getElem?_eq_getElem (by rw [ht.hl]; exact q)]
      exact congrArg some this
    · rw [List.getElem?_eq_none (by rw [hs.hl]; exact q), List.getElem?_eq_none (by rw [ht.hl]; exact q)]
  have e2 : s.2 = t.2 := by
    refine List.ext_getElem? fun j => ?_
    rcases Nat.lt_or_ge j n with q | q
    · have : s.2.getD j false = t.2.getD j false := by rw [Bool.eq_iff_iff]; exact ⟨h.2 j, k.2 j⟩
      rw [List.getD_eq_getElem?_getD, List.getD_eq_getElem?_getD, List.getElem?_eq_getElem (by rw [hs.rl]; exact q), List.getElem?_eq_getElem (by rw [ht.rl]; exact q)] at this
      rw [List.getElem?_eq_getElem (by rw [hs.rl]; exact q), List.getElem?_eq_getElem (by rw [ht.rl]; exact q)]
      exact congrArg some this
    · rw [List.getElem?_eq_none (by rw [hs.rl]; exact q), List.getElem?_eq_none (by rw [ht.rl]; exact q)]
  exact Prod.ext e1 e2
theorem fwG_least {g : Gr} (h : GOk g) {s : HR} (hs : HrI g.rules.length s) (h0 : HrLe (fw0 g.bodies.length) s) (hcl : ClosedR (frG g) g.null g.bodies s) (hle : HrLe s (fwG g)) : s = fwG g := by
  have hbl : g.bodies.length = g.rules.length := by rw [Gr.bodies, List.length_map]
  obtain ⟨w1, w2, w3, w4⟩ := fwG_ok h
  have hI := fw0_I g.bodies.length
  rw [hbl] at hI
  refine HrLe.anti hs w1 hle ?_
  unfold fwG
  exact fwRun_under (frG_ok h).1.lt h.tok (n := g.rules.length) (by rw [← hbl]; exact h.ok) hs hcl 2080 _ (by rw [hbl]; exact hI) h0
theorem fw0_le {g : Gr} (h : GOk g) : HrLe (fw0 g.bodies.length) (fwG g) := by
  have hbl : g.bodies.length = g.rules.length := by rw [Gr.bodies, List.length_map]
  obtain ⟨w1, w2, w3, w4⟩ := fwG_ok h
  refine ⟨fun m => by show Sub ((fr0 _).getD m 0) _; rw [fr0_get]; exact Sub.zero _, fun m hm => ?_⟩
  unfold fw0 at hm
  rw [show (fr0 g.bodies.length, (List.replicate g.bodies.length false).set 0 true).2 = (List.replicate g.bodies.length false).set 0 true from rfl, getD_setH] at hm
  split at hm
  · rename_i c; rw [c.1]; exact w2
  · rw [List.getD_eq_getElem?_getD, List.getElem?_replicate] at hm
    split at hm <;> cases hm
theorem fwG_closed {g : Gr} (h : GOk g) : ClosedR (frG g) g.null g.bodies (fwG g) := (fwG_ok h).2.2.1
end Go.Am
namespace Go.Am
open Go Go.Proofs
variable {fz : Nat → Md}
set_option maxHeartbeats 16000000 in
theorem follows_c (h43 : fz 43 = .keep) (h81 : fz 81 = .cut) (h80 : fz 80 = .cut) (h77 : fz 77 = .ice) (h41 : fz 41 = .keep) (h78 : fz 78 = .cut) (h98 : fz 98 = .cut) (h74 : fz 74 = .ice) (h96 : fz 96 = .cut) (g : Gr) (hg : SmallG g) (hc : checkP g = 0) (σ : St) :
    ∃ a σ' T, CallsTo (XX fz) (.func 43 []) [g.a] σ a σ' T ∧ T = [] ∧ NewM σ σ' [] ∧ ∃ k, a = .row k 0 g.rules.length 1 ∧ σ'.get k = .cells (ubA (fwG g).1) ∧ σ.n ≤ k ∧ k < σ'.n := by
  have h := GOk.of hc
  have hbl : g.bodies.length = g.rules.length := by rw [Gr.bodies, List.length_map]
  have hle := h.le
  have hpos := h.pos
  have hnl : g.null.length = g.rules.length := by rw [← hbl]; exact growsP_len _ _
  have hF := (frG_ok h).1.lt
  have hFl := frG_len h
  refine CallsTo.keepE h43 fn43 (by simp) ?_
  simp only [Tryd.f43, Option.getD_some]
  simp only [go_sem, ↓reduceIte, Int.reduceEq, Nat.reduceBEq, Int.reduceBEq, Int.reduceBNe, Int.reduceLT, Int.reduceLE, Nat.reduceAdd, Nat.reducePow, Nat.reduceEqDiff, Nat.reduceLT, Nat.reduceLeDiff, Nat.reduceMul, Nat.reduceSub, Gr.a]
  obtain ⟨a, τ0, T, hcall, rfl, hN, k1, rfl, hk1, hk2, hk3⟩ := firsts_c h41 h78 h98 h74 h96 g hg hc (σ.push (.cells g.c))
  refine ⟨_, _, _, hcall, ?_⟩
  have hNn := hN.n
  simp only [St.n_push] at hNn hk2
  have g0 : τ0.get σ.n = .cells g.c := by rw [hN.same σ.n (by rw [St.n_push]; omega), St.get_push_eq]
  have s0 : ∀ j, j < σ.n → τ0.get j = σ.get j := fun j hj => by rw [hN.same j (by rw [St.n_push]; omega), St.get_push_ne hj]
  simp only [go_sem, ↓reduceIte, Int.reduceEq, Nat.reduceBEq, Int.reduceBEq, Int.reduceBNe, Int.reduceLT, Int.reduceLE, Nat.reduceAdd, Nat.reducePow, Nat.reduceEqDiff, Nat.reduceLT, Nat.reduceLeDiff, Nat.reduceMul, Nat.reduceSub, g0]
  refine ⟨_, _, _, nullR_call h74 h96 g τ0 hg (by omega) (fun r hr => (by rw [← hbl]; exact (h.ok _ (List.mem_map.2 ⟨r, hr, rfl⟩)).calls)), ?_⟩
  rw [null_is (by rw [chk_is]; exact hc)]
  have hmk1 := fun σ : St => mksE_nat (σ := σ) (kd := .int .u64) (s := 1) (b := 8) (n := g.rules.length) (z := [.d (.int .u64 0)]) (zv := .d (.int .u64 0)) ⟨rfl, by omega, by omega, by omega⟩
  have hmk2 := fun σ : St => mksE_nat (σ := σ) (kd := .bool) (s := 1) (b := 1) (n := g.rules.length) (z := [.d (.bool false)]) (zv := .d (.bool false)) ⟨rfl, by omega, by omega, by omega⟩
  have ix0 : ∀ (ρ : St) (k : Nat) (cs : List A), indexR ρ 1 k 0 g.rules.length 1 0 (.cells cs) = .val (.ptr k 0) ρ [] [k] := fun ρ k cs => indexR_nat (σ := ρ) (k := k) (off := 0) (s := 1) (cs := cs) (i := 0) hpos
  have hbl0 : 0 < (bA (List.replicate g.rules.length false)).length := by rw [bA_len, List.length_replicate]; exact hpos
  have hst : (if 1 ≤ (bA (List.replicate g.rules.length false)).length then some (A.d (D.bool true) :: List.drop 1 (bA (List.replicate g.rules.length false))) else none) = some (bA ((List.replicate g.rules.length false).set 0 true)) := by
    rw [if_pos (by omega), ← bA_set]
    cases hq : bA (List.replicate g.rules.length false) with
    | nil => rw [hq] at hbl0; simp at hbl0
    | cons a l => rfl
  have lz3 : low σ.n [τ0.n + 1] = [] := by rw [low_cons_ge (by omega)]; rfl
  simp only [go_sem, ↓reduceIte, Int.reduceEq, Nat.reduceBEq, Int.reduceBEq, Int.reduceBNe, Int.reduceLT, Int.reduceLE, Nat.reduceAdd, Nat.reducePow, Nat.reduceEqDiff, Nat.reduceLT, Nat.reduceLeDiff, Nat.reduceMul, Nat.reduceSub, hmk1, hmk2, rep_ub, rep_bools, ix0]
  rw [hst]
  simp only [go_sem, ↓reduceIte, Int.reduceEq, Nat.reduceBEq, Int.reduceBEq, Int.reduceBNe, Int.reduceLT, Int.reduceLE, Nat.reduceAdd, Nat.reducePow, Nat.reduceEqDiff, Nat.reduceLT, Nat.reduceLeDiff, Nat.reduceMul, Nat.reduceSub, lz3]
  refine ⟨drawOk_rel [] [] rfl (by kernel_rfl) rfl (by simp), ?_⟩
  generalize hτ1 : St.set _ (τ0.n + 1) _ = τ1
  have n1 : τ1.n = τ0.n + 3 := by rw [← hτ1]; simp only [St.n_set, St.n_push]
  have o1 : ∀ j, j < τ0.n → τ1.get j = τ0.get j := fun j hj => by
    rw [← hτ1, St.get_set_ne (by omega), St.get_push_ne (by simp only [St.n_push]; omega), St.get_push_ne (by simp only [St.n_push]; omega), St.get_push_ne hj]
  have d2 : τ1.get τ0.n = .cells (ubA (fr0 g.rules.length)) := by
    rw [← hτ1, St.get_set_ne (by omega), St.get_push_ne (by simp only [St.n_push]; omega), St.get_push_ne (by simp only [St.n_push]; omega), St.get_push_eq]
  have d3 : τ1.get (τ0.n + 1) = .cells (bA ((List.replicate g.rules.length false).set 0 true)) := by rw [← hτ1, St.get_set_eq]
  have ds : τ1.get (τ0.n + 2) = .cells [.row k1 0 g.rules.length 1, .d (.slc false (boolsD g.null)), .row τ0.n 0 g.rules.length 1, .row (τ0.n + 1) 0 g.rules.length 1] := by
    rw [← hτ1, St.get_set_ne (by omega), St.get_push_eq' (by simp only [St.n_push])]
  clear hτ1
  have hs1 := fw0_I g.bodies.length
  rw [hbl] at hs1
  have hM1 : WM g.rules.length g.null (τ0.n + 2) k1 τ0.n (τ0.n + 1) (frG g) (fw0 g.bodies.length).1 (fw0 g.bodies.length).2 τ1 := by
    rw [hbl]
    exact ⟨⟨false, ds⟩, (o1 _ hk3).trans hk1, d2, d3, hFl, hs1.hl, hs1.rl, hnl, by omega, by omega, by omega, by omega⟩
  have hd : Apart (τ0.n + 2) k1 τ0.n (τ0.n + 1) := ⟨by omega, by omega, by omega, by omega, by omega, by omega⟩
  have hob : ∀ y ∈ g.bodies, okE g.tokens g.rules.length y := by rw [← hbl]; exact h.ok
  have hw1 := (fwG_ok h).1
  have hcl := fwG_closed h
  refine Ev.loop_ind (fun m tm τ W => ∃ (k : Nat) (s : HR), m = 65 * g.rules.length + 1 - k ∧ k ≤ totN s g.rules.length ∧ W = [] ∧ τ0.n + 3 ≤ τ.n ∧ (∀ j, j < σ.n → τ.get j = σ.get j) ∧ τ.get σ.n = .cells g.c ∧ WM g.rules.length g.null (τ0.n + 2) k1 τ0.n (τ0.n + 1) (frG g) s.1 s.2 τ ∧ HrI g.rules.length s ∧ HrLe (fw0 g.bodies.length) s ∧ HrLe s (fwG g) ∧
    tm.at 1 = .ptr σ.n 0 ∧ tm.at 3 = .d (.int .i64 (g.rules.length : Int)) ∧ tm.at 4 = .ptr (τ0.n + 2) 0 ∧ tm.at 5 = .d (.int .i64 (k : Int))) ?_ (65 * g.rules.length + 1) _ _ _ ⟨0, fw0 g.bodies.length, rfl, by omega, rfl, by omega, fun j hj => (o1 j (by omega)).trans (s0 j hj), (o1 _ (by omega)).trans g0, hM1, by rw [hbl]; exact hs1, HrLe.refl _, fw0_le h, ?_, ?_, ?_, ?_⟩
  · clear hM1 d2 d3 ds o1 n1 hs1
    rintro m tm τ W ⟨k, s, rfl, hk, rfl, hn, hsm, g0, hM, hI, hlo, hhi, t1, t3, t4, t5⟩ ih
    have htot := totN_le s g.rules.length
    have hw65 : IntKind.i64.wrap (65 * (g.rules.length : Int)) = ((65 * g.rules.length : Nat) : Int) := by rw [wrap_small (by omega) (by omega)]; omega
    have hdec : decide ((k : Int) ≤ ((65 * g.rules.length : Nat) : Int)) = true := decide_eq_true (by omega)
    simp only [go_sem, ↓reduceIte, Int.reduceEq, Nat.reduceBEq, Int.reduceBEq, Int.reduceBNe, Int.reduceLT, Int.reduceLE, Nat.reduceAdd, Nat.reducePow, Nat.reduceEqDiff, Nat.reduceLT, Nat.reduceLeDiff, Nat.reduceMul, Nat.reduceSub, t1, t3, t4, t5, hw65, hdec]
    refine ⟨_, _, _, total_c h80 h77 (by omega) s τ hI hM, ?_⟩
    simp only [go_sem, ↓reduceIte, Int.reduceEq, Nat.reduceBEq, Int.reduceBEq, Int.reduceBNe, Int.reduceLT, Int.reduceLE, Nat.reduceAdd, Nat.reducePow, Nat.reduceEqDiff, Nat.reduceLT, Nat.reduceLeDiff, Nat.reduceMul, Nat.reduceSub, t1, t3, t4, t5]
    have hrd := rdI_ok (nl := g.null) hF h.tok g.bodies 0 s hob hI
    have hun := rdI_under (nl := g.null) hF h.tok hob hw1 hcl g.bodies 0 s (fun k x hk => by rw [Nat.zero_add]; exact hk) hI hhi
    refine Ev.loop_ind (fun m tm τ W => ∃ (i : Nat) (s' : HR), m = g.rules.length - i ∧ i ≤ g.rules.length ∧ W = [] ∧ τ0.n + 3 ≤ τ.n ∧ (∀ j, j < σ.n → τ.get j = σ.get j) ∧ τ.get σ.n = .cells g.c ∧ WM g.rules.length g.null (τ0.n + 2) k1 τ0.n (τ0.n + 1) (frG g) s'.1 s'.2 τ ∧ HrI g.rules.length s' ∧ rdI (frG g) g.null i (g.bodies.drop i) s' = rdI (frG g) g.null 0 g.bodies s ∧
      tm.at 1 = .ptr σ.n 0 ∧ tm.at 3 = .d (.int .i64 (g.rules.length : Int)) ∧ tm.at 4 = .ptr (τ0.n + 2) 0 ∧ tm.at 5 = .d (.int .i64 (k : Int)) ∧ tm.at 6 = .d (.int .i64 (totN s g.rules.length : Int)) ∧ tm.at 7 = .d (.int .i64 (i : Int))) ?_ g.rules.length _ _ _ ⟨0, s, rfl, by omega, rfl, hn, hsm, g0, hM, hI, rfl, ?_, ?_, ?_, ?_, ?_, ?_⟩
    · clear t1 t3 t4 t5 hn hsm g0 hM
      rintro m tm τ W ⟨i, s', rfl, hi, rfl, hn, hsm, g0, hM, hI', he, t1, t3, t4, t5, t6, t7⟩ ih2
      obtain ⟨z, hms⟩ := hM.s
      by_cases hil : i < g.rules.length
      · have hget : g.rules[i]? = some g.rules[i] := by simp [hil]
        have hmem : g.rules[i] ∈ g.rules := List.getElem_mem hil
        have hbx : g.bodies[i]? = some g.rules[i].body := by rw [Gr.bodies, List.getElem?_map, hget]; rfl
        have hd1 : g.bodies.drop i = g.rules[i].body :: g.bodies.drop (i + 1) := by
          rw [List.drop_eq_getElem_cons (by rw [hbl]; exact hil)]; simp [Gr.bodies]
        have hox := hob _ (List.mem_of_getElem? hbx)
        rw [hd1, rdI] at he
        have ix := fun (ρ : St) (cs : List A) (k : Nat) => indexR_nat (σ := ρ) (k := k) (off := 0) (s := 1) (cs := cs) hil
        simp only [Nat.zero_add, Nat.mul_one] at ix
        have cg := ubA_get (l := s'.1) (i := i) (by rw [hM.hl]; exact hil)
        have cb := bA_get (l := s'.2) (i := i) (by rw [hM.rl]; exact hil)
        have hwi := wrap_succ' hil (show g.rules.length < 1000000000 by omega)
        cases hR : s'.2.getD i false with
        | false =>
          rw [hR] at cb
          rw [hR, if_neg (by simp)] at he
          simp only [go_sem, ↓reduceIte, Int.reduceEq, Nat.reduceBEq, Int.reduceBEq, Int.reduceBNe, Int.reduceLT, Int.reduceLE, Nat.reduceAdd, Nat.reducePow, Nat.reduceEqDiff, Nat.reduceLT, Nat.reduceLeDiff, Nat.reduceMul, Nat.reduceSub, t1, t3, t4, t5, t6, t7, dec_lt' hil, hms, hM.r, ix, cb, hwi]
          refine ih2 _ _ _ _ (by omega) ⟨i + 1, s', rfl, hil, rfl, hn, hsm, g0, hM, hI', he, ?_, ?_, ?_, ?_, ?_, ?_⟩
          all_goals (simp only [go_sem, ↓reduceIte, Int.reduceEq, Nat.reduceBEq, Int.reduceBEq, Int.reduceBNe, Int.reduceLT, Int.reduceLE, Nat.reduceAdd, Nat.reducePow, Nat.reduceEqDiff, Nat.reduceLT, Nat.reduceLeDiff, Nat.reduceMul, Nat.reduceSub, t1, t3, t4, t5, t6])
        | true =>
          rw [hR] at cb
          rw [hR, if_pos rfl] at he
          simp only [go_sem, ↓reduceIte, Int.reduceEq, Nat.reduceBEq, Int.reduceBEq, Int.reduceBNe, Int.reduceLT, Int.reduceLE, Nat.reduceAdd, Nat.reducePow, Nat.reduceEqDiff, Nat.reduceLT, Nat.reduceLeDiff, Nat.reduceMul, Nat.reduceSub, t1, t3, t4, t5, t6, t7, dec_lt' hil, hms, hM.r, hM.h, ix, cb, cg, g0, Gr.index_rd hget]
          obtain ⟨ρ, T, hc2, rn, rM, rw', rsm⟩ := part_c h81 h78 h98 (nl := g.null) hF h.tok hd g.rules[i].body (hg _ hmem) hox (s'.1.getD i 0) s' τ (hI'.lt i) hI' hM
          have hho := bhE_ok (nl := g.null) hF h.tok g.rules[i].body (s'.1.getD i 0) s' hox (hI'.lt i) hI'
          have lT : low σ.n T = [] := low_all fun k hk => by rcases rw' k hk with q | q <;> omega
          have keep : ∀ j, j < τ0.n → ρ.get j = τ.get j := fun j hj => rM.same j (by omega) fun q => by rcases rw' j q with q | q <;> omega
          refine ⟨_, _, _, hc2, drawOk_rel [14] [] rfl (by kernel_rfl) rfl (by simp), ?_⟩
          simp only [go_sem, ↓reduceIte, Int.reduceEq, Nat.reduceBEq, Int.reduceBEq, Int.reduceBNe, Int.reduceLT, Int.reduceLE, Nat.reduceAdd, Nat.reducePow, Nat.reduceEqDiff, Nat.reduceLT, Nat.reduceLeDiff, Nat.reduceMul, Nat.reduceSub, t7, lT, hwi]
          refine ih2 _ _ _ _ (by omega) ⟨i + 1, _, rfl, hil, rfl, by omega, fun j hj => (keep j (by omega)).trans (hsm j hj), (keep _ (by omega)).trans g0, rsm, hho.i, he, ?_, ?_, ?_, ?_, ?_, ?_⟩
          all_goals (simp only [go_sem, ↓reduceIte, Int.reduceEq, Nat.reduceBEq, Int.reduceBEq, Int.reduceBNe, Int.reduceLT, Int.reduceLE, Nat.reduceAdd, Nat.reducePow, Nat.reduceEqDiff, Nat.reduceLT, Nat.reduceLeDiff, Nat.reduceMul, Nat.reduceSub, t1, t3, t4, t5, t6])
      · have hin : i = g.rules.length := by omega
        rw [hin, List.drop_eq_nil_of_le (by omega), rdI] at he
        simp only [go_sem, ↓reduceIte, Int.reduceEq, Nat.reduceBEq, Int.reduceBEq, Int.reduceBNe, Int.reduceLT, Int.reduceLE, Nat.reduceAdd, Nat.reducePow, Nat.reduceEqDiff, Nat.reduceLT, Nat.reduceLeDiff, Nat.reduceMul, Nat.reduceSub, t1, t3, t4, t5, t6, t7, dec_ge' hil]
        refine ⟨_, _, _, total_c h80 h77 (by omega) s' τ hI' hM, ?_⟩
        obtain ⟨f, q1, q2⟩ := hrd
        rw [← he] at q1
        rw [← he] at hun
        have c1 : totN s s.1.length + hrM s = 65 * s.1.length := tot_hrM s.1 s.2 (by rw [hI.hl, hI.rl]) hI.lt
        have c2 : totN s' s'.1.length + hrM s' = 65 * s'.1.length := tot_hrM s'.1 s'.2 (by rw [hI'.hl, hI'.rl]) hI'.lt
        rw [hI.hl] at c1
        rw [hI'.hl] at c2
        have hle2 := q1.le
        cases hq : (((totN s' g.rules.length : Nat) : Int) == ((totN s g.rules.length : Nat) : Int)) with
        | true =>
          have hqe : totN s' g.rules.length = totN s g.rules.length := by rw [beq_iff_eq] at hq; omega
          have hff : f = false := by
            cases f with
            | false => rfl
            | true => have := q1.less rfl; omega
          have hss := q1.same hff
          have hcls : ClosedR (frG g) g.null g.bodies s := fun k x hk hr => by
            have := q2 hff k x hk
            rw [Nat.zero_add] at this
            exact this hr
          have hfin := fwG_least h hI hlo hcls hhi
          simp only [go_sem, ↓reduceIte, Int.reduceEq, Nat.reduceBEq, Int.reduceBEq, Int.reduceBNe, Int.reduceLT, Int.reduceLE, Nat.reduceAdd, Nat.reducePow, Nat.reduceEqDiff, Nat.reduceLT, Nat.reduceLeDiff, Nat.reduceMul, Nat.reduceSub, hq, t4, hms]
          refine ⟨⟨by omega, hsm, by simp⟩, τ0.n, rfl, ?_, by omega, by omega⟩
          rw [hM.h, hss, hfin]
        | false =>
          have hne : totN s' g.rules.length ≠ totN s g.rules.length := by
            intro e; rw [e] at hq; simp at hq
          have hwk : IntKind.i64.wrap ((k : Int) + 1) = ((k + 1 : Nat) : Int) := by rw [wrap_small (by omega) (by omega)]; rfl
          simp only [go_sem, ↓reduceIte, Int.reduceEq, Nat.reduceBEq, Int.reduceBEq, Int.reduceBNe, Int.reduceLT, Int.reduceLE, Nat.reduceAdd, Nat.reducePow, Nat.reduceEqDiff, Nat.reduceLT, Nat.reduceLeDiff, Nat.reduceMul, Nat.reduceSub, hq, t1, t3, t4, t5, hwk]
          refine ih _ _ _ _ (by omega) ⟨k + 1, s', rfl, by omega, rfl, hn, hsm, g0, hM, hI', ⟨fun m => (hlo.1 m).trans (q1.sub m), fun m hm => q1.rs m (hlo.2 m hm)⟩, hun, ?_, ?_, ?_, ?_⟩
          all_goals (simp only [go_sem, ↓reduceIte, Int.reduceEq, Nat.reduceBEq, Int.reduceBEq, Int.reduceBNe, Int.reduceLT, Int.reduceLE, Nat.reduceAdd, Nat.reducePow, Nat.reduceEqDiff, Nat.reduceLT, Nat.reduceLeDiff, Nat.reduceMul, Nat.reduceSub, t1, t3, t4])
    all_goals (simp only [go_sem, ↓reduceIte, Int.reduceEq, Nat.reduceBEq, Int.reduceBEq, Int.reduceBNe, Int.reduceLT, Int.reduceLE, Nat.reduceAdd, Nat.reducePow, Nat.reduceEqDiff, Nat.reduceLT, Nat.reduceLeDiff, Nat.reduceMul, Nat.reduceSub, t1, t3, t4, t5]; try rfl)
  all_goals first | rfl | (simp only [go_sem, ↓reduceIte, Int.reduceEq, Nat.reduceBEq, Int.reduceBEq, Int.reduceBNe, Int.reduceLT, Int.reduceLE, Nat.reduceAdd, Nat.reducePow, Nat.reduceEqDiff, Nat.reduceLT, Nat.reduceLeDiff, Nat.reduceMul, Nat.reduceSub]; done) | (simp only [go_sem, ↓reduceIte, Int.reduceEq, Nat.reduceBEq, Int.reduceBEq, Int.reduceBNe, Int.reduceLT, Int.reduceLE, Nat.reduceAdd, Nat.reducePow, Nat.reduceEqDiff, Nat.reduceLT, Nat.reduceLeDiff, Nat.reduceMul, Nat.reduceSub]; rfl)
set_option maxHeartbeats 4000000 in
theorem follow16_c (h16 : fz 16 = .ice) (h43 : fz 43 = .keep) (h81 : fz 81 = .cut) (h80 : fz 80 = .cut) (h40 : fz 40 = .ice) (h77 : fz 77 = .ice) (h41 : fz 41 = .keep) (h78 : fz 78 = .cut) (h98 : fz 98 = .cut) (hz : FzR fz) (g : Gr) (hg : SmallG g) (hL : g.rules.length < 1000000000) (σ : St) :
    CallsTo (XX fz) (.func 16 []) [g.a] σ (.tup [.d (followV g), .d (.int .i64 (checkP g))]) σ [] := by
  refine CallsTo.ice0 h16 fn16 (by simp) ?_
  simp only [Tryd.f16, Option.getD_some]
  simp only [go_sem, ↓reduceIte, Int.reduceEq, Nat.reduceBEq, Int.reduceBEq, Int.reduceBNe, Int.reduceLT, Int.reduceLE, Nat.reduceAdd, Nat.reducePow, Nat.reduceEqDiff, Nat.reduceLT, Nat.reduceLeDiff, Nat.reduceMul, Nat.reduceSub, Gr.a]
  refine ⟨_, _, _, chk_r hz g hg hL (hok_g g) _, ?_⟩
  rw [chk_is]
  unfold followV
  cases hcc : (checkP g != 0) with
  | true =>
    have hc0 : ¬ checkP g = 0 := by simpa using hcc
    rw [if_neg hc0]
    simp only [go_sem, ↓reduceIte, Int.reduceEq, Nat.reduceBEq, Int.reduceBEq, Int.reduceBNe, Int.reduceLT, Int.reduceLE, Nat.reduceAdd, Nat.reducePow, Nat.reduceEqDiff, Nat.reduceLT, Nat.reduceLeDiff, Nat.reduceMul, Nat.reduceSub, hcc]
  | false =>
    have hc0 : checkP g = 0 := by simpa using hcc
    have h := GOk.of hc0
    have hle := h.le
    rw [if_pos hc0]
    simp only [go_sem, ↓reduceIte, Int.reduceEq, Nat.reduceBEq, Int.reduceBEq, Int.reduceBNe, Int.reduceLT, Int.reduceLE, Nat.reduceAdd, Nat.reducePow, Nat.reduceEqDiff, Nat.reduceLT, Nat.reduceLeDiff, Nat.reduceMul, Nat.reduceSub, hcc]
    obtain ⟨a, σ', T, hcall, rfl, hN, k, rfl, hk, hk1, hk2⟩ := follows_c h43 h81 h80 h77 h41 h78 h98 hz.h88 hz.h109 g hg hc0 (σ.push (.cells g.c))
    refine ⟨_, _, _, hcall, ?_⟩
    simp only [go_sem, ↓reduceIte, Int.reduceEq, Nat.reduceBEq, Int.reduceBEq, Int.reduceBNe, Int.reduceLT, Int.reduceLE, Nat.reduceAdd, Nat.reducePow, Nat.reduceEqDiff, Nat.reduceLT, Nat.reduceLeDiff, Nat.reduceMul, Nat.reduceSub]
    have hw := (fwG_ok h).1
    have hl := all_c h40 h77 (fwG g).1 hw.lt (by rw [hw.hl]; omega) σ' hk hk2
    rw [hw.hl] at hl
    refine ⟨_, _, _, hl, ?_⟩
    simp only [go_sem, ↓reduceIte, Int.reduceEq, Nat.reduceBEq, Int.reduceBEq, Int.reduceBNe, Int.reduceLT, Int.reduceLE, Nat.reduceAdd, Nat.reducePow, Nat.reduceEqDiff, Nat.reduceLT, Nat.reduceLeDiff, Nat.reduceMul, Nat.reduceSub, hc0]
end Go.Am

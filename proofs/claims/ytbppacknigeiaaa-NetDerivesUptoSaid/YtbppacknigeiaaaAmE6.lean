/- Part E6 of a proof that runs a program's calls on a small machine whose values bear no addresses: no conditions. -/
import Derived.Test.YtbppacknigeiaaaAmE5
import Derived.Test.YtbppacknigeiaaaAmM7
import Derived.Test.YtbppacknigeiaaaAmV0
set_option autoImplicit false
set_option linter.unusedSimpArgs false
set_option linter.unusedVariables false
set_option linter.unusedSectionVars false
namespace Go.Am
open Go Go.Proofs
/-! Derives, told. -/
noncomputable def F31n : List A → Option A
  | [a, .d (.int .i64 rule), .d (.slc _ ts)] => match decG a, decI ts with
    | some g, some l => if l.length < 1000000000 then some (.tup [.d (.bool (derV g rule l)), .d (.int .i64 (derE g rule l))]) else none
    | _, _ => none
  | _ => none
theorem F31n_at {g : Gr} (h : SmallG g) (rule : Int) (z : Bool) (l : List Int) (hl : l.length < 1000000000) : F31n [g.a, .d (.int .i64 rule), .d (.slc z (intsD l))] = some (.tup [.d (.bool (derV g rule l)), .d (.int .i64 (derE g rule l))]) := by
  have h1 := derives_call fz20B g h rule _ l hl St.empty (.inl ⟨z, rfl⟩)
  have h2 := derives_call fz20B g.strip (Gr.strip_small h) rule _ l hl St.empty (.inl ⟨z, rfl⟩)
  rw [Gr.strip_a] at h2
  have := CallsTo.det h1 h2
  simp only [F31n, decG_a h, decI_ints, if_pos hl]
  rw [this]
theorem ora31n : OraS Try.prog 35 F31n := by
  refine oraS_of (fz := mdB) noOra mixedT fun args r h => ?_
  unfold F31n at h
  split at h
  · rename_i a rule z ts
    split at h
    · rename_i g l hg hl
      split at h
      · rename_i hll
        cases h
        obtain ⟨rfl, hs⟩ := decG_sound hg
        obtain rfl := decI_sound hl
        exact ⟨rfl, _, _, derives_call fz20B g hs rule _ l hll St.empty (.inl ⟨z, rfl⟩)⟩
      · cases h
    · cases h
  · cases h
/-- modes of NetDerives -/
noncomputable def mdD : Nat → Md := fun f => match f with
  | 10 => .ora F10 | 34 => .ora F35 | 35 => .ora F31n
  | 11 | 13 | 16 | 19 | 45 | 46 | 48 | 51 | 52 | 78 => .ice
  | 39 | 40 | 79 | 80 | 88 => .keep
  | _ => .cut
theorem oraMD : ∀ f F, oraOf (mdD f) = some F → OraS Try.prog f F := by
  intro f F h
  unfold mdD at h
  split at h <;> cases h
  · exact ora10
  · exact ora35
  · exact ora31n
theorem works_D (σ : St) : CallsTo (XX mdD) (.func 10 []) [] σ (.d (.bool true)) σ [] := CallsTo.ora (F := F10) rfl fn10 rfl rfl rfl
theorem check_D (g : Gr) (σ : St) (h : SmallG g) : CallsTo (XX mdD) (.func 34 []) [g.a] σ (.d (.int .i64 (checkP g))) σ [] := CallsTo.ora (F := F35) rfl fn34 rfl (F35_at h) rfl
theorem derives_D {g : Gr} (h : SmallG g) (rule : Int) (z : Bool) (l : List Int) (hl : l.length < 1000000000) (σ : St) :
    CallsTo (XX mdD) (.func 35 []) [g.a, .d (.int .i64 rule), .d (.slc z (intsD l))] σ (.tup [.d (.bool (derV g rule l)), .d (.int .i64 (derE g rule l))]) σ [] := CallsTo.ora (F := F31n) rfl fn35 rfl (F31n_at h rule z l hl) rfl
theorem deep_D (g : Gr) (σ : St) (hg : SmallG g) (hL : g.rules.length < 1000000000) : CallsTo (XX mdD) (.func 9 []) [g.a] σ (.d (.bool (deepG g))) σ [] := deepG_call rfl rfl g σ hg hL
theorem short_D (g : Gr) (σ : St) (rule : Int) (h : SmallG g) : CallsTo (XX mdD) (.func 19 []) [g.a, .d (.int .i64 rule)] σ (.tup [.d (shortV g rule).1, .d (.int .i64 (shortV g rule).2)]) σ [] :=
  short_call check_D rfl rfl rfl rfl rfl rfl rfl (fun g h => ⟨(GOk.of h).ok, (GOk.of h).tok, (GOk.of h).le⟩) g h rule σ
theorem new_D (g : Gr) (σ : St) (h : SmallG g) : CallsTo (XX mdD) (.func 11 []) [g.a] σ (.tup [.d (newV g).1, .d (.int .i64 (newV g).2)]) σ [] :=
  new_call check_D short_D rfl rfl rfl rfl rfl (fun g h => by
    have k := GOk.of h
    refine ⟨k.ok, k.pos, k.le, fun y hy => ?_⟩
    have := szL_mem hy
    have := k.sz
    rw [szS_eq]; omega) g h σ
theorem newX_en {g : Gr} (h : GOk g) : (newX g).en.length < 1000000 := by
  have : (newX g).en.length = g.rules.length := (newN_W h).enl
  have := h.le; omega
theorem newX_lv {g : Gr} (h : GOk g) : (newX g).lv.length < 1000000 := by
  have : (newX g).lv.length = g.rules.length := (newN_W h).lvl
  have := h.le; omega
theorem net_D {g : Gr} (h : GOk g) (σ : St) : CallsTo (XX mdD) (.func 16 []) [netP (newN g).N (newX g)] σ (.tup [netA (newN g).N (newX g), .d (.int .i64 0)]) σ [] :=
  net_c rfl rfl rfl rfl (newN_ne h) (newN_fits h) (by omega) (newX_en h) (newX_lv h) σ
theorem sound_D {g : Gr} (h : GOk g) (σ : St) : CallsTo (XX mdD) (.func 17 []) [netA (newN g).N (newX g), g.a] σ (.d (.bool true)) σ [] :=
  sound_c rfl (newN_fits h) (by omega) (newN_sound h) (by have := h.le; omega) σ
end Go.Am
namespace Go.Am
open Go Go.Proofs
/-- a row of rows, as it grows -/
def KRow (σ : St) (a : A) (f : Nat → Nat) (L : Nat) (i k : Nat) : Prop := (i = 0 ∧ a = .d (.slc true [])) ∨ (0 < i ∧ a = .row k 0 i 1 ∧ σ.get k = .cells ((List.range i).map fun r => .row (f r) 0 L 1))
theorem KRow.stay {σ τ : St} {a : A} {f : Nat → Nat} {L i k : Nat} (h : KRow σ a f L i k) (hg : 0 < i → τ.get k = σ.get k) : KRow τ a f L i k := h.imp id fun q => ⟨q.1, q.2.1, (hg q.1).trans q.2.2⟩
theorem KRow.app {σ : St} {a : A} {f : Nat → Nat} {L i k j : Nat} (h : KRow σ a f L i k) (hj : σ.get j = .cells [.row (f i) 0 L 1]) (hi : i < 1000000) :
    ∃ σ' T, appendA 1 24 σ a (.row j 0 1 1) = .val (.row σ.n 0 (i + 1) 1) σ' T [] ∧ σ'.n = σ.n + 1 ∧ (∀ x, x < σ.n → (i = 0 ∨ x ≠ k) → σ'.get x = σ.get x) ∧ KRow σ' (.row σ.n 0 (i + 1) 1) f L (i + 1) σ.n ∧ ∀ x ∈ T, x = k := by
  have s1 : sliceCells σ (.row j 0 1 1) = some [.row (f i) 0 L 1] := by rw [sliceCells_row hj (by simp)]; rfl
  have s2 : sliceLen σ (.row j 0 1 1) = some 1 := by rw [sliceLen_row, hj]; rfl
  rcases h with ⟨rfl, rfl⟩ | ⟨h0, rfl, hk⟩
  · rw [appendA_nil s1 s2 (by simp) rfl (by omega) (by omega), if_neg (by omega)]
    exact ⟨_, _, rfl, by simp [St.n_push], fun x hx _ => St.get_push_ne hx, .inr ⟨by omega, rfl, St.get_push_eq⟩, by simp⟩
  · rw [appendA_row hk s1 s2 (by simp) rfl (by simp) (by omega) (by omega), if_neg (by omega)]
    refine ⟨_, _, rfl, by simp [St.n_push, St.n_set], fun x hx hne => ?_, .inr ⟨by omega, rfl, ?_⟩, by simp⟩
    · rw [St.get_push_ne (by rw [St.n_set]; exact hx), St.get_set_ne (by omega)]
    · rw [St.get_push_eq' (by rw [St.n_set]), List.drop_zero, List.take_of_length_le (by simp), List.range_succ, List.map_append]; rfl
def tgD (e kk ke x : Nat) : Nat := if x = e + 2 then 0 else if x = kk then 1 else if x = ke then 2 else if (x - (e + 3)) % 6 = 0 then 10 + 2 * ((x - (e + 3)) / 6) else 11 + 2 * ((x - (e + 3)) / 6)
theorem okD (e kk ke n L t : Nat) (hn : 0 < n) (hkk : kk + 4 = e + 3 + 6 * n) (hke : ke + 1 = e + 3 + 6 * n) (ht : t = e + 3 + 6 * n) : (WP.mk (e + 2) kk ke (fun r => e + 3 + 6 * r) (fun r => e + 6 + 6 * r) (tgD e kk ke) t n L).Ok where
  tw := by show tgD e kk ke (e + 2) = 0; unfold tgD; rw [if_pos rfl]
  tk := by show tgD e kk ke kk = 1; unfold tgD; rw [if_neg (by omega), if_pos rfl]
  te := by show tgD e kk ke ke = 2; unfold tgD; rw [if_neg (by omega), if_neg (by omega), if_pos rfl]
  ta r hr := by
    have hr : r < n := hr
    show tgD e kk ke (e + 3 + 6 * r) = 10 + 2 * r
    unfold tgD; rw [if_neg (by omega), if_neg (by omega), if_neg (by omega), if_pos (by omega)]; omega
  tb r hr := by
    have hr : r < n := hr
    show tgD e kk ke (e + 6 + 6 * r) = 11 + 2 * r
    unfold tgD; rw [if_neg (by omega), if_neg (by omega), if_neg (by omega), if_neg (by omega)]; omega
  lw := by show e + 2 < t; omega
  lk := by show kk < t; omega
  le := by show ke < t; omega
  la r hr := by
    have hr : r < n := hr
    show e + 3 + 6 * r < t; omega
  lb r hr := by
    have hr : r < n := hr
    show e + 6 + 6 * r < t; omega
set_option maxHeartbeats 8000000 in
theorem netder_call (g : Gr) (hg : SmallG g) (hL : g.rules.length < 1000000000) (rule : Int) (z : Bool) (l0 : List Int) (hl0 : l0.length < 1000000000) : ∃ σ' T, CallsTo (XX mdD) (.func 8 []) [g.a, .d (.int .i64 rule), .d (.slc z (intsD l0))] St.empty (.d (.bool true)) σ' T := by
  refine ⟨St.empty, [], CallsTo.cut0 rfl fn8 (by simp) rfl ?_⟩
  simp only [Try.f8, Option.getD_some]
  simp only [go_sem, ↓reduceIte, Int.reduceEq, Nat.reduceBEq, Int.reduceBEq, Int.reduceBNe, Int.reduceLT, Int.reduceLE, Nat.reduceAdd, Nat.reducePow, Nat.reduceEqDiff, Nat.reduceLT, Nat.reduceLeDiff, Nat.reduceMul, Nat.reduceSub, Gr.a]
  refine ⟨_, _, _, works_D _, ?_⟩
  simp only [go_sem, ↓reduceIte, Int.reduceEq, Nat.reduceBEq, Int.reduceBEq, Int.reduceBNe, Int.reduceLT, Int.reduceLE, Nat.reduceAdd, Nat.reducePow, Nat.reduceEqDiff, Nat.reduceLT, Nat.reduceLeDiff, Nat.reduceMul, Nat.reduceSub]
  refine ⟨_, _, _, deep_D g _ hg hL, ?_⟩
  cases hd : deepG g with
  | true => simp only [go_sem, ↓reduceIte, Int.reduceEq, Nat.reduceBEq, Int.reduceBEq, Int.reduceBNe, Int.reduceLT, Int.reduceLE, Nat.reduceAdd, Nat.reducePow, Nat.reduceEqDiff, Nat.reduceLT, Nat.reduceLeDiff, Nat.reduceMul, Nat.reduceSub]
  | false =>
  simp only [go_sem, ↓reduceIte, Int.reduceEq, Nat.reduceBEq, Int.reduceBEq, Int.reduceBNe, Int.reduceLT, Int.reduceLE, Nat.reduceAdd, Nat.reducePow, Nat.reduceEqDiff, Nat.reduceLT, Nat.reduceLeDiff, Nat.reduceMul, Nat.reduceSub]
  refine ⟨_, _, _, new_D g _ hg, ?_⟩
  unfold newV
  cases hc : (checkP g != 0) with
  | true =>
    simp only [go_sem, ↓reduceIte, Int.reduceEq, Nat.reduceBEq, Int.reduceBEq, Int.reduceBNe, Int.reduceLT, Int.reduceLE, Nat.reduceAdd, Nat.reducePow, Nat.reduceEqDiff, Nat.reduceLT, Nat.reduceLeDiff, Nat.reduceMul, Nat.reduceSub, hc, eq_nptr2, OpR.of]
    refine ⟨_, _, _, check_D g _ hg, ?_⟩
    simp only [go_sem, ↓reduceIte, Int.reduceEq, Nat.reduceBEq, Int.reduceBEq, Int.reduceBNe, Int.reduceLT, Int.reduceLE, Nat.reduceAdd, Nat.reducePow, Nat.reduceEqDiff, Nat.reduceLT, Nat.reduceLeDiff, Nat.reduceMul, Nat.reduceSub]
  | false =>
  have h := GOk.of (show checkP g = 0 by simpa using hc)
  have w := newN_W h
  have hF := newN_fits h
  have hel := hF.e
  have hpos := h.pos
  have hle := h.le
  simp only [go_sem, ↓reduceIte, Int.reduceEq, Nat.reduceBEq, Int.reduceBEq, Int.reduceBNe, Int.reduceLT, Int.reduceLE, Nat.reduceAdd, Nat.reducePow, Nat.reduceEqDiff, Nat.reduceLT, Nat.reduceLeDiff, Nat.reduceMul, Nat.reduceSub]
  refine ⟨_, _, _, net_D h _, ?_⟩
  simp only [go_sem, ↓reduceIte, Int.reduceEq, Nat.reduceBEq, Int.reduceBEq, Int.reduceBNe, Int.reduceLT, Int.reduceLE, Nat.reduceAdd, Nat.reducePow, Nat.reduceEqDiff, Nat.reduceLT, Nat.reduceLeDiff, Nat.reduceMul, Nat.reduceSub, netA, netC3]
  refine ⟨_, _, _, sound_D h _, ?_⟩
  simp only [go_sem, ↓reduceIte, Int.reduceEq, Nat.reduceBEq, Int.reduceBEq, Int.reduceBNe, Int.reduceLT, Int.reduceLE, Nat.reduceAdd, Nat.reducePow, Nat.reduceEqDiff, Nat.reduceLT, Nat.reduceLeDiff, Nat.reduceMul, Nat.reduceSub]
  refine ⟨_, _, _, bring_call rfl rule _ _, ?_⟩
  obtain ⟨b1, b2⟩ := bring_lt (i := rule) (n := (g.rules.length : Int)) (by omega) (by omega)
  obtain ⟨k, hk⟩ := Int.eq_ofNat_of_zero_le b1
  have hlt : k < g.rules.length := by omega
  have hmin : min l0.length 20 ≤ l0.length := Nat.min_le_left _ _
  have hm20 : min l0.length 20 ≤ 20 := Nat.min_le_right _ _
  have hmn : minmax false [.d (.int .i64 (l0.length : Int)), .d (.int .i64 20)] = some (.d (.int .i64 ((min l0.length 20 : Nat) : Int))) := minA (b := 20)
  simp only [go_sem, ↓reduceIte, Int.reduceEq, Nat.reduceBEq, Int.reduceBEq, Int.reduceBNe, Int.reduceLT, Int.reduceLE, Nat.reduceAdd, Nat.reducePow, Nat.reduceEqDiff, Nat.reduceLT, Nat.reduceLeDiff, Nat.reduceMul, Nat.reduceSub, hk, len_ints, hmn, OpR.of, hmin]
  have hl1 : (l0.take (min l0.length 20)).length = min l0.length 20 := by rw [List.length_take]; omega
  generalize hl : l0.take (min l0.length 20) = l at *
  have hl20 : l.length ≤ 20 := by omega
  clear hl1 hmin hm20 hmn
  have tokl : ∀ τ : St, sliceLen τ (A.d (D.slc z (intsD l))) = some l.length := fun τ => len_ints
  have wL : IntKind.i64.wrap ((l.length : Int) + 1) = ((l.length + 1 : Nat) : Int) := by rw [wrap_small (by omega) (by omega)]; rfl
  have hmk1 := fun σ : St => mksE_nat (σ := σ) (kd := .bool) (s := 1) (b := 1) (n := l.length + 1) (z := [.d (.bool false)]) (zv := .d (.bool false)) ⟨rfl, by omega, by omega, by omega⟩
  have hmk2 := fun σ : St => mksE_nat (σ := σ) (kd := .slc 4) (s := 1) (b := 24) (n := l.length + 1) (z := [.d (.slc true [])]) (zv := .d (.slc true [])) ⟨rfl, by omega, by omega, by omega⟩
  refine Ev.loop_ind (fun k' tm τ W => ∃ (i : Nat) (ak ae : A) (kk ke : Nat), k' = g.rules.length - i ∧ i ≤ g.rules.length ∧ W = [] ∧ τ.n = St.empty.n + 3 + 6 * i ∧ τ.get St.empty.n = .cells g.c ∧ τ.get (St.empty.n + 2) = .cells [.d (newN g).N.esD, .d (slD (newX g).en), .d (slD (newX g).lv), .d (.slc z (intsD l)), ak, ae] ∧
      KRow τ ak (fun r => St.empty.n + 3 + 6 * r) (l.length + 1) i kk ∧ KRow τ ae (fun r => St.empty.n + 6 + 6 * r) (l.length + 1) i ke ∧ (i = 0 ∨ kk + 4 = St.empty.n + 3 + 6 * i) ∧ (i = 0 ∨ ke + 1 = St.empty.n + 3 + 6 * i) ∧
      (∀ r, r < i → τ.get (St.empty.n + 3 + 6 * r) = .cells (bA (List.replicate (l.length + 1) false)) ∧ τ.get (St.empty.n + 6 + 6 * r) = .cells (rep (l.length + 1) [.d (.slc true [])])) ∧
      tm.at 1 = .d (.int .i64 (k : Int)) ∧ tm.at 2 = .d (.slc z (intsD l)) ∧ tm.at 3 = .ptr St.empty.n 0 ∧ tm.at 11 = .ptr (St.empty.n + 2) 0 ∧ tm.at 12 = .d (.int .i64 (i : Int))) ?_ g.rules.length _ _ _ ⟨0, .d (.slc true []), .d (.slc true []), 0, 0, rfl, by omega, rfl, ?_, ?_, ?_, .inl ⟨rfl, rfl⟩, .inl ⟨rfl, rfl⟩, .inl rfl, .inl rfl, (fun r hr => by omega), ?_, ?_, ?_, ?_, ?_⟩
  · rintro k' tm τ W ⟨i, ak, ae, kk, ke, rfl, hi, rfl, hn, g0, g2, hK, hE, hkk, hke, hrows, t1, t2, t3, t11, t12⟩ ih
    have low0 : ∀ T, low St.empty.n T = [] := fun T => low_all fun k _ => Nat.zero_le k
    by_cases hil : i < g.rules.length
    · have q1 : St.empty.n + 2 < τ.n := by omega
      have q2 : St.empty.n + 2 ≠ τ.n := by omega
      obtain ⟨σ1, T1, p1, p2, p3, p4, p5⟩ := (hK.stay (τ := (τ.push (.cells (bA (List.replicate (l.length + 1) false)))).push (.cells [.row τ.n 0 (l.length + 1) 1])) (fun h0 => by rw [St.get_push_ne (by simp only [St.n_push]; omega), St.get_push_ne (by omega)])).app (j := τ.n + 1) (by rw [St.get_push_eq' (by simp only [St.n_push]), hn]) (by omega)
      simp only [St.n_push] at p2 p3
      have f1 : ∀ x, x < τ.n → (i = 0 ∨ x ≠ kk) → σ1.get x = τ.get x := fun x h1 h2 => by
        rw [p3 x (by omega) h2, St.get_push_ne (by simp only [St.n_push]; omega), St.get_push_ne h1]
      have f2 : σ1.get τ.n = .cells (bA (List.replicate (l.length + 1) false)) := by
        rw [p3 τ.n (by omega) (by omega), St.get_push_ne (by simp only [St.n_push]; omega), St.get_push_eq]
      have g21 := f1 (St.empty.n + 2) q1 (by omega)
      have g01 := f1 St.empty.n (by omega) (by omega)
      rw [g2] at g21
      rw [g0] at g01
      simp only [St.n_push] at p1 p4
      simp only [go_sem, ↓reduceIte, Int.reduceEq, Nat.reduceBEq, Int.reduceBEq, Int.reduceBNe, Int.reduceLT, Int.reduceLE, Nat.reduceAdd, Nat.reducePow, Nat.reduceEqDiff, Nat.reduceLT, Nat.reduceLeDiff, Nat.reduceMul, Nat.reduceSub, t1, t2, t3, t11, t12, g0, g2, dec_lt' hil, tokl, wL, hmk1, rep_bools, p1, q1, q2, g21, low0]
      refine ⟨drawOk_rel [10, 13] [(10, 0)] rfl (by kernel_rfl) rfl (by simp [meets]), ?_⟩
      generalize hσ2 : σ1.set (St.empty.n + 2) (.cells [.d (newN g).N.esD, .d (slD (newX g).en), .d (slD (newX g).lv), .d (.slc z (intsD l)), .row (τ.n + 2) 0 (i + 1) 1, ae]) = σ2
      have n2 : σ2.n = τ.n + 3 := by rw [← hσ2, St.n_set, p2]
      have e2 : ∀ x, x ≠ St.empty.n + 2 → σ2.get x = σ1.get x := fun x hx => by rw [← hσ2, St.get_set_ne hx]
      have e3 : σ2.get (St.empty.n + 2) = .cells [.d (newN g).N.esD, .d (slD (newX g).en), .d (slD (newX g).lv), .d (.slc z (intsD l)), .row (τ.n + 2) 0 (i + 1) 1, ae] := by rw [← hσ2, St.get_set_eq]
      have hE2 : KRow σ2 ae (fun r => St.empty.n + 6 + 6 * r) (l.length + 1) i ke := hE.stay fun h0 => by rw [e2 _ (by omega), f1 _ (by omega) (by omega)]
      obtain ⟨σ3, T3, r1, r2, r3, r4, r5⟩ := (hE2.stay (τ := (σ2.push (.cells (rep (l.length + 1) [.d (.slc true [])]))).push (.cells [.row σ2.n 0 (l.length + 1) 1])) (fun h0 => by rw [St.get_push_ne (by simp only [St.n_push]; omega), St.get_push_ne (by omega)])).app (j := σ2.n + 1) (by rw [St.get_push_eq' (by simp only [St.n_push]), n2, show τ.n + 3 = St.empty.n + 6 + 6 * i by omega]) (by omega)
      simp only [St.n_push] at r1 r2 r3 r4
      have f3 : ∀ x, x < σ2.n → (i = 0 ∨ x ≠ ke) → σ3.get x = σ2.get x := fun x h1 h2 => by
        rw [r3 x (by omega) h2, St.get_push_ne (by simp only [St.n_push]; omega), St.get_push_ne h1]
      have f4 : σ3.get σ2.n = .cells (rep (l.length + 1) [.d (.slc true [])]) := by
        rw [r3 σ2.n (by omega) (by omega), St.get_push_ne (by simp only [St.n_push]; omega), St.get_push_eq]
      have g23 := f3 (St.empty.n + 2) (by omega) (by omega)
      rw [e3] at g23
      have q3 : St.empty.n + 2 < σ2.n := by omega
      have q4 : St.empty.n + 2 ≠ σ2.n := by omega
      have hil2 := wrap_succ' hil (show g.rules.length < 1000000000 by omega)
      simp only [go_sem, ↓reduceIte, Int.reduceEq, Nat.reduceBEq, Int.reduceBEq, Int.reduceBNe, Int.reduceLT, Int.reduceLE, Nat.reduceAdd, Nat.reducePow, Nat.reduceEqDiff, Nat.reduceLT, Nat.reduceLeDiff, Nat.reduceMul, Nat.reduceSub, hmk2, r1, e3, q3, q4, g23, low0, t12, hil2]
      refine ⟨drawOk_rel [10, 13] [(10, 0)] rfl (by kernel_rfl) rfl (by simp [meets]), ?_⟩
      refine ih _ _ _ _ (show g.rules.length - (i + 1) < _ by omega) ⟨i + 1, .row (τ.n + 2) 0 (i + 1) 1, .row (σ2.n + 2) 0 (i + 1) 1, τ.n + 2, σ2.n + 2, rfl, by omega, rfl, by rw [St.n_set]; omega, ?_, St.get_set_eq, p4.stay (fun _ => ?_), r4.stay (fun _ => ?_), .inr (by omega), .inr (by omega), fun r hr => ?_, ?_, ?_, ?_, ?_, ?_⟩
      · rw [St.get_set_ne (by omega), f3 _ (by omega) (by omega), e2 _ (by omega)]; exact g01
      · rw [St.get_set_ne (by omega), f3 _ (by omega) (by omega), e2 _ (by omega)]
      · rw [St.get_set_ne (by omega)]
      · rw [St.get_set_ne (by omega), St.get_set_ne (by omega)]
        rcases Nat.lt_or_ge r i with hri | hri
        · obtain ⟨u1, u2⟩ := hrows r hri
          rw [f3 _ (by omega) (by omega), e2 _ (by omega), f1 _ (by omega) (by omega), f3 _ (by omega) (by omega), e2 _ (by omega), f1 _ (by omega) (by omega)]
          exact ⟨u1, u2⟩
        · obtain rfl : r = i := by omega
          rw [← hn, f3 _ (by omega) (by omega), e2 _ (by omega), show St.empty.n + 6 + 6 * r = σ2.n by omega]
          exact ⟨f2, f4⟩
      all_goals (simp only [go_sem, ↓reduceIte, Int.reduceEq, Nat.reduceBEq, Int.reduceBEq, Int.reduceBNe, Int.reduceLT, Int.reduceLE, Nat.reduceAdd, Nat.reducePow, Nat.reduceEqDiff, Nat.reduceLT, Nat.reduceLeDiff, Nat.reduceMul, Nat.reduceSub, t1, t2, t3, t11])
    · obtain rfl : i = g.rules.length := by omega
      have hc0 : checkP g = 0 := by simpa using hc
      have hkk := hkk.resolve_left (by omega)
      have hke := hke.resolve_left (by omega)
      obtain ⟨-, rfl, gk⟩ := hK.resolve_left (by omega)
      obtain ⟨-, rfl, ge⟩ := hE.resolve_left (by omega)
      have hP := okD St.empty.n kk ke g.rules.length l.length τ.n hpos hkk hke (by omega)
      generalize hPd : WP.mk (St.empty.n + 2) kk ke (fun r => St.empty.n + 3 + 6 * r) (fun r => St.empty.n + 6 + 6 * r) (tgD St.empty.n kk ke) τ.n g.rules.length l.length = P at hP
      have hM : WkM P (newN g).N (newX g) (.slc z (intsD l)) (bitsG g.bodies l P.L) τ := by
        rw [← hPd]
        refine ⟨g2, gk, ge, fun r hr => ⟨List.replicate (l.length + 1) false, List.replicate (l.length + 1) (.slc true []), (hrows r hr).1, by simp, ?_, by simp, fun i _ hi => ?_⟩⟩
        · show τ.get (St.empty.n + 6 + 6 * r) = _
          rw [(hrows r hr).2, rep_map, List.map_replicate, List.map_const']; simp
        · rw [repF_get] at hi; cases hi
      obtain ⟨τ2, T, c1, c2, c3, c4, c5⟩ := rule_all (fz := mdD) rfl rfl hP hg hc0 (l := l) (z := z) (by rw [← hPd]) (by rw [← hPd]) (by rw [← hPd]; show l.length ≤ 64; omega) _ k 0 (by rw [← hPd]; exact hlt) (Nat.zero_le _) (Nat.lt_succ_self _) τ hM (by rw [← hPd]; exact Nat.le_refl _)
      have hPk : P.kw = St.empty.n + 2 := by rw [← hPd]
      have hPL : P.L = l.length := by rw [← hPd]
      rw [hPk, hPL] at c1
      simp only [Int.natCast_zero] at c1
      have hder := derives_D hg (k : Int) z l (by omega) τ
      have hdE : derE g (k : Int) l = 0 := by
        unfold derE
        rw [if_neg (by rw [hc]; simp), if_neg (by simp; omega), if_neg (by simp; omega)]
      have hdV : derV g (k : Int) l = (bitsG g.bodies l l.length k 0).getD l.length false := by
        unfold derV
        rw [if_neg (by rw [hc]; simp), if_neg (by simp; omega), if_neg (by simp; omega), Bool.eq_iff_iff, bitsG_iff (Nat.le_refl _), derB_iff, Int.toNat_natCast]
        have hbl : g.bodies.length = g.rules.length := by rw [Gr.bodies, List.length_map]
        have hy : g.bodies[k]? = some g.bodies[k] := List.getElem?_eq_getElem (by omega)
        rw [List.getD_eq_getElem?_getD, hy]
        constructor
        · intro q; exact ⟨_, rfl, q⟩
        · rintro ⟨y, e1, e2⟩; cases e1; exact e2
      rw [hdE, hdV] at hder
      have hix := fun σ : St => index_bools (σ := σ) (l := bitsG g.bodies l l.length k 0) (z := false) (i := l.length) (by rw [bitsG_len]; omega)
      simp only [go_sem, ↓reduceIte, Int.reduceEq, Nat.reduceBEq, Int.reduceBEq, Int.reduceBNe, Int.reduceLT, Int.reduceLE, Nat.reduceAdd, Nat.reducePow, Nat.reduceEqDiff, Nat.reduceLT, Nat.reduceLeDiff, Nat.reduceMul, Nat.reduceSub, t1, t2, t3, t11, t12, g0, g2, dec_ge' hil]
      refine ⟨_, _, _, hder, ?_⟩
      simp only [go_sem, ↓reduceIte, Int.reduceEq, Nat.reduceBEq, Int.reduceBEq, Int.reduceBNe, Int.reduceLT, Int.reduceLE, Nat.reduceAdd, Nat.reducePow, Nat.reduceEqDiff, Nat.reduceLT, Nat.reduceLeDiff, Nat.reduceMul, Nat.reduceSub, t1, t2, t3, t11, t12]
      refine ⟨_, _, _, c1, ?_⟩
      simp only [go_sem, ↓reduceIte, Int.reduceEq, Nat.reduceBEq, Int.reduceBEq, Int.reduceBNe, Int.reduceLT, Int.reduceLE, Nat.reduceAdd, Nat.reducePow, Nat.reduceEqDiff, Nat.reduceLT, Nat.reduceLeDiff, Nat.reduceMul, Nat.reduceSub, tokl, hix]
      exact low0 T
  · simp [St.n_set, St.n_push]
  all_goals first | rfl | (simp only [go_sem, ↓reduceIte, Int.reduceEq, Nat.reduceBEq, Int.reduceBEq, Int.reduceBNe, Int.reduceLT, Int.reduceLE, Nat.reduceAdd, Nat.reducePow, Nat.reduceEqDiff, Nat.reduceLT, Nat.reduceLeDiff, Nat.reduceMul, Nat.reduceSub]; done) | (simp only [go_sem, ↓reduceIte, Int.reduceEq, Nat.reduceBEq, Int.reduceBEq, Int.reduceBNe, Int.reduceLT, Int.reduceLE, Nat.reduceAdd, Nat.reducePow, Nat.reduceEqDiff, Nat.reduceLT, Nat.reduceLeDiff, Nat.reduceMul, Nat.reduceSub]; rfl)
end Go.Am

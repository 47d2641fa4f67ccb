/- Part E4 of a proof that runs a program's calls on a small machine whose values bear no addresses: no conditions. -/
import Derived.Test.YtbppacknigeiaaaAmE1
set_option autoImplicit false
set_option linter.unusedSimpArgs false
set_option linter.unusedVariables false
set_option linter.unusedSectionVars false
namespace Go.Am
open Go Go.Proofs
variable {fz : Nat → Md}
set_option maxHeartbeats 16000000 in
theorem from_c (h78 : fz 78 = .ice) {P : WP} (hP : P.Ok) {N : Nv} {X : Nx} {z : Bool} {l : List Int} {bits : Bits} {bs : List Ex} {B : Nat} (hB : N.Fits B) (hb : B < 1000000) (hL : l.length = P.L) (hL2 : P.L ≤ 64) {a b i r : Nat} (ha : X.en.getD r 0 = (a : Int)) (hbb : X.lv.getD r 0 = (b : Int)) (haN : a < N.es.length) (hi : i ≤ P.L)
    (hed : ∀ (s : Nat) (row : List Eg), N.es[s]? = some row → ∀ e ∈ row, 0 ≤ e.kind ∧ e.kind ≤ 2 ∧ 0 ≤ e.num ∧ e.to < N.es.length)
    (hbl : ∀ n p, (bits n p).length = P.L + 1) (hbits : ∀ n p k, p ≤ P.L → k ≤ P.L → ((bits n p).getD k false = true ↔ ∃ y, bs[n]? = some y ∧ Der bs l y p k))
    (hcall : ∀ (s p : Nat) (row : List Eg), Rch bs l N a i s p → p ≤ P.L → N.es[s]? = some row → ∀ e ∈ row, e.kind = 2 → RuleSpec fz P N X (.slc z (intsD l)) bits e.num.toNat p)
    (hans : ∀ k, k ≤ P.L → ((bits r i).getD k false = true ↔ Rch bs l N a i b k)) : FromSpec fz P N X (.slc z (intsD l)) bits r i := by
  intro σ hM hlo
  rw [ha, hbb]
  have key := CallsTo.iceE (X := XX fz) (f := 78) (args := [.ptr P.kw 0, .d (.int .i64 (a : Int)), .d (.int .i64 (i : Int)), .d (.int .i64 (b : Int))]) (σ := σ) (r := .d (.slc false (boolsD (bits r i)))) (P := fun σ1 W1 => WkM P N X (.slc z (intsD l)) bits σ1 ∧ ∀ k ∈ W1, Mine P k) h78 fn78 (by simp) ?_
  · obtain ⟨σ', W', σ1, c1, c2, c3, c4, c5, c6⟩ := key
    exact ⟨σ', W', c1, c2, c3, c5.stay hP fun k hk => c4 k (by omega), c6⟩
  simp only [Try.f78, Option.getD_some]
  have hel := hB.e
  have lw := hP.lw
  have tokl : ∀ τ : St, sliceLen τ (A.d (D.slc z (intsD l))) = some P.L := fun τ => by simp [sliceLen, intsD_len, hL]
  have wL : IntKind.i64.wrap ((P.L : Int) + 1) = ((P.L + 1 : Nat) : Int) := by rw [wrap_small (by omega) (by omega)]; rfl
  have hmk1 := fun σ : St => mksE_nat (σ := σ) (kd := .bool) (s := 1) (b := 1) (n := P.L + 1) (z := [.d (.bool false)]) (zv := .d (.bool false)) ⟨rfl, by omega, by omega, by omega⟩
  have hmk2 := fun σ : St => mksE_nat (σ := σ) (kd := .slc 4) (s := 1) (b := 24) (n := N.es.length) (z := [.d (.slc true [])]) (zv := .d (.slc true [])) ⟨rfl, by omega, by omega, by omega⟩
  have nw0 : P.kw ≠ σ.n := by omega
  have nw1 : P.kw ≠ σ.n + 1 := by omega
  have nwl : P.kw < σ.n := by omega
  have nwl1 : P.kw < σ.n + 1 := by omega
  simp only [go_sem, ↓reduceIte, Int.reduceEq, Nat.reduceBEq, Int.reduceBEq, Int.reduceBNe, Int.reduceLT, Int.reduceLE, Nat.reduceAdd, Nat.reducePow, Nat.reduceEqDiff, Nat.reduceLT, Nat.reduceLeDiff, Nat.reduceMul, Nat.reduceSub, hM.cell, tokl, wL, hmk1, rep_bools, len_es, nw0, nw1, nwl, nwl1]
  simp only [go_sem, ↓reduceIte, Int.reduceEq, Nat.reduceBEq, Int.reduceBEq, Int.reduceBNe, Int.reduceLT, Int.reduceLE, Nat.reduceAdd, Nat.reducePow, Nat.reduceEqDiff, Nat.reduceLT, Nat.reduceLeDiff, Nat.reduceMul, Nat.reduceSub, hM.cell, hmk2, len_es, nw0, nw1, nwl, nwl1, seenC_0 σ.n N.es.length P.L]
  refine Ev.loop_ind (fun k tm τ W => ∃ j : Nat, k = N.es.length - j ∧ j ≤ N.es.length ∧ W = [] ∧ Mod σ τ [] ∧ WkM P N X (.slc z (intsD l)) bits τ ∧ τ.n = σ.n + 2 + j ∧ τ.get σ.n = .cells (bA (List.replicate (P.L + 1) false)) ∧ τ.get (σ.n + 1) = .cells (seenC σ.n N.es.length P.L j) ∧ (∀ s, s < j → τ.get (srB σ.n s) = .cells (bA (List.replicate (P.L + 1) false))) ∧
      tm.at 0 = .ptr P.kw 0 ∧ tm.at 1 = .d (.int .i64 (a : Int)) ∧ tm.at 2 = .d (.int .i64 (i : Int)) ∧ tm.at 3 = .d (.int .i64 (b : Int)) ∧ tm.at 9 = .row σ.n 0 (P.L + 1) 1 ∧ tm.at 10 = .row (σ.n + 1) 0 N.es.length 1 ∧ tm.at 11 = .d (.int .i64 (j : Int))) ?_ N.es.length _ _ _ ⟨0, rfl, by omega, rfl, Mod.refl.push.push, (hM.stay hP fun k hk => by rw [St.get_push_ne (by simp only [St.n_push]; omega), St.get_push_ne (by omega)]), by simp [St.n_push], by rw [St.get_push_ne (by simp [St.n_push]), St.get_push_eq], St.get_push_eq' (by simp [St.n_push]), (fun s hs => by omega), ?_, ?_, ?_, ?_, ?_, ?_, ?_⟩
  · rintro k tm τ W ⟨j, rfl, hj, rfl, hmod, hwk, hn, go, gS, gs, t0, t1, t2, t3, t9, t10, t11⟩ ih
    have nw2 : P.kw ≠ τ.n := by omega
    have nwl2 : P.kw < τ.n := by omega
    have nS : σ.n + 1 ≠ τ.n := by omega
    have nSl : σ.n + 1 < τ.n := by omega
    by_cases hl : j < N.es.length
    · have ix : ∀ ρ : St, indexR ρ 1 (σ.n + 1) 0 N.es.length 1 (j : Int) (.cells (seenC σ.n N.es.length P.L j)) = .val (.ptr (σ.n + 1) (0 + j * 1)) ρ [] [σ.n + 1] := fun ρ => indexR_nat hl
      simp only [Nat.zero_add, Nat.mul_one] at ix
      have hlj : j < (seenC σ.n N.es.length P.L j).length := by rw [seenC_len]; exact hl
      have hset := seenC_set σ.n N.es.length P.L j hl
      rw [srB_eq, ← hn] at hset
      have lz : low σ.n [σ.n + 1] = [] := by rw [low_cons_ge (by omega)]; rfl
      simp only [go_sem, ↓reduceIte, Int.reduceEq, Nat.reduceBEq, Int.reduceBEq, Int.reduceBNe, Int.reduceLT, Int.reduceLE, Nat.reduceAdd, Nat.reducePow, Nat.reduceEqDiff, Nat.reduceLT, Nat.reduceLeDiff, Nat.reduceMul, Nat.reduceSub, t0, t1, t2, t3, t9, t10, t11, gS, dec_lt' hl, hwk.cell, tokl, wL, hmk1, rep_bools, nw2, nwl2, nS, nSl, ix, hlj, hset, lz, wrap_succ' hl (show N.es.length < 1000000000 by omega)]
      refine ih _ _ _ _ (by omega) ⟨j + 1, rfl, hl, rfl, (hmod.push).set (by omega), hwk.stay hP fun k hk => by rw [St.get_set_ne (by omega), St.get_push_ne (by omega)], by simp only [St.n_set, St.n_push]; omega, by rw [St.get_set_ne (by omega), St.get_push_ne (by omega)]; exact go, St.get_set_eq, fun s hs => ?_, by simp only [go_sem, ↓reduceIte, Int.reduceEq, Nat.reduceBEq, Int.reduceBEq, Int.reduceBNe, Int.reduceLT, Int.reduceLE, Nat.reduceAdd, Nat.reducePow, Nat.reduceEqDiff, Nat.reduceLT, Nat.reduceLeDiff, Nat.reduceMul, Nat.reduceSub, t0], by simp only [go_sem, ↓reduceIte, Int.reduceEq, Nat.reduceBEq, Int.reduceBEq, Int.reduceBNe, Int.reduceLT, Int.reduceLE, Nat.reduceAdd, Nat.reducePow, Nat.reduceEqDiff, Nat.reduceLT, Nat.reduceLeDiff, Nat.reduceMul, Nat.reduceSub, t1], by simp only [go_sem, ↓reduceIte, Int.reduceEq, Nat.reduceBEq, Int.reduceBEq, Int.reduceBNe, Int.reduceLT, Int.reduceLE, Nat.reduceAdd, Nat.reducePow, Nat.reduceEqDiff, Nat.reduceLT, Nat.reduceLeDiff, Nat.reduceMul, Nat.reduceSub, t2], by simp only [go_sem, ↓reduceIte, Int.reduceEq, Nat.reduceBEq, Int.reduceBEq, Int.reduceBNe, Int.reduceLT, Int.reduceLE, Nat.reduceAdd, Nat.reducePow, Nat.reduceEqDiff, Nat.reduceLT, Nat.reduceLeDiff, Nat.reduceMul, Nat.reduceSub, t3], by simp only [go_sem, ↓reduceIte, Int.reduceEq, Nat.reduceBEq, Int.reduceBEq, Int.reduceBNe, Int.reduceLT, Int.reduceLE, Nat.reduceAdd, Nat.reducePow, Nat.reduceEqDiff, Nat.reduceLT, Nat.reduceLeDiff, Nat.reduceMul, Nat.reduceSub, t9], by simp only [go_sem, ↓reduceIte, Int.reduceEq, Nat.reduceBEq, Int.reduceBEq, Int.reduceBNe, Int.reduceLT, Int.reduceLE, Nat.reduceAdd, Nat.reducePow, Nat.reduceEqDiff, Nat.reduceLT, Nat.reduceLeDiff, Nat.reduceMul, Nat.reduceSub, t10], by simp only [go_sem, ↓reduceIte, Int.reduceEq, Nat.reduceBEq, Int.reduceBEq, Int.reduceBNe, Int.reduceLT, Int.reduceLE, Nat.reduceAdd, Nat.reducePow, Nat.reduceEqDiff, Nat.reduceLT, Nat.reduceLeDiff, Nat.reduceMul, Nat.reduceSub]⟩
      rw [St.get_set_ne (by rw [srB_eq]; omega)]
      rcases Nat.lt_or_ge s j with h | h
      · rw [St.get_push_ne (by rw [srB_eq]; omega)]; exact gs s h
      · exact St.get_push_eq' (by rw [srB_eq]; omega)
    · have hjn : j = N.es.length := by omega
      subst hjn
      rw [seenC_all] at gS
      have ix : ∀ (ρ : St) (s : Nat), s < N.es.length → indexR ρ 1 (σ.n + 1) 0 N.es.length 1 (s : Int) (.cells ((List.range N.es.length).map fun s => .row (srB σ.n s) 0 (P.L + 1) 1)) = .val (.ptr (σ.n + 1) (0 + s * 1)) ρ [] [σ.n + 1] := fun ρ s hs => indexR_nat hs
      have ir : ∀ (ρ : St) (s p : Nat) (tb : List Bool), p ≤ P.L → indexR ρ 1 (srB σ.n s) 0 (P.L + 1) 1 (p : Int) (.cells (bA tb)) = .val (.ptr (srB σ.n s) (0 + p * 1)) ρ [] [srB σ.n s] := fun ρ s p tb hp => indexR_nat (by omega)
      have io : ∀ (ρ : St) (p : Nat) (tb : List Bool), p ≤ P.L → indexR ρ 1 σ.n 0 (P.L + 1) 1 (p : Int) (.cells (bA tb)) = .val (.ptr σ.n (0 + p * 1)) ρ [] [σ.n] := fun ρ p tb hp => indexR_nat (by omega)
      simp only [Nat.zero_add, Nat.mul_one] at ix ir io
      have cS : ∀ s, s < N.es.length → (((List.range N.es.length).map fun s => A.row (srB σ.n s) 0 (P.L + 1) 1))[s]? = some (.row (srB σ.n s) 0 (P.L + 1) 1) := fun s hs => by simp [hs]
      have nra : ∀ s, s < N.es.length → srB σ.n s ≠ τ.n := fun s hs => by rw [srB_eq]; omega
      have nrl : ∀ s, s < N.es.length → srB σ.n s < τ.n := fun s hs => by rw [srB_eq]; omega
      have hrep : ∀ p, p ≤ P.L → p < (bA (List.replicate (P.L + 1) false)).length := fun p hp => by rw [bA_len, List.length_replicate]; omega
      have lz : ∀ s, low σ.n [srB σ.n s] = [] := fun s => by rw [low_cons_ge (by rw [srB_eq]; omega)]; rfl
      simp only [go_sem, ↓reduceIte, Int.reduceEq, Nat.reduceBEq, Int.reduceBEq, Int.reduceBNe, Int.reduceLT, Int.reduceLE, Nat.reduceAdd, Nat.reducePow, Nat.reduceEqDiff, Nat.reduceLT, Nat.reduceLeDiff, Nat.reduceMul, Nat.reduceSub, t0, t1, t2, t3, t9, t10, t11, gS, dec_ge' hl, nS, nSl, ix _ a haN, cS a haN, nra a haN, nrl a haN, gs a haN, ir _ _ i _ hi, hrep i hi, bA_set, lz]
      have bf0 : BF P N X (.slc z (intsD l)) bits σ (fun _ => List.replicate (P.L + 1) false) (List.replicate (P.L + 1) false) (τ.push (.cells [.d (.int .i64 (a : Int)), .d (.int .i64 (i : Int))])) [] :=
        ⟨hmod.push, by simp, hwk.stay hP fun k hk => St.get_push_ne (by omega), by simp only [St.n_push]; omega, by rw [St.get_push_ne (by omega)]; exact go, by simp, by rw [St.get_push_ne nSl]; exact gS, fun s hs => ⟨by rw [St.get_push_ne (nrl s hs)]; exact gs s hs, by simp⟩⟩
      have bf1 := bf0.see hP hlo (s := a) (p := i) haN
      have td0 : TodoP (σ.n + 2 + N.es.length) ((τ.push (.cells [.d (.int .i64 (a : Int)), .d (.int .i64 (i : Int))])).set (srB σ.n a) (.cells (bA ((List.replicate (P.L + 1) false).set i true)))) (.row τ.n 0 1 2) [(a, i)] τ.n :=
        ⟨0, [.d (.int .i64 (a : Int)), .d (.int .i64 (i : Int))], rfl, by rw [St.get_set_ne (nra a haN).symm, St.get_push_eq], rfl, rfl, by omega, by simp [St.n_set, St.n_push]⟩
      have hsa : (updS (fun _ => List.replicate (P.L + 1) false) a i a) = (List.replicate (P.L + 1) false).set i true := if_pos rfl
      have hgf : ∀ (s p : Nat), (updS (fun _ => List.replicate (P.L + 1) false) a i s).getD p false = true → s = a ∧ p = i := fun s p h => by
        unfold updS at h
        split at h
        · rename_i e
          refine ⟨e, ?_⟩
          by_cases hp : p = i
          · exact hp
          · rw [List.getD_eq_getElem?_getD, List.getElem?_set_ne (Ne.symm hp), List.getElem?_replicate] at h
            split at h <;> simp at h
        · rw [List.getD_eq_getElem?_getD, List.getElem?_replicate] at h
          split at h <;> simp at h
      have hga : (updS (fun _ => List.replicate (P.L + 1) false) a i a).getD i false = true := by
        rw [hsa, List.getD_eq_getElem?_getD, List.getElem?_set_self (by simp; omega)]; rfl
      have B0 : Bfs bs l N P.L a i b (updS (fun _ => List.replicate (P.L + 1) false) a i) (List.replicate (P.L + 1) false) [(a, i)] :=
        ⟨fun s hs => (bf1.gs s hs).2, by simp, fun s p _ h => by obtain ⟨rfl, rfl⟩ := hgf s p h; exact .start, fun x hx => by simp at hx; subst hx; exact ⟨haN, hi, hga⟩, fun p h => by
          rw [List.getD_eq_getElem?_getD, List.getElem?_replicate] at h
          split at h <;> simp at h, hga⟩
      have hu0 : uns N.es.length (updS (fun _ => List.replicate (P.L + 1) false) a i) ≤ 65000000 := by
        have h1 := uns_upd (sb := fun _ => List.replicate (P.L + 1) false) (s := a) (p := i) (by rw [List.getElem?_replicate, if_pos (by omega)]) haN
        rw [uns_0] at h1
        have := Nat.mul_le_mul (show N.es.length ≤ 1000000 by omega) (show P.L + 1 ≤ 65 by omega)
        omega
      refine Ev.loop_ind (fun k tm τ W => ∃ (sb : Nat → List Bool) (ob : List Bool) (todo : List (Nat × Nat)) (av : A) (kt : Nat), k = todo.length + uns N.es.length sb ∧ todo.length + uns N.es.length sb ≤ 65000001 ∧ BF P N X (.slc z (intsD l)) bits σ sb ob τ W ∧ TodoP (σ.n + 2 + N.es.length) τ av todo kt ∧ Bfs bs l N P.L a i b sb ob todo ∧
          (∀ s p, s < N.es.length → (sb s).getD p false = true → (s, p) ∈ todo ∨ Fin bs l N b sb ob s p) ∧
          tm.at 0 = .ptr P.kw 0 ∧ tm.at 3 = .d (.int .i64 (b : Int)) ∧ tm.at 9 = .row σ.n 0 (P.L + 1) 1 ∧ tm.at 10 = .row (σ.n + 1) 0 N.es.length 1 ∧ tm.at 12 = av) ?_ _ _ _ _ ⟨_, _, [(a, i)], _, τ.n, rfl, by simp only [List.length_singleton]; omega, bf1, td0, B0, fun s p _ h => by obtain ⟨rfl, rfl⟩ := hgf s p h; exact .inl (by simp), by simp only [go_sem, ↓reduceIte, Int.reduceEq, Nat.reduceBEq, Int.reduceBEq, Int.reduceBNe, Int.reduceLT, Int.reduceLE, Nat.reduceAdd, Nat.reducePow, Nat.reduceEqDiff, Nat.reduceLT, Nat.reduceLeDiff, Nat.reduceMul, Nat.reduceSub, t0], by simp only [go_sem, ↓reduceIte, Int.reduceEq, Nat.reduceBEq, Int.reduceBEq, Int.reduceBNe, Int.reduceLT, Int.reduceLE, Nat.reduceAdd, Nat.reducePow, Nat.reduceEqDiff, Nat.reduceLT, Nat.reduceLeDiff, Nat.reduceMul, Nat.reduceSub, t3], by simp only [go_sem, ↓reduceIte, Int.reduceEq, Nat.reduceBEq, Int.reduceBEq, Int.reduceBNe, Int.reduceLT, Int.reduceLE, Nat.reduceAdd, Nat.reducePow, Nat.reduceEqDiff, Nat.reduceLT, Nat.reduceLeDiff, Nat.reduceMul, Nat.reduceSub, t9], by simp only [go_sem, ↓reduceIte, Int.reduceEq, Nat.reduceBEq, Int.reduceBEq, Int.reduceBNe, Int.reduceLT, Int.reduceLE, Nat.reduceAdd, Nat.reducePow, Nat.reduceEqDiff, Nat.reduceLT, Nat.reduceLeDiff, Nat.reduceMul, Nat.reduceSub, t10], by simp only [go_sem, ↓reduceIte, Int.reduceEq, Nat.reduceBEq, Int.reduceBEq, Int.reduceBNe, Int.reduceLT, Int.reduceLE, Nat.reduceAdd, Nat.reducePow, Nat.reduceEqDiff, Nat.reduceLT, Nat.reduceLeDiff, Nat.reduceMul, Nat.reduceSub]⟩
      clear bf0 bf1 td0 B0 hsa hgf hga hu0 ih hmod hwk hn go gS gs t0 t1 t2 t3 t9 t10 t11 nw2 nwl2 nS nSl nra nrl lz
      rintro k tm τ W ⟨sb, ob, todo, av, kt, rfl, hm, bf, td, bB, hfin, t0, t3, t9, t10, t12⟩ ih
      cases todo with
      | nil =>
        obtain ⟨off, cs, rfl, hk, -, -, -, -⟩ := td
        have hoe : ob = bits r i := bfs_end bB haN (fun s row h1 e h2 => (hed s row h1 e h2).2.2.2) (fun s p hs h => (hfin s p hs h).resolve_left (by simp)) (hbl r i) hans
        have hfz := freeze_bA (lo := σ.n) bf.go (Nat.le_refl _) (by rw [bf.ol]; omega)
        rw [bf.ol] at hfz
        have d0 : decide (((0 : Nat) : Int) > 0) = false := rfl
        simp only [go_sem, ↓reduceIte, Int.reduceEq, Nat.reduceBEq, Int.reduceBEq, Int.reduceBNe, Int.reduceLT, Int.reduceLE, Nat.reduceAdd, Nat.reducePow, Nat.reduceEqDiff, Nat.reduceLT, Nat.reduceLeDiff, Nat.reduceMul, Nat.reduceSub, t0, t3, t9, t10, t12, hk, List.length_nil, d0]
        exact ⟨by rw [hfz, hoe]; rfl, bf.mod, fun k hk => bf.wk.under (bf.mine k hk), bf.wk, bf.mine⟩
      | cons x todo =>
        obtain ⟨s, p⟩ := x
        obtain ⟨off, cs, rfl, hk, hc0, hc1, hoff, td2⟩ := td.tail
        obtain ⟨hsN, hpL, hsp⟩ := bB.I3 (s, p) (by simp)
        dsimp only at hsN hpL hsp
        have hRsp := bB.I1 s p hsN hsp
        have ix0 : ∀ ρ : St, indexR ρ 2 kt off (todo.length + 1) 2 0 (.cells cs) = .val (.ptr kt (off + 0 * 2)) ρ [] [kt] := fun ρ => indexR_nat (i := 0) (by omega)
        simp only [Nat.zero_mul, Nat.add_zero] at ix0
        have d1 : decide (((todo.length + 1 : Nat) : Int) > 0) = true := by simp
        have hsl1 : ∀ (tm : Tm) (pos : String) (af : Array Edge), tm.at 70 = .row kt off (todo.length + 1) 2 → evalOp (XX fz) tm τ { dst := some 71, op := Op.slice 142 (Operand.tmp 70) (some (Operand.const (Value.int IntKind.i64 1))) none none, type := 142, pos := pos, after := af, guard := none } = .val (.row kt (off + 2) todo.length 2) τ [] [kt] := fun tm pos af q => slice_lo2 q hk
        have hoff0 : off < cs.length := by omega
        have hoff1 : off + 1 < cs.length := by omega
        simp only [go_sem, ↓reduceIte, Int.reduceEq, Nat.reduceBEq, Int.reduceBEq, Int.reduceBNe, Int.reduceLT, Int.reduceLE, Nat.reduceAdd, Nat.reducePow, Nat.reduceEqDiff, Nat.reduceLT, Nat.reduceLeDiff, Nat.reduceMul, Nat.reduceSub, Int.reduceToNat, Nat.mul_one, Nat.zero_mul, Nat.zero_add, Nat.add_zero, Nat.one_mul, t0, t3, t9, t10, t12, hk, d1, ix0, hc0, hc1, hoff0, hoff1, List.length_cons]
        refine ⟨drawOk_rel [] [] rfl (by kernel_rfl) rfl (by simp), ?_⟩
        rw [hsl1 _ _ _ (by simp only [go_sem, ↓reduceIte, Int.reduceEq, Nat.reduceBEq, Int.reduceBEq, Int.reduceBNe, Int.reduceLT, Int.reduceLE, Nat.reduceAdd, Nat.reducePow, Nat.reduceEqDiff, Nat.reduceLT, Nat.reduceLeDiff, Nat.reduceMul, Nat.reduceSub])]
        have fr0 : ∀ tm' : Tm, tm'.at 12 = .row kt (off + 2) todo.length 2 → tm'.at 0 = .ptr P.kw 0 → tm'.at 3 = .d (.int .i64 (b : Int)) → tm'.at 9 = .row σ.n 0 (P.L + 1) 1 → tm'.at 10 = .row (σ.n + 1) 0 N.es.length 1 → FrB kt P N X (.slc z (intsD l)) bits σ b sb ob todo tm' τ W := fun tm' a1 a2 a3 a4 a5 => ⟨bf, by rw [a1]; exact td2, a2, a3, a4, a5⟩
        simp only [go_sem, ↓reduceIte, Int.reduceEq, Nat.reduceBEq, Int.reduceBEq, Int.reduceBNe, Int.reduceLT, Int.reduceLE, Nat.reduceAdd, Nat.reducePow, Nat.reduceEqDiff, Nat.reduceLT, Nat.reduceLeDiff, Nat.reduceMul, Nat.reduceSub, t0, t3, t9, t10]
        refine Ev.mid (fun tm' τ' W' => ∃ ob' : List Bool, FrB kt P N X (.slc z (intsD l)) bits σ b sb ob' todo tm' τ' W' ∧ Mid bs l N P.L a i b (todo.length + uns N.es.length sb) s p [] sb ob' todo ∧ tm'.at 13 = .d (.int .i64 (s : Int)) ∧ tm'.at 14 = .d (.int .i64 (p : Int))) ?_ ?_
        · intro rest hI
          have bMid : ∀ ob', ob'.length = P.L + 1 → (∀ p', ob.getD p' false = true → ob'.getD p' false = true) → (∀ p', ob'.getD p' false = true → Rch bs l N a i b p') → (s = b → ob'.getD p false = true) → Mid bs l N P.L a i b (todo.length + uns N.es.length sb) s p [] sb ob' todo := fun ob' h1 h2 h3 h4 =>
            ⟨⟨bB.sl, h1, bB.I1, fun x hx => bB.I3 x (by simp [hx]), h3, bB.I5⟩, fun s' p' hs' hq => by
              rcases hfin s' p' hs' hq with h | h
              · rcases List.mem_cons.1 h with h | h
                · injection h with h5 h6; exact .inr (.inl ⟨h5, h6⟩)
                · exact .inl h
              · exact .inr (.inr (h.mono (fun _ _ q => q) h2)), h4, hsp, rfl, fun e he => by cases he⟩
          by_cases hsb : s = b
          · have c1 : ((s : Int) == (b : Int)) = true := by rw [hsb]; simp
            have hpo : p < (bA ob).length := by rw [bA_len, bf.ol]; omega
            simp only [go_sem, ↓reduceIte, Int.reduceEq, Nat.reduceBEq, Int.reduceBEq, Int.reduceBNe, Int.reduceLT, Int.reduceLE, Nat.reduceAdd, Nat.reducePow, Nat.reduceEqDiff, Nat.reduceLT, Nat.reduceLeDiff, Nat.reduceMul, Nat.reduceSub, c1, t9, io _ _ _ hpL, bf.go, hpo, bA_set]
            refine hI _ _ _ ⟨ob.set p true, ⟨bf.out hP hlo (by rw [List.length_set]), ?_, ?_, ?_, ?_, ?_⟩, bMid _ (by rw [List.length_set]; exact bf.ol) (fun _ q => gdS1 q) (fun p' q => ?_) (fun _ => getD_set_self (by rw [bf.ol]; omega)), ?_, ?_⟩
            · refine (td2.stay (by rw [St.n_set]; exact Nat.le_refl _) (St.get_set_ne (by obtain ⟨_, _, _, _, _, _, h5, _⟩ := td2; omega))).eq ?_; simp only [go_sem, ↓reduceIte, Int.reduceEq, Nat.reduceBEq, Int.reduceBEq, Int.reduceBNe, Int.reduceLT, Int.reduceLE, Nat.reduceAdd, Nat.reducePow, Nat.reduceEqDiff, Nat.reduceLT, Nat.reduceLeDiff, Nat.reduceMul, Nat.reduceSub]
            · simp only [go_sem, ↓reduceIte, Int.reduceEq, Nat.reduceBEq, Int.reduceBEq, Int.reduceBNe, Int.reduceLT, Int.reduceLE, Nat.reduceAdd, Nat.reducePow, Nat.reduceEqDiff, Nat.reduceLT, Nat.reduceLeDiff, Nat.reduceMul, Nat.reduceSub, t0]
            · simp only [go_sem, ↓reduceIte, Int.reduceEq, Nat.reduceBEq, Int.reduceBEq, Int.reduceBNe, Int.reduceLT, Int.reduceLE, Nat.reduceAdd, Nat.reducePow, Nat.reduceEqDiff, Nat.reduceLT, Nat.reduceLeDiff, Nat.reduceMul, Nat.reduceSub, t3]
            · simp only [go_sem, ↓reduceIte, Int.reduceEq, Nat.reduceBEq, Int.reduceBEq, Int.reduceBNe, Int.reduceLT, Int.reduceLE, Nat.reduceAdd, Nat.reducePow, Nat.reduceEqDiff, Nat.reduceLT, Nat.reduceLeDiff, Nat.reduceMul, Nat.reduceSub, t9]
            · simp only [go_sem, ↓reduceIte, Int.reduceEq, Nat.reduceBEq, Int.reduceBEq, Int.reduceBNe, Int.reduceLT, Int.reduceLE, Nat.reduceAdd, Nat.reducePow, Nat.reduceEqDiff, Nat.reduceLT, Nat.reduceLeDiff, Nat.reduceMul, Nat.reduceSub, t10]
            · rcases gdS q with h | h
              · subst h; rw [← hsb]; exact hRsp
              · exact bB.I4 p' h
            · simp only [go_sem, ↓reduceIte, Int.reduceEq, Nat.reduceBEq, Int.reduceBEq, Int.reduceBNe, Int.reduceLT, Int.reduceLE, Nat.reduceAdd, Nat.reducePow, Nat.reduceEqDiff, Nat.reduceLT, Nat.reduceLeDiff, Nat.reduceMul, Nat.reduceSub]
            · simp only [go_sem, ↓reduceIte, Int.reduceEq, Nat.reduceBEq, Int.reduceBEq, Int.reduceBNe, Int.reduceLT, Int.reduceLE, Nat.reduceAdd, Nat.reducePow, Nat.reduceEqDiff, Nat.reduceLT, Nat.reduceLeDiff, Nat.reduceMul, Nat.reduceSub]
          · have c1 : ((s : Int) == (b : Int)) = false := by simp; omega
            simp only [go_sem, ↓reduceIte, Int.reduceEq, Nat.reduceBEq, Int.reduceBEq, Int.reduceBNe, Int.reduceLT, Int.reduceLE, Nat.reduceAdd, Nat.reducePow, Nat.reduceEqDiff, Nat.reduceLT, Nat.reduceLeDiff, Nat.reduceMul, Nat.reduceSub, c1]
            exact hI _ _ _ ⟨ob, fr0 _ (by simp only [go_sem, ↓reduceIte, Int.reduceEq, Nat.reduceBEq, Int.reduceBEq, Int.reduceBNe, Int.reduceLT, Int.reduceLE, Nat.reduceAdd, Nat.reducePow, Nat.reduceEqDiff, Nat.reduceLT, Nat.reduceLeDiff, Nat.reduceMul, Nat.reduceSub]) (by simp only [go_sem, ↓reduceIte, Int.reduceEq, Nat.reduceBEq, Int.reduceBEq, Int.reduceBNe, Int.reduceLT, Int.reduceLE, Nat.reduceAdd, Nat.reducePow, Nat.reduceEqDiff, Nat.reduceLT, Nat.reduceLeDiff, Nat.reduceMul, Nat.reduceSub, t0]) (by simp only [go_sem, ↓reduceIte, Int.reduceEq, Nat.reduceBEq, Int.reduceBEq, Int.reduceBNe, Int.reduceLT, Int.reduceLE, Nat.reduceAdd, Nat.reducePow, Nat.reduceEqDiff, Nat.reduceLT, Nat.reduceLeDiff, Nat.reduceMul, Nat.reduceSub, t3]) (by simp only [go_sem, ↓reduceIte, Int.reduceEq, Nat.reduceBEq, Int.reduceBEq, Int.reduceBNe, Int.reduceLT, Int.reduceLE, Nat.reduceAdd, Nat.reducePow, Nat.reduceEqDiff, Nat.reduceLT, Nat.reduceLeDiff, Nat.reduceMul, Nat.reduceSub, t9]) (by simp only [go_sem, ↓reduceIte, Int.reduceEq, Nat.reduceBEq, Int.reduceBEq, Int.reduceBNe, Int.reduceLT, Int.reduceLE, Nat.reduceAdd, Nat.reducePow, Nat.reduceEqDiff, Nat.reduceLT, Nat.reduceLeDiff, Nat.reduceMul, Nat.reduceSub, t10]), bMid _ bf.ol (fun _ q => q) bB.I4 (fun h => absurd h hsb), by simp only [go_sem, ↓reduceIte, Int.reduceEq, Nat.reduceBEq, Int.reduceBEq, Int.reduceBNe, Int.reduceLT, Int.reduceLE, Nat.reduceAdd, Nat.reducePow, Nat.reduceEqDiff, Nat.reduceLT, Nat.reduceLeDiff, Nat.reduceMul, Nat.reduceSub], by simp only [go_sem, ↓reduceIte, Int.reduceEq, Nat.reduceBEq, Int.reduceBEq, Int.reduceBNe, Int.reduceLT, Int.reduceLE, Nat.reduceAdd, Nat.reducePow, Nat.reduceEqDiff, Nat.reduceLT, Nat.reduceLeDiff, Nat.reduceMul, Nat.reduceSub]⟩
        · clear fr0 hsl1 hk hc0 hc1 ix0 d1 hoff0 hoff1 t0 t3 t9 t10 t12 td td2 hoff hfin
          rintro tm τ W ⟨ob, fr, md, t13, t14⟩
          have t0 := fr.t0
          have t3 := fr.t3
          have t9 := fr.t9
          have t10 := fr.t10
          have hget : N.es[s]? = some N.es[s] := by simp [hsN]
          have hrl := hB.l _ (List.getElem_mem hsN)
          simp only [go_sem, ↓reduceIte, Int.reduceEq, Nat.reduceBEq, Int.reduceBEq, Int.reduceBNe, Int.reduceLT, Int.reduceLE, Nat.reduceAdd, Nat.reducePow, Nat.reduceEqDiff, Nat.reduceLT, Nat.reduceLeDiff, Nat.reduceMul, Nat.reduceSub]
          refine Ev.loop_ind (fun k2 tm τ W => ∃ (j : Nat) (sb2 : Nat → List Bool) (todo2 : List (Nat × Nat)) (kt : Nat), k2 = N.es[s].length - j ∧ j ≤ N.es[s].length ∧ FrB kt P N X (.slc z (intsD l)) bits σ b sb2 ob todo2 tm τ W ∧ Mid bs l N P.L a i b (todo.length + uns N.es.length sb) s p (N.es[s].take j) sb2 ob todo2 ∧
              tm.at 13 = .d (.int .i64 (s : Int)) ∧ tm.at 14 = .d (.int .i64 (p : Int)) ∧ tm.at 15 = .d (.int .i64 (j : Int))) ?_ N.es[s].length _ _ _ ⟨0, sb, todo, kt, rfl, by omega, fr.tm (by simp only [go_sem, ↓reduceIte, Int.reduceEq, Nat.reduceBEq, Int.reduceBEq, Int.reduceBNe, Int.reduceLT, Int.reduceLE, Nat.reduceAdd, Nat.reducePow, Nat.reduceEqDiff, Nat.reduceLT, Nat.reduceLeDiff, Nat.reduceMul, Nat.reduceSub]) (by simp only [go_sem, ↓reduceIte, Int.reduceEq, Nat.reduceBEq, Int.reduceBEq, Int.reduceBNe, Int.reduceLT, Int.reduceLE, Nat.reduceAdd, Nat.reducePow, Nat.reduceEqDiff, Nat.reduceLT, Nat.reduceLeDiff, Nat.reduceMul, Nat.reduceSub]) (by simp only [go_sem, ↓reduceIte, Int.reduceEq, Nat.reduceBEq, Int.reduceBEq, Int.reduceBNe, Int.reduceLT, Int.reduceLE, Nat.reduceAdd, Nat.reducePow, Nat.reduceEqDiff, Nat.reduceLT, Nat.reduceLeDiff, Nat.reduceMul, Nat.reduceSub]) (by simp only [go_sem, ↓reduceIte, Int.reduceEq, Nat.reduceBEq, Int.reduceBEq, Int.reduceBNe, Int.reduceLT, Int.reduceLE, Nat.reduceAdd, Nat.reducePow, Nat.reduceEqDiff, Nat.reduceLT, Nat.reduceLeDiff, Nat.reduceMul, Nat.reduceSub]) (by simp only [go_sem, ↓reduceIte, Int.reduceEq, Nat.reduceBEq, Int.reduceBEq, Int.reduceBNe, Int.reduceLT, Int.reduceLE, Nat.reduceAdd, Nat.reducePow, Nat.reduceEqDiff, Nat.reduceLT, Nat.reduceLeDiff, Nat.reduceMul, Nat.reduceSub]), md, by simp only [go_sem, ↓reduceIte, Int.reduceEq, Nat.reduceBEq, Int.reduceBEq, Int.reduceBNe, Int.reduceLT, Int.reduceLE, Nat.reduceAdd, Nat.reducePow, Nat.reduceEqDiff, Nat.reduceLT, Nat.reduceLeDiff, Nat.reduceMul, Nat.reduceSub, t13], by simp only [go_sem, ↓reduceIte, Int.reduceEq, Nat.reduceBEq, Int.reduceBEq, Int.reduceBNe, Int.reduceLT, Int.reduceLE, Nat.reduceAdd, Nat.reducePow, Nat.reduceEqDiff, Nat.reduceLT, Nat.reduceLeDiff, Nat.reduceMul, Nat.reduceSub, t14], by simp only [go_sem, ↓reduceIte, Int.reduceEq, Nat.reduceBEq, Int.reduceBEq, Int.reduceBNe, Int.reduceLT, Int.reduceLE, Nat.reduceAdd, Nat.reducePow, Nat.reduceEqDiff, Nat.reduceLT, Nat.reduceLeDiff, Nat.reduceMul, Nat.reduceSub]; rfl⟩
          clear fr md t0 t3 t9 t10 t13 t14 bf bB
          rintro k2 tm τ W ⟨j, sb2, todo2, kt, rfl, hj, fr, md, t13, t14, t15⟩ ih2
          have t0 := fr.t0
          have t3 := fr.t3
          have t9 := fr.t9
          have t10 := fr.t10
          have bf := fr.bf
          by_cases hl : j < N.es[s].length
          · have hge : N.es[s][j]? = some N.es[s][j] := by simp [hl]
            have hem := List.getElem_mem hl
            obtain ⟨k1, k2, k3, k4⟩ := hed s _ hget _ hem
            have hcl := hcall s p _ hRsp hpL hget _ hem
            have hstep := fun (k : Nat) (h : (posW bs l).st N.es[s][j].kind N.es[s][j].num p k) => Rch.step (a := a) (i := i) hRsp hget hem h
            have htk : N.es[s].take (j + 1) = N.es[s].take j ++ [N.es[s][j]] := by simp
            generalize N.es[s][j] = e at hge hem k1 k2 k3 k4 hcl hstep htk
            have hn := bf.n
            have ne1 : P.kw ≠ τ.n := by omega
            have ne2 : P.kw < τ.n := by omega
            have ne3 : P.kw ≠ τ.n + 1 := by omega
            have ne4 : P.kw < τ.n + 1 := by omega
            have lz : low σ.n [τ.n] = [] := by rw [low_cons_ge (by omega)]; rfl
            have lz1 : low σ.n [τ.n + 1] = [] := by rw [low_cons_ge (by omega)]; rfl
            simp only [go_sem, ↓reduceIte, Int.reduceEq, Nat.reduceBEq, Int.reduceBEq, Int.reduceBNe, Int.reduceLT, Int.reduceLE, Nat.reduceAdd, Nat.reducePow, Nat.reduceEqDiff, Nat.reduceLT, Nat.reduceLeDiff, Nat.reduceMul, Nat.reduceSub, t0, t3, t9, t10, t13, t14, t15, bf.wk.cell, index_es hget, len_rw, dec_lt' hl, index_rw hge, Eg.D_c, tokl, wL, hmk1, rep_bools, ne1, ne2, lz]
            refine Ev.mid (fun tm' τ' W' => ∃ tb, FrB kt P N X (.slc z (intsD l)) bits σ b sb2 ob todo2 tm' τ' W' ∧ Rd (τ.n + 1) τ' (tm'.at 17) tb ∧ tb.length = P.L + 1 ∧ (∀ k, k ≤ P.L → (tb.getD k false = true ↔ (posW bs l).st e.kind e.num p k)) ∧ τ'.get τ.n = .cells [.d (.int .i64 e.kind), .d (.int .i64 e.num), .d (.int .i64 (e.to : Int))] ∧ τ.n + 1 < τ'.n ∧ tm'.at 16 = .ptr τ.n 0 ∧
                tm'.at 13 = .d (.int .i64 (s : Int)) ∧ tm'.at 14 = .d (.int .i64 (p : Int)) ∧ tm'.at 15 = .d (.int .i64 (j : Int))) ?_ ?_
            · intro rest hI
              have hge1 : ∀ k, k < τ.n → (((τ.push (.cells [.d (.int .i64 0), .d (.int .i64 0), .d (.int .i64 0)])).set τ.n (.cells [.d (.int .i64 e.kind), .d (.int .i64 e.num), .d (.int .i64 (e.to : Int))])).push (.cells (bA (List.replicate (P.L + 1) false)))).get k = τ.get k := fun k hk => by
                rw [St.get_push_ne (by simp only [St.n_set, St.n_push]; omega), St.get_set_ne (by omega), St.get_push_ne hk]
              have hgb : (((τ.push (.cells [.d (.int .i64 0), .d (.int .i64 0), .d (.int .i64 0)])).set τ.n (.cells [.d (.int .i64 e.kind), .d (.int .i64 e.num), .d (.int .i64 (e.to : Int))])).push (.cells (bA (List.replicate (P.L + 1) false)))).get τ.n = .cells [.d (.int .i64 e.kind), .d (.int .i64 e.num), .d (.int .i64 (e.to : Int))] := by
                rw [St.get_push_ne (by simp only [St.n_set, St.n_push]; omega), St.get_set_eq]
              have hgr : (((τ.push (.cells [.d (.int .i64 0), .d (.int .i64 0), .d (.int .i64 0)])).set τ.n (.cells [.d (.int .i64 e.kind), .d (.int .i64 e.num), .d (.int .i64 (e.to : Int))])).push (.cells (bA (List.replicate (P.L + 1) false)))).get (τ.n + 1) = .cells (bA (List.replicate (P.L + 1) false)) :=
                St.get_push_eq' (by simp only [St.n_set, St.n_push])
              have hn1 : (((τ.push (.cells [.d (.int .i64 0), .d (.int .i64 0), .d (.int .i64 0)])).set τ.n (.cells [.d (.int .i64 e.kind), .d (.int .i64 e.num), .d (.int .i64 (e.to : Int))])).push (.cells (bA (List.replicate (P.L + 1) false)))).n = τ.n + 2 := by simp only [St.n_set, St.n_push]
              have pull : ∀ {α : Type} (x y : α), x = y → x = y := fun _ _ h => h
              have w1 : ∀ (q : Nat), ∀ k, k < τ.n → (((τ.push (.cells [.d (.int .i64 0), .d (.int .i64 0), .d (.int .i64 0)])).set τ.n (.cells [.d (.int .i64 e.kind), .d (.int .i64 e.num), .d (.int .i64 (e.to : Int))])).push (.cells (bA (List.replicate (P.L + 1) false)))).get k = τ.get k := fun _ => hge1
              have hce := bf.wk.cell
              rw [← hge1 _ ne2] at hce
              have ir2 : ∀ (ρ : St) (p : Nat) (tb : List Bool), p ≤ P.L → indexR ρ 1 (τ.n + 1) 0 (P.L + 1) 1 (p : Int) (.cells (bA tb)) = .val (.ptr (τ.n + 1) (0 + p * 1)) ρ [] [τ.n + 1] := fun ρ p tb hp => indexR_nat (by omega)
              simp only [Nat.zero_add, Nat.mul_one] at ir2
              generalize ((τ.push (.cells [.d (.int .i64 0), .d (.int .i64 0), .d (.int .i64 0)])).set τ.n (.cells [.d (.int .i64 e.kind), .d (.int .i64 e.num), .d (.int .i64 (e.to : Int))])).push (.cells (bA (List.replicate (P.L + 1) false))) = ρ at hge1 hgb hgr hn1 hce ⊢
              have row1 : ∀ tb : List Bool, tb.length = P.L + 1 → ∀ tm' : Tm, tm'.at 0 = tm.at 0 → tm'.at 3 = tm.at 3 → tm'.at 9 = tm.at 9 → tm'.at 10 = tm.at 10 → tm'.at 12 = tm.at 12 → FrB kt P N X (.slc z (intsD l)) bits σ b sb2 ob todo2 tm' (ρ.set (τ.n + 1) (.cells (bA tb))) W := fun tb htb tm' a1 a2 a3 a4 a5 =>
                (fr.stay hP hlo (by rw [St.n_set]; omega) fun k hk => by rw [St.get_set_ne (by omega), hge1 k hk]).tm a1 a2 a3 a4 a5
              have hrep : ∀ p, p ≤ P.L → p < (bA (List.replicate (P.L + 1) false)).length := fun p hp => by rw [bA_len, List.length_replicate]; omega
              have rdd : ∀ (tb : List Bool) (a : A), tb.length = P.L + 1 → a = .row (τ.n + 1) 0 (P.L + 1) 1 → Rd (τ.n + 1) (ρ.set (τ.n + 1) (.cells (bA tb))) a tb := fun tb a htb ha =>
                .inr ⟨by rw [htb]; exact ha, St.get_set_eq⟩
              rcases (show e.kind = 0 ∨ e.kind = 1 ∨ e.kind = 2 by omega) with h | h | h
              · have c1 : (e.kind == 0) = true := by rw [h]; rfl
                simp only [go_sem, ↓reduceIte, Int.reduceEq, Nat.reduceBEq, Int.reduceBEq, Int.reduceBNe, Int.reduceLT, Int.reduceLE, Nat.reduceAdd, Nat.reducePow, Nat.reduceEqDiff, Nat.reduceLT, Nat.reduceLeDiff, Nat.reduceMul, Nat.reduceSub, c1, t14, hgr, ir2 _ _ _ hpL, hrep _ hpL, bA_set, lz1]
                refine hI _ _ _ ⟨(List.replicate (P.L + 1) false).set p true, row1 _ (by simp) _ ?_ ?_ ?_ ?_ ?_, rdd _ _ (by simp) ?_, by simp, fun k hk => ?_, by rw [St.get_set_ne (by omega)]; exact hgb, by rw [St.n_set]; omega, ?_, ?_, ?_, ?_⟩
                case refine_7 => rw [rep_set (by omega), h]; exact st0.symm
                all_goals (simp only [go_sem, ↓reduceIte, Int.reduceEq, Nat.reduceBEq, Int.reduceBEq, Int.reduceBNe, Int.reduceLT, Int.reduceLE, Nat.reduceAdd, Nat.reducePow, Nat.reduceEqDiff, Nat.reduceLT, Nat.reduceLeDiff, Nat.reduceMul, Nat.reduceSub, t13, t14, t15])
              · have c1 : (e.kind == 0) = false := by rw [h]; rfl
                have c2 : (e.kind == 1) = true := by rw [h]; rfl
                have row0 : ∀ tm' : Tm, tm'.at 0 = tm.at 0 → tm'.at 3 = tm.at 3 → tm'.at 9 = tm.at 9 → tm'.at 10 = tm.at 10 → tm'.at 12 = tm.at 12 → FrB kt P N X (.slc z (intsD l)) bits σ b sb2 ob todo2 tm' ρ W := fun tm' a1 a2 a3 a4 a5 =>
                  (fr.stay hP hlo (by omega) hge1).tm a1 a2 a3 a4 a5
                have rd0 : ∀ a : A, a = .row (τ.n + 1) 0 (P.L + 1) 1 → Rd (τ.n + 1) ρ a (List.replicate (P.L + 1) false) := fun a ha => .inr ⟨by rw [List.length_replicate]; exact ha, hgr⟩
                by_cases hp : p < P.L
                · have hpl : p < l.length := by omega
                  have hlp : l[p]? = some l[p] := by simp [hpl]
                  have ixt := fun ρ : St => index_ints (σ := ρ) (z := z) hpl
                  by_cases he : l[p] = e.num
                  · have c3 : (l[p] == e.num) = true := by simpa using he
                    simp only [go_sem, ↓reduceIte, Int.reduceEq, Nat.reduceBEq, Int.reduceBEq, Int.reduceBNe, Int.reduceLT, Int.reduceLE, Nat.reduceAdd, Nat.reducePow, Nat.reduceEqDiff, Nat.reduceLT, Nat.reduceLeDiff, Nat.reduceMul, Nat.reduceSub, c1, c2, t0, t14, hce, tokl, dec_lt' hp, ixt, hgb, c3]
                    refine ⟨drawOk_rel [] [] rfl (by kernel_rfl) rfl (by simp), ?_⟩
                    simp only [go_sem, ↓reduceIte, Int.reduceEq, Nat.reduceBEq, Int.reduceBEq, Int.reduceBNe, Int.reduceLT, Int.reduceLE, Nat.reduceAdd, Nat.reducePow, Nat.reduceEqDiff, Nat.reduceLT, Nat.reduceLeDiff, Nat.reduceMul, Nat.reduceSub, t14, wrap_succ' hp (show P.L < 1000000000 by omega), hgr, ir2 _ _ _ (show p + 1 ≤ P.L by omega), hrep _ (show p + 1 ≤ P.L by omega), bA_set, lz1]
                    refine hI _ _ _ ⟨(List.replicate (P.L + 1) false).set (p + 1) true, row1 _ (by simp) _ ?_ ?_ ?_ ?_ ?_, rdd _ _ (by simp) ?_, by simp, fun k hk => ?_, by rw [St.get_set_ne (by omega)]; exact hgb, by rw [St.n_set]; omega, ?_, ?_, ?_, ?_⟩
                    case refine_7 => rw [rep_set (by omega), h, st1, hlp, he]; exact ⟨fun q => ⟨rfl, q⟩, fun q => q.2⟩
                    all_goals (simp only [go_sem, ↓reduceIte, Int.reduceEq, Nat.reduceBEq, Int.reduceBEq, Int.reduceBNe, Int.reduceLT, Int.reduceLE, Nat.reduceAdd, Nat.reducePow, Nat.reduceEqDiff, Nat.reduceLT, Nat.reduceLeDiff, Nat.reduceMul, Nat.reduceSub, t0, t13, t14, t15])
                  · have c3 : (l[p] == e.num) = false := by simpa using he
                    simp only [go_sem, ↓reduceIte, Int.reduceEq, Nat.reduceBEq, Int.reduceBEq, Int.reduceBNe, Int.reduceLT, Int.reduceLE, Nat.reduceAdd, Nat.reducePow, Nat.reduceEqDiff, Nat.reduceLT, Nat.reduceLeDiff, Nat.reduceMul, Nat.reduceSub, c1, c2, t0, t14, hce, tokl, dec_lt' hp, ixt, hgb, c3]
                    refine ⟨drawOk_rel [] [] rfl (by kernel_rfl) rfl (by simp), ?_⟩
                    refine hI _ _ _ ⟨List.replicate (P.L + 1) false, row0 _ ?_ ?_ ?_ ?_ ?_, rd0 _ ?_, by simp, fun k hk => ?_, hgb, by omega, ?_, ?_, ?_, ?_⟩
                    case refine_7 => rw [repF_get, h, st1, hlp]; simp [he]
                    all_goals (simp only [go_sem, ↓reduceIte, Int.reduceEq, Nat.reduceBEq, Int.reduceBEq, Int.reduceBNe, Int.reduceLT, Int.reduceLE, Nat.reduceAdd, Nat.reducePow, Nat.reduceEqDiff, Nat.reduceLT, Nat.reduceLeDiff, Nat.reduceMul, Nat.reduceSub, t0, t13, t14, t15])
                · simp only [go_sem, ↓reduceIte, Int.reduceEq, Nat.reduceBEq, Int.reduceBEq, Int.reduceBNe, Int.reduceLT, Int.reduceLE, Nat.reduceAdd, Nat.reducePow, Nat.reduceEqDiff, Nat.reduceLT, Nat.reduceLeDiff, Nat.reduceMul, Nat.reduceSub, c1, c2, t0, t14, hce, tokl, dec_ge' hp]
                  refine ⟨drawOk_rel [] [] rfl (by kernel_rfl) rfl (by simp), ?_⟩
                  refine hI _ _ _ ⟨List.replicate (P.L + 1) false, row0 _ ?_ ?_ ?_ ?_ ?_, rd0 _ ?_, by simp, fun k hk => ?_, hgb, by omega, ?_, ?_, ?_, ?_⟩
                  case refine_7 => rw [repF_get, h, st1, List.getElem?_eq_none (by omega)]; simp
                  all_goals (simp only [go_sem, ↓reduceIte, Int.reduceEq, Nat.reduceBEq, Int.reduceBEq, Int.reduceBNe, Int.reduceLT, Int.reduceLE, Nat.reduceAdd, Nat.reducePow, Nat.reduceEqDiff, Nat.reduceLT, Nat.reduceLeDiff, Nat.reduceMul, Nat.reduceSub, t0, t13, t14, t15])
              · have c1 : (e.kind == 0) = false := by rw [h]; rfl
                have c2 : (e.kind == 1) = false := by rw [h]; rfl
                have hfr := fr.stay (ρ := ρ) hP hlo (by omega) hge1
                obtain ⟨ρ2, T, h1, h2, h3, h4, h5⟩ := hcl h ρ hfr.bf.wk (by omega)
                have hnn : ((e.num.toNat : Nat) : Int) = e.num := Int.toNat_of_nonneg k3
                rw [hnn] at h1
                simp only [go_sem, ↓reduceIte, Int.reduceEq, Nat.reduceBEq, Int.reduceBEq, Int.reduceBNe, Int.reduceLT, Int.reduceLE, Nat.reduceAdd, Nat.reducePow, Nat.reduceEqDiff, Nat.reduceLT, Nat.reduceLeDiff, Nat.reduceMul, Nat.reduceSub, c1, c2, t0, t14, hgb]
                refine ⟨_, _, _, h1, ?_⟩
                refine hI _ _ _ ⟨bits e.num.toNat p, (hfr.call hP hlo h2 h5 h4).tm ?_ ?_ ?_ ?_ ?_, .inl ?_, hbl _ _, fun k hk => ?_, ?_, by omega, ?_, ?_, ?_, ?_⟩
                case refine_7 => rw [hbits _ _ _ hpL hk, h]; exact st2.symm
                case refine_8 => rw [h2.same _ (by omega) (fun q => by have := ((h5 _ q).tag hP).2; omega)]; exact hgb
                all_goals (simp only [go_sem, ↓reduceIte, Int.reduceEq, Nat.reduceBEq, Int.reduceBEq, Int.reduceBNe, Int.reduceLT, Int.reduceLE, Nat.reduceAdd, Nat.reducePow, Nat.reduceEqDiff, Nat.reduceLT, Nat.reduceLeDiff, Nat.reduceMul, Nat.reduceSub, t0, t13, t14, t15])
            · have hkt : kt < τ.n := by obtain ⟨_, _, _, _, _, _, _, h6⟩ := fr.td; exact h6
              generalize hke : τ.n = ke at *
              have hke2 : σ.n + 2 + N.es.length ≤ ke := by omega
              clear t0 t3 t9 t10 t13 t14 t15 bf ne1 ne2 ne3 ne4 lz lz1 hn hge hcl
              rintro tm τ1 W ⟨tb, fr, rd, htb, hst, gb, hbn, t16, t13, t14, t15⟩
              simp only [go_sem, ↓reduceIte, Int.reduceEq, Nat.reduceBEq, Int.reduceBEq, Int.reduceBNe, Int.reduceLT, Int.reduceLE, Nat.reduceAdd, Nat.reducePow, Nat.reduceEqDiff, Nat.reduceLT, Nat.reduceLeDiff, Nat.reduceMul, Nat.reduceSub]
              refine Ev.loop_ind (fun k3 tm τ2 W => ∃ (k : Nat) (sb3 : Nat → List Bool) (todo3 : List (Nat × Nat)) (kt : Nat), k3 = P.L + 1 - k ∧ k ≤ P.L + 1 ∧ FrB kt P N X (.slc z (intsD l)) bits σ b sb3 ob todo3 tm τ2 W ∧ (kt < ke ∨ ke + 1 < kt) ∧ Mid bs l N P.L a i b (todo.length + uns N.es.length sb) s p (N.es[s].take j) sb3 ob todo3 ∧
                  (∀ k', k' < k → tb.getD k' false = true → (sb3 e.to).getD k' false = true) ∧ Rd (ke + 1) τ2 (tm.at 17) tb ∧ τ2.get ke = .cells [.d (.int .i64 e.kind), .d (.int .i64 e.num), .d (.int .i64 (e.to : Int))] ∧ ke + 1 < τ2.n ∧ tm.at 16 = .ptr ke 0 ∧
                  tm.at 13 = .d (.int .i64 (s : Int)) ∧ tm.at 14 = .d (.int .i64 (p : Int)) ∧ tm.at 15 = .d (.int .i64 (j : Int)) ∧ tm.at 18 = .d (.int .i64 (k : Int))) ?_ (P.L + 1) _ _ _ ⟨0, sb2, todo2, kt, rfl, by omega, fr.tm (by simp only [go_sem, ↓reduceIte, Int.reduceEq, Nat.reduceBEq, Int.reduceBEq, Int.reduceBNe, Int.reduceLT, Int.reduceLE, Nat.reduceAdd, Nat.reducePow, Nat.reduceEqDiff, Nat.reduceLT, Nat.reduceLeDiff, Nat.reduceMul, Nat.reduceSub]) (by simp only [go_sem, ↓reduceIte, Int.reduceEq, Nat.reduceBEq, Int.reduceBEq, Int.reduceBNe, Int.reduceLT, Int.reduceLE, Nat.reduceAdd, Nat.reducePow, Nat.reduceEqDiff, Nat.reduceLT, Nat.reduceLeDiff, Nat.reduceMul, Nat.reduceSub]) (by simp only [go_sem, ↓reduceIte, Int.reduceEq, Nat.reduceBEq, Int.reduceBEq, Int.reduceBNe, Int.reduceLT, Int.reduceLE, Nat.reduceAdd, Nat.reducePow, Nat.reduceEqDiff, Nat.reduceLT, Nat.reduceLeDiff, Nat.reduceMul, Nat.reduceSub]) (by simp only [go_sem, ↓reduceIte, Int.reduceEq, Nat.reduceBEq, Int.reduceBEq, Int.reduceBNe, Int.reduceLT, Int.reduceLE, Nat.reduceAdd, Nat.reducePow, Nat.reduceEqDiff, Nat.reduceLT, Nat.reduceLeDiff, Nat.reduceMul, Nat.reduceSub]) (by simp only [go_sem, ↓reduceIte, Int.reduceEq, Nat.reduceBEq, Int.reduceBEq, Int.reduceBNe, Int.reduceLT, Int.reduceLE, Nat.reduceAdd, Nat.reducePow, Nat.reduceEqDiff, Nat.reduceLT, Nat.reduceLeDiff, Nat.reduceMul, Nat.reduceSub]), .inl hkt, md, fun k' h => by omega, by simp only [go_sem, ↓reduceIte, Int.reduceEq, Nat.reduceBEq, Int.reduceBEq, Int.reduceBNe, Int.reduceLT, Int.reduceLE, Nat.reduceAdd, Nat.reducePow, Nat.reduceEqDiff, Nat.reduceLT, Nat.reduceLeDiff, Nat.reduceMul, Nat.reduceSub]; exact rd, gb, hbn, by simp only [go_sem, ↓reduceIte, Int.reduceEq, Nat.reduceBEq, Int.reduceBEq, Int.reduceBNe, Int.reduceLT, Int.reduceLE, Nat.reduceAdd, Nat.reducePow, Nat.reduceEqDiff, Nat.reduceLT, Nat.reduceLeDiff, Nat.reduceMul, Nat.reduceSub, t16], by simp only [go_sem, ↓reduceIte, Int.reduceEq, Nat.reduceBEq, Int.reduceBEq, Int.reduceBNe, Int.reduceLT, Int.reduceLE, Nat.reduceAdd, Nat.reducePow, Nat.reduceEqDiff, Nat.reduceLT, Nat.reduceLeDiff, Nat.reduceMul, Nat.reduceSub, t13], by simp only [go_sem, ↓reduceIte, Int.reduceEq, Nat.reduceBEq, Int.reduceBEq, Int.reduceBNe, Int.reduceLT, Int.reduceLE, Nat.reduceAdd, Nat.reducePow, Nat.reduceEqDiff, Nat.reduceLT, Nat.reduceLeDiff, Nat.reduceMul, Nat.reduceSub, t14], by simp only [go_sem, ↓reduceIte, Int.reduceEq, Nat.reduceBEq, Int.reduceBEq, Int.reduceBNe, Int.reduceLT, Int.reduceLE, Nat.reduceAdd, Nat.reducePow, Nat.reduceEqDiff, Nat.reduceLT, Nat.reduceLeDiff, Nat.reduceMul, Nat.reduceSub, t15], by simp only [go_sem, ↓reduceIte, Int.reduceEq, Nat.reduceBEq, Int.reduceBEq, Int.reduceBNe, Int.reduceLT, Int.reduceLE, Nat.reduceAdd, Nat.reducePow, Nat.reduceEqDiff, Nat.reduceLT, Nat.reduceLeDiff, Nat.reduceMul, Nat.reduceSub]; rfl⟩
              clear fr rd gb hbn t16 t13 t14 t15 md hkt
              rintro k3 tm τ2 W ⟨k, sb3, todo3, kt, rfl, hkL, fr, hkt, md, hdn, rd, gb, hbn, t16, t13, t14, t15, t18⟩ ih3
              have t0 := fr.t0
              have t3 := fr.t3
              have t9 := fr.t9
              have t10 := fr.t10
              have bf := fr.bf
              have rdl := rd.len
              rw [htb] at rdl
              by_cases hkl : k < P.L + 1
              · obtain ⟨Pp, R1, R2, ix1, ld1⟩ := rd.idx (i := k) (by omega)
                cases hb1 : tb.getD k false with
                | false =>
                  rw [hb1] at ld1
                  simp only [go_sem, ↓reduceIte, Int.reduceEq, Nat.reduceBEq, Int.reduceBEq, Int.reduceBNe, Int.reduceLT, Int.reduceLE, Nat.reduceAdd, Nat.reducePow, Nat.reduceEqDiff, Nat.reduceLT, Nat.reduceLeDiff, Nat.reduceMul, Nat.reduceSub, t18, rdl, dec_lt' hkl, ix1, ld1, wrap_succ' hkl (show P.L + 1 < 1000000000 by omega)]
                  refine ih3 _ _ _ _ (show P.L + 1 - (k + 1) < _ by omega) ⟨k + 1, sb3, todo3, kt, rfl, hkl, fr.tm ?_ ?_ ?_ ?_ ?_, hkt, md, fun k' h1 h2 => ?_, ?_, gb, hbn, ?_, ?_, ?_, ?_, ?_⟩
                  case refine_6 => 
                    rcases Nat.lt_or_ge k' k with q | q
                    · exact hdn k' q h2
                    · obtain rfl : k' = k := by omega
                      rw [hb1] at h2; cases h2
                  case refine_7 => simp only [go_sem, ↓reduceIte, Int.reduceEq, Nat.reduceBEq, Int.reduceBEq, Int.reduceBNe, Int.reduceLT, Int.reduceLE, Nat.reduceAdd, Nat.reducePow, Nat.reduceEqDiff, Nat.reduceLT, Nat.reduceLeDiff, Nat.reduceMul, Nat.reduceSub]; exact rd
                  all_goals (simp only [go_sem, ↓reduceIte, Int.reduceEq, Nat.reduceBEq, Int.reduceBEq, Int.reduceBNe, Int.reduceLT, Int.reduceLE, Nat.reduceAdd, Nat.reducePow, Nat.reduceEqDiff, Nat.reduceLT, Nat.reduceLeDiff, Nat.reduceMul, Nat.reduceSub, t13, t14, t15, t16])
                | true =>
                  rw [hb1] at ld1
                  obtain ⟨gse, lse⟩ := bf.gs e.to k4
                  have cse := bA_get (l := sb3 e.to) (i := k) (by omega)
                  cases hse : (sb3 e.to).getD k false with
                  | true =>
                    rw [hse] at cse
                    simp only [go_sem, ↓reduceIte, Int.reduceEq, Nat.reduceBEq, Int.reduceBEq, Int.reduceBNe, Int.reduceLT, Int.reduceLE, Nat.reduceAdd, Nat.reducePow, Nat.reduceEqDiff, Nat.reduceLT, Nat.reduceLeDiff, Nat.reduceMul, Nat.reduceSub, t10, t16, t18, rdl, dec_lt' hkl, ix1, ld1, gb, bf.gS, ix _ _ k4, cS _ k4, gse, ir _ _ _ _ (show k ≤ P.L by omega), cse, wrap_succ' hkl (show P.L + 1 < 1000000000 by omega)]
                    refine ih3 _ _ _ _ (show P.L + 1 - (k + 1) < _ by omega) ⟨k + 1, sb3, todo3, kt, rfl, hkl, fr.tm ?_ ?_ ?_ ?_ ?_, hkt, md, fun k' h1 h2 => ?_, ?_, gb, hbn, ?_, ?_, ?_, ?_, ?_⟩
                    case refine_6 => 
                      rcases Nat.lt_or_ge k' k with q | q
                      · exact hdn k' q h2
                      · obtain rfl : k' = k := by omega
                        exact hse
                    case refine_7 => simp only [go_sem, ↓reduceIte, Int.reduceEq, Nat.reduceBEq, Int.reduceBEq, Int.reduceBNe, Int.reduceLT, Int.reduceLE, Nat.reduceAdd, Nat.reducePow, Nat.reduceEqDiff, Nat.reduceLT, Nat.reduceLeDiff, Nat.reduceMul, Nat.reduceSub]; exact rd
                    all_goals (simp only [go_sem, ↓reduceIte, Int.reduceEq, Nat.reduceBEq, Int.reduceBEq, Int.reduceBNe, Int.reduceLT, Int.reduceLE, Nat.reduceAdd, Nat.reducePow, Nat.reduceEqDiff, Nat.reduceLT, Nat.reduceLeDiff, Nat.reduceMul, Nat.reduceSub, t10, t13, t14, t15, t16])
                  | false =>
                    rw [hse] at cse
                    have lzs : low σ.n [srB σ.n e.to] = [] := by rw [low_cons_ge (by rw [srB_eq]; omega)]; rfl
                    have hbl2 : k < (bA (sb3 e.to)).length := by rw [bA_len]; omega
                    have nse : srB σ.n e.to ≠ ke := by rw [srB_eq]; omega
                    have nes : ke ≠ srB σ.n e.to := by rw [srB_eq]; omega
                    simp only [go_sem, ↓reduceIte, Int.reduceEq, Nat.reduceBEq, Int.reduceBEq, Int.reduceBNe, Int.reduceLT, Int.reduceLE, Nat.reduceAdd, Nat.reducePow, Nat.reduceEqDiff, Nat.reduceLT, Nat.reduceLeDiff, Nat.reduceMul, Nat.reduceSub, t10, t16, t18, rdl, dec_lt' hkl, ix1, ld1, gb, bf.gS, ix _ _ k4, cS _ k4, gse, ir _ _ _ _ (show k ≤ P.L by omega), cse, hbl2, bA_set, lzs, nes, wrap_succ' hkl (show P.L + 1 < 1000000000 by omega)]
                    have bf3 := bf.see hP hlo (s := e.to) (p := k) k4
                    have md3 := md.see k4 (show k ≤ P.L by omega) hse (hstep k ((hst k (by omega)).1 hb1))
                    have hm3 := md.m
                    have hm4 := hm
                    simp only [List.length_cons] at hm4
                    have td3 : TodoP (σ.n + 2 + N.es.length) ((τ2.set (srB σ.n e.to) (.cells (bA ((sb3 e.to).set k true)))).push (.cells [.d (.int .i64 (e.to : Int)), .d (.int .i64 (k : Int))])) (tm.at 12) todo3 kt := fr.td.stay (by simp only [St.n_push, St.n_set]; omega) (by
                      obtain ⟨_, _, _, _, _, _, h5, h6⟩ := fr.td
                      rw [St.get_push_ne (by rw [St.n_set]; exact h6), St.get_set_ne (by rw [srB_eq]; omega)])
                    have hklt : kt < τ2.n := by obtain ⟨_, _, _, _, _, _, _, h6⟩ := fr.td; exact h6
                    have bf4 := bf3.stay (ρ := (τ2.set (srB σ.n e.to) (.cells (bA ((sb3 e.to).set k true)))).push (.cells [.d (.int .i64 (e.to : Int)), .d (.int .i64 (k : Int))])) hP hlo (by simp only [St.n_push]; omega) (fun q hq => St.get_push_ne (by rw [St.n_set]; omega))
                    have g4 : ∀ q, σ.n + 2 + N.es.length ≤ q → q < τ2.n → ((τ2.set (srB σ.n e.to) (.cells (bA ((sb3 e.to).set k true)))).push (.cells [.d (.int .i64 (e.to : Int)), .d (.int .i64 (k : Int))])).get q = τ2.get q := fun q h1 h2 => by
                      rw [St.get_push_ne (by rw [St.n_set]; exact h2), St.get_set_ne (by rw [srB_eq]; omega)]
                    obtain ⟨a', τ4, T, happ, td4, n4, g5, hT⟩ := td3.app (j := τ2.n) (n := e.to) (m := k) (St.get_push_eq' (by rw [St.n_set])) (by omega) (by simp only [St.n_push, St.n_set]; omega)
                    have hTl : low σ.n T = [] := low_all fun k hk => by have := hT k hk; omega
                    simp only [St.n_push, St.n_set] at n4 g5 td4
                    simp only [go_sem, ↓reduceIte, Int.reduceEq, Nat.reduceBEq, Int.reduceBEq, Int.reduceBNe, Int.reduceLT, Int.reduceLE, Nat.reduceAdd, Nat.reducePow, Nat.reduceEqDiff, Nat.reduceLT, Nat.reduceLeDiff, Nat.reduceMul, Nat.reduceSub, happ, hTl, t18, wrap_succ' hkl (show P.L + 1 < 1000000000 by omega)]
                    have hkt4 : ∀ q, q < σ.n + 2 + N.es.length → q ≠ kt := fun q hq => by obtain ⟨_, _, _, _, _, _, h5, _⟩ := fr.td; omega
                    refine ih3 _ _ _ _ (show P.L + 1 - (k + 1) < _ by omega) ⟨k + 1, updS sb3 e.to k, todo3 ++ [(e.to, k)], τ2.n + 1, rfl, hkl, ⟨bf4.stay hP hlo (by simp only [St.n_push, St.n_set]; omega) (fun q hq => g5 q (by omega) (hkt4 q hq)), td4.eq ?_, ?_, ?_, ?_, ?_⟩, .inr (by omega), md3, fun k' h1 h2 => ?_, (rd.stay ?_).eq ?_, ?_, by omega, ?_, ?_, ?_, ?_, ?_⟩
                    case refine_6 => 
                      rcases Nat.lt_or_ge k' k with q | q
                      · exact updS_mono (hdn k' q h2)
                      · obtain rfl : k' = k := by omega
                        exact updS_self (by omega)
                    case refine_7 => rw [g5 _ (by omega) (by omega), g4 _ (by omega) (by omega)]
                    case refine_9 => rw [g5 _ (by omega) (by omega), g4 _ (by omega) (by omega)]; exact gb
                    all_goals (simp only [go_sem, ↓reduceIte, Int.reduceEq, Nat.reduceBEq, Int.reduceBEq, Int.reduceBNe, Int.reduceLT, Int.reduceLE, Nat.reduceAdd, Nat.reducePow, Nat.reduceEqDiff, Nat.reduceLT, Nat.reduceLeDiff, Nat.reduceMul, Nat.reduceSub, t0, t3, t9, t10, t13, t14, t15, t16])
              · simp only [go_sem, ↓reduceIte, Int.reduceEq, Nat.reduceBEq, Int.reduceBEq, Int.reduceBNe, Int.reduceLT, Int.reduceLE, Nat.reduceAdd, Nat.reducePow, Nat.reduceEqDiff, Nat.reduceLT, Nat.reduceLeDiff, Nat.reduceMul, Nat.reduceSub, t18, rdl, dec_ge' hkl, t15, wrap_succ' hl (show N.es[s].length < 1000000000 by omega)]
                refine ih2 _ _ _ _ (show N.es[s].length - (j + 1) < _ by omega) ⟨j + 1, sb3, todo3, kt, rfl, hl, fr.tm ?_ ?_ ?_ ?_ ?_, ⟨md.B, md.fin, md.hb, md.me, md.m, fun e' he' k' hk' => ?_⟩, ?_, ?_, ?_⟩
                case refine_6 =>
                  rw [htk] at he'
                  rcases List.mem_append.1 he' with q | q
                  · exact md.done e' q k' hk'
                  · simp at q; subst q
                    have hk'L : k' ≤ P.L := by
                      rcases (show e'.kind = 0 ∨ e'.kind = 1 ∨ e'.kind = 2 by omega) with h | h | h
                      · rw [h] at hk'; rw [st0.1 hk']; exact hpL
                      · rw [h] at hk'; have q2 := (List.getElem?_eq_some_iff.1 (st1.1 hk').1).1; rw [(st1.1 hk').2]; omega
                      · rw [h] at hk'; obtain ⟨y, -, hd⟩ := st2.1 hk'; have := Dx.len hd; omega
                    exact hdn k' (by omega) ((hst k' hk'L).2 hk')
                all_goals (simp only [go_sem, ↓reduceIte, Int.reduceEq, Nat.reduceBEq, Int.reduceBEq, Int.reduceBNe, Int.reduceLT, Int.reduceLE, Nat.reduceAdd, Nat.reducePow, Nat.reduceEqDiff, Nat.reduceLT, Nat.reduceLeDiff, Nat.reduceMul, Nat.reduceSub, t13, t14])
          · simp only [go_sem, ↓reduceIte, Int.reduceEq, Nat.reduceBEq, Int.reduceBEq, Int.reduceBNe, Int.reduceLT, Int.reduceLE, Nat.reduceAdd, Nat.reducePow, Nat.reduceEqDiff, Nat.reduceLT, Nat.reduceLeDiff, Nat.reduceMul, Nat.reduceSub, t0, t3, t9, t10, t13, t14, t15, bf.wk.cell, index_es hget, len_rw, dec_ge' hl]
            have hjl : j = N.es[s].length := by omega
            subst hjl
            rw [List.take_length] at md
            refine ih _ _ _ _ ?_ ⟨sb2, ob, todo2, _, kt, rfl, ?_, bf, fr.td, md.B, fun s' p' hs' hq => ?_, ?_, ?_, ?_, ?_, ?_⟩
            · have := md.m; simp only [List.length_cons]; omega
            · have := md.m; simp only [List.length_cons] at hm; omega
            · rcases md.fin s' p' hs' hq with h | ⟨rfl, rfl⟩ | h
              · exact .inl h
              · exact .inr ⟨md.hb, fun row hr e he k hk => by rw [hget] at hr; cases hr; exact md.done e he k hk⟩
              · exact .inr h
            all_goals (simp only [go_sem, ↓reduceIte, Int.reduceEq, Nat.reduceBEq, Int.reduceBEq, Int.reduceBNe, Int.reduceLT, Int.reduceLE, Nat.reduceAdd, Nat.reducePow, Nat.reduceEqDiff, Nat.reduceLT, Nat.reduceLeDiff, Nat.reduceMul, Nat.reduceSub, t0, t3, t9, t10])
  all_goals first | rfl | (simp only [go_sem, ↓reduceIte, Int.reduceEq, Nat.reduceBEq, Int.reduceBEq, Int.reduceBNe, Int.reduceLT, Int.reduceLE, Nat.reduceAdd, Nat.reducePow, Nat.reduceEqDiff, Nat.reduceLT, Nat.reduceLeDiff, Nat.reduceMul, Nat.reduceSub]; done) | (simp only [go_sem, ↓reduceIte, Int.reduceEq, Nat.reduceBEq, Int.reduceBEq, Int.reduceBNe, Int.reduceLT, Int.reduceLE, Nat.reduceAdd, Nat.reducePow, Nat.reduceEqDiff, Nat.reduceLT, Nat.reduceLeDiff, Nat.reduceMul, Nat.reduceSub]; rfl)
end Go.Am

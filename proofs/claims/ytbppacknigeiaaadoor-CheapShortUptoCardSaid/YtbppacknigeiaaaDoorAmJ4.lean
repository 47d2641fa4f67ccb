/- Part J4 of a proof that runs a program's calls on a small machine whose values bear no addresses: no conditions. -/
import Derived.Test.YtbppacknigeiaaaDoorAmJ1
import Derived.Test.YtbppacknigeiaaaDoorAmH3
import Derived.Test.YtbppacknigeiaaaDoorAmZ1
import Derived.Test.YtbppacknigeiaaaDoorAmHE
import Derived.Test.YtbppacknigeiaaaDoorAmU1
set_option autoImplicit false
set_option linter.unusedSimpArgs false
set_option linter.unusedVariables false
set_option linter.unusedSectionVars false
namespace Go.Am
open Go Go.Proofs
variable {fz : Nat → Md}
theorem rep_len (n : Nat) (z : List A) : (rep n z).length = n * z.length := by
  induction n with
  | zero => simp [rep]
  | succ n ih => rw [rep_succ, List.length_append, ih, Nat.succ_mul]; omega
theorem rep_at {n i : Nat} {a b : A} (h : i < n) : ((rep n [a, b]).drop (i * 2)).take 2 = [a, b] := by
  induction n generalizing i with
  | zero => omega
  | succ n ih =>
    rw [rep_succ]
    cases i with
    | zero => rfl
    | succ i =>
      have : (i + 1) * 2 = [a, b].length + i * 2 := by simp; omega
      rw [this, List.drop_append]
      simp only [Nat.add_sub_cancel_left]
      rw [List.drop_eq_nil_of_le (by simp), List.nil_append]
      exact ih (by omega)
theorem SRow.zero {σ : St} {k n : Nat} (h : σ.get k = .cells (rep n [.d (.bool false), .d (.slc true [])])) : SRow σ k (List.replicate n none) :=
  ⟨_, h, by rw [rep_len, List.length_replicate]; rfl, fun i o ho => by
    obtain ⟨h1, rfl⟩ := List.getElem?_eq_some_iff.1 ho
    rw [List.length_replicate] at h1
    exact ⟨true, by rw [rep_at h1]; simp; rfl⟩⟩
theorem pair_at {cs : List A} {i j : Nat} {a b : A} (hi : i * 2 + 2 ≤ cs.length) : ((putAt cs (i * 2) [a, b]).drop (j * 2)).take 2 = if j = i then [a, b] else (cs.drop (j * 2)).take 2 := by
  have hl : (putAt cs (i * 2) [a, b]).length = cs.length := by simp [putAt]
  apply List.ext_getElem?
  intro n
  rw [List.getElem?_take, List.getElem?_drop]
  simp only [putAt]
  by_cases hn : n < 2
  · rw [if_pos hn]
    by_cases e : j = i
    · subst e
      rw [if_pos rfl]
      rcases Nat.lt_or_ge n 1 with q | q
      · obtain rfl : n = 0 := by omega
        rw [List.getElem?_set_ne (by omega), Nat.add_zero, List.getElem?_set_self (by omega)]; rfl
      · obtain rfl : n = 1 := by omega
        rw [List.getElem?_set_self (by rw [List.length_set]; omega)]; rfl
    · rw [if_neg e, List.getElem?_set_ne (by omega), List.getElem?_set_ne (by omega), List.getElem?_take, if_pos hn, List.getElem?_drop]
  · rw [if_neg hn]
    split
    · rw [List.getElem?_eq_none (by simp; omega)]
    · rw [List.getElem?_take, if_neg hn]
theorem SRow.put {σ : St} {k : Nat} {K : List (Option (List Int))} {cs : List A} (h : SRow σ k K) (hk : σ.get k = .cells cs) {i : Nat} (hi : i < K.length) (o : Option (List Int)) (z : Bool) : SRow (σ.set k (.cells (putAt cs (i * 2) [.d (.bool o.isSome), .d (.slc z (intsD (o.getD [])))]))) k (K.set i o) := by
  obtain ⟨cs', h1, h2, h3⟩ := h.ex
  rw [hk] at h1; cases h1
  refine ⟨_, St.get_set_eq, by simp [putAt]; exact h2, fun j p hp => ?_⟩
  rw [pair_at (by omega)]
  by_cases e : j = i
  · subst e
    rw [List.getElem?_set_self hi] at hp; cases hp
    exact ⟨z, by rw [if_pos rfl]⟩
  · rw [List.getElem?_set_ne (Ne.symm e)] at hp
    rw [if_neg e]
    exact h3 j p hp
set_option maxHeartbeats 16000000 in
theorem shorts_c (h48 : fz 48 = .keep) (h83 : fz 83 = .ice) (h101 : fz 101 = .cut) {t : Int} (g : Gr) (hg : SmallG g) (hok : ∀ y ∈ g.bodies, okE t g.bodies.length y) (ht : t ≤ 64) (hle : g.rules.length ≤ 32) (σ : St) :
    ∃ a σ' T, CallsTo (XX fz) (.func 48 []) [g.a] σ a σ' T ∧ NewM σ σ' T ∧ ∃ k, a = .row k 0 g.rules.length 2 ∧ SRow σ' k (jacN g.bodies (g.rules.length + 1)) ∧ σ.n ≤ k ∧ k < σ'.n := by
  refine CallsTo.keepE h48 fn48 (by simp) ?_
  simp only [Tryd.f48, Option.getD_some]
  have hmk := fun σ : St => mksE_nat (σ := σ) (kd := .struct [(0, 1, 4), (1, 1, 34)]) (s := 2) (b := 32) (n := g.rules.length) (z := [.d (.bool false), .d (.slc true [])]) (zv := .agg [.d (.bool false), .d (.slc true [])]) ⟨rfl, by omega, by omega, by omega⟩
  have hbl : g.bodies.length = g.rules.length := by rw [Gr.bodies, List.length_map]
  simp only [go_sem, ↓reduceIte, Int.reduceEq, Nat.reduceBEq, Int.reduceBEq, Int.reduceBNe, Int.reduceLT, Int.reduceLE, Nat.reduceAdd, Nat.reducePow, Nat.reduceEqDiff, Nat.reduceLT, Nat.reduceLeDiff, Nat.reduceMul, Nat.reduceSub, Gr.a, hmk]
  refine Ev.loop_ind (fun m tm τ W => ∃ (r ko : Nat), m = g.rules.length + 1 - r ∧ r ≤ g.rules.length + 1 ∧ W = [] ∧ NewM σ τ [] ∧ σ.n + 1 ≤ τ.n ∧ τ.get σ.n = .cells g.c ∧ SRow τ ko (jacN g.bodies r) ∧ σ.n < ko ∧ ko < τ.n ∧
    tm.at 1 = .ptr σ.n 0 ∧ tm.at 3 = .row ko 0 g.rules.length 2 ∧ tm.at 4 = .d (.int .i64 r)) ?_ (g.rules.length + 1) _ _ _ ⟨0, σ.n + 1, rfl, by omega, rfl, ⟨by simp only [St.n_push]; omega, fun k hk => by rw [St.get_push_ne (by simp only [St.n_push]; omega), St.get_push_ne hk], by simp⟩, by simp only [St.n_push]; omega, by rw [St.get_push_ne (by simp only [St.n_push]; omega), St.get_push_eq], ?_, by omega, by simp only [St.n_push]; omega, ?_, ?_, ?_⟩
  · rintro m tm τ W ⟨r, ko, rfl, hr, rfl, hN, hn, g0, hS, hk1, hk2, t1, t3, t4⟩ ih
    obtain ⟨cs, gk, -, -⟩ := hS.ex
    have hlr : sliceLen τ (.row ko 0 g.rules.length 2) = some g.rules.length := by rw [sliceLen_row, gk]; rfl
    by_cases hl : r ≤ g.rules.length
    · have c : decide ((r : Int) ≤ (g.rules.length : Int)) = true := by simp; omega
      simp only [go_sem, ↓reduceIte, Int.reduceEq, Nat.reduceBEq, Int.reduceBEq, Int.reduceBNe, Int.reduceLT, Int.reduceLE, Nat.reduceAdd, Nat.reducePow, Nat.reduceEqDiff, Nat.reduceLT, Nat.reduceLeDiff, Nat.reduceMul, Nat.reduceSub, t1, t3, t4, gk, hlr, c, hmk]
      have hK := jacN_ok hok ht r
      have hlK : (jacN g.bodies r).length = g.rules.length := by rw [jacN_len, hbl]
      have h256 : Len256 (kF (jacN g.bodies r)) := fun n s hs => (hK.ok n s hs).2.1
      generalize hkn : τ.n = kn
      refine Ev.loop_ind (fun m tm τ W => ∃ (i : Nat) (K' : List (Option (List Int))), m = g.rules.length - i ∧ i ≤ g.rules.length ∧ W = [] ∧ NewM σ τ [] ∧ σ.n + 1 ≤ τ.n ∧ τ.get σ.n = .cells g.c ∧ SRow τ ko (jacN g.bodies r) ∧ SRow τ kn K' ∧ K'.length = g.rules.length ∧ (∀ j, j < i → K'[j]? = (jacN g.bodies (r + 1))[j]?) ∧ ko < kn ∧ kn < τ.n ∧
        tm.at 1 = .ptr σ.n 0 ∧ tm.at 3 = .row ko 0 g.rules.length 2 ∧ tm.at 4 = .d (.int .i64 r) ∧ tm.at 5 = .row kn 0 g.rules.length 2 ∧ tm.at 6 = .d (.int .i64 i)) ?_ g.rules.length _ _ _ ⟨0, List.replicate g.rules.length none, rfl, by omega, rfl, ⟨by rw [St.n_push]; omega, fun k hk => by rw [St.get_push_ne (by omega)]; exact hN.same k hk, by simp⟩, by rw [St.n_push]; omega, by rw [St.get_push_ne (by omega)]; exact g0, hS.stay (St.get_push_ne hk2), SRow.zero (St.get_push_eq' hkn.symm), by simp, by intro j hj; omega, by omega, by rw [St.n_push]; omega, ?_, ?_, ?_, ?_, ?_⟩
      · clear t1 t3 t4 hN hn g0 hS hk2 hkn gk hlr
        rintro m tm τ W ⟨i, K', rfl, hi, rfl, hN, hn, g0, hS, hS', hK'l, hK', hk2, hk3, t1, t3, t4, t5, t6⟩ ih2
        obtain ⟨cs, gk, -, -⟩ := hS.ex
        obtain ⟨cs', gk', gl', -⟩ := hS'.ex
        have hlr : sliceLen τ (.row ko 0 g.rules.length 2) = some g.rules.length := by rw [sliceLen_row, gk]; rfl
        by_cases hil : i < g.rules.length
        · have hget : g.rules[i]? = some g.rules[i] := by simp [hil]
          have hmem : g.rules[i] ∈ g.rules := List.getElem_mem hil
          have hbx : g.bodies[i]? = some g.rules[i].body := by rw [Gr.bodies, List.getElem?_map, hget]; rfl
          have hox : okE t (jacN g.bodies r).length g.rules[i].body := by rw [jacN_len]; exact hok _ (List.mem_of_getElem? hbx)
          have ix := fun (ρ : St) (cs : List A) => indexR_nat (σ := ρ) (k := kn) (off := 0) (s := 2) (cs := cs) hil
          simp only [Nat.zero_add] at ix
          simp only [go_sem, ↓reduceIte, Int.reduceEq, Nat.reduceBEq, Int.reduceBEq, Int.reduceBNe, Int.reduceLT, Int.reduceLE, Nat.reduceAdd, Nat.reducePow, Nat.reduceEqDiff, Nat.reduceLT, Nat.reduceLeDiff, Nat.reduceMul, Nat.reduceSub, t1, t3, t4, t5, t6, gk, hlr, dec_lt' hil, g0, Gr.index_rd hget]
          obtain ⟨z, hc⟩ := short83 h83 h101 (jacN g.bodies r) h256 ko g.rules[i].body τ (hg _ hmem) hox hS (by omega)
          rw [hlK] at hc
          refine ⟨_, _, _, hc, ?_⟩
          have lz : low σ.n [kn] = [] := by rw [low_cons_ge (by omega)]; rfl
          simp only [go_sem, ↓reduceIte, Int.reduceEq, Nat.reduceBEq, Int.reduceBEq, Int.reduceBNe, Int.reduceLT, Int.reduceLE, Nat.reduceAdd, Nat.reducePow, Nat.reduceEqDiff, Nat.reduceLT, Nat.reduceLeDiff, Nat.reduceMul, Nat.reduceSub, sA, t1, t3, t4, t5, t6, gk', ix, lz]
          have hst : ∀ (b : Bool) (y : D), storeC 2 (i * 2) [A.d (.bool b), A.d y] cs' = some (putAt cs' (i * 2) [A.d (.bool b), A.d y]) := fun b y => by
            unfold storeC
            rw [if_pos ⟨rfl, by show i * 2 + 2 ≤ cs'.length; omega, rfl⟩]
          rw [hst]
          simp only [go_sem, ↓reduceIte, Int.reduceEq, Nat.reduceBEq, Int.reduceBEq, Int.reduceBNe, Int.reduceLT, Int.reduceLE, Nat.reduceAdd, Nat.reducePow, Nat.reduceEqDiff, Nat.reduceLT, Nat.reduceLeDiff, Nat.reduceMul, Nat.reduceSub, t6, lz, wrap_succ' hil (show g.rules.length < 1000000000 by omega)]
          have hput := hS'.put gk' (i := i) (by omega) (shortE (kF (jacN g.bodies r)) g.rules[i].body) z
          refine ih2 _ _ _ _ (by omega) ⟨i + 1, K'.set i (shortE (kF (jacN g.bodies r)) g.rules[i].body), rfl, hil, rfl, ⟨by rw [St.n_set]; exact hN.n, fun k hk => by rw [St.get_set_ne (by omega)]; exact hN.same k hk, by simp⟩, by rw [St.n_set]; exact hn, by rw [St.get_set_ne (by omega)]; exact g0, hS.stay (St.get_set_ne (by omega)), hput, by rw [List.length_set]; exact hK'l, fun j hj => ?_, hk2, by rw [St.n_set]; exact hk3, ?_, ?_, ?_, ?_, ?_⟩
          · rcases Nat.lt_or_ge j i with q | q
            · rw [List.getElem?_set_ne (by omega)]; exact hK' j q
            · obtain rfl : j = i := by omega
              rw [List.getElem?_set_self (by omega), jacN, jac, List.getElem?_map, hbx]; rfl
          all_goals (simp only [go_sem, ↓reduceIte, Int.reduceEq, Nat.reduceBEq, Int.reduceBEq, Int.reduceBNe, Int.reduceLT, Int.reduceLE, Nat.reduceAdd, Nat.reducePow, Nat.reduceEqDiff, Nat.reduceLT, Nat.reduceLeDiff, Nat.reduceMul, Nat.reduceSub, t1, t3, t4, t5])
        · have hin : i = g.rules.length := by omega
          subst hin
          have hKe : K' = jacN g.bodies (r + 1) := by
            apply List.ext_getElem?
            intro j
            rcases Nat.lt_or_ge j g.rules.length with q | q
            · exact hK' j q
            · rw [List.getElem?_eq_none (by omega), List.getElem?_eq_none (by rw [jacN_len, hbl]; omega)]
          subst hKe
          have hw : IntKind.i64.wrap ((r : Int) + 1) = ((r + 1 : Nat) : Int) := by rw [wrap_small (by omega) (by omega)]; rfl
          simp only [go_sem, ↓reduceIte, Int.reduceEq, Nat.reduceBEq, Int.reduceBEq, Int.reduceBNe, Int.reduceLT, Int.reduceLE, Nat.reduceAdd, Nat.reducePow, Nat.reduceEqDiff, Nat.reduceLT, Nat.reduceLeDiff, Nat.reduceMul, Nat.reduceSub, t1, t3, t4, t5, t6, gk, hlr, dec_ge' hil, hw]
          refine ih _ _ _ _ (by omega) ⟨r + 1, kn, rfl, by omega, rfl, hN, hn, g0, hS', by omega, hk3, ?_, ?_, ?_⟩
          all_goals (simp only [go_sem, ↓reduceIte, Int.reduceEq, Nat.reduceBEq, Int.reduceBEq, Int.reduceBNe, Int.reduceLT, Int.reduceLE, Nat.reduceAdd, Nat.reducePow, Nat.reduceEqDiff, Nat.reduceLT, Nat.reduceLeDiff, Nat.reduceMul, Nat.reduceSub, t1, t5])
      all_goals (simp only [go_sem, ↓reduceIte, Int.reduceEq, Nat.reduceBEq, Int.reduceBEq, Int.reduceBNe, Int.reduceLT, Int.reduceLE, Nat.reduceAdd, Nat.reducePow, Nat.reduceEqDiff, Nat.reduceLT, Nat.reduceLeDiff, Nat.reduceMul, Nat.reduceSub, t1, t3, t4]; try rfl)
    · have c : decide ((r : Int) ≤ (g.rules.length : Int)) = false := by simp; omega
      simp only [go_sem, ↓reduceIte, Int.reduceEq, Nat.reduceBEq, Int.reduceBEq, Int.reduceBNe, Int.reduceLT, Int.reduceLE, Nat.reduceAdd, Nat.reducePow, Nat.reduceEqDiff, Nat.reduceLT, Nat.reduceLeDiff, Nat.reduceMul, Nat.reduceSub, t1, t3, t4, gk, hlr, c]
      have hr2 : r = g.rules.length + 1 := by omega
      subst hr2
      exact ⟨hN, ko, rfl, hS, by omega, hk2⟩
  · rw [jacN, K0, hbl]
    exact SRow.zero (St.get_push_eq' (by simp only [St.n_push]))
  all_goals first | rfl | (simp only [go_sem, ↓reduceIte, Int.reduceEq, Nat.reduceBEq, Int.reduceBEq, Int.reduceBNe, Int.reduceLT, Int.reduceLE, Nat.reduceAdd, Nat.reducePow, Nat.reduceEqDiff, Nat.reduceLT, Nat.reduceLeDiff, Nat.reduceMul, Nat.reduceSub]; done) | (simp only [go_sem, ↓reduceIte, Int.reduceEq, Nat.reduceBEq, Int.reduceBEq, Int.reduceBNe, Int.reduceLT, Int.reduceLE, Nat.reduceAdd, Nat.reducePow, Nat.reduceEqDiff, Nat.reduceLT, Nat.reduceLeDiff, Nat.reduceMul, Nat.reduceSub]; rfl)
end Go.Am
namespace Go.Am
open Go Go.Proofs
variable {fz : Nat → Md}
mutual
theorem shortE_cp (F : Nat → Option (List Int)) : ∀ x : Ex, shortE F x.cp = shortE F x
  | .mk k n z l => by rw [Ex.cp, shortE, shortE, shortS_cp F l, shortA_cp F l]
theorem shortS_cp (F : Nat → Option (List Int)) : ∀ (l : List Ex) (out : List Int), shortS F (Ex.cpL l) out = shortS F l out
  | [], out => by rw [Ex.cpL]
  | x :: l, out => by
    rw [Ex.cpL, shortS, shortS, shortE_cp F x]
    cases shortE F x with
    | none => rfl
    | some s => dsimp only; rw [shortS_cp F l]
theorem shortA_cp (F : Nat → Option (List Int)) : ∀ (l : List Ex) (best : Option (List Int)), shortA F (Ex.cpL l) best = shortA F l best
  | [], best => by rw [Ex.cpL]
  | x :: l, best => by
    rw [Ex.cpL, shortA_step, shortA_step, shortE_cp F x, shortA_cp F l]
end
theorem shPass_cp : ∀ (l : List Ex) (i : Nat) (K : List (Option (List Int))) (m : Bool), shPass (l.map Ex.cp) i K m = shPass l i K m
  | [], i, K, m => rfl
  | x :: l, i, K, m => by
    rw [List.map_cons, shPass, shPass, shortE_cp]
    cases shortE (kF K) x with
    | none => exact shPass_cp l _ _ _
    | some s => dsimp only; rw [shPass_cp l, shPass_cp l]
theorem shF_cp (l : List Ex) : ∀ (n : Nat) (K : List (Option (List Int))), shF (l.map Ex.cp) n K = shF l n K
  | 0, K => rfl
  | n + 1, K => by rw [shF, shF, shPass_cp, shF_cp l n]
theorem shEnd_cp (g : Gr) : shEnd g.cp.bodies = shEnd g.bodies := by
  unfold shEnd; rw [cp_bodies, shF_cp, List.length_map]
theorem checkP_cp (g : Gr) : checkP g.cp = checkP g := by rw [← chk_is, ← chk_is, chkR_cp]
theorem shortV_cp (g : Gr) (rule : Int) : shortV g.cp rule = shortV g rule := by
  unfold shortV
  rw [checkP_cp, shEnd_cp, cp_len]
def shL (g : Gr) (rule : Int) : List Int := if (checkP g != 0) = true then [] else if (decide (rule < 0) || decide (rule ≥ (g.rules.length : Int))) = true then [] else (kF (shEnd g.bodies) rule.toNat).getD []
theorem shortV_1 (g : Gr) (rule : Int) : ∃ z, (shortV g rule).1 = .slc z (intsD (shL g rule)) := by
  unfold shortV shL
  split
  · exact ⟨true, rfl⟩
  split
  · exact ⟨true, rfl⟩
  cases kF (shEnd g.bodies) rule.toNat with
  | none => exact ⟨true, rfl⟩
  | some s => exact ⟨s.isEmpty, rfl⟩
theorem shL_len {g : Gr} {rule : Int} : (shL g rule).length ≤ 256 := by
  unfold shL
  split
  · simp
  rename_i hc
  split
  · simp
  have h := GOk.of (g := g) (by simpa using hc)
  cases hs : kF (shEnd g.bodies) rule.toNat with
  | none => simp
  | some s => exact ((shEnd_ok h.ok h.tok).1.ok _ s hs).2.1
set_option maxHeartbeats 8000000 in
theorem short20 (h20 : fz 20 = .ice) (h48 : fz 48 = .keep) (h83 : fz 83 = .ice) (h101 : fz 101 = .cut) (hz : FzR fz) (g : Gr) (hg : SmallG g) (hL : g.rules.length < 1000000000) (rule : Int) (σ : St) :
    ∃ z, CallsTo (XX fz) (.func 20 []) [g.a, .d (.int .i64 rule)] σ (.tup [.d (.slc z (intsD (shL g rule))), .d (.int .i64 (shortV g rule).2)]) σ [] := by
  refine CallsTo.iceZ h20 fn20 (by simp) ?_
  simp only [Tryd.f20, Option.getD_some]
  simp only [go_sem, ↓reduceIte, Int.reduceEq, Nat.reduceBEq, Int.reduceBEq, Int.reduceBNe, Int.reduceLT, Int.reduceLE, Nat.reduceAdd, Nat.reducePow, Nat.reduceEqDiff, Nat.reduceLT, Nat.reduceLeDiff, Nat.reduceMul, Nat.reduceSub, Gr.a]
  refine ⟨_, _, _, chk_r hz g hg hL (hok_g g) _, ?_⟩
  rw [chk_is]
  unfold shL shortV
  cases hc : (checkP g != 0) with
  | true =>
    simp only [go_sem, ↓reduceIte, Int.reduceEq, Nat.reduceBEq, Int.reduceBEq, Int.reduceBNe, Int.reduceLT, Int.reduceLE, Nat.reduceAdd, Nat.reducePow, Nat.reduceEqDiff, Nat.reduceLT, Nat.reduceLeDiff, Nat.reduceMul, Nat.reduceSub, hc, if_pos]
    exact ⟨true, rfl⟩
  | false =>
  have hc' : checkP g = 0 := by simpa using hc
  have h := GOk.of hc'
  have hle := h.le
  have hbl : g.bodies.length = g.rules.length := by rw [Gr.bodies, List.length_map]
  simp only [go_sem, ↓reduceIte, Int.reduceEq, Nat.reduceBEq, Int.reduceBEq, Int.reduceBNe, Int.reduceLT, Int.reduceLE, Nat.reduceAdd, Nat.reducePow, Nat.reduceEqDiff, Nat.reduceLT, Nat.reduceLeDiff, Nat.reduceMul, Nat.reduceSub, hc', Bool.false_eq_true, if_false]
  cases h1 : decide (rule < 0) with
  | true =>
    simp only [go_sem, ↓reduceIte, Int.reduceEq, Nat.reduceBEq, Int.reduceBEq, Int.reduceBNe, Int.reduceLT, Int.reduceLE, Nat.reduceAdd, Nat.reducePow, Nat.reduceEqDiff, Nat.reduceLT, Nat.reduceLeDiff, Nat.reduceMul, Nat.reduceSub, h1, Bool.true_or, if_pos]
    exact ⟨true, rfl⟩
  | false =>
  cases h2 : decide (rule ≥ (g.rules.length : Int)) with
  | true =>
    simp only [go_sem, ↓reduceIte, Int.reduceEq, Nat.reduceBEq, Int.reduceBEq, Int.reduceBNe, Int.reduceLT, Int.reduceLE, Nat.reduceAdd, Nat.reducePow, Nat.reduceEqDiff, Nat.reduceLT, Nat.reduceLeDiff, Nat.reduceMul, Nat.reduceSub, h1, h2, Bool.or_true, if_pos]
    exact ⟨true, rfl⟩
  | false =>
  obtain ⟨k, rfl⟩ := Int.eq_ofNat_of_zero_le (show 0 ≤ rule by simpa using h1)
  have hk : k < g.rules.length := by have : ¬ ((k : Int) ≥ (g.rules.length : Int)) := by simpa using h2
                                     omega
  simp only [go_sem, ↓reduceIte, Int.reduceEq, Nat.reduceBEq, Int.reduceBEq, Int.reduceBNe, Int.reduceLT, Int.reduceLE, Nat.reduceAdd, Nat.reducePow, Nat.reduceEqDiff, Nat.reduceLT, Nat.reduceLeDiff, Nat.reduceMul, Nat.reduceSub, h1, h2, Bool.or_false, Bool.false_eq_true, if_false, Int.toNat_natCast]
  obtain ⟨a, σ', T, hcall, hN, ko, rfl, hS, hk1, hk2⟩ := shorts_c h48 h83 h101 g hg h.ok h.tok hle (σ.push (.cells g.c))
  refine ⟨_, _, _, hcall, ?_⟩
  have hch := chk_iff.1 hc'
  have hj := jac_is (q := qOf g.null) (rk := rkOf g.bodies (qOf g.null)) h.ok h.tok (fun n y _ hy hq => growsP_closed false g.bodies hy hq) (fun n m y hy hb => rank_of h.ok hch.left hy hb) (g.rules.length + 1) (by omega) k
  obtain ⟨cs, c1, c2, c3⟩ := hS.ex
  have hlK : (jacN g.bodies (g.rules.length + 1)).length = g.rules.length := by rw [jacN_len, hbl]
  obtain ⟨z, hz⟩ := c3 k _ (List.getElem?_eq_getElem (by omega))
  have hkK : (jacN g.bodies (g.rules.length + 1))[k]'(by omega) = kF (shEnd g.bodies) k := by
    rw [← hj]; unfold kF; rw [List.getD_eq_getElem?_getD, List.getElem?_eq_getElem (by omega)]; rfl
  rw [hkK] at hz
  have ix := fun ρ : St => indexR_nat (σ := ρ) (k := ko) (off := 0) (s := 2) (cs := cs) hk
  simp only [Nat.zero_add] at ix
  have hNn := hN.n
  simp only [St.n_push] at hNn hk1
  have lz : low σ.n T = [] := low_all fun j hj => by have := hN.w j hj; simp only [St.n_push] at this; omega
  have lz2 : low σ.n [σ'.n] = [] := by rw [low_cons_ge (by omega)]; rfl
  have u : ko ≠ σ'.n := by omega
  simp only [go_sem, ↓reduceIte, Int.reduceEq, Nat.reduceBEq, Int.reduceBEq, Int.reduceBNe, Int.reduceLT, Int.reduceLE, Nat.reduceAdd, Nat.reducePow, Nat.reduceEqDiff, Nat.reduceLT, Nat.reduceLeDiff, Nat.reduceMul, Nat.reduceSub, c1, ix, hz, lz]
  rw [if_pos (by omega)]
  cases hs : kF (shEnd g.bodies) k with
  | none =>
    simp only [go_sem, ↓reduceIte, Int.reduceEq, Nat.reduceBEq, Int.reduceBEq, Int.reduceBNe, Int.reduceLT, Int.reduceLE, Nat.reduceAdd, Nat.reducePow, Nat.reduceEqDiff, Nat.reduceLT, Nat.reduceLeDiff, Nat.reduceMul, Nat.reduceSub, Option.isSome_none, Option.getD_none, lz2]
    exact ⟨true, rfl⟩
  | some s =>
    simp only [go_sem, ↓reduceIte, Int.reduceEq, Nat.reduceBEq, Int.reduceBEq, Int.reduceBNe, Int.reduceLT, Int.reduceLE, Nat.reduceAdd, Nat.reducePow, Nat.reduceEqDiff, Nat.reduceLT, Nat.reduceLeDiff, Nat.reduceMul, Nat.reduceSub, Option.isSome_some, Option.getD_some, lz2]
    exact ⟨z, rfl⟩
set_option maxHeartbeats 8000000 in
theorem cheapShort_c (hz : FzR fz) (h10 : fz 10 = .cut) (h35 : fz 35 = .cut) (h4 : fz 4 = .cut) (h12 : fz 12 = .ice) (h36 : fz 36 = .ice) (h18 : fz 18 = .cut) (h44 : fz 44 = .cut) (h21 : fz 21 = .cut) (h20 : fz 20 = .ice) (h48 : fz 48 = .keep) (h83 : fz 83 = .ice) (h101 : fz 101 = .cut)
    (hw : ∀ σ : St, CallsTo (XX fz) (.func 11 []) [] σ (.d (.bool true)) σ [])
    (hshort : ∀ (g : Gr) (rule : Int) (σ : St), SmallG g → CallsTo (XX fz) (.func 19 []) [g.a, .d (.int .i64 rule)] σ (.tup [.d (shortV g rule).1, .d (.int .i64 (shortV g rule).2)]) σ [])
    (g : Gr) (hg : SmallG g) (hL : g.rules.length < 1000000000) (rule : Int) (σ : St) : CallsTo (XX fz) (.func 4 []) [g.a, .d (.int .i64 rule)] σ (.d (.bool true)) σ [] := by
  refine CallsTo.cut0 h4 fn4 (by simp) rfl ?_
  simp only [Tryd.f4, Option.getD_some]
  simp only [go_sem, ↓reduceIte, Int.reduceEq, Nat.reduceBEq, Int.reduceBEq, Int.reduceBNe, Int.reduceLT, Int.reduceLE, Nat.reduceAdd, Nat.reducePow, Nat.reduceEqDiff, Nat.reduceLT, Nat.reduceLeDiff, Nat.reduceMul, Nat.reduceSub, Gr.a]
  refine ⟨_, _, _, deepG_call h10 h35 g _ hg hL, ?_⟩
  cases hd : deepG g with
  | true =>
    simp only [go_sem, ↓reduceIte, Int.reduceEq, Nat.reduceBEq, Int.reduceBEq, Int.reduceBNe, Int.reduceLT, Int.reduceLE, Nat.reduceAdd, Nat.reducePow, Nat.reduceEqDiff, Nat.reduceLT, Nat.reduceLeDiff, Nat.reduceMul, Nat.reduceSub]
    refine ⟨_, _, _, hw _, ?_⟩
    simp only [go_sem, ↓reduceIte, Int.reduceEq, Nat.reduceBEq, Int.reduceBEq, Int.reduceBNe, Int.reduceLT, Int.reduceLE, Nat.reduceAdd, Nat.reducePow, Nat.reduceEqDiff, Nat.reduceLT, Nat.reduceLeDiff, Nat.reduceMul, Nat.reduceSub]
  | false =>
  simp only [go_sem, ↓reduceIte, Int.reduceEq, Nat.reduceBEq, Int.reduceBEq, Int.reduceBNe, Int.reduceLT, Int.reduceLE, Nat.reduceAdd, Nat.reducePow, Nat.reduceEqDiff, Nat.reduceLT, Nat.reduceLeDiff, Nat.reduceMul, Nat.reduceSub]
  refine ⟨_, _, _, cpG_call h12 h36 g _ hg hL, ?_⟩
  simp only [go_sem, ↓reduceIte, Int.reduceEq, Nat.reduceBEq, Int.reduceBEq, Int.reduceBNe, Int.reduceLT, Int.reduceLE, Nat.reduceAdd, Nat.reducePow, Nat.reduceEqDiff, Nat.reduceLT, Nat.reduceLeDiff, Nat.reduceMul, Nat.reduceSub, Gr.a]
  refine ⟨_, _, _, hshort g.cp rule _ (cp_small hg), ?_⟩
  rw [shortV_cp]
  obtain ⟨z1, hz1⟩ := shortV_1 g rule
  simp only [go_sem, ↓reduceIte, Int.reduceEq, Nat.reduceBEq, Int.reduceBEq, Int.reduceBNe, Int.reduceLT, Int.reduceLE, Nat.reduceAdd, Nat.reducePow, Nat.reduceEqDiff, Nat.reduceLT, Nat.reduceLeDiff, Nat.reduceMul, Nat.reduceSub, Gr.a, hz1]
  obtain ⟨z2, hz2⟩ := short20 h20 h48 h83 h101 hz g hg hL rule (((σ.push (.cells g.c)).push (.cells [.d (.int .i64 0), .d (.slc true [])])).set (σ.n + 1) (.cells g.cp.c))
  refine ⟨_, _, _, hz2, ?_⟩
  simp only [go_sem, ↓reduceIte, Int.reduceEq, Nat.reduceBEq, Int.reduceBEq, Int.reduceBNe, Int.reduceLT, Int.reduceLE, Nat.reduceAdd, Nat.reducePow, Nat.reduceEqDiff, Nat.reduceLT, Nat.reduceLeDiff, Nat.reduceMul, Nat.reduceSub]
  refine ⟨_, _, _, eqInts_c h21 z1 z2 _ _ (by have := shL_len (g := g) (rule := rule); omega) _, ?_⟩
  have he : eqI (shL g rule) (shL g rule) = true := decide_eq_true rfl
  rw [he]
  simp only [go_sem, ↓reduceIte, Int.reduceEq, Nat.reduceBEq, Int.reduceBEq, Int.reduceBNe, Int.reduceLT, Int.reduceLE, Nat.reduceAdd, Nat.reducePow, Nat.reduceEqDiff, Nat.reduceLT, Nat.reduceLeDiff, Nat.reduceMul, Nat.reduceSub]
  have := sameG_call h18 h44 g (((σ.push (.cells g.c)).push (.cells [.d (.int .i64 0), .d (.slc true [])])).set (σ.n + 1) (.cells g.cp.c)) hg hL
  refine ⟨_, _, _, this, ?_⟩
  simp only [go_sem, ↓reduceIte, Int.reduceEq, Nat.reduceBEq, Int.reduceBEq, Int.reduceBNe, Int.reduceLT, Int.reduceLE, Nat.reduceAdd, Nat.reducePow, Nat.reduceEqDiff, Nat.reduceLT, Nat.reduceLeDiff, Nat.reduceMul, Nat.reduceSub]
  refine ⟨_, _, _, hw _, ?_⟩
  simp only [go_sem, ↓reduceIte, Int.reduceEq, Nat.reduceBEq, Int.reduceBEq, Int.reduceBNe, Int.reduceLT, Int.reduceLE, Nat.reduceAdd, Nat.reducePow, Nat.reduceEqDiff, Nat.reduceLT, Nat.reduceLeDiff, Nat.reduceMul, Nat.reduceSub]
end Go.Am
namespace Go.Am
open Go Go.Proofs
def mdJ : Nat → Md := fun f => match f with
  | 11 => .ora F11 | 22 => .ora F35
  | 19 | 45 | 47 | 12 | 36 | 20 | 83 | 74 => .ice
  | 48 => .keep
  | _ => .cut
theorem oraJ : ∀ f F, oraOf (mdJ f) = some F → OraS Tryd.prog f F := by
  intro f F h
  unfold mdJ at h
  split at h <;> cases h
  · exact ora11
  · exact ora35
theorem works_J (σ : St) : CallsTo (XX mdJ) (.func 11 []) [] σ (.d (.bool true)) σ [] := CallsTo.ora (F := F11) rfl fn11 rfl rfl rfl
theorem check_J (g : Gr) (σ : St) (h : SmallG g) : CallsTo (XX mdJ) (.func 22 []) [g.a] σ (.d (.int .i64 (checkP g))) σ [] := CallsTo.ora (F := F35) rfl fn22 rfl (F35_at h) rfl
theorem fzJ : FzR mdJ := ⟨rfl, rfl, rfl, rfl, rfl, rfl, rfl, rfl, rfl, rfl⟩
theorem cheapShort_J (g : Gr) (hg : SmallG g) (hL : g.rules.length < 1000000000) (rule : Int) : ∃ σ' T, CallsTo (XX mdJ) (.func 4 []) [g.a, .d (.int .i64 rule)] St.empty (.d (.bool true)) σ' T :=
  ⟨_, _, cheapShort_c fzJ rfl rfl rfl rfl rfl rfl rfl rfl rfl rfl rfl rfl works_J (fun g rule σ h => short_call check_J rfl rfl rfl rfl rfl rfl rfl (fun g h => ⟨(GOk.of h).ok, (GOk.of h).tok, (GOk.of h).le⟩) g h rule σ) g hg hL rule St.empty⟩
end Go.Am

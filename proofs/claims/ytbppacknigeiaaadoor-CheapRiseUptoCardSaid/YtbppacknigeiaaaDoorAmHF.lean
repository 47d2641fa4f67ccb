/- Part HF of a proof that runs a program's calls on a small machine whose values bear no addresses: no conditions. -/
import Derived.Test.YtbppacknigeiaaaDoorAmHE
import Derived.Test.YtbppacknigeiaaaDoorAmV0
import Derived.Test.YtbppacknigeiaaaDoorAmU1
set_option autoImplicit false
set_option linter.unusedSimpArgs false
set_option linter.unusedVariables false
set_option linter.unusedSectionVars false
namespace Go.Am
open Go Go.Proofs
/-! Derives, told. -/
noncomputable def F31n : List A → Option A
  | [a, .d (.int .i64 rule), .d (.slc _ ts)] => match decG a, decI ts with
    | some g, some l => if l.length < 1000000000 then some (.tup [.d (.bool (derV g rule l)), .d (.int .i64 (derE g rule l))]) else none
    | _, _ => none
  | _ => none
theorem F31n_at {g : Gr} (h : SmallG g) (rule : Int) (z : Bool) (l : List Int) (hl : l.length < 1000000000) : F31n [g.a, .d (.int .i64 rule), .d (.slc z (intsD l))] = some (.tup [.d (.bool (derV g rule l)), .d (.int .i64 (derE g rule l))]) := by
  have h1 := derives_call fz20B g h rule _ l hl St.empty (.inl ⟨z, rfl⟩)
  have h2 := derives_call fz20B g.strip (Gr.strip_small h) rule _ l hl St.empty (.inl ⟨z, rfl⟩)
  rw [Gr.strip_a] at h2
  have := CallsTo.det h1 h2
  simp only [F31n, decG_a h, decI_ints, if_pos hl]
  rw [this]
theorem ora31n : OraS Tryd.prog 68 F31n := by
  refine oraS_of (fz := mdB) noOra mixedT fun args r h => ?_
  unfold F31n at h
  split at h
  · rename_i a rule z ts
    split at h
    · rename_i g l hg hl
      split at h
      · rename_i hll
        cases h
        obtain ⟨rfl, hs⟩ := decG_sound hg
        obtain rfl := decI_sound hl
        exact ⟨rfl, _, _, derives_call fz20B g hs rule _ l hll St.empty (.inl ⟨z, rfl⟩)⟩
      · cases h
    · cases h
  · cases h
/-- modes of the laws -/
noncomputable def mdS : Nat → Md := fun f => match f with
  | 11 => .ora F11 | 22 => .ora F35 | 68 => .ora F31n | 13 => .ora F13 | 15 => .ora F15
  | 19 | 28 | 45 | 47 | 51 => .ice
  | _ => .cut
theorem oraMS : ∀ f F, oraOf (mdS f) = some F → OraS Tryd.prog f F := by
  intro f F h
  unfold mdS at h
  split at h <;> cases h
  · exact ora11
  · exact ora35
  · exact ora31n
  · exact ora13
  · exact ora15
theorem works_S (σ : St) : CallsTo (XX mdS) (.func 11 []) [] σ (.d (.bool true)) σ [] := CallsTo.ora (F := F11) rfl fn11 rfl rfl rfl
theorem check_S (g : Gr) (σ : St) (h : SmallG g) : CallsTo (XX mdS) (.func 22 []) [g.a] σ (.d (.int .i64 (checkP g))) σ [] := CallsTo.ora (F := F35) rfl fn22 rfl (F35_at h) rfl
theorem first_S (g : Gr) (σ : St) (h : SmallG g) : CallsTo (XX mdS) (.func 13 []) [g.a] σ (.tup [.d (firstV g), .d (.int .i64 (checkP g))]) σ [] := CallsTo.ora (F := F13) rfl fn13 rfl (F13_at h) rfl
theorem follow_S (g : Gr) (σ : St) (h : SmallG g) : CallsTo (XX mdS) (.func 15 []) [g.a] σ (.tup [.d (followV g), .d (.int .i64 (checkP g))]) σ [] := CallsTo.ora (F := F15) rfl fn15 rfl (F15_at h) rfl
theorem short_S (g : Gr) (rule : Int) (σ : St) (h : SmallG g) : CallsTo (XX mdS) (.func 19 []) [g.a, .d (.int .i64 rule)] σ (.tup [.d (shortV g rule).1, .d (.int .i64 (shortV g rule).2)]) σ [] :=
  short_call check_S rfl rfl rfl rfl rfl rfl rfl (fun g h => ⟨(GOk.of h).ok, (GOk.of h).tok, (GOk.of h).le⟩) g h rule σ
theorem derives_S {g : Gr} (h : SmallG g) (rule : Int) (z : Bool) (l : List Int) (hl : l.length < 1000000000) (σ : St) :
    CallsTo (XX mdS) (.func 68 []) [g.a, .d (.int .i64 rule), .d (.slc z (intsD l))] σ (.tup [.d (.bool (derV g rule l)), .d (.int .i64 (derE g rule l))]) σ [] := CallsTo.ora (F := F31n) rfl fn68 rfl (F31n_at h rule z l hl) rfl
theorem deep_S (g : Gr) (σ : St) (hg : SmallG g) (hL : g.rules.length < 1000000000) : CallsTo (XX mdS) (.func 10 []) [g.a] σ (.d (.bool (deepG g))) σ [] := deepG_call rfl rfl g σ hg hL
noncomputable def derQ (g : Gr) (rule : Int) (l : List Int) : Bool := derE g rule l == 0 && derV g rule l
theorem derives34 {g : Gr} (h : SmallG g) (rule : Int) (z : Bool) (l : List Int) (hl : l.length < 1000000000) (σ : St) :
    CallsTo (XX mdS) (.func 34 []) [g.a, .d (.int .i64 rule), .d (.slc z (intsD l))] σ (.d (.bool (derQ g rule l))) σ [] := by
  refine CallsTo.cut0 rfl fn34 (by simp) rfl ?_
  simp only [Tryd.f34, Option.getD_some]
  simp only [go_sem, ↓reduceIte, Int.reduceEq, Nat.reduceBEq, Int.reduceBEq, Int.reduceBNe, Int.reduceLT, Int.reduceLE, Nat.reduceAdd, Nat.reducePow, Nat.reduceEqDiff, Nat.reduceLT, Nat.reduceLeDiff, Nat.reduceMul, Nat.reduceSub, Gr.a]
  refine ⟨_, _, _, derives_S h rule z l hl _, ?_⟩
  unfold derQ
  cases e : (derE g rule l == 0) with
  | true => simp only [go_sem, ↓reduceIte, Int.reduceEq, Nat.reduceBEq, Int.reduceBEq, Int.reduceBNe, Int.reduceLT, Int.reduceLE, Nat.reduceAdd, Nat.reducePow, Nat.reduceEqDiff, Nat.reduceLT, Nat.reduceLeDiff, Nat.reduceMul, Nat.reduceSub, e, Bool.true_and]
  | false => simp only [go_sem, ↓reduceIte, Int.reduceEq, Nat.reduceBEq, Int.reduceBEq, Int.reduceBNe, Int.reduceLT, Int.reduceLE, Nat.reduceAdd, Nat.reducePow, Nat.reduceEqDiff, Nat.reduceLT, Nat.reduceLeDiff, Nat.reduceMul, Nat.reduceSub, e, Bool.false_and]
/-- has -/
theorem has_c {fz : Nat → Md} (h29 : fz 29 = .cut) (z : Bool) (l : List Int) (n : Int) (hl : l.length < 1000000000) (σ : St) : CallsTo (XX fz) (.func 29 []) [.d (.slc z (intsD l)), .d (.int .i64 n)] σ (.d (.bool (l.contains n))) σ [] := by
  refine CallsTo.cut0 h29 fn29 (by simp) rfl ?_
  simp only [Tryd.f29, Option.getD_some]
  simp only [go_sem, ↓reduceIte, Int.reduceEq, Nat.reduceBEq, Int.reduceBEq, Int.reduceBNe, Int.reduceLT, Int.reduceLE, Nat.reduceAdd, Nat.reducePow, Nat.reduceEqDiff, Nat.reduceLT, Nat.reduceLeDiff, Nat.reduceMul, Nat.reduceSub]
  refine Ev.loop_ind (fun m tm τ W => ∃ i : Nat, m = l.length - i ∧ i ≤ l.length ∧ W = [] ∧ (l.drop i).contains n = l.contains n ∧ tm.at 0 = .d (.slc z (intsD l)) ∧ tm.at 1 = .d (.int .i64 n) ∧ tm.at 5 = .d (.int .i64 i)) ?_ l.length _ _ _ ⟨0, rfl, by omega, rfl, rfl, ?_, ?_, ?_⟩
  · rintro m tm τ W ⟨i, rfl, hi, rfl, he, t0, t1, t5⟩ ih
    by_cases h : i < l.length
    · rw [List.drop_eq_getElem_cons h, List.contains_cons] at he
      cases hc : (l[i] == n) with
      | true =>
        have hc' : (n == l[i]) = true := by rw [beq_iff_eq] at hc ⊢; exact hc.symm
        rw [hc', Bool.true_or] at he
        simp only [go_sem, ↓reduceIte, Int.reduceEq, Nat.reduceBEq, Int.reduceBEq, Int.reduceBNe, Int.reduceLT, Int.reduceLE, Nat.reduceAdd, Nat.reducePow, Nat.reduceEqDiff, Nat.reduceLT, Nat.reduceLeDiff, Nat.reduceMul, Nat.reduceSub, t0, t1, t5, len_ints, dec_lt' h, index_ints h, hc, ← he]
      | false =>
        have hc' : (n == l[i]) = false := by rw [beq_eq_false_iff_ne] at hc ⊢; exact hc.symm
        rw [hc', Bool.false_or] at he
        simp only [go_sem, ↓reduceIte, Int.reduceEq, Nat.reduceBEq, Int.reduceBEq, Int.reduceBNe, Int.reduceLT, Int.reduceLE, Nat.reduceAdd, Nat.reducePow, Nat.reduceEqDiff, Nat.reduceLT, Nat.reduceLeDiff, Nat.reduceMul, Nat.reduceSub, t0, t1, t5, len_ints, dec_lt' h, index_ints h, hc, wrap_succ' h hl]
        refine ih _ _ _ _ (by omega) ⟨i + 1, rfl, h, rfl, he, ?_, ?_, ?_⟩
        all_goals (simp only [go_sem, ↓reduceIte, Int.reduceEq, Nat.reduceBEq, Int.reduceBEq, Int.reduceBNe, Int.reduceLT, Int.reduceLE, Nat.reduceAdd, Nat.reducePow, Nat.reduceEqDiff, Nat.reduceLT, Nat.reduceLeDiff, Nat.reduceMul, Nat.reduceSub, t0, t1])
    · rw [List.drop_eq_nil_of_le (by omega)] at he
      simp only [go_sem, ↓reduceIte, Int.reduceEq, Nat.reduceBEq, Int.reduceBEq, Int.reduceBNe, Int.reduceLT, Int.reduceLE, Nat.reduceAdd, Nat.reducePow, Nat.reduceEqDiff, Nat.reduceLT, Nat.reduceLeDiff, Nat.reduceMul, Nat.reduceSub, t0, t1, t5, len_ints, dec_ge' h, ← he]
      rfl
  all_goals first | rfl | (simp only [go_sem, ↓reduceIte, Int.reduceEq, Nat.reduceBEq, Int.reduceBEq, Int.reduceBNe, Int.reduceLT, Int.reduceLE, Nat.reduceAdd, Nat.reducePow, Nat.reduceEqDiff, Nat.reduceLT, Nat.reduceLeDiff, Nat.reduceMul, Nat.reduceSub]; done) | (simp only [go_sem, ↓reduceIte, Int.reduceEq, Nat.reduceBEq, Int.reduceBEq, Int.reduceBNe, Int.reduceLT, Int.reduceLE, Nat.reduceAdd, Nat.reducePow, Nat.reduceEqDiff, Nat.reduceLT, Nat.reduceLeDiff, Nat.reduceMul, Nat.reduceSub]; rfl)
end Go.Am

/- Part Z4 of a proof that runs a program's calls on a small machine whose values bear no addresses: no conditions. -/
import Derived.Test.YtahfdfpakikbpaaAmZ1
import Derived.Test.YtahfdfpakikbpaaAmY6
import Derived.Test.YtahfdfpakikbpaaAmU1
set_option autoImplicit false
set_option linter.unusedSimpArgs false
set_option linter.unusedVariables false
set_option linter.unusedSectionVars false
namespace Go.Am
open Go Go.Proofs
/-! a copy answers alike -/
mutual
theorem partsE_cp : ∀ (x : Ex) (d : Int), partsE x.cp d = partsE x d
  | .mk k n z l, d => by rw [Ex.cp, partsE, partsE, partsL_cp]
theorem partsL_cp : ∀ (l : List Ex) (d many : Int), partsL (Ex.cpL l) d many = partsL l d many
  | [], _, _ => by rw [Ex.cpL]
  | x :: l, d, many => by rw [Ex.cpL, partsL, partsL, partsE_cp, partsL_cp]
end
theorem limL_cp : ∀ (l : List Ex) (many : Int), limL (l.map Ex.cp) many = limL l many
  | [], _ => rfl
  | x :: l, many => by rw [List.map_cons, limL, limL, partsE_cp, limL_cp]
theorem cpL_len (l : List Ex) : (Ex.cpL l).length = l.length := by rw [cpL_map, List.length_map]
mutual
theorem rigE_cp (t : Int) (r : Nat) : ∀ x : Ex, rigE t r x.cp = rigE t r x
  | .mk k n z l => by rw [Ex.cp, rigE, rigE, rigL_cp, cpL_len]
theorem rigL_cp (t : Int) (r : Nat) : ∀ l : List Ex, rigL t r (Ex.cpL l) = rigL t r l
  | [] => by rw [Ex.cpL]
  | x :: l => by rw [Ex.cpL, rigL, rigL, rigE_cp, rigL_cp]
end
theorem headB_cp (q : Int → Bool) (l : List Ex) : headB q (Ex.cpL l) = headB q l := by
  cases l with
  | nil => rw [Ex.cpL]
  | cons x l => rw [Ex.cpL, headB, headB, canE_cp]
mutual
theorem vain_cp (q : Int → Bool) : ∀ x : Ex, vainE q x.cp = vainE q x
  | .mk k n z l => by rw [Ex.cp, vainE, vainE, vainL_cp, headB_cp]
theorem vainL_cp (q : Int → Bool) : ∀ l : List Ex, vainL q (Ex.cpL l) = vainL q l
  | [] => by rw [Ex.cpL]
  | x :: l => by rw [Ex.cpL, vainL, vainL, vain_cp, vainL_cp]
end
mutual
theorem bgnE_cp (q : Int → Bool) : ∀ x : Ex, bgnE q x.cp = bgnE q x
  | .mk k n z l => by rw [Ex.cp, bgnE, bgnE, bgnL_cp]
theorem bgnL_cp (q : Int → Bool) (k : Int) : ∀ (l : List Ex) (out : Nat), bgnL q k (Ex.cpL l) out = bgnL q k l out
  | [], _ => by rw [Ex.cpL]
  | x :: l, out => by rw [Ex.cpL, bgnL, bgnL, canE_cp, bgnE_cp, bgnL_cp]
end
theorem rPass_cp (tok : Bool) : ∀ (l : List Ex) (i : Nat) (out : List Bool), rPass tok (l.map Ex.cp) i out = rPass tok l i out
  | [], _, _ => rfl
  | x :: l, i, out => by rw [List.map_cons, rPass, rPass, canE_cp, rPass_cp]
theorem rF_cp (tok : Bool) (l : List Ex) : ∀ (n : Nat) (out : List Bool), rF tok (l.map Ex.cp) n out = rF tok l n out
  | 0, _ => rfl
  | n + 1, out => by rw [rF, rF, rPass_cp, rF_cp]
theorem rndP_cp (tok : Bool) (l : List Ex) : rndP tok (l.map Ex.cp) = rndP tok l := by rw [rndP, rndP, rF_cp, List.length_map]
theorem badL_cp (S : List Bool) (q : Int → Bool) : ∀ (l : List Ex) (i : Nat), badL S q (l.map Ex.cp) i = badL S q l i
  | [], _ => rfl
  | x :: l, i => by rw [List.map_cons, badL, badL, vain_cp, badL_cp]
theorem leftR_cp (q : Int → Bool) (l : List Ex) : leftR q (l.map Ex.cp) = leftR q l := by
  have : (l.map Ex.cp).map (bgnE q) = l.map (bgnE q) := by rw [List.map_map]; exact List.map_congr_left fun x _ => bgnE_cp q x
  rw [leftR, leftR, this, List.length_map]
theorem cp_bodies (g : Gr) : g.cp.bodies = g.bodies.map Ex.cp := by simp [Gr.cp, Gr.bodies, Ru.cp]
theorem cp_tok (g : Gr) : g.cp.tokens = g.tokens := rfl
theorem cp_len (g : Gr) : g.cp.rules.length = g.rules.length := by simp [Gr.cp]
theorem limP_cp (g : Gr) : limP g.cp = limP g := by rw [limP, limP, cp_bodies, cp_tok, cp_len, limL_cp]
theorem all_rig_cp (t : Int) (r : Nat) (l : List Ex) : (l.map Ex.cp).all (rigE t r) = l.all (rigE t r) := by
  rw [List.all_map]; exact all_congr fun y _ => rigE_cp t r y
theorem chkR_cp (g : Gr) : chkR g.cp = chkR g := by
  rw [chkR, chkR, limP_cp, cp_tok, cp_len, cp_bodies, all_rig_cp, chk2R, chk2R, cp_bodies, rndP_cp, rndP_cp, badL_cp, leftR_cp]
theorem nullRD_cp (g : Gr) : nullRD g.cp = nullRD g := by rw [nullRD, nullRD, chkR_cp, cp_bodies, rndP_cp]
theorem cp_small {g : Gr} (h : SmallG g) : SmallG g.cp := fun r hr => by
  obtain ⟨r', h1, rfl⟩ := List.mem_map.1 hr
  have := h r' h1
  unfold SmallE at this ⊢
  rw [Ru.cp, cp_sz]; exact this
/-! the walk -/
noncomputable def mdC : Nat → Md := fun f => match f with
  | 33 => .ora F33 | 35 => .ora F35
  | 43 | 46 | 47 | 77 | 87 | 88 => .ice
  | _ => .cut
theorem oraC : ∀ f F, oraOf (mdC f) = some F → OraS Try.prog f F := by
  intro f F h
  unfold mdC at h
  split at h <;> cases h
  · exact ora33
  · exact ora35
theorem works_C (σ : St) : CallsTo (XX mdC) (.func 33 []) [] σ (.d (.bool true)) σ [] := CallsTo.ora (F := F33) rfl fn33 rfl rfl rfl
theorem check_C {g : Gr} (h : SmallG g) (σ : St) : CallsTo (XX mdC) (.func 35 []) [g.a] σ (.d (.int .i64 (checkP g))) σ [] := CallsTo.ora (F := F35) rfl fn35 rfl (F35_at h) rfl
set_option maxHeartbeats 1000000 in
theorem nullable_C {g : Gr} (h : SmallG g) (σ : St) : CallsTo (XX mdC) (.func 46 []) [g.a] σ (.tup [.d (nullD g), .d (.int .i64 (checkP g))]) σ [] := by
  refine CallsTo.ice0 rfl fn46 (by simp) ?_
  simp only [Try.f46, Option.getD_some]
  simp only [go_sem, ↓reduceIte, Int.reduceEq, Nat.reduceBEq, Option.some.injEq, Bool.true_eq_false, Bool.false_eq_true, Int.reduceBEq, Int.reduceBNe, Int.reduceLT, Int.reduceLE, Nat.add_assoc, Nat.reduceAdd, Nat.reducePow, Nat.zero_le, Nat.reduceEqDiff, Nat.reduceLT, Nat.reduceLeDiff, Nat.reduceMul, Nat.reduceSub, Nat.add_left_cancel_iff, Nat.lt_irrefl, Nat.le_refl, Nat.add_eq_left, Nat.left_eq_add, beq_self_eq_true, Gr.a]
  refine ⟨_, _, _, check_C h _, ?_⟩
  unfold nullD
  cases hc : (checkP g != 0) with
  | true =>
    have hc' : checkP g ≠ 0 := by simpa using hc
    simp only [go_sem, ↓reduceIte, Int.reduceEq, Nat.reduceBEq, Option.some.injEq, Bool.true_eq_false, Bool.false_eq_true, Int.reduceBEq, Int.reduceBNe, Int.reduceLT, Int.reduceLE, Nat.add_assoc, Nat.reduceAdd, Nat.reducePow, Nat.zero_le, Nat.reduceEqDiff, Nat.reduceLT, Nat.reduceLeDiff, Nat.reduceMul, Nat.reduceSub, Nat.add_left_cancel_iff, Nat.lt_irrefl, Nat.le_refl, Nat.add_eq_left, Nat.left_eq_add, beq_self_eq_true, hc, if_neg hc']; try rfl
  | false =>
    have hc' : checkP g = 0 := by simpa using hc
    have hk := chk_iff.1 hc'
    simp only [go_sem, ↓reduceIte, Int.reduceEq, Nat.reduceBEq, Option.some.injEq, Bool.true_eq_false, Bool.false_eq_true, Int.reduceBEq, Int.reduceBNe, Int.reduceLT, Int.reduceLE, Nat.add_assoc, Nat.reduceAdd, Nat.reducePow, Nat.zero_le, Nat.reduceEqDiff, Nat.reduceLT, Nat.reduceLeDiff, Nat.reduceMul, Nat.reduceSub, Nat.add_left_cancel_iff, Nat.lt_irrefl, Nat.le_refl, Nat.add_eq_left, Nat.left_eq_add, beq_self_eq_true, hc, if_pos hc']
    have hle := hk.le
    refine ⟨_, _, _, grows_call (fz := mdC) rfl rfl rfl rfl rfl rfl rfl g false _ (by omega) (fun r hr => ⟨h r hr, (hk.ok _ (List.mem_map.2 ⟨r, hr, rfl⟩)).calls⟩), ?_⟩
    simp only [go_sem, ↓reduceIte, Int.reduceEq, Nat.reduceBEq, Option.some.injEq, Bool.true_eq_false, Bool.false_eq_true, Int.reduceBEq, Int.reduceBNe, Int.reduceLT, Int.reduceLE, Nat.add_assoc, Nat.reduceAdd, Nat.reducePow, Nat.zero_le, Nat.reduceEqDiff, Nat.reduceLT, Nat.reduceLeDiff, Nat.reduceMul, Nat.reduceSub, Nat.add_left_cancel_iff, Nat.lt_irrefl, Nat.le_refl, Nat.add_eq_left, Nat.left_eq_add, beq_self_eq_true, hc']
    rfl
theorem fzC : FzR mdC := ⟨rfl, rfl, rfl, rfl, rfl, rfl, rfl, rfl, rfl, rfl⟩
end Go.Am
namespace Go.Am
open Go Go.Proofs
theorem nullD_form (g : Gr) : ∃ (z : Bool) (L : List Bool), nullD g = .slc z (boolsD L) ∧ L.length < 1000 := by
  unfold nullD
  split
  · rename_i h
    have hk := chk_iff.1 h
    refine ⟨false, _, rfl, ?_⟩
    have := hk.le
    rw [Gr.null, growsP_len, bodies_len]; omega
  · exact ⟨true, [], rfl, by simp⟩
set_option maxHeartbeats 2000000 in
theorem nullable_R {fz : Nat → Md} (h47 : fz 47 = .ice) (hz : FzR fz) (g : Gr) (hg : SmallG g) (hL : g.rules.length < 1000000000) (σ : St) :
    CallsTo (XX fz) (.func 47 []) [g.a] σ (.tup [.d (nullD g), .d (.int .i64 (checkP g))]) σ [] := by
  refine CallsTo.ice0 h47 fn47 (by simp) ?_
  simp only [Try.f47, Option.getD_some]
  simp only [go_sem, ↓reduceIte, Int.reduceEq, Nat.reduceBEq, Option.some.injEq, Bool.true_eq_false, Bool.false_eq_true, Int.reduceBEq, Int.reduceBNe, Int.reduceLT, Int.reduceLE, Nat.add_assoc, Nat.reduceAdd, Nat.reducePow, Nat.zero_le, Nat.reduceEqDiff, Nat.reduceLT, Nat.reduceLeDiff, Nat.reduceMul, Nat.reduceSub, Nat.add_left_cancel_iff, Nat.lt_irrefl, Nat.le_refl, Nat.add_eq_left, Nat.left_eq_add, beq_self_eq_true, Gr.a]
  refine ⟨_, _, _, chk_r hz g hg (by omega) (hok_g g) _, ?_⟩
  rw [← nullRD_is]
  rw [chk_is]
  unfold nullRD
  cases hc : (checkP g != 0) with
  | true =>
    have hc' : chkR g ≠ 0 := by rw [chk_is]; simpa using hc
    simp only [go_sem, ↓reduceIte, Int.reduceEq, Nat.reduceBEq, Option.some.injEq, Bool.true_eq_false, Bool.false_eq_true, Int.reduceBEq, Int.reduceBNe, Int.reduceLT, Int.reduceLE, Nat.add_assoc, Nat.reduceAdd, Nat.reducePow, Nat.zero_le, Nat.reduceEqDiff, Nat.reduceLT, Nat.reduceLeDiff, Nat.reduceMul, Nat.reduceSub, Nat.add_left_cancel_iff, Nat.lt_irrefl, Nat.le_refl, Nat.add_eq_left, Nat.left_eq_add, beq_self_eq_true, hc, if_neg hc']; try rfl
  | false =>
    have hc' : chkR g = 0 := by rw [chk_is]; simpa using hc
    have hk := chk_iff.1 (chk_is g ▸ hc')
    have hle := hk.le
    simp only [go_sem, ↓reduceIte, Int.reduceEq, Nat.reduceBEq, Option.some.injEq, Bool.true_eq_false, Bool.false_eq_true, Int.reduceBEq, Int.reduceBNe, Int.reduceLT, Int.reduceLE, Nat.add_assoc, Nat.reduceAdd, Nat.reducePow, Nat.zero_le, Nat.reduceEqDiff, Nat.reduceLT, Nat.reduceLeDiff, Nat.reduceMul, Nat.reduceSub, Nat.add_left_cancel_iff, Nat.lt_irrefl, Nat.le_refl, Nat.add_eq_left, Nat.left_eq_add, beq_self_eq_true, hc, if_pos hc']
    refine ⟨_, _, _, nullR_call hz.h88 hz.h109 g _ hg (by omega) (fun r hr => (hk.ok _ (List.mem_map.2 ⟨r, hr, rfl⟩)).calls), ?_⟩
    rw [chk_is] at hc'
    simp only [go_sem, ↓reduceIte, Int.reduceEq, Nat.reduceBEq, Option.some.injEq, Bool.true_eq_false, Bool.false_eq_true, Int.reduceBEq, Int.reduceBNe, Int.reduceLT, Int.reduceLE, Nat.add_assoc, Nat.reduceAdd, Nat.reducePow, Nat.zero_le, Nat.reduceEqDiff, Nat.reduceLT, Nat.reduceLeDiff, Nat.reduceMul, Nat.reduceSub, Nat.add_left_cancel_iff, Nat.lt_irrefl, Nat.le_refl, Nat.add_eq_left, Nat.left_eq_add, beq_self_eq_true, hc']; try rfl
set_option maxHeartbeats 8000000 in
theorem check_law (g : Gr) (hg : SmallG g) (hL : g.rules.length < 2000000) (σ : St) :
    CallsTo (XX mdC) (.func 11 []) [g.a] σ (.d (.bool true)) σ [] := by
  refine CallsTo.cut0 rfl fn11 (by simp) rfl ?_
  simp only [Try.f11, Option.getD_some]
  simp only [go_sem, ↓reduceIte, Int.reduceEq, Nat.reduceBEq, Option.some.injEq, Bool.true_eq_false, Bool.false_eq_true, Int.reduceBEq, Int.reduceBNe, Int.reduceLT, Int.reduceLE, Nat.add_assoc, Nat.reduceAdd, Nat.reducePow, Nat.zero_le, Nat.reduceEqDiff, Nat.reduceLT, Nat.reduceLeDiff, Nat.reduceMul, Nat.reduceSub, Nat.add_left_cancel_iff, Nat.lt_irrefl, Nat.le_refl, Nat.add_eq_left, Nat.left_eq_add, beq_self_eq_true, Int.reduceToNat, Nat.mul_one, Nat.zero_mul, Nat.zero_add, Nat.add_zero, Nat.one_mul, Gr.a]
  refine ⟨_, _, _, deepG_call rfl rfl g _ hg (by omega), ?_⟩
  cases hd : deepG g with
  | true =>
    simp only [go_sem, ↓reduceIte, Int.reduceEq, Nat.reduceBEq, Option.some.injEq, Bool.true_eq_false, Bool.false_eq_true, Int.reduceBEq, Int.reduceBNe, Int.reduceLT, Int.reduceLE, Nat.add_assoc, Nat.reduceAdd, Nat.reducePow, Nat.zero_le, Nat.reduceEqDiff, Nat.reduceLT, Nat.reduceLeDiff, Nat.reduceMul, Nat.reduceSub, Nat.add_left_cancel_iff, Nat.lt_irrefl, Nat.le_refl, Nat.add_eq_left, Nat.left_eq_add, beq_self_eq_true, Int.reduceToNat, Nat.mul_one, Nat.zero_mul, Nat.zero_add, Nat.add_zero, Nat.one_mul]
    refine ⟨_, _, _, works_C _, ?_⟩
    simp only [go_sem, ↓reduceIte, Int.reduceEq, Nat.reduceBEq, Option.some.injEq, Bool.true_eq_false, Bool.false_eq_true, Int.reduceBEq, Int.reduceBNe, Int.reduceLT, Int.reduceLE, Nat.add_assoc, Nat.reduceAdd, Nat.reducePow, Nat.zero_le, Nat.reduceEqDiff, Nat.reduceLT, Nat.reduceLeDiff, Nat.reduceMul, Nat.reduceSub, Nat.add_left_cancel_iff, Nat.lt_irrefl, Nat.le_refl, Nat.add_eq_left, Nat.left_eq_add, beq_self_eq_true, Int.reduceToNat, Nat.mul_one, Nat.zero_mul, Nat.zero_add, Nat.add_zero, Nat.one_mul]
  | false =>
  simp only [go_sem, ↓reduceIte, Int.reduceEq, Nat.reduceBEq, Option.some.injEq, Bool.true_eq_false, Bool.false_eq_true, Int.reduceBEq, Int.reduceBNe, Int.reduceLT, Int.reduceLE, Nat.add_assoc, Nat.reduceAdd, Nat.reducePow, Nat.zero_le, Nat.reduceEqDiff, Nat.reduceLT, Nat.reduceLeDiff, Nat.reduceMul, Nat.reduceSub, Nat.add_left_cancel_iff, Nat.lt_irrefl, Nat.le_refl, Nat.add_eq_left, Nat.left_eq_add, beq_self_eq_true, Int.reduceToNat, Nat.mul_one, Nat.zero_mul, Nat.zero_add, Nat.add_zero, Nat.one_mul]
  refine ⟨_, _, _, cpG_call rfl rfl g _ hg (by omega), ?_⟩
  simp only [go_sem, ↓reduceIte, Int.reduceEq, Nat.reduceBEq, Option.some.injEq, Bool.true_eq_false, Bool.false_eq_true, Int.reduceBEq, Int.reduceBNe, Int.reduceLT, Int.reduceLE, Nat.add_assoc, Nat.reduceAdd, Nat.reducePow, Nat.zero_le, Nat.reduceEqDiff, Nat.reduceLT, Nat.reduceLeDiff, Nat.reduceMul, Nat.reduceSub, Nat.add_left_cancel_iff, Nat.lt_irrefl, Nat.le_refl, Nat.add_eq_left, Nat.left_eq_add, beq_self_eq_true, Int.reduceToNat, Nat.mul_one, Nat.zero_mul, Nat.zero_add, Nat.add_zero, Nat.one_mul, Gr.a]
  refine ⟨_, _, _, nullable_C (cp_small hg) _, ?_⟩
  have e1 : checkP g.cp = checkP g := by rw [← chk_is, ← chk_is, chkR_cp]
  have e2 : nullD g.cp = nullD g := by rw [← nullRD_is, ← nullRD_is, nullRD_cp]
  rw [e1, e2]
  simp only [go_sem, ↓reduceIte, Int.reduceEq, Nat.reduceBEq, Option.some.injEq, Bool.true_eq_false, Bool.false_eq_true, Int.reduceBEq, Int.reduceBNe, Int.reduceLT, Int.reduceLE, Nat.add_assoc, Nat.reduceAdd, Nat.reducePow, Nat.zero_le, Nat.reduceEqDiff, Nat.reduceLT, Nat.reduceLeDiff, Nat.reduceMul, Nat.reduceSub, Nat.add_left_cancel_iff, Nat.lt_irrefl, Nat.le_refl, Nat.add_eq_left, Nat.left_eq_add, beq_self_eq_true, Int.reduceToNat, Nat.mul_one, Nat.zero_mul, Nat.zero_add, Nat.add_zero, Nat.one_mul, Gr.a]
  refine ⟨_, _, _, nullable_R rfl fzC g hg (by omega) _, ?_⟩
  simp only [go_sem, ↓reduceIte, Int.reduceEq, Nat.reduceBEq, Option.some.injEq, Bool.true_eq_false, Bool.false_eq_true, Int.reduceBEq, Int.reduceBNe, Int.reduceLT, Int.reduceLE, Nat.add_assoc, Nat.reduceAdd, Nat.reducePow, Nat.zero_le, Nat.reduceEqDiff, Nat.reduceLT, Nat.reduceLeDiff, Nat.reduceMul, Nat.reduceSub, Nat.add_left_cancel_iff, Nat.lt_irrefl, Nat.le_refl, Nat.add_eq_left, Nat.left_eq_add, beq_self_eq_true, Int.reduceToNat, Nat.mul_one, Nat.zero_mul, Nat.zero_add, Nat.add_zero, Nat.one_mul, Gr.a]
  refine ⟨_, _, _, check_C (cp_small hg) _, ?_⟩
  rw [e1]
  simp only [go_sem, ↓reduceIte, Int.reduceEq, Nat.reduceBEq, Option.some.injEq, Bool.true_eq_false, Bool.false_eq_true, Int.reduceBEq, Int.reduceBNe, Int.reduceLT, Int.reduceLE, Nat.add_assoc, Nat.reduceAdd, Nat.reducePow, Nat.zero_le, Nat.reduceEqDiff, Nat.reduceLT, Nat.reduceLeDiff, Nat.reduceMul, Nat.reduceSub, Nat.add_left_cancel_iff, Nat.lt_irrefl, Nat.le_refl, Nat.add_eq_left, Nat.left_eq_add, beq_self_eq_true, Int.reduceToNat, Nat.mul_one, Nat.zero_mul, Nat.zero_add, Nat.add_zero, Nat.one_mul, Gr.a]
  refine ⟨_, _, _, chk_r fzC g hg (by omega) (hok_g g) _, ?_⟩
  rw [chk_is]
  have b0 : (checkP g != checkP g) = false := by simp
  obtain ⟨z, L, hN, hLl⟩ := nullD_form g
  rw [hN]
  have b1 : (((boolsD L).length : Int) != ((boolsD L).length : Int)) = false := by simp
  simp only [go_sem, ↓reduceIte, Int.reduceEq, Nat.reduceBEq, Option.some.injEq, Bool.true_eq_false, Bool.false_eq_true, Int.reduceBEq, Int.reduceBNe, Int.reduceLT, Int.reduceLE, Nat.add_assoc, Nat.reduceAdd, Nat.reducePow, Nat.zero_le, Nat.reduceEqDiff, Nat.reduceLT, Nat.reduceLeDiff, Nat.reduceMul, Nat.reduceSub, Nat.add_left_cancel_iff, Nat.lt_irrefl, Nat.le_refl, Nat.add_eq_left, Nat.left_eq_add, beq_self_eq_true, Int.reduceToNat, Nat.mul_one, Nat.zero_mul, Nat.zero_add, Nat.add_zero, Nat.one_mul, Gr.a, b0, b1]
  refine ⟨_, _, _, sameG_call rfl rfl g _ hg (by omega), ?_⟩
  simp only [go_sem, ↓reduceIte, Int.reduceEq, Nat.reduceBEq, Option.some.injEq, Bool.true_eq_false, Bool.false_eq_true, Int.reduceBEq, Int.reduceBNe, Int.reduceLT, Int.reduceLE, Nat.add_assoc, Nat.reduceAdd, Nat.reducePow, Nat.zero_le, Nat.reduceEqDiff, Nat.reduceLT, Nat.reduceLeDiff, Nat.reduceMul, Nat.reduceSub, Nat.add_left_cancel_iff, Nat.lt_irrefl, Nat.le_refl, Nat.add_eq_left, Nat.left_eq_add, beq_self_eq_true, Int.reduceToNat, Nat.mul_one, Nat.zero_mul, Nat.zero_add, Nat.add_zero, Nat.one_mul]
  refine ⟨rfl, ?_⟩
  refine Ev.loop_ind (fun k tm τ W => ∃ i : Nat, k = L.length - i ∧ i ≤ L.length ∧ W = [] ∧
      tm.at 4 = .d (.slc z (boolsD L)) ∧ tm.at 6 = .d (.slc z (boolsD L)) ∧ tm.at 8 = .d (.int .i64 i)) ?_ L.length _ _ _ ⟨0, rfl, by omega, rfl, ?_, ?_, ?_⟩
  · rintro k tm τ W ⟨i, rfl, hi, rfl, t4, t6, t8⟩ ih
    by_cases hl : i < L.length
    · have b2 : (L.getD i false != L.getD i false) = false := by simp
      simp only [go_sem, ↓reduceIte, Int.reduceEq, Nat.reduceBEq, Option.some.injEq, Bool.true_eq_false, Bool.false_eq_true, Int.reduceBEq, Int.reduceBNe, Int.reduceLT, Int.reduceLE, Nat.add_assoc, Nat.reduceAdd, Nat.reducePow, Nat.zero_le, Nat.reduceEqDiff, Nat.reduceLT, Nat.reduceLeDiff, Nat.reduceMul, Nat.reduceSub, Nat.add_left_cancel_iff, Nat.lt_irrefl, Nat.le_refl, Nat.add_eq_left, Nat.left_eq_add, beq_self_eq_true, Int.reduceToNat, Nat.mul_one, Nat.zero_mul, Nat.zero_add, Nat.add_zero, Nat.one_mul, t4, t6, t8, boolsD_len2, dec_lt' hl, index_bools hl, b2]
      refine ⟨rfl, ?_⟩
      simp only [go_sem, ↓reduceIte, Int.reduceEq, Nat.reduceBEq, Option.some.injEq, Bool.true_eq_false, Bool.false_eq_true, Int.reduceBEq, Int.reduceBNe, Int.reduceLT, Int.reduceLE, Nat.add_assoc, Nat.reduceAdd, Nat.reducePow, Nat.zero_le, Nat.reduceEqDiff, Nat.reduceLT, Nat.reduceLeDiff, Nat.reduceMul, Nat.reduceSub, Nat.add_left_cancel_iff, Nat.lt_irrefl, Nat.le_refl, Nat.add_eq_left, Nat.left_eq_add, beq_self_eq_true, Int.reduceToNat, Nat.mul_one, Nat.zero_mul, Nat.zero_add, Nat.add_zero, Nat.one_mul, t8, wrap_succ' hl (by omega)]
      exact ih _ _ _ _ (by omega) ⟨i + 1, rfl, hl, rfl, by simp only [go_sem, ↓reduceIte, Int.reduceEq, Nat.reduceBEq, Option.some.injEq, Bool.true_eq_false, Bool.false_eq_true, Int.reduceBEq, Int.reduceBNe, Int.reduceLT, Int.reduceLE, Nat.add_assoc, Nat.reduceAdd, Nat.reducePow, Nat.zero_le, Nat.reduceEqDiff, Nat.reduceLT, Nat.reduceLeDiff, Nat.reduceMul, Nat.reduceSub, Nat.add_left_cancel_iff, Nat.lt_irrefl, Nat.le_refl, Nat.add_eq_left, Nat.left_eq_add, beq_self_eq_true, Int.reduceToNat, Nat.mul_one, Nat.zero_mul, Nat.zero_add, Nat.add_zero, Nat.one_mul, t4], by simp only [go_sem, ↓reduceIte, Int.reduceEq, Nat.reduceBEq, Option.some.injEq, Bool.true_eq_false, Bool.false_eq_true, Int.reduceBEq, Int.reduceBNe, Int.reduceLT, Int.reduceLE, Nat.add_assoc, Nat.reduceAdd, Nat.reducePow, Nat.zero_le, Nat.reduceEqDiff, Nat.reduceLT, Nat.reduceLeDiff, Nat.reduceMul, Nat.reduceSub, Nat.add_left_cancel_iff, Nat.lt_irrefl, Nat.le_refl, Nat.add_eq_left, Nat.left_eq_add, beq_self_eq_true, Int.reduceToNat, Nat.mul_one, Nat.zero_mul, Nat.zero_add, Nat.add_zero, Nat.one_mul, t6], by simp only [go_sem, ↓reduceIte, Int.reduceEq, Nat.reduceBEq, Option.some.injEq, Bool.true_eq_false, Bool.false_eq_true, Int.reduceBEq, Int.reduceBNe, Int.reduceLT, Int.reduceLE, Nat.add_assoc, Nat.reduceAdd, Nat.reducePow, Nat.zero_le, Nat.reduceEqDiff, Nat.reduceLT, Nat.reduceLeDiff, Nat.reduceMul, Nat.reduceSub, Nat.add_left_cancel_iff, Nat.lt_irrefl, Nat.le_refl, Nat.add_eq_left, Nat.left_eq_add, beq_self_eq_true, Int.reduceToNat, Nat.mul_one, Nat.zero_mul, Nat.zero_add, Nat.add_zero, Nat.one_mul]⟩
    · simp only [go_sem, ↓reduceIte, Int.reduceEq, Nat.reduceBEq, Option.some.injEq, Bool.true_eq_false, Bool.false_eq_true, Int.reduceBEq, Int.reduceBNe, Int.reduceLT, Int.reduceLE, Nat.add_assoc, Nat.reduceAdd, Nat.reducePow, Nat.zero_le, Nat.reduceEqDiff, Nat.reduceLT, Nat.reduceLeDiff, Nat.reduceMul, Nat.reduceSub, Nat.add_left_cancel_iff, Nat.lt_irrefl, Nat.le_refl, Nat.add_eq_left, Nat.left_eq_add, beq_self_eq_true, Int.reduceToNat, Nat.mul_one, Nat.zero_mul, Nat.zero_add, Nat.add_zero, Nat.one_mul, t4, t8, boolsD_len2, dec_ge' hl]
      refine ⟨_, _, _, works_C _, ?_⟩
      simp only [go_sem, ↓reduceIte, Int.reduceEq, Nat.reduceBEq, Option.some.injEq, Bool.true_eq_false, Bool.false_eq_true, Int.reduceBEq, Int.reduceBNe, Int.reduceLT, Int.reduceLE, Nat.add_assoc, Nat.reduceAdd, Nat.reducePow, Nat.zero_le, Nat.reduceEqDiff, Nat.reduceLT, Nat.reduceLeDiff, Nat.reduceMul, Nat.reduceSub, Nat.add_left_cancel_iff, Nat.lt_irrefl, Nat.le_refl, Nat.add_eq_left, Nat.left_eq_add, beq_self_eq_true, Int.reduceToNat, Nat.mul_one, Nat.zero_mul, Nat.zero_add, Nat.add_zero, Nat.one_mul]
  all_goals first | rfl | (simp only [go_sem, ↓reduceIte, Int.reduceEq, Nat.reduceBEq, Option.some.injEq, Bool.true_eq_false, Bool.false_eq_true, Int.reduceBEq, Int.reduceBNe, Int.reduceLT, Int.reduceLE, Nat.add_assoc, Nat.reduceAdd, Nat.reducePow, Nat.zero_le, Nat.reduceEqDiff, Nat.reduceLT, Nat.reduceLeDiff, Nat.reduceMul, Nat.reduceSub, Nat.add_left_cancel_iff, Nat.lt_irrefl, Nat.le_refl, Nat.add_eq_left, Nat.left_eq_add, beq_self_eq_true, Int.reduceToNat, Nat.mul_one, Nat.zero_mul, Nat.zero_add, Nat.add_zero, Nat.one_mul]; done) | (simp only [go_sem, ↓reduceIte, Int.reduceEq, Nat.reduceBEq, Option.some.injEq, Bool.true_eq_false, Bool.false_eq_true, Int.reduceBEq, Int.reduceBNe, Int.reduceLT, Int.reduceLE, Nat.add_assoc, Nat.reduceAdd, Nat.reducePow, Nat.zero_le, Nat.reduceEqDiff, Nat.reduceLT, Nat.reduceLeDiff, Nat.reduceMul, Nat.reduceSub, Nat.add_left_cancel_iff, Nat.lt_irrefl, Nat.le_refl, Nat.add_eq_left, Nat.left_eq_add, beq_self_eq_true, Int.reduceToNat, Nat.mul_one, Nat.zero_mul, Nat.zero_add, Nat.add_zero, Nat.one_mul]; rfl)
end Go.Am

/- Part Y1 of a proof that runs a program's calls on a small machine whose values bear no addresses: no conditions. -/
import Derived.Test.YtahfdfpakikbpaaAmQ3
import Derived.Test.YtahfdfpakikbpaaAmU1
set_option autoImplicit false
set_option linter.unusedSimpArgs false
set_option linter.unusedVariables false
set_option linter.unusedSectionVars false
namespace Go.Am
open Go Go.Proofs
section
variable {X : X} {tm : Tm} {σ : St} {dst : Option Nat} {ty : Nat} {pos : String} {after : Array Edge} {g : Option (Nat × Bool)}
def bndA (o : Option A) (d : Nat) : Option Nat := match o with
  | none => some d
  | some (.d (.int _ n)) => if 0 ≤ n then some n.toNat else none
  | _ => none
theorem bnd_eq {o : Option Operand} {d : Nat} : bnd tm o d = bndA (o.map (ev tm)) d := by
  cases o with
  | none => rfl
  | some p =>
    unfold bnd bndA
    simp only [Option.map_some]
    cases h : ev tm p with
    | d x => cases x <;> rfl
    | _ => rfl
def sliceD (σ : St) (z : Bool) (xs : List (List D)) (lo hi : Option A) : Option TI → OpR
  | some ie => match bndA hi xs.length with
    | some h => match bndA lo 0 with
      | some l => if l ≤ h ∧ h ≤ xs.length ∧ ((xs.take h).drop l).all (fun c => c.length == ie.size) = true then .val (.d (.slc z ((xs.take h).drop l))) σ [] [] else .bad
      | none => .bad
    | none => .bad
  | none => .bad
theorem o_sliceD {t : Nat} {x : Operand} {lo hi : Option Operand} {z : Bool} {xs : List (List D)} {e s b : Nat} {zz : Option (List A)} {zv : A} (ht : X.ti t = some ⟨.slc e, s, b, zz, zv⟩) (hx : ev tm x = .d (.slc z xs)) :
    evalOp X tm σ ⟨dst, .slice t x lo hi none, ty, pos, after, g⟩ = sliceD σ z xs (lo.map (ev tm)) (hi.map (ev tm)) (X.ti e) := by
  unfold evalOp sliceD
  simp only [ht, hx, bnd_eq]
  cases X.ti e <;> cases bndA (hi.map (ev tm)) xs.length <;> rfl
/-- slices of data, of rows -/
def sliceT (X : Am.X) (tm : Tm) (σ : St) (t : Nat) (lo hi : Option A) : A → Option TI → OpR
  | .d (.slc z xs), some ⟨.slc e, _, _, _, _⟩ => sliceD σ z xs lo hi (X.ti e)
  | x, _ => evalOp X (FT.set (FT.set (FT.set FT.nil 0 x) 1 (lo.getD .top)) 2 (hi.getD .top)) σ ⟨none, .slice t (.tmp 0) (lo.map fun _ => .tmp 1) (hi.map fun _ => .tmp 2) none, 0, "", #[], none⟩
theorem o_slice {t : Nat} {x : Operand} {lo hi : Option Operand} : evalOp X tm σ ⟨dst, .slice t x lo hi none, ty, pos, after, g⟩ = sliceT X tm σ t (lo.map (ev tm)) (hi.map (ev tm)) (ev tm x) (X.ti t) := by
  have gen : evalOp X tm σ ⟨dst, .slice t x lo hi none, ty, pos, after, g⟩ = evalOp X (FT.set (FT.set (FT.set FT.nil 0 (ev tm x)) 1 ((lo.map (ev tm)).getD .top)) 2 ((hi.map (ev tm)).getD .top)) σ ⟨none, .slice t (.tmp 0) ((lo.map (ev tm)).map fun _ => .tmp 1) ((hi.map (ev tm)).map fun _ => .tmp 2) none, 0, "", #[], none⟩ := by
    unfold evalOp
    simp only [bnd_eq]
    have a0 : ev (FT.set (FT.set (FT.set FT.nil 0 (ev tm x)) 1 ((lo.map (ev tm)).getD .top)) 2 ((hi.map (ev tm)).getD .top)) (.tmp 0) = ev tm x := by simp [ev, Tm.at_set]
    have a1 : ((lo.map (ev tm)).map fun _ => Operand.tmp 1).map (ev (FT.set (FT.set (FT.set FT.nil 0 (ev tm x)) 1 ((lo.map (ev tm)).getD .top)) 2 ((hi.map (ev tm)).getD .top))) = lo.map (ev tm) := by
      cases lo <;> simp [ev, Tm.at_set]
    have a2 : ((hi.map (ev tm)).map fun _ => Operand.tmp 2).map (ev (FT.set (FT.set (FT.set FT.nil 0 (ev tm x)) 1 ((lo.map (ev tm)).getD .top)) 2 ((hi.map (ev tm)).getD .top))) = hi.map (ev tm) := by
      cases hi <;> simp [ev, Tm.at_set]
    rw [a0, a1, a2]
  unfold sliceT
  split
  · rename_i z xs e s b zz zv h1 h2
    rw [o_sliceD h2 h1]
  · exact gen
theorem sliceT_d {t : Nat} {lo hi : Option A} {z : Bool} {xs : List (List D)} {e s b : Nat} {zz : Option (List A)} {zv : A} : sliceT X tm σ t lo hi (.d (.slc z xs)) (some ⟨.slc e, s, b, zz, zv⟩) = sliceD σ z xs lo hi (X.ti e) := rfl
theorem sliceD_hi {z : Bool} {l : List Int} {n : Nat} {kd : IntKind} {ek : TK} {eb : Nat} {ez : Option (List A)} {ezv : A} : sliceD σ z (intsD l) none (some (.d (.int kd (n : Int)))) (some ⟨ek, 1, eb, ez, ezv⟩) = if n ≤ l.length then .val (.d (.slc z (intsD (l.take n)))) σ [] [] else .bad := by
  unfold sliceD bndA
  simp only [Int.natCast_nonneg, if_true, Int.toNat_natCast, intsD_len, Nat.zero_le, true_and, List.drop_zero]
  have h1 : ((intsD l).take n).all (fun c => c.length == 1) = true := by
    rw [List.all_eq_true]; intro c hc; rw [intsD_one l c (List.mem_of_mem_take hc)]; rfl
  have h2 : (intsD l).take n = intsD (l.take n) := by simp [intsD, List.map_take]
  by_cases h : n ≤ l.length
  · rw [if_pos ⟨h, h1⟩, if_pos h, h2]
  · rw [if_neg (fun e => h e.1), if_neg h]
theorem sliceD_lo {z : Bool} {l : List Int} {n : Nat} {kd : IntKind} {ek : TK} {eb : Nat} {ez : Option (List A)} {ezv : A} : sliceD σ z (intsD l) (some (.d (.int kd (n : Int)))) none (some ⟨ek, 1, eb, ez, ezv⟩) = if n ≤ l.length then .val (.d (.slc z (intsD (l.drop n)))) σ [] [] else .bad := by
  unfold sliceD bndA
  simp only [Int.natCast_nonneg, if_true, Int.toNat_natCast, intsD_len, Nat.le_refl, true_and]
  have h1 : (((intsD l).take l.length).drop n).all (fun c => c.length == 1) = true := by
    rw [List.all_eq_true]; intro c hc; rw [intsD_one l c (List.mem_of_mem_take (List.mem_of_mem_drop hc))]; rfl
  have h2 : ((intsD l).take l.length).drop n = intsD (l.drop n) := by rw [List.take_of_length_le (by rw [intsD_len]; exact Nat.le_refl _)]; simp [intsD, List.map_drop]
  by_cases h : n ≤ l.length
  · rw [if_pos ⟨h, h1⟩, if_pos h, h2]
  · rw [if_neg (fun e => h e.1), if_neg h]
theorem len_ints {z : Bool} {l : List Int} : sliceLen σ (.d (.slc z (intsD l))) = some l.length := by simp [sliceLen, intsD_len]
theorem minA {a b : Nat} : minmax false [.d (.int .i64 (a : Int)), .d (.int .i64 (b : Int))] = some (.d (.int .i64 ((min a b : Nat) : Int))) := by
  simp [minmax, mmStep]
  split
  · rw [Nat.min_eq_right (by omega)]
  · rw [Nat.min_eq_left (by omega)]
theorem o_minA {x y : Operand} {ts : Array Nat} : evalOp X tm σ ⟨dst, .call ⟨.builtin .min, #[x, y], ts⟩, ty, pos, after, g⟩ = OpR.of σ [] (minmax false [ev tm x, ev tm y]) := rfl
end
attribute [go_sem] o_minA intsD_len o_slice sliceT_d sliceD_hi sliceD_lo len_ints Option.map_none Option.map_some
end Go.Am
namespace Go.Am
open Go Go.Proofs
variable {fz : Nat → Md}

/-! The document's answer: sizes. -/
mutual
def partsE : Ex → Int → Int
  | .mk _ _ _ l, d => if d = 0 then 1000 else partsL l (IntKind.i64.wrap (d - 1)) 1
def partsL : List Ex → Int → Int → Int
  | [], _, many => many
  | x :: l, d, many => if many < 1000 then partsL l d (IntKind.i64.wrap (many + partsE x d)) else many
end
theorem partsE_eq (x : Ex) (d : Int) : partsE x d = if d = 0 then 1000 else partsL x.l (IntKind.i64.wrap (d - 1)) 1 := by cases x; rw [partsE]; rfl
theorem partsL_ge (l : List Ex) (d many : Int) (h : ¬ many < 1000) : partsL l d many = many := by
  cases l with
  | nil => rw [partsL]
  | cons x l => rw [partsL, if_neg h]
set_option maxHeartbeats 2000000 in
theorem parts_call (h110 : fz 110 = .cut) (x : Ex) (d : Int) (σ : St) (hx : SmallE x) : CallsTo (XX fz) (.func 110 []) [x.a, .d (.int .i64 d)] σ (.d (.int .i64 (partsE x d))) σ [] := by
  refine CallsTo.cut0 h110 fn110 (by simp) rfl ?_
  rw [partsE_eq]
  simp only [Try.f110, Option.getD_some]
  have hlen := hx.len
  simp only [go_sem, ↓reduceIte, Int.reduceEq, Nat.reduceBEq, Option.some.injEq, Bool.true_eq_false, Bool.false_eq_true, Int.reduceBEq, Int.reduceBNe, Int.reduceLT, Int.reduceLE, Nat.add_assoc, Nat.reduceAdd, Nat.reducePow, Nat.zero_le, Nat.reduceEqDiff, Nat.reduceLT, Nat.reduceLeDiff, Nat.reduceMul, Nat.reduceSub, Nat.add_left_cancel_iff, Nat.lt_irrefl, Nat.le_refl, Nat.add_eq_left, Nat.left_eq_add, beq_self_eq_true, Ex.a]
  by_cases h0 : d = 0
  · have e0 : (d == 0) = true := by simpa using h0
    simp only [go_sem, ↓reduceIte, Int.reduceEq, Nat.reduceBEq, Option.some.injEq, Bool.true_eq_false, Bool.false_eq_true, Int.reduceBEq, Int.reduceBNe, Int.reduceLT, Int.reduceLE, Nat.add_assoc, Nat.reduceAdd, Nat.reducePow, Nat.zero_le, Nat.reduceEqDiff, Nat.reduceLT, Nat.reduceLeDiff, Nat.reduceMul, Nat.reduceSub, Nat.add_left_cancel_iff, Nat.lt_irrefl, Nat.le_refl, Nat.add_eq_left, Nat.left_eq_add, beq_self_eq_true, e0, if_pos h0]
  · have e0 : (d == 0) = false := by simpa using h0
    rw [if_neg h0]
    simp only [go_sem, ↓reduceIte, Int.reduceEq, Nat.reduceBEq, Option.some.injEq, Bool.true_eq_false, Bool.false_eq_true, Int.reduceBEq, Int.reduceBNe, Int.reduceLT, Int.reduceLE, Nat.add_assoc, Nat.reduceAdd, Nat.reducePow, Nat.zero_le, Nat.reduceEqDiff, Nat.reduceLT, Nat.reduceLeDiff, Nat.reduceMul, Nat.reduceSub, Nat.add_left_cancel_iff, Nat.lt_irrefl, Nat.le_refl, Nat.add_eq_left, Nat.left_eq_add, beq_self_eq_true, e0]
    refine Ev.loop_ind (fun k tm τ W => ∃ (i : Nat) (many : Int), k = x.l.length - i ∧ i ≤ x.l.length ∧ W = [] ∧ τ = σ.push (.cells x.c) ∧ partsL (x.l.drop i) (IntKind.i64.wrap (d - 1)) many = partsL x.l (IntKind.i64.wrap (d - 1)) 1 ∧
        tm.at 1 = .d (.int .i64 d) ∧ tm.at 2 = .ptr σ.n 0 ∧ tm.at 5 = .d (.int .i64 many) ∧ tm.at 6 = .d (.int .i64 i)) ?_ x.l.length _ _ _ ⟨0, 1, rfl, by omega, rfl, rfl, rfl, ?_, ?_, ?_, ?_⟩
    · rintro k tm τ W ⟨i, many, rfl, hi, rfl, rfl, he, t1, t2, t5, t6⟩ ih
      by_cases hl : i < x.l.length
      · have hget : x.l[i]? = some x.l[i] := by simp [hl]
        have hmem : x.l[i] ∈ x.l := List.getElem_mem hl
        rw [List.drop_eq_getElem_cons hl, partsL] at he
        cases hm : decide (many < 1000) with
        | true =>
          have hm' : many < 1000 := by simpa using hm
          rw [if_pos hm'] at he
          simp only [go_sem, ↓reduceIte, Int.reduceEq, Nat.reduceBEq, Option.some.injEq, Bool.true_eq_false, Bool.false_eq_true, Int.reduceBEq, Int.reduceBNe, Int.reduceLT, Int.reduceLE, Nat.add_assoc, Nat.reduceAdd, Nat.reducePow, Nat.zero_le, Nat.reduceEqDiff, Nat.reduceLT, Nat.reduceLeDiff, Nat.reduceMul, Nat.reduceSub, Nat.add_left_cancel_iff, Nat.lt_irrefl, Nat.le_refl, Nat.add_eq_left, Nat.left_eq_add, beq_self_eq_true, t1, t2, t5, t6, dec_lt' hl, hm, Ex.index_ld hget]
          refine ⟨_, _, _, parts_call h110 x.l[i] _ _ (hx.sub hmem), ?_⟩
          simp only [go_sem, ↓reduceIte, Int.reduceEq, Nat.reduceBEq, Option.some.injEq, Bool.true_eq_false, Bool.false_eq_true, Int.reduceBEq, Int.reduceBNe, Int.reduceLT, Int.reduceLE, Nat.add_assoc, Nat.reduceAdd, Nat.reducePow, Nat.zero_le, Nat.reduceEqDiff, Nat.reduceLT, Nat.reduceLeDiff, Nat.reduceMul, Nat.reduceSub, Nat.add_left_cancel_iff, Nat.lt_irrefl, Nat.le_refl, Nat.add_eq_left, Nat.left_eq_add, beq_self_eq_true, t6, wrap_succ' hl hlen]
          exact ih _ _ _ _ (by omega) ⟨i + 1, _, rfl, hl, rfl, rfl, he, by simp only [go_sem, ↓reduceIte, Int.reduceEq, Nat.reduceBEq, Option.some.injEq, Bool.true_eq_false, Bool.false_eq_true, Int.reduceBEq, Int.reduceBNe, Int.reduceLT, Int.reduceLE, Nat.add_assoc, Nat.reduceAdd, Nat.reducePow, Nat.zero_le, Nat.reduceEqDiff, Nat.reduceLT, Nat.reduceLeDiff, Nat.reduceMul, Nat.reduceSub, Nat.add_left_cancel_iff, Nat.lt_irrefl, Nat.le_refl, Nat.add_eq_left, Nat.left_eq_add, beq_self_eq_true, t1], by simp only [go_sem, ↓reduceIte, Int.reduceEq, Nat.reduceBEq, Option.some.injEq, Bool.true_eq_false, Bool.false_eq_true, Int.reduceBEq, Int.reduceBNe, Int.reduceLT, Int.reduceLE, Nat.add_assoc, Nat.reduceAdd, Nat.reducePow, Nat.zero_le, Nat.reduceEqDiff, Nat.reduceLT, Nat.reduceLeDiff, Nat.reduceMul, Nat.reduceSub, Nat.add_left_cancel_iff, Nat.lt_irrefl, Nat.le_refl, Nat.add_eq_left, Nat.left_eq_add, beq_self_eq_true, t2], by simp only [go_sem, ↓reduceIte, Int.reduceEq, Nat.reduceBEq, Option.some.injEq, Bool.true_eq_false, Bool.false_eq_true, Int.reduceBEq, Int.reduceBNe, Int.reduceLT, Int.reduceLE, Nat.add_assoc, Nat.reduceAdd, Nat.reducePow, Nat.zero_le, Nat.reduceEqDiff, Nat.reduceLT, Nat.reduceLeDiff, Nat.reduceMul, Nat.reduceSub, Nat.add_left_cancel_iff, Nat.lt_irrefl, Nat.le_refl, Nat.add_eq_left, Nat.left_eq_add, beq_self_eq_true], by simp only [go_sem, ↓reduceIte, Int.reduceEq, Nat.reduceBEq, Option.some.injEq, Bool.true_eq_false, Bool.false_eq_true, Int.reduceBEq, Int.reduceBNe, Int.reduceLT, Int.reduceLE, Nat.add_assoc, Nat.reduceAdd, Nat.reducePow, Nat.zero_le, Nat.reduceEqDiff, Nat.reduceLT, Nat.reduceLeDiff, Nat.reduceMul, Nat.reduceSub, Nat.add_left_cancel_iff, Nat.lt_irrefl, Nat.le_refl, Nat.add_eq_left, Nat.left_eq_add, beq_self_eq_true]⟩
        | false =>
          have hm' : ¬ many < 1000 := by simpa using hm
          rw [if_neg hm'] at he
          simp only [go_sem, ↓reduceIte, Int.reduceEq, Nat.reduceBEq, Option.some.injEq, Bool.true_eq_false, Bool.false_eq_true, Int.reduceBEq, Int.reduceBNe, Int.reduceLT, Int.reduceLE, Nat.add_assoc, Nat.reduceAdd, Nat.reducePow, Nat.zero_le, Nat.reduceEqDiff, Nat.reduceLT, Nat.reduceLeDiff, Nat.reduceMul, Nat.reduceSub, Nat.add_left_cancel_iff, Nat.lt_irrefl, Nat.le_refl, Nat.add_eq_left, Nat.left_eq_add, beq_self_eq_true, t1, t2, t5, t6, dec_lt' hl, hm, ← he]
      · simp only [go_sem, ↓reduceIte, Int.reduceEq, Nat.reduceBEq, Option.some.injEq, Bool.true_eq_false, Bool.false_eq_true, Int.reduceBEq, Int.reduceBNe, Int.reduceLT, Int.reduceLE, Nat.add_assoc, Nat.reduceAdd, Nat.reducePow, Nat.zero_le, Nat.reduceEqDiff, Nat.reduceLT, Nat.reduceLeDiff, Nat.reduceMul, Nat.reduceSub, Nat.add_left_cancel_iff, Nat.lt_irrefl, Nat.le_refl, Nat.add_eq_left, Nat.left_eq_add, beq_self_eq_true, t1, t2, t5, t6, dec_ge' hl]
        rw [List.drop_eq_nil_of_le (by omega), partsL] at he
        rw [← he]
    all_goals first | rfl | (simp only [go_sem, ↓reduceIte, Int.reduceEq, Nat.reduceBEq, Option.some.injEq, Bool.true_eq_false, Bool.false_eq_true, Int.reduceBEq, Int.reduceBNe, Int.reduceLT, Int.reduceLE, Nat.add_assoc, Nat.reduceAdd, Nat.reducePow, Nat.zero_le, Nat.reduceEqDiff, Nat.reduceLT, Nat.reduceLeDiff, Nat.reduceMul, Nat.reduceSub, Nat.add_left_cancel_iff, Nat.lt_irrefl, Nat.le_refl, Nat.add_eq_left, Nat.left_eq_add, beq_self_eq_true]; done) | (simp only [go_sem, ↓reduceIte, Int.reduceEq, Nat.reduceBEq, Option.some.injEq, Bool.true_eq_false, Bool.false_eq_true, Int.reduceBEq, Int.reduceBNe, Int.reduceLT, Int.reduceLE, Nat.add_assoc, Nat.reduceAdd, Nat.reducePow, Nat.zero_le, Nat.reduceEqDiff, Nat.reduceLT, Nat.reduceLeDiff, Nat.reduceMul, Nat.reduceSub, Nat.add_left_cancel_iff, Nat.lt_irrefl, Nat.le_refl, Nat.add_eq_left, Nat.left_eq_add, beq_self_eq_true]; rfl)
termination_by x
decreasing_by exact Ex.sub_lt hmem
def limL : List Ex → Int → Int
  | [], many => many
  | x :: l, many => if many ≤ 512 then limL l (IntKind.i64.wrap (many + partsE x 32)) else many
def limP (g : Gr) : Bool := if (decide ((g.rules.length : Int) > 32) || decide (g.tokens > 64)) = true then true else decide (limL g.bodies 0 > 512)
set_option maxHeartbeats 2000000 in
theorem lim_call (h89 : fz 89 = .cut) (h110 : fz 110 = .cut) (g : Gr) (σ : St) (hg : SmallG g) (hL : g.rules.length < 1000000000) : CallsTo (XX fz) (.func 89 []) [g.a] σ (.d (.bool (limP g))) σ [] := by
  refine CallsTo.cut0 h89 fn89 (by simp) rfl ?_
  simp only [Try.f89, Option.getD_some]
  unfold limP
  cases h1 : decide ((g.rules.length : Int) > 32) with
  | true => simp only [go_sem, ↓reduceIte, Int.reduceEq, Nat.reduceBEq, Option.some.injEq, Bool.true_eq_false, Bool.false_eq_true, Int.reduceBEq, Int.reduceBNe, Int.reduceLT, Int.reduceLE, Nat.add_assoc, Nat.reduceAdd, Nat.reducePow, Nat.zero_le, Nat.reduceEqDiff, Nat.reduceLT, Nat.reduceLeDiff, Nat.reduceMul, Nat.reduceSub, Nat.add_left_cancel_iff, Nat.lt_irrefl, Nat.le_refl, Nat.add_eq_left, Nat.left_eq_add, beq_self_eq_true, Gr.a, h1, Bool.true_or]
  | false =>
    cases h2 : decide (g.tokens > 64) with
    | true => simp only [go_sem, ↓reduceIte, Int.reduceEq, Nat.reduceBEq, Option.some.injEq, Bool.true_eq_false, Bool.false_eq_true, Int.reduceBEq, Int.reduceBNe, Int.reduceLT, Int.reduceLE, Nat.add_assoc, Nat.reduceAdd, Nat.reducePow, Nat.zero_le, Nat.reduceEqDiff, Nat.reduceLT, Nat.reduceLeDiff, Nat.reduceMul, Nat.reduceSub, Nat.add_left_cancel_iff, Nat.lt_irrefl, Nat.le_refl, Nat.add_eq_left, Nat.left_eq_add, beq_self_eq_true, Gr.a, h1, h2, Bool.or_true]
    | false =>
      have hbl : g.bodies.length = g.rules.length := by rw [Gr.bodies, List.length_map]
      simp only [go_sem, ↓reduceIte, Int.reduceEq, Nat.reduceBEq, Option.some.injEq, Bool.true_eq_false, Bool.false_eq_true, Int.reduceBEq, Int.reduceBNe, Int.reduceLT, Int.reduceLE, Nat.add_assoc, Nat.reduceAdd, Nat.reducePow, Nat.zero_le, Nat.reduceEqDiff, Nat.reduceLT, Nat.reduceLeDiff, Nat.reduceMul, Nat.reduceSub, Nat.add_left_cancel_iff, Nat.lt_irrefl, Nat.le_refl, Nat.add_eq_left, Nat.left_eq_add, beq_self_eq_true, Gr.a, h1, h2, Bool.or_false]
      refine Ev.loop_ind (fun k tm τ W => ∃ (i : Nat) (many : Int), k = g.rules.length - i ∧ i ≤ g.rules.length ∧ W = [] ∧ τ = σ.push (.cells g.c) ∧ limL (g.bodies.drop i) many = limL g.bodies 0 ∧
          tm.at 1 = .ptr σ.n 0 ∧ tm.at 3 = .d (.int .i64 many) ∧ tm.at 4 = .d (.int .i64 i)) ?_ g.rules.length _ _ _ ⟨0, 0, rfl, by omega, rfl, rfl, rfl, ?_, ?_, ?_⟩
      · rintro k tm τ W ⟨i, many, rfl, hi, rfl, rfl, he, t1, t3, t4⟩ ih
        by_cases hl : i < g.rules.length
        · have hget : g.rules[i]? = some g.rules[i] := by simp [hl]
          have hmem : g.rules[i] ∈ g.rules := List.getElem_mem hl
          have hm1 : g.bodies.drop i = g.rules[i].body :: g.bodies.drop (i + 1) := by
            rw [List.drop_eq_getElem_cons (by rw [hbl]; exact hl)]; simp [Gr.bodies]
          rw [hm1, limL] at he
          cases hm : decide (many ≤ 512) with
          | true =>
            have hm' : many ≤ 512 := by simpa using hm
            rw [if_pos hm'] at he
            simp only [go_sem, ↓reduceIte, Int.reduceEq, Nat.reduceBEq, Option.some.injEq, Bool.true_eq_false, Bool.false_eq_true, Int.reduceBEq, Int.reduceBNe, Int.reduceLT, Int.reduceLE, Nat.add_assoc, Nat.reduceAdd, Nat.reducePow, Nat.zero_le, Nat.reduceEqDiff, Nat.reduceLT, Nat.reduceLeDiff, Nat.reduceMul, Nat.reduceSub, Nat.add_left_cancel_iff, Nat.lt_irrefl, Nat.le_refl, Nat.add_eq_left, Nat.left_eq_add, beq_self_eq_true, t1, t3, t4, dec_lt' hl, hm, Gr.index_rd hget]
            refine ⟨_, _, _, parts_call h110 g.rules[i].body 32 _ (hg _ hmem), ?_⟩
            simp only [go_sem, ↓reduceIte, Int.reduceEq, Nat.reduceBEq, Option.some.injEq, Bool.true_eq_false, Bool.false_eq_true, Int.reduceBEq, Int.reduceBNe, Int.reduceLT, Int.reduceLE, Nat.add_assoc, Nat.reduceAdd, Nat.reducePow, Nat.zero_le, Nat.reduceEqDiff, Nat.reduceLT, Nat.reduceLeDiff, Nat.reduceMul, Nat.reduceSub, Nat.add_left_cancel_iff, Nat.lt_irrefl, Nat.le_refl, Nat.add_eq_left, Nat.left_eq_add, beq_self_eq_true, t4, wrap_succ' hl hL]
            exact ih _ _ _ _ (by omega) ⟨i + 1, _, rfl, hl, rfl, rfl, he, by simp only [go_sem, ↓reduceIte, Int.reduceEq, Nat.reduceBEq, Option.some.injEq, Bool.true_eq_false, Bool.false_eq_true, Int.reduceBEq, Int.reduceBNe, Int.reduceLT, Int.reduceLE, Nat.add_assoc, Nat.reduceAdd, Nat.reducePow, Nat.zero_le, Nat.reduceEqDiff, Nat.reduceLT, Nat.reduceLeDiff, Nat.reduceMul, Nat.reduceSub, Nat.add_left_cancel_iff, Nat.lt_irrefl, Nat.le_refl, Nat.add_eq_left, Nat.left_eq_add, beq_self_eq_true, t1], by simp only [go_sem, ↓reduceIte, Int.reduceEq, Nat.reduceBEq, Option.some.injEq, Bool.true_eq_false, Bool.false_eq_true, Int.reduceBEq, Int.reduceBNe, Int.reduceLT, Int.reduceLE, Nat.add_assoc, Nat.reduceAdd, Nat.reducePow, Nat.zero_le, Nat.reduceEqDiff, Nat.reduceLT, Nat.reduceLeDiff, Nat.reduceMul, Nat.reduceSub, Nat.add_left_cancel_iff, Nat.lt_irrefl, Nat.le_refl, Nat.add_eq_left, Nat.left_eq_add, beq_self_eq_true], by simp only [go_sem, ↓reduceIte, Int.reduceEq, Nat.reduceBEq, Option.some.injEq, Bool.true_eq_false, Bool.false_eq_true, Int.reduceBEq, Int.reduceBNe, Int.reduceLT, Int.reduceLE, Nat.add_assoc, Nat.reduceAdd, Nat.reducePow, Nat.zero_le, Nat.reduceEqDiff, Nat.reduceLT, Nat.reduceLeDiff, Nat.reduceMul, Nat.reduceSub, Nat.add_left_cancel_iff, Nat.lt_irrefl, Nat.le_refl, Nat.add_eq_left, Nat.left_eq_add, beq_self_eq_true]⟩
          | false =>
            have hm' : ¬ many ≤ 512 := by simpa using hm
            rw [if_neg hm'] at he
            simp only [go_sem, ↓reduceIte, Int.reduceEq, Nat.reduceBEq, Option.some.injEq, Bool.true_eq_false, Bool.false_eq_true, Int.reduceBEq, Int.reduceBNe, Int.reduceLT, Int.reduceLE, Nat.add_assoc, Nat.reduceAdd, Nat.reducePow, Nat.zero_le, Nat.reduceEqDiff, Nat.reduceLT, Nat.reduceLeDiff, Nat.reduceMul, Nat.reduceSub, Nat.add_left_cancel_iff, Nat.lt_irrefl, Nat.le_refl, Nat.add_eq_left, Nat.left_eq_add, beq_self_eq_true, t1, t3, t4, dec_lt' hl, hm, ← he]
        · simp only [go_sem, ↓reduceIte, Int.reduceEq, Nat.reduceBEq, Option.some.injEq, Bool.true_eq_false, Bool.false_eq_true, Int.reduceBEq, Int.reduceBNe, Int.reduceLT, Int.reduceLE, Nat.add_assoc, Nat.reduceAdd, Nat.reducePow, Nat.zero_le, Nat.reduceEqDiff, Nat.reduceLT, Nat.reduceLeDiff, Nat.reduceMul, Nat.reduceSub, Nat.add_left_cancel_iff, Nat.lt_irrefl, Nat.le_refl, Nat.add_eq_left, Nat.left_eq_add, beq_self_eq_true, t1, t3, t4, dec_ge' hl]
          rw [List.drop_eq_nil_of_le (by omega), limL] at he
          rw [← he]
      all_goals first | rfl | (simp only [go_sem, ↓reduceIte, Int.reduceEq, Nat.reduceBEq, Option.some.injEq, Bool.true_eq_false, Bool.false_eq_true, Int.reduceBEq, Int.reduceBNe, Int.reduceLT, Int.reduceLE, Nat.add_assoc, Nat.reduceAdd, Nat.reducePow, Nat.zero_le, Nat.reduceEqDiff, Nat.reduceLT, Nat.reduceLeDiff, Nat.reduceMul, Nat.reduceSub, Nat.add_left_cancel_iff, Nat.lt_irrefl, Nat.le_refl, Nat.add_eq_left, Nat.left_eq_add, beq_self_eq_true]; done) | (simp only [go_sem, ↓reduceIte, Int.reduceEq, Nat.reduceBEq, Option.some.injEq, Bool.true_eq_false, Bool.false_eq_true, Int.reduceBEq, Int.reduceBNe, Int.reduceLT, Int.reduceLE, Nat.add_assoc, Nat.reduceAdd, Nat.reducePow, Nat.zero_le, Nat.reduceEqDiff, Nat.reduceLT, Nat.reduceLeDiff, Nat.reduceMul, Nat.reduceSub, Nat.add_left_cancel_iff, Nat.lt_irrefl, Nat.le_refl, Nat.add_eq_left, Nat.left_eq_add, beq_self_eq_true]; rfl)
/-! truths, as data or in a row -/
def BlAt (σ : St) (a : A) (l : List Bool) : Prop := (∃ z, a = .d (.slc z (boolsD l))) ∨ ∃ k, a = .row k 0 l.length 1 ∧ k < σ.n ∧ σ.get k = .cells (bA l)
theorem boolsD_1 (l : List Bool) : ∀ x ∈ boolsD l, x.length = 1 := by intro x hx; obtain ⟨n, -, rfl⟩ := List.mem_map.1 hx; rfl
theorem boolsD_len2 (l : List Bool) : (boolsD l).length = l.length := by simp [boolsD]
theorem BlAt.mono {σ τ : St} {a : A} {l : List Bool} (h : BlAt σ a l) (hE : Ext σ τ) : BlAt τ a l := by
  rcases h with h | ⟨k, h1, h2, h3⟩
  · exact .inl h
  · exact .inr ⟨k, h1, by have := hE.n; omega, by rw [hE.g k h2]; exact h3⟩
theorem BlAt.read {σ : St} {a : A} {l : List Bool} (h : BlAt σ a l) {i : Nat} (hi : i < l.length) : ∃ p R, (∀ kd, indexK σ 1 a (.d (.int kd (i : Int))) = .val p σ [] R) ∧ ∃ R', loadK σ (some ⟨.bool, 1, 1, some [.d (.bool false)], .d (.bool false)⟩) p = .val (.d (.bool (l.getD i false))) σ [] R' := by
  rcases h with ⟨z, rfl⟩ | ⟨k, rfl, h2, h3⟩
  · refine ⟨.d (.vptr [.bool (l.getD i false)] 0), [], fun kd => by rw [indexK_d]; exact indexD_nat (by simp [boolsD, hi]) rfl, [], ?_⟩
    simp only [loadK_vptr]; rfl
  · refine ⟨.ptr k i, [k], fun kd => by rw [indexK_row, h3, indexR_nat hi]; simp, [k], ?_⟩
    rw [loadK_ptr, h3, loadB_cells, show TK.bool.agg = false from rfl, partOf_f, bA_get hi]; rfl
theorem BlAt.cell {σ : St} {a : A} {l : List Bool} (h : BlAt σ a l) : a.isCell = true := by rcases h with ⟨z, rfl⟩ | ⟨k, rfl, -⟩ <;> rfl
theorem BlAt.cells {σ : St} {a : A} {l : List Bool} (h : BlAt σ a l) : a.cells = some [a] := by rcases h with ⟨z, rfl⟩ | ⟨k, rfl, -⟩ <;> rfl
end Go.Am
namespace Go.Am
open Go Go.Proofs
variable {fz : Nat → Md}
theorem BlAt.push {σ : St} {a : A} {l : List Bool} {b : Blk} (h : BlAt σ a l) : BlAt (σ.push b) a l := h.mono (Ext.refl σ).push
set_option maxHeartbeats 4000000 in
theorem nothing_c (h109 : fz 109 = .cut) (nl : List Bool) (x : Ex) (σ : St) (a : A) (hx : SmallE x) (hr : callsIn nl.length x = true) (ha : BlAt σ a nl) :
    CallsTo (XX fz) (.func 109 []) [x.a, a] σ (.d (.bool (canE false (qOf nl) x))) σ [] := by
  refine CallsTo.cut0 h109 fn109 (by simp) rfl ?_
  rw [canE_eq]
  rw [callsIn_eq, Bool.and_eq_true] at hr
  simp only [Try.f109, Option.getD_some]
  have hlen := hx.len
  simp only [go_sem, ↓reduceIte, Int.reduceEq, Nat.reduceBEq, Option.some.injEq, Bool.true_eq_false, Bool.false_eq_true, Int.reduceBEq, Int.reduceBNe, Int.reduceLT, Int.reduceLE, Nat.add_assoc, Nat.reduceAdd, Nat.reducePow, Nat.zero_le, Nat.reduceEqDiff, Nat.reduceLT, Nat.reduceLeDiff, Nat.reduceMul, Nat.reduceSub, Nat.add_left_cancel_iff, Nat.lt_irrefl, Nat.le_refl, Nat.add_eq_left, Nat.left_eq_add, beq_self_eq_true, Ex.a]
  by_cases k1 : x.kind = 1
  · have e1 : (x.kind == 1) = true := by simpa using k1
    simp only [go_sem, ↓reduceIte, Int.reduceEq, Nat.reduceBEq, Option.some.injEq, Bool.true_eq_false, Bool.false_eq_true, Int.reduceBEq, Int.reduceBNe, Int.reduceLT, Int.reduceLE, Nat.add_assoc, Nat.reduceAdd, Nat.reducePow, Nat.zero_le, Nat.reduceEqDiff, Nat.reduceLT, Nat.reduceLeDiff, Nat.reduceMul, Nat.reduceSub, Nat.add_left_cancel_iff, Nat.lt_irrefl, Nat.le_refl, Nat.add_eq_left, Nat.left_eq_add, beq_self_eq_true, e1, if_pos k1]
  have e1 : (x.kind == 1) = false := by simpa using k1
  rw [if_neg k1]
  by_cases k2 : x.kind = 2
  · have e2 : (x.kind == 2) = true := by simpa using k2
    have hr1 := hr.1
    rw [if_pos k2] at hr1
    have hr2 : 0 ≤ x.num ∧ x.num < nl.length := by simpa using hr1
    obtain ⟨n, hn⟩ := Int.eq_ofNat_of_zero_le hr2.1
    have hnl : n < nl.length := by omega
    obtain ⟨p, R, hi, R', hl⟩ := (ha.push (b := .cells x.c)).read hnl
    have hq : qOf nl x.num = nl.getD n false := by unfold qOf; rw [hn]; rfl
    simp only [go_sem, ↓reduceIte, Int.reduceEq, Nat.reduceBEq, Option.some.injEq, Bool.true_eq_false, Bool.false_eq_true, Int.reduceBEq, Int.reduceBNe, Int.reduceLT, Int.reduceLE, Nat.add_assoc, Nat.reduceAdd, Nat.reducePow, Nat.zero_le, Nat.reduceEqDiff, Nat.reduceLT, Nat.reduceLeDiff, Nat.reduceMul, Nat.reduceSub, Nat.add_left_cancel_iff, Nat.lt_irrefl, Nat.le_refl, Nat.add_eq_left, Nat.left_eq_add, beq_self_eq_true, e1, e2, if_pos k2, hn, hi, hl]
    rw [← hn, hq]
  have e2 : (x.kind == 2) = false := by simpa using k2
  rw [if_neg k2]
  by_cases k3 : x.kind = 3
  · have e3 : (x.kind == 3) = true := by simpa using k3
    rw [if_neg (show ¬ x.kind = 4 by omega), if_pos k3]
    simp only [go_sem, ↓reduceIte, Int.reduceEq, Nat.reduceBEq, Option.some.injEq, Bool.true_eq_false, Bool.false_eq_true, Int.reduceBEq, Int.reduceBNe, Int.reduceLT, Int.reduceLE, Nat.add_assoc, Nat.reduceAdd, Nat.reducePow, Nat.zero_le, Nat.reduceEqDiff, Nat.reduceLT, Nat.reduceLeDiff, Nat.reduceMul, Nat.reduceSub, Nat.add_left_cancel_iff, Nat.lt_irrefl, Nat.le_refl, Nat.add_eq_left, Nat.left_eq_add, beq_self_eq_true, e1, e2, e3]
    refine Ev.loop_ind (fun k tm τ W => ∃ i : Nat, k = x.l.length - i ∧ i ≤ x.l.length ∧ W = [] ∧ τ = σ.push (.cells x.c) ∧ ((x.l.drop i).any fun y => !canE false (qOf nl) y) = (x.l.any fun y => !canE false (qOf nl) y) ∧
        tm.at 1 = a ∧ tm.at 2 = .ptr σ.n 0 ∧ tm.at 5 = .d (.int .i64 i)) ?_ x.l.length _ _ _ ⟨0, rfl, by omega, rfl, rfl, rfl, ?_, ?_, ?_⟩
    · rintro k tm τ W ⟨i, rfl, hi, rfl, rfl, he, t1, t2, t5⟩ ih
      by_cases hl : i < x.l.length
      · have hget : x.l[i]? = some x.l[i] := by simp [hl]
        have hmem : x.l[i] ∈ x.l := List.getElem_mem hl
        rw [List.drop_eq_getElem_cons hl, List.any_cons] at he
        simp only [go_sem, ↓reduceIte, Int.reduceEq, Nat.reduceBEq, Option.some.injEq, Bool.true_eq_false, Bool.false_eq_true, Int.reduceBEq, Int.reduceBNe, Int.reduceLT, Int.reduceLE, Nat.add_assoc, Nat.reduceAdd, Nat.reducePow, Nat.zero_le, Nat.reduceEqDiff, Nat.reduceLT, Nat.reduceLeDiff, Nat.reduceMul, Nat.reduceSub, Nat.add_left_cancel_iff, Nat.lt_irrefl, Nat.le_refl, Nat.add_eq_left, Nat.left_eq_add, beq_self_eq_true, t1, t2, t5, dec_lt' hl, Ex.index_ld hget]
        refine ⟨_, _, _, nothing_c h109 nl x.l[i] _ a (hx.sub hmem) (callsInL_mem hr.2 hmem) ha.push, ?_⟩
        cases hc : canE false (qOf nl) x.l[i] with
        | false =>
          rw [hc] at he
          simp only [go_sem, ↓reduceIte, Int.reduceEq, Nat.reduceBEq, Option.some.injEq, Bool.true_eq_false, Bool.false_eq_true, Int.reduceBEq, Int.reduceBNe, Int.reduceLT, Int.reduceLE, Nat.add_assoc, Nat.reduceAdd, Nat.reducePow, Nat.zero_le, Nat.reduceEqDiff, Nat.reduceLT, Nat.reduceLeDiff, Nat.reduceMul, Nat.reduceSub, Nat.add_left_cancel_iff, Nat.lt_irrefl, Nat.le_refl, Nat.add_eq_left, Nat.left_eq_add, beq_self_eq_true, ← he, Bool.not_false, Bool.true_or, Bool.not_true]
        | true =>
          rw [hc] at he
          simp only [go_sem, ↓reduceIte, Int.reduceEq, Nat.reduceBEq, Option.some.injEq, Bool.true_eq_false, Bool.false_eq_true, Int.reduceBEq, Int.reduceBNe, Int.reduceLT, Int.reduceLE, Nat.add_assoc, Nat.reduceAdd, Nat.reducePow, Nat.zero_le, Nat.reduceEqDiff, Nat.reduceLT, Nat.reduceLeDiff, Nat.reduceMul, Nat.reduceSub, Nat.add_left_cancel_iff, Nat.lt_irrefl, Nat.le_refl, Nat.add_eq_left, Nat.left_eq_add, beq_self_eq_true, t5, wrap_succ' hl hlen]
          exact ih _ _ _ _ (by omega) ⟨i + 1, rfl, hl, rfl, rfl, by simpa using he, by simp only [go_sem, ↓reduceIte, Int.reduceEq, Nat.reduceBEq, Option.some.injEq, Bool.true_eq_false, Bool.false_eq_true, Int.reduceBEq, Int.reduceBNe, Int.reduceLT, Int.reduceLE, Nat.add_assoc, Nat.reduceAdd, Nat.reducePow, Nat.zero_le, Nat.reduceEqDiff, Nat.reduceLT, Nat.reduceLeDiff, Nat.reduceMul, Nat.reduceSub, Nat.add_left_cancel_iff, Nat.lt_irrefl, Nat.le_refl, Nat.add_eq_left, Nat.left_eq_add, beq_self_eq_true, t1], by simp only [go_sem, ↓reduceIte, Int.reduceEq, Nat.reduceBEq, Option.some.injEq, Bool.true_eq_false, Bool.false_eq_true, Int.reduceBEq, Int.reduceBNe, Int.reduceLT, Int.reduceLE, Nat.add_assoc, Nat.reduceAdd, Nat.reducePow, Nat.zero_le, Nat.reduceEqDiff, Nat.reduceLT, Nat.reduceLeDiff, Nat.reduceMul, Nat.reduceSub, Nat.add_left_cancel_iff, Nat.lt_irrefl, Nat.le_refl, Nat.add_eq_left, Nat.left_eq_add, beq_self_eq_true, t2], by simp only [go_sem, ↓reduceIte, Int.reduceEq, Nat.reduceBEq, Option.some.injEq, Bool.true_eq_false, Bool.false_eq_true, Int.reduceBEq, Int.reduceBNe, Int.reduceLT, Int.reduceLE, Nat.add_assoc, Nat.reduceAdd, Nat.reducePow, Nat.zero_le, Nat.reduceEqDiff, Nat.reduceLT, Nat.reduceLeDiff, Nat.reduceMul, Nat.reduceSub, Nat.add_left_cancel_iff, Nat.lt_irrefl, Nat.le_refl, Nat.add_eq_left, Nat.left_eq_add, beq_self_eq_true]⟩
      · simp only [go_sem, ↓reduceIte, Int.reduceEq, Nat.reduceBEq, Option.some.injEq, Bool.true_eq_false, Bool.false_eq_true, Int.reduceBEq, Int.reduceBNe, Int.reduceLT, Int.reduceLE, Nat.add_assoc, Nat.reduceAdd, Nat.reducePow, Nat.zero_le, Nat.reduceEqDiff, Nat.reduceLT, Nat.reduceLeDiff, Nat.reduceMul, Nat.reduceSub, Nat.add_left_cancel_iff, Nat.lt_irrefl, Nat.le_refl, Nat.add_eq_left, Nat.left_eq_add, beq_self_eq_true, t1, t2, t5, dec_ge' hl]
        rw [List.drop_eq_nil_of_le (by omega), List.any_nil] at he
        rw [← he]; rfl
    all_goals first | rfl | (simp only [go_sem, ↓reduceIte, Int.reduceEq, Nat.reduceBEq, Option.some.injEq, Bool.true_eq_false, Bool.false_eq_true, Int.reduceBEq, Int.reduceBNe, Int.reduceLT, Int.reduceLE, Nat.add_assoc, Nat.reduceAdd, Nat.reducePow, Nat.zero_le, Nat.reduceEqDiff, Nat.reduceLT, Nat.reduceLeDiff, Nat.reduceMul, Nat.reduceSub, Nat.add_left_cancel_iff, Nat.lt_irrefl, Nat.le_refl, Nat.add_eq_left, Nat.left_eq_add, beq_self_eq_true]; done) | (simp only [go_sem, ↓reduceIte, Int.reduceEq, Nat.reduceBEq, Option.some.injEq, Bool.true_eq_false, Bool.false_eq_true, Int.reduceBEq, Int.reduceBNe, Int.reduceLT, Int.reduceLE, Nat.add_assoc, Nat.reduceAdd, Nat.reducePow, Nat.zero_le, Nat.reduceEqDiff, Nat.reduceLT, Nat.reduceLeDiff, Nat.reduceMul, Nat.reduceSub, Nat.add_left_cancel_iff, Nat.lt_irrefl, Nat.le_refl, Nat.add_eq_left, Nat.left_eq_add, beq_self_eq_true]; rfl)
  have e3 : (x.kind == 3) = false := by simpa using k3
  by_cases k4 : x.kind = 4
  · have e4 : (x.kind == 4) = true := by simpa using k4
    rw [if_pos k4]
    simp only [go_sem, ↓reduceIte, Int.reduceEq, Nat.reduceBEq, Option.some.injEq, Bool.true_eq_false, Bool.false_eq_true, Int.reduceBEq, Int.reduceBNe, Int.reduceLT, Int.reduceLE, Nat.add_assoc, Nat.reduceAdd, Nat.reducePow, Nat.zero_le, Nat.reduceEqDiff, Nat.reduceLT, Nat.reduceLeDiff, Nat.reduceMul, Nat.reduceSub, Nat.add_left_cancel_iff, Nat.lt_irrefl, Nat.le_refl, Nat.add_eq_left, Nat.left_eq_add, beq_self_eq_true, e1, e2, e3, e4]
    refine Ev.loop_ind (fun k tm τ W => ∃ i : Nat, k = x.l.length - i ∧ i ≤ x.l.length ∧ W = [] ∧ τ = σ.push (.cells x.c) ∧ ((x.l.drop i).any (canE false (qOf nl))) = (x.l.any (canE false (qOf nl))) ∧
        tm.at 1 = a ∧ tm.at 2 = .ptr σ.n 0 ∧ tm.at 6 = .d (.int .i64 i)) ?_ x.l.length _ _ _ ⟨0, rfl, by omega, rfl, rfl, rfl, ?_, ?_, ?_⟩
    · rintro k tm τ W ⟨i, rfl, hi, rfl, rfl, he, t1, t2, t6⟩ ih
      by_cases hl : i < x.l.length
      · have hget : x.l[i]? = some x.l[i] := by simp [hl]
        have hmem : x.l[i] ∈ x.l := List.getElem_mem hl
        rw [List.drop_eq_getElem_cons hl, List.any_cons] at he
        simp only [go_sem, ↓reduceIte, Int.reduceEq, Nat.reduceBEq, Option.some.injEq, Bool.true_eq_false, Bool.false_eq_true, Int.reduceBEq, Int.reduceBNe, Int.reduceLT, Int.reduceLE, Nat.add_assoc, Nat.reduceAdd, Nat.reducePow, Nat.zero_le, Nat.reduceEqDiff, Nat.reduceLT, Nat.reduceLeDiff, Nat.reduceMul, Nat.reduceSub, Nat.add_left_cancel_iff, Nat.lt_irrefl, Nat.le_refl, Nat.add_eq_left, Nat.left_eq_add, beq_self_eq_true, t1, t2, t6, dec_lt' hl, Ex.index_ld hget]
        refine ⟨_, _, _, nothing_c h109 nl x.l[i] _ a (hx.sub hmem) (callsInL_mem hr.2 hmem) ha.push, ?_⟩
        cases hc : canE false (qOf nl) x.l[i] with
        | true =>
          rw [hc] at he
          simp only [go_sem, ↓reduceIte, Int.reduceEq, Nat.reduceBEq, Option.some.injEq, Bool.true_eq_false, Bool.false_eq_true, Int.reduceBEq, Int.reduceBNe, Int.reduceLT, Int.reduceLE, Nat.add_assoc, Nat.reduceAdd, Nat.reducePow, Nat.zero_le, Nat.reduceEqDiff, Nat.reduceLT, Nat.reduceLeDiff, Nat.reduceMul, Nat.reduceSub, Nat.add_left_cancel_iff, Nat.lt_irrefl, Nat.le_refl, Nat.add_eq_left, Nat.left_eq_add, beq_self_eq_true, ← he, Bool.true_or]
        | false =>
          rw [hc] at he
          simp only [go_sem, ↓reduceIte, Int.reduceEq, Nat.reduceBEq, Option.some.injEq, Bool.true_eq_false, Bool.false_eq_true, Int.reduceBEq, Int.reduceBNe, Int.reduceLT, Int.reduceLE, Nat.add_assoc, Nat.reduceAdd, Nat.reducePow, Nat.zero_le, Nat.reduceEqDiff, Nat.reduceLT, Nat.reduceLeDiff, Nat.reduceMul, Nat.reduceSub, Nat.add_left_cancel_iff, Nat.lt_irrefl, Nat.le_refl, Nat.add_eq_left, Nat.left_eq_add, beq_self_eq_true, t6, wrap_succ' hl hlen]
          exact ih _ _ _ _ (by omega) ⟨i + 1, rfl, hl, rfl, rfl, by simpa using he, by simp only [go_sem, ↓reduceIte, Int.reduceEq, Nat.reduceBEq, Option.some.injEq, Bool.true_eq_false, Bool.false_eq_true, Int.reduceBEq, Int.reduceBNe, Int.reduceLT, Int.reduceLE, Nat.add_assoc, Nat.reduceAdd, Nat.reducePow, Nat.zero_le, Nat.reduceEqDiff, Nat.reduceLT, Nat.reduceLeDiff, Nat.reduceMul, Nat.reduceSub, Nat.add_left_cancel_iff, Nat.lt_irrefl, Nat.le_refl, Nat.add_eq_left, Nat.left_eq_add, beq_self_eq_true, t1], by simp only [go_sem, ↓reduceIte, Int.reduceEq, Nat.reduceBEq, Option.some.injEq, Bool.true_eq_false, Bool.false_eq_true, Int.reduceBEq, Int.reduceBNe, Int.reduceLT, Int.reduceLE, Nat.add_assoc, Nat.reduceAdd, Nat.reducePow, Nat.zero_le, Nat.reduceEqDiff, Nat.reduceLT, Nat.reduceLeDiff, Nat.reduceMul, Nat.reduceSub, Nat.add_left_cancel_iff, Nat.lt_irrefl, Nat.le_refl, Nat.add_eq_left, Nat.left_eq_add, beq_self_eq_true, t2], by simp only [go_sem, ↓reduceIte, Int.reduceEq, Nat.reduceBEq, Option.some.injEq, Bool.true_eq_false, Bool.false_eq_true, Int.reduceBEq, Int.reduceBNe, Int.reduceLT, Int.reduceLE, Nat.add_assoc, Nat.reduceAdd, Nat.reducePow, Nat.zero_le, Nat.reduceEqDiff, Nat.reduceLT, Nat.reduceLeDiff, Nat.reduceMul, Nat.reduceSub, Nat.add_left_cancel_iff, Nat.lt_irrefl, Nat.le_refl, Nat.add_eq_left, Nat.left_eq_add, beq_self_eq_true]⟩
      · simp only [go_sem, ↓reduceIte, Int.reduceEq, Nat.reduceBEq, Option.some.injEq, Bool.true_eq_false, Bool.false_eq_true, Int.reduceBEq, Int.reduceBNe, Int.reduceLT, Int.reduceLE, Nat.add_assoc, Nat.reduceAdd, Nat.reducePow, Nat.zero_le, Nat.reduceEqDiff, Nat.reduceLT, Nat.reduceLeDiff, Nat.reduceMul, Nat.reduceSub, Nat.add_left_cancel_iff, Nat.lt_irrefl, Nat.le_refl, Nat.add_eq_left, Nat.left_eq_add, beq_self_eq_true, t1, t2, t6, dec_ge' hl]
        rw [List.drop_eq_nil_of_le (by omega), List.any_nil] at he
        rw [← he]
    all_goals first | rfl | (simp only [go_sem, ↓reduceIte, Int.reduceEq, Nat.reduceBEq, Option.some.injEq, Bool.true_eq_false, Bool.false_eq_true, Int.reduceBEq, Int.reduceBNe, Int.reduceLT, Int.reduceLE, Nat.add_assoc, Nat.reduceAdd, Nat.reducePow, Nat.zero_le, Nat.reduceEqDiff, Nat.reduceLT, Nat.reduceLeDiff, Nat.reduceMul, Nat.reduceSub, Nat.add_left_cancel_iff, Nat.lt_irrefl, Nat.le_refl, Nat.add_eq_left, Nat.left_eq_add, beq_self_eq_true]; done) | (simp only [go_sem, ↓reduceIte, Int.reduceEq, Nat.reduceBEq, Option.some.injEq, Bool.true_eq_false, Bool.false_eq_true, Int.reduceBEq, Int.reduceBNe, Int.reduceLT, Int.reduceLE, Nat.add_assoc, Nat.reduceAdd, Nat.reducePow, Nat.zero_le, Nat.reduceEqDiff, Nat.reduceLT, Nat.reduceLeDiff, Nat.reduceMul, Nat.reduceSub, Nat.add_left_cancel_iff, Nat.lt_irrefl, Nat.le_refl, Nat.add_eq_left, Nat.left_eq_add, beq_self_eq_true]; rfl)
  have e4 : (x.kind == 4) = false := by simpa using k4
  rw [if_neg k4, if_neg k3]
  simp only [go_sem, ↓reduceIte, Int.reduceEq, Nat.reduceBEq, Option.some.injEq, Bool.true_eq_false, Bool.false_eq_true, Int.reduceBEq, Int.reduceBNe, Int.reduceLT, Int.reduceLE, Nat.add_assoc, Nat.reduceAdd, Nat.reducePow, Nat.zero_le, Nat.reduceEqDiff, Nat.reduceLT, Nat.reduceLeDiff, Nat.reduceMul, Nat.reduceSub, Nat.add_left_cancel_iff, Nat.lt_irrefl, Nat.le_refl, Nat.add_eq_left, Nat.left_eq_add, beq_self_eq_true, e1, e2, e3, e4]
termination_by x
decreasing_by all_goals exact Ex.sub_lt hmem
set_option maxHeartbeats 4000000 in
theorem something_c (h91 : fz 91 = .cut) (nl : List Bool) (x : Ex) (σ : St) (a : A) (hx : SmallE x) (hr : callsIn nl.length x = true) (ha : BlAt σ a nl) :
    CallsTo (XX fz) (.func 91 []) [x.a, a] σ (.d (.bool (canE true (qOf nl) x))) σ [] := by
  refine CallsTo.cut0 h91 fn91 (by simp) rfl ?_
  rw [canE_eq]
  rw [callsIn_eq, Bool.and_eq_true] at hr
  simp only [Try.f91, Option.getD_some]
  have hlen := hx.len
  simp only [go_sem, ↓reduceIte, Int.reduceEq, Nat.reduceBEq, Option.some.injEq, Bool.true_eq_false, Bool.false_eq_true, Int.reduceBEq, Int.reduceBNe, Int.reduceLT, Int.reduceLE, Nat.add_assoc, Nat.reduceAdd, Nat.reducePow, Nat.zero_le, Nat.reduceEqDiff, Nat.reduceLT, Nat.reduceLeDiff, Nat.reduceMul, Nat.reduceSub, Nat.add_left_cancel_iff, Nat.lt_irrefl, Nat.le_refl, Nat.add_eq_left, Nat.left_eq_add, beq_self_eq_true, Ex.a]
  by_cases k2 : x.kind = 2
  · have e2 : (x.kind == 2) = true := by simpa using k2
    have hr1 := hr.1
    rw [if_pos k2] at hr1
    have hr2 : 0 ≤ x.num ∧ x.num < nl.length := by simpa using hr1
    obtain ⟨n, hn⟩ := Int.eq_ofNat_of_zero_le hr2.1
    have hnl : n < nl.length := by omega
    obtain ⟨p, R, hi, R', hl⟩ := (ha.push (b := .cells x.c)).read hnl
    have hq : qOf nl x.num = nl.getD n false := by unfold qOf; rw [hn]; rfl
    rw [if_neg (show ¬ x.kind = 1 by omega), if_pos k2, hq]
    simp only [go_sem, ↓reduceIte, Int.reduceEq, Nat.reduceBEq, Option.some.injEq, Bool.true_eq_false, Bool.false_eq_true, Int.reduceBEq, Int.reduceBNe, Int.reduceLT, Int.reduceLE, Nat.add_assoc, Nat.reduceAdd, Nat.reducePow, Nat.zero_le, Nat.reduceEqDiff, Nat.reduceLT, Nat.reduceLeDiff, Nat.reduceMul, Nat.reduceSub, Nat.add_left_cancel_iff, Nat.lt_irrefl, Nat.le_refl, Nat.add_eq_left, Nat.left_eq_add, beq_self_eq_true, e2, hn, hi, hl]
  have e2 : (x.kind == 2) = false := by simpa using k2
  by_cases k3 : x.kind = 3
  · have e3 : (x.kind == 3) = true := by simpa using k3
    rw [if_neg (show ¬ x.kind = 1 by omega), if_neg (show ¬ x.kind = 2 by omega), if_neg (show ¬ x.kind = 4 by omega), if_pos k3]
    simp only [go_sem, ↓reduceIte, Int.reduceEq, Nat.reduceBEq, Option.some.injEq, Bool.true_eq_false, Bool.false_eq_true, Int.reduceBEq, Int.reduceBNe, Int.reduceLT, Int.reduceLE, Nat.add_assoc, Nat.reduceAdd, Nat.reducePow, Nat.zero_le, Nat.reduceEqDiff, Nat.reduceLT, Nat.reduceLeDiff, Nat.reduceMul, Nat.reduceSub, Nat.add_left_cancel_iff, Nat.lt_irrefl, Nat.le_refl, Nat.add_eq_left, Nat.left_eq_add, beq_self_eq_true, e2, e3]
    refine Ev.loop_ind (fun k tm τ W => ∃ i : Nat, k = x.l.length - i ∧ i ≤ x.l.length ∧ W = [] ∧ τ = σ.push (.cells x.c) ∧ ((x.l.drop i).any fun y => !canE true (qOf nl) y) = (x.l.any fun y => !canE true (qOf nl) y) ∧
        tm.at 1 = a ∧ tm.at 2 = .ptr σ.n 0 ∧ tm.at 5 = .d (.int .i64 i)) ?_ x.l.length _ _ _ ⟨0, rfl, by omega, rfl, rfl, rfl, ?_, ?_, ?_⟩
    · rintro k tm τ W ⟨i, rfl, hi, rfl, rfl, he, t1, t2, t5⟩ ih
      by_cases hl : i < x.l.length
      · have hget : x.l[i]? = some x.l[i] := by simp [hl]
        have hmem : x.l[i] ∈ x.l := List.getElem_mem hl
        rw [List.drop_eq_getElem_cons hl, List.any_cons] at he
        simp only [go_sem, ↓reduceIte, Int.reduceEq, Nat.reduceBEq, Option.some.injEq, Bool.true_eq_false, Bool.false_eq_true, Int.reduceBEq, Int.reduceBNe, Int.reduceLT, Int.reduceLE, Nat.add_assoc, Nat.reduceAdd, Nat.reducePow, Nat.zero_le, Nat.reduceEqDiff, Nat.reduceLT, Nat.reduceLeDiff, Nat.reduceMul, Nat.reduceSub, Nat.add_left_cancel_iff, Nat.lt_irrefl, Nat.le_refl, Nat.add_eq_left, Nat.left_eq_add, beq_self_eq_true, t1, t2, t5, dec_lt' hl, Ex.index_ld hget]
        refine ⟨_, _, _, something_c h91 nl x.l[i] _ a (hx.sub hmem) (callsInL_mem hr.2 hmem) ha.push, ?_⟩
        cases hc : canE true (qOf nl) x.l[i] with
        | false =>
          rw [hc] at he
          simp only [go_sem, ↓reduceIte, Int.reduceEq, Nat.reduceBEq, Option.some.injEq, Bool.true_eq_false, Bool.false_eq_true, Int.reduceBEq, Int.reduceBNe, Int.reduceLT, Int.reduceLE, Nat.add_assoc, Nat.reduceAdd, Nat.reducePow, Nat.zero_le, Nat.reduceEqDiff, Nat.reduceLT, Nat.reduceLeDiff, Nat.reduceMul, Nat.reduceSub, Nat.add_left_cancel_iff, Nat.lt_irrefl, Nat.le_refl, Nat.add_eq_left, Nat.left_eq_add, beq_self_eq_true, ← he, Bool.not_false, Bool.true_or, Bool.not_true]
        | true =>
          rw [hc] at he
          simp only [go_sem, ↓reduceIte, Int.reduceEq, Nat.reduceBEq, Option.some.injEq, Bool.true_eq_false, Bool.false_eq_true, Int.reduceBEq, Int.reduceBNe, Int.reduceLT, Int.reduceLE, Nat.add_assoc, Nat.reduceAdd, Nat.reducePow, Nat.zero_le, Nat.reduceEqDiff, Nat.reduceLT, Nat.reduceLeDiff, Nat.reduceMul, Nat.reduceSub, Nat.add_left_cancel_iff, Nat.lt_irrefl, Nat.le_refl, Nat.add_eq_left, Nat.left_eq_add, beq_self_eq_true, t5, wrap_succ' hl hlen]
          exact ih _ _ _ _ (by omega) ⟨i + 1, rfl, hl, rfl, rfl, by simpa using he, by simp only [go_sem, ↓reduceIte, Int.reduceEq, Nat.reduceBEq, Option.some.injEq, Bool.true_eq_false, Bool.false_eq_true, Int.reduceBEq, Int.reduceBNe, Int.reduceLT, Int.reduceLE, Nat.add_assoc, Nat.reduceAdd, Nat.reducePow, Nat.zero_le, Nat.reduceEqDiff, Nat.reduceLT, Nat.reduceLeDiff, Nat.reduceMul, Nat.reduceSub, Nat.add_left_cancel_iff, Nat.lt_irrefl, Nat.le_refl, Nat.add_eq_left, Nat.left_eq_add, beq_self_eq_true, t1], by simp only [go_sem, ↓reduceIte, Int.reduceEq, Nat.reduceBEq, Option.some.injEq, Bool.true_eq_false, Bool.false_eq_true, Int.reduceBEq, Int.reduceBNe, Int.reduceLT, Int.reduceLE, Nat.add_assoc, Nat.reduceAdd, Nat.reducePow, Nat.zero_le, Nat.reduceEqDiff, Nat.reduceLT, Nat.reduceLeDiff, Nat.reduceMul, Nat.reduceSub, Nat.add_left_cancel_iff, Nat.lt_irrefl, Nat.le_refl, Nat.add_eq_left, Nat.left_eq_add, beq_self_eq_true, t2], by simp only [go_sem, ↓reduceIte, Int.reduceEq, Nat.reduceBEq, Option.some.injEq, Bool.true_eq_false, Bool.false_eq_true, Int.reduceBEq, Int.reduceBNe, Int.reduceLT, Int.reduceLE, Nat.add_assoc, Nat.reduceAdd, Nat.reducePow, Nat.zero_le, Nat.reduceEqDiff, Nat.reduceLT, Nat.reduceLeDiff, Nat.reduceMul, Nat.reduceSub, Nat.add_left_cancel_iff, Nat.lt_irrefl, Nat.le_refl, Nat.add_eq_left, Nat.left_eq_add, beq_self_eq_true]⟩
      · simp only [go_sem, ↓reduceIte, Int.reduceEq, Nat.reduceBEq, Option.some.injEq, Bool.true_eq_false, Bool.false_eq_true, Int.reduceBEq, Int.reduceBNe, Int.reduceLT, Int.reduceLE, Nat.add_assoc, Nat.reduceAdd, Nat.reducePow, Nat.zero_le, Nat.reduceEqDiff, Nat.reduceLT, Nat.reduceLeDiff, Nat.reduceMul, Nat.reduceSub, Nat.add_left_cancel_iff, Nat.lt_irrefl, Nat.le_refl, Nat.add_eq_left, Nat.left_eq_add, beq_self_eq_true, t1, t2, t5, dec_ge' hl]
        rw [List.drop_eq_nil_of_le (by omega), List.any_nil] at he
        rw [← he]; rfl
    all_goals first | rfl | (simp only [go_sem, ↓reduceIte, Int.reduceEq, Nat.reduceBEq, Option.some.injEq, Bool.true_eq_false, Bool.false_eq_true, Int.reduceBEq, Int.reduceBNe, Int.reduceLT, Int.reduceLE, Nat.add_assoc, Nat.reduceAdd, Nat.reducePow, Nat.zero_le, Nat.reduceEqDiff, Nat.reduceLT, Nat.reduceLeDiff, Nat.reduceMul, Nat.reduceSub, Nat.add_left_cancel_iff, Nat.lt_irrefl, Nat.le_refl, Nat.add_eq_left, Nat.left_eq_add, beq_self_eq_true]; done) | (simp only [go_sem, ↓reduceIte, Int.reduceEq, Nat.reduceBEq, Option.some.injEq, Bool.true_eq_false, Bool.false_eq_true, Int.reduceBEq, Int.reduceBNe, Int.reduceLT, Int.reduceLE, Nat.add_assoc, Nat.reduceAdd, Nat.reducePow, Nat.zero_le, Nat.reduceEqDiff, Nat.reduceLT, Nat.reduceLeDiff, Nat.reduceMul, Nat.reduceSub, Nat.add_left_cancel_iff, Nat.lt_irrefl, Nat.le_refl, Nat.add_eq_left, Nat.left_eq_add, beq_self_eq_true]; rfl)
  have e3 : (x.kind == 3) = false := by simpa using k3
  by_cases k4 : x.kind = 4
  · have e4 : (x.kind == 4) = true := by simpa using k4
    rw [if_neg (show ¬ x.kind = 1 by omega), if_neg (show ¬ x.kind = 2 by omega), if_pos k4]
    simp only [go_sem, ↓reduceIte, Int.reduceEq, Nat.reduceBEq, Option.some.injEq, Bool.true_eq_false, Bool.false_eq_true, Int.reduceBEq, Int.reduceBNe, Int.reduceLT, Int.reduceLE, Nat.add_assoc, Nat.reduceAdd, Nat.reducePow, Nat.zero_le, Nat.reduceEqDiff, Nat.reduceLT, Nat.reduceLeDiff, Nat.reduceMul, Nat.reduceSub, Nat.add_left_cancel_iff, Nat.lt_irrefl, Nat.le_refl, Nat.add_eq_left, Nat.left_eq_add, beq_self_eq_true, e2, e3, e4]
    refine Ev.loop_ind (fun k tm τ W => ∃ i : Nat, k = x.l.length - i ∧ i ≤ x.l.length ∧ W = [] ∧ τ = σ.push (.cells x.c) ∧ ((x.l.drop i).any (canE true (qOf nl))) = (x.l.any (canE true (qOf nl))) ∧
        tm.at 1 = a ∧ tm.at 2 = .ptr σ.n 0 ∧ tm.at 6 = .d (.int .i64 i)) ?_ x.l.length _ _ _ ⟨0, rfl, by omega, rfl, rfl, rfl, ?_, ?_, ?_⟩
    · rintro k tm τ W ⟨i, rfl, hi, rfl, rfl, he, t1, t2, t6⟩ ih
      by_cases hl : i < x.l.length
      · have hget : x.l[i]? = some x.l[i] := by simp [hl]
        have hmem : x.l[i] ∈ x.l := List.getElem_mem hl
        rw [List.drop_eq_getElem_cons hl, List.any_cons] at he
        simp only [go_sem, ↓reduceIte, Int.reduceEq, Nat.reduceBEq, Option.some.injEq, Bool.true_eq_false, Bool.false_eq_true, Int.reduceBEq, Int.reduceBNe, Int.reduceLT, Int.reduceLE, Nat.add_assoc, Nat.reduceAdd, Nat.reducePow, Nat.zero_le, Nat.reduceEqDiff, Nat.reduceLT, Nat.reduceLeDiff, Nat.reduceMul, Nat.reduceSub, Nat.add_left_cancel_iff, Nat.lt_irrefl, Nat.le_refl, Nat.add_eq_left, Nat.left_eq_add, beq_self_eq_true, t1, t2, t6, dec_lt' hl, Ex.index_ld hget]
        refine ⟨_, _, _, something_c h91 nl x.l[i] _ a (hx.sub hmem) (callsInL_mem hr.2 hmem) ha.push, ?_⟩
        cases hc : canE true (qOf nl) x.l[i] with
        | true =>
          rw [hc] at he
          simp only [go_sem, ↓reduceIte, Int.reduceEq, Nat.reduceBEq, Option.some.injEq, Bool.true_eq_false, Bool.false_eq_true, Int.reduceBEq, Int.reduceBNe, Int.reduceLT, Int.reduceLE, Nat.add_assoc, Nat.reduceAdd, Nat.reducePow, Nat.zero_le, Nat.reduceEqDiff, Nat.reduceLT, Nat.reduceLeDiff, Nat.reduceMul, Nat.reduceSub, Nat.add_left_cancel_iff, Nat.lt_irrefl, Nat.le_refl, Nat.add_eq_left, Nat.left_eq_add, beq_self_eq_true, ← he, Bool.true_or]
        | false =>
          rw [hc] at he
          simp only [go_sem, ↓reduceIte, Int.reduceEq, Nat.reduceBEq, Option.some.injEq, Bool.true_eq_false, Bool.false_eq_true, Int.reduceBEq, Int.reduceBNe, Int.reduceLT, Int.reduceLE, Nat.add_assoc, Nat.reduceAdd, Nat.reducePow, Nat.zero_le, Nat.reduceEqDiff, Nat.reduceLT, Nat.reduceLeDiff, Nat.reduceMul, Nat.reduceSub, Nat.add_left_cancel_iff, Nat.lt_irrefl, Nat.le_refl, Nat.add_eq_left, Nat.left_eq_add, beq_self_eq_true, t6, wrap_succ' hl hlen]
          exact ih _ _ _ _ (by omega) ⟨i + 1, rfl, hl, rfl, rfl, by simpa using he, by simp only [go_sem, ↓reduceIte, Int.reduceEq, Nat.reduceBEq, Option.some.injEq, Bool.true_eq_false, Bool.false_eq_true, Int.reduceBEq, Int.reduceBNe, Int.reduceLT, Int.reduceLE, Nat.add_assoc, Nat.reduceAdd, Nat.reducePow, Nat.zero_le, Nat.reduceEqDiff, Nat.reduceLT, Nat.reduceLeDiff, Nat.reduceMul, Nat.reduceSub, Nat.add_left_cancel_iff, Nat.lt_irrefl, Nat.le_refl, Nat.add_eq_left, Nat.left_eq_add, beq_self_eq_true, t1], by simp only [go_sem, ↓reduceIte, Int.reduceEq, Nat.reduceBEq, Option.some.injEq, Bool.true_eq_false, Bool.false_eq_true, Int.reduceBEq, Int.reduceBNe, Int.reduceLT, Int.reduceLE, Nat.add_assoc, Nat.reduceAdd, Nat.reducePow, Nat.zero_le, Nat.reduceEqDiff, Nat.reduceLT, Nat.reduceLeDiff, Nat.reduceMul, Nat.reduceSub, Nat.add_left_cancel_iff, Nat.lt_irrefl, Nat.le_refl, Nat.add_eq_left, Nat.left_eq_add, beq_self_eq_true, t2], by simp only [go_sem, ↓reduceIte, Int.reduceEq, Nat.reduceBEq, Option.some.injEq, Bool.true_eq_false, Bool.false_eq_true, Int.reduceBEq, Int.reduceBNe, Int.reduceLT, Int.reduceLE, Nat.add_assoc, Nat.reduceAdd, Nat.reducePow, Nat.zero_le, Nat.reduceEqDiff, Nat.reduceLT, Nat.reduceLeDiff, Nat.reduceMul, Nat.reduceSub, Nat.add_left_cancel_iff, Nat.lt_irrefl, Nat.le_refl, Nat.add_eq_left, Nat.left_eq_add, beq_self_eq_true]⟩
      · simp only [go_sem, ↓reduceIte, Int.reduceEq, Nat.reduceBEq, Option.some.injEq, Bool.true_eq_false, Bool.false_eq_true, Int.reduceBEq, Int.reduceBNe, Int.reduceLT, Int.reduceLE, Nat.add_assoc, Nat.reduceAdd, Nat.reducePow, Nat.zero_le, Nat.reduceEqDiff, Nat.reduceLT, Nat.reduceLeDiff, Nat.reduceMul, Nat.reduceSub, Nat.add_left_cancel_iff, Nat.lt_irrefl, Nat.le_refl, Nat.add_eq_left, Nat.left_eq_add, beq_self_eq_true, t1, t2, t6, dec_ge' hl]
        rw [List.drop_eq_nil_of_le (by omega), List.any_nil] at he
        rw [← he]
    all_goals first | rfl | (simp only [go_sem, ↓reduceIte, Int.reduceEq, Nat.reduceBEq, Option.some.injEq, Bool.true_eq_false, Bool.false_eq_true, Int.reduceBEq, Int.reduceBNe, Int.reduceLT, Int.reduceLE, Nat.add_assoc, Nat.reduceAdd, Nat.reducePow, Nat.zero_le, Nat.reduceEqDiff, Nat.reduceLT, Nat.reduceLeDiff, Nat.reduceMul, Nat.reduceSub, Nat.add_left_cancel_iff, Nat.lt_irrefl, Nat.le_refl, Nat.add_eq_left, Nat.left_eq_add, beq_self_eq_true]; done) | (simp only [go_sem, ↓reduceIte, Int.reduceEq, Nat.reduceBEq, Option.some.injEq, Bool.true_eq_false, Bool.false_eq_true, Int.reduceBEq, Int.reduceBNe, Int.reduceLT, Int.reduceLE, Nat.add_assoc, Nat.reduceAdd, Nat.reducePow, Nat.zero_le, Nat.reduceEqDiff, Nat.reduceLT, Nat.reduceLeDiff, Nat.reduceMul, Nat.reduceSub, Nat.add_left_cancel_iff, Nat.lt_irrefl, Nat.le_refl, Nat.add_eq_left, Nat.left_eq_add, beq_self_eq_true]; rfl)
  have e4 : (x.kind == 4) = false := by simpa using k4
  have : (if x.kind = 1 then true else if x.kind = 2 then qOf nl x.num else if x.kind = 4 then x.l.any (canE true (qOf nl)) else if x.kind = 3 then !(x.l.any fun y => !canE true (qOf nl) y) else true) = true := by
    rw [if_neg k2, if_neg k4, if_neg k3]; split <;> rfl
  rw [this]
  simp only [go_sem, ↓reduceIte, Int.reduceEq, Nat.reduceBEq, Option.some.injEq, Bool.true_eq_false, Bool.false_eq_true, Int.reduceBEq, Int.reduceBNe, Int.reduceLT, Int.reduceLE, Nat.add_assoc, Nat.reduceAdd, Nat.reducePow, Nat.zero_le, Nat.reduceEqDiff, Nat.reduceLT, Nat.reduceLeDiff, Nat.reduceMul, Nat.reduceSub, Nat.add_left_cancel_iff, Nat.lt_irrefl, Nat.le_refl, Nat.add_eq_left, Nat.left_eq_add, beq_self_eq_true, e2, e3, e4]
termination_by x
decreasing_by all_goals exact Ex.sub_lt hmem
end Go.Am

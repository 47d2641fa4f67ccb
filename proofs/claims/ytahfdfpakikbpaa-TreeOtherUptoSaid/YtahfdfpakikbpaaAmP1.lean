/- Part P1 of a proof that runs a program's calls on a small machine whose values bear no addresses: no conditions. -/
import Derived.Test.YtahfdfpakikbpaaAmC1
set_option autoImplicit false
set_option linter.unusedSimpArgs false
set_option linter.unusedVariables false
set_option linter.unusedSectionVars false
namespace Go.Am
open Go Go.Proofs
variable {fz : Nat → Md}

structure Tok where
  kind : Int
  lo : Int
  hi : Int
namespace Tok
def cs (t : Tok) : List D := [.int .i64 t.kind, .int .i64 t.lo, .int .i64 t.hi]
theorem cs_len (t : Tok) : t.cs.length = 3 := rfl
theorem part (t : Tok) : partOf true 2 (t.cs.map A.d) 1 = some (.agg [.d (.int .i64 t.lo), .d (.int .i64 t.hi)]) := rfl
end Tok
def tokD (z : Bool) (l : List Tok) : A := .d (.slc z (l.map Tok.cs))

/-- what a round of Span makes of what it has so far -/
def spanS (toks : List Tok) : Int → Node → Bool × Int × Int → Bool × (Bool × Int × Int) := fun _ x s =>
  (true, if x.kind ≠ 1 ∧ x.kind ≠ 3 then s else if x.pos < 0 then s else match toks[x.pos.toNat]? with
    | none => s
    | some t => if s.1 then (true, if t.lo < s.2.1 then t.lo else s.2.1, if t.hi > s.2.2 then t.hi else s.2.2) else (true, t.lo, t.hi))

noncomputable def spR : Array Nat × Code × Code := ((rangesOf (Try.f23.body.getD .skip))[0]?).getD default
noncomputable def spL (tm : Tm) : ALoop := ⟨23, 57, tm, spR.1, spR.2.1, spR.2.2, .ready, none⟩

def SpI (kl k3 k6 k7 : Nat) (z : Bool) (toks : List Tok) (L : ALoop) (_ : Nat) (s : Bool × Int × Int) (σ : St) (own : List Nat) : Prop :=
  own = [kl, k3, k6, k7] ∧ σ.get kl = .loop L ∧ σ.get k3 = .cells [tokD z toks] ∧ σ.get k6 = .cells [.d (.int .i64 s.2.1), .d (.int .i64 s.2.2)] ∧ σ.get k7 = .cells [.d (.bool s.1)] ∧ kl < σ.n ∧ k3 < σ.n ∧ k6 < σ.n ∧ k7 < σ.n

theorem min2 {a b : Int} : minmax false [.d (.int .i64 a), .d (.int .i64 b)] = some (.d (.int .i64 (if b < a then b else a))) := by
  simp [minmax, mmStep]
theorem max2 {a b : Int} : minmax true [.d (.int .i64 a), .d (.int .i64 b)] = some (.d (.int .i64 (if b > a then b else a))) := by
  simp [minmax, mmStep]
theorem o_min {X : X} {tm : Tm} {σ : St} {dst : Option Nat} {ty : Nat} {pos : String} {after : Array Edge} {g : Option (Nat × Bool)} {x y : Operand} {ts : Array Nat} :
    evalOp X tm σ ⟨dst, .call ⟨.builtin .min, #[x, y], ts⟩, ty, pos, after, g⟩ = OpR.of σ [] (minmax false [ev tm x, ev tm y]) := rfl
theorem o_max {X : X} {tm : Tm} {σ : St} {dst : Option Nat} {ty : Nat} {pos : String} {after : Array Edge} {g : Option (Nat × Bool)} {x y : Operand} {ts : Array Nat} :
    evalOp X tm σ ⟨dst, .call ⟨.builtin .max, #[x, y], ts⟩, ty, pos, after, g⟩ = OpR.of σ [] (minmax true [ev tm x, ev tm y]) := rfl
attribute [go_sem] min2 max2 o_min o_max

set_option maxHeartbeats 4000000 in
theorem sp_rounds {kl k3 k6 k7 : Nat} {z : Bool} {toks : List Tok} {tm : Tm} (t3 : tm.at 3 = .ptr k3 0) (t6 : tm.at 6 = .ptr k6 0) (t7 : tm.at 7 = .ptr k7 0) (n1 : kl ≠ k3) (n2 : kl ≠ k6) (n3 : kl ≠ k7) (n4 : k3 ≠ k6) (n5 : k3 ≠ k7) (n6 : k6 ≠ k7) :
    Rounds fz (Bool × Int × Int) kl (spanS toks) (fun _ x => Small x) (SpI kl k3 k6 k7 z toks (spL tm)) where
  stay := by
    rintro b s σ τ own ⟨rfl, g1, g2, g3, g4, l1, l2, l3, l4⟩ hn hg
    exact ⟨rfl, by rw [hg kl (by simp)]; exact g1, by rw [hg k3 (by simp)]; exact g2, by rw [hg k6 (by simp)]; exact g3, by rw [hg k7 (by simp)]; exact g4, by omega, by omega, by omega, by omega⟩
  lt := by
    rintro b s σ own k ⟨rfl, g1, g2, g3, g4, l1, l2, l3, l4⟩ hk
    simp at hk; omega
  less := fun _ _ _ _ h => h
  sub := fun _ x y h _ hy => h.sub hy
  small := fun _ x h => h
  round := by
    rintro b d x s σ own hx hkd ⟨rfl, g1, g2, g3, g4, l1, l2, l3, l4⟩
    refine Run.yld g1 ⟨rfl, by kernel_rfl⟩ ?_
    have m1 : kl ≠ σ.n := by omega
    have m2 : k3 ≠ σ.n := by omega
    have m3 : k6 ≠ σ.n := by omega
    have m4 : k7 ≠ σ.n := by omega
    have o1 : kl ≠ σ.n + 1 := by omega
    have o2 : k3 ≠ σ.n + 1 := by omega
    have o3 : k6 ≠ σ.n + 1 := by omega
    have o4 : k7 ≠ σ.n + 1 := by omega
    have w1 : (spL tm).fn = 23 := rfl
    have w2 : (spL tm).nt = 57 := rfl
    have w3 : (spL tm).tm = tm := rfl
    have w4 : (spL tm).params = #[13, 14] := rfl
    have w5 : (spL tm).assign = spR.2.1 := rfl
    have w6 : (spL tm).body = spR.2.2 := rfl
    have w7 : (spL tm).st = .ready := rfl
    simp only [w1, w2, w3, w4, w5, w6, spR, Try.f23, rangesOf, Option.getD_some, List.append_nil, List.nil_append, List.getElem?_cons_zero, List.cons_append]
    by_cases ck : x.kind ≠ 1 ∧ x.kind ≠ 3
    · have c1 : (x.kind != 1) = true := by simpa using ck.1
      have c3 : (x.kind != 3) = true := by simpa using ck.2
      simp only [go_sem, ↓reduceIte, Option.some.injEq, Bool.true_eq_false, Bool.false_eq_true, Int.reduceBEq, Int.reduceBNe, Int.reduceLT, Int.reduceLE, Nat.add_assoc, Nat.reduceAdd, Nat.reducePow, Nat.zero_le, Nat.reduceEqDiff, Nat.reduceLT, Nat.reduceLeDiff, Nat.reduceMul, Nat.reduceSub, Nat.add_left_cancel_iff, Nat.lt_irrefl, Nat.le_refl, Nat.add_eq_left, Nat.left_eq_add, beq_self_eq_true, Node.a, c1, c3, n1, n2, n3, n4, n5, n6, g1, g2, g3, g4, t3, t6, t7, w7, m1, m2, m3, m4, o1, o2, o3, o4, Ne.symm o1, Ne.symm o2, Ne.symm o3, Ne.symm o4, Ne.symm m1, Ne.symm m2, Ne.symm m3, Ne.symm m4, Ne.symm n1, Ne.symm n2, Ne.symm n3, Ne.symm n4, Ne.symm n5, Ne.symm n6]
      have hsp : spanS toks d x s = (true, s) := by simp only [spanS, if_pos ck]
      rw [hsp]
      refine ⟨_, rfl, rfl, [kl, k3, k6, k7], ((((Kept.refl.push).set (.inr (Nat.le_refl _))).write (.inl (by simp))).raw (.inl (by simp))), rfl, ?_, ?_, ?_, ?_, ?_, ?_, ?_, ?_⟩
      · exact St.get_set_eq
      · simp only [go_sem, ↓reduceIte, Option.some.injEq, Bool.true_eq_false, Bool.false_eq_true, Int.reduceBEq, Int.reduceBNe, Int.reduceLT, Int.reduceLE, Nat.add_assoc, Nat.reduceAdd, Nat.reducePow, Nat.zero_le, Nat.reduceEqDiff, Nat.reduceLT, Nat.reduceLeDiff, Nat.reduceMul, Nat.reduceSub, Nat.add_left_cancel_iff, Nat.lt_irrefl, Nat.le_refl, Nat.add_eq_left, Nat.left_eq_add, beq_self_eq_true, ite_self, n1, n2, n3, n4, n5, n6, g1, g2, g3, g4, t3, t6, t7, w7, m1, m2, m3, m4, o1, o2, o3, o4, Ne.symm o1, Ne.symm o2, Ne.symm o3, Ne.symm o4, Ne.symm m1, Ne.symm m2, Ne.symm m3, Ne.symm m4, Ne.symm n1, Ne.symm n2, Ne.symm n3, Ne.symm n4, Ne.symm n5, Ne.symm n6]
      · simp only [go_sem, ↓reduceIte, Option.some.injEq, Bool.true_eq_false, Bool.false_eq_true, Int.reduceBEq, Int.reduceBNe, Int.reduceLT, Int.reduceLE, Nat.add_assoc, Nat.reduceAdd, Nat.reducePow, Nat.zero_le, Nat.reduceEqDiff, Nat.reduceLT, Nat.reduceLeDiff, Nat.reduceMul, Nat.reduceSub, Nat.add_left_cancel_iff, Nat.lt_irrefl, Nat.le_refl, Nat.add_eq_left, Nat.left_eq_add, beq_self_eq_true, ite_self, n1, n2, n3, n4, n5, n6, g1, g2, g3, g4, t3, t6, t7, w7, m1, m2, m3, m4, o1, o2, o3, o4, Ne.symm o1, Ne.symm o2, Ne.symm o3, Ne.symm o4, Ne.symm m1, Ne.symm m2, Ne.symm m3, Ne.symm m4, Ne.symm n1, Ne.symm n2, Ne.symm n3, Ne.symm n4, Ne.symm n5, Ne.symm n6]
      · simp only [go_sem, ↓reduceIte, Option.some.injEq, Bool.true_eq_false, Bool.false_eq_true, Int.reduceBEq, Int.reduceBNe, Int.reduceLT, Int.reduceLE, Nat.add_assoc, Nat.reduceAdd, Nat.reducePow, Nat.zero_le, Nat.reduceEqDiff, Nat.reduceLT, Nat.reduceLeDiff, Nat.reduceMul, Nat.reduceSub, Nat.add_left_cancel_iff, Nat.lt_irrefl, Nat.le_refl, Nat.add_eq_left, Nat.left_eq_add, beq_self_eq_true, ite_self, n1, n2, n3, n4, n5, n6, g1, g2, g3, g4, t3, t6, t7, w7, m1, m2, m3, m4, o1, o2, o3, o4, Ne.symm o1, Ne.symm o2, Ne.symm o3, Ne.symm o4, Ne.symm m1, Ne.symm m2, Ne.symm m3, Ne.symm m4, Ne.symm n1, Ne.symm n2, Ne.symm n3, Ne.symm n4, Ne.symm n5, Ne.symm n6]
      all_goals (simp only [St.n_set, St.n_push]; omega)
    · by_cases c1 : x.kind = 1
      · have d1 : (x.kind != 1) = false := by simpa using c1
        by_cases cp : x.pos < 0
        · have c4 : decide (x.pos < 0) = true := by simpa using cp
          simp only [go_sem, ↓reduceIte, Option.some.injEq, Bool.true_eq_false, Bool.false_eq_true, Int.reduceBEq, Int.reduceBNe, Int.reduceLT, Int.reduceLE, Nat.add_assoc, Nat.reduceAdd, Nat.reducePow, Nat.zero_le, Nat.reduceEqDiff, Nat.reduceLT, Nat.reduceLeDiff, Nat.reduceMul, Nat.reduceSub, Nat.add_left_cancel_iff, Nat.lt_irrefl, Nat.le_refl, Nat.add_eq_left, Nat.left_eq_add, beq_self_eq_true, Node.a, d1, c4, n1, n2, n3, n4, n5, n6, g1, g2, g3, g4, t3, t6, t7, w7, m1, m2, m3, m4, o1, o2, o3, o4, Ne.symm o1, Ne.symm o2, Ne.symm o3, Ne.symm o4, Ne.symm m1, Ne.symm m2, Ne.symm m3, Ne.symm m4, Ne.symm n1, Ne.symm n2, Ne.symm n3, Ne.symm n4, Ne.symm n5, Ne.symm n6]
          have hsp : spanS toks d x s = (true, s) := by simp only [spanS, if_neg ck, if_pos cp]
          rw [hsp]
          refine ⟨_, rfl, rfl, [kl, k3, k6, k7], ((((Kept.refl.push).set (.inr (Nat.le_refl _))).write (.inl (by simp))).raw (.inl (by simp))), rfl, ?_, ?_, ?_, ?_, ?_, ?_, ?_, ?_⟩
          · exact St.get_set_eq
          · simp only [go_sem, ↓reduceIte, Option.some.injEq, Bool.true_eq_false, Bool.false_eq_true, Int.reduceBEq, Int.reduceBNe, Int.reduceLT, Int.reduceLE, Nat.add_assoc, Nat.reduceAdd, Nat.reducePow, Nat.zero_le, Nat.reduceEqDiff, Nat.reduceLT, Nat.reduceLeDiff, Nat.reduceMul, Nat.reduceSub, Nat.add_left_cancel_iff, Nat.lt_irrefl, Nat.le_refl, Nat.add_eq_left, Nat.left_eq_add, beq_self_eq_true, ite_self, n1, n2, n3, n4, n5, n6, g1, g2, g3, g4, t3, t6, t7, w7, m1, m2, m3, m4, o1, o2, o3, o4, Ne.symm o1, Ne.symm o2, Ne.symm o3, Ne.symm o4, Ne.symm m1, Ne.symm m2, Ne.symm m3, Ne.symm m4, Ne.symm n1, Ne.symm n2, Ne.symm n3, Ne.symm n4, Ne.symm n5, Ne.symm n6]
          · simp only [go_sem, ↓reduceIte, Option.some.injEq, Bool.true_eq_false, Bool.false_eq_true, Int.reduceBEq, Int.reduceBNe, Int.reduceLT, Int.reduceLE, Nat.add_assoc, Nat.reduceAdd, Nat.reducePow, Nat.zero_le, Nat.reduceEqDiff, Nat.reduceLT, Nat.reduceLeDiff, Nat.reduceMul, Nat.reduceSub, Nat.add_left_cancel_iff, Nat.lt_irrefl, Nat.le_refl, Nat.add_eq_left, Nat.left_eq_add, beq_self_eq_true, ite_self, n1, n2, n3, n4, n5, n6, g1, g2, g3, g4, t3, t6, t7, w7, m1, m2, m3, m4, o1, o2, o3, o4, Ne.symm o1, Ne.symm o2, Ne.symm o3, Ne.symm o4, Ne.symm m1, Ne.symm m2, Ne.symm m3, Ne.symm m4, Ne.symm n1, Ne.symm n2, Ne.symm n3, Ne.symm n4, Ne.symm n5, Ne.symm n6]
          · simp only [go_sem, ↓reduceIte, Option.some.injEq, Bool.true_eq_false, Bool.false_eq_true, Int.reduceBEq, Int.reduceBNe, Int.reduceLT, Int.reduceLE, Nat.add_assoc, Nat.reduceAdd, Nat.reducePow, Nat.zero_le, Nat.reduceEqDiff, Nat.reduceLT, Nat.reduceLeDiff, Nat.reduceMul, Nat.reduceSub, Nat.add_left_cancel_iff, Nat.lt_irrefl, Nat.le_refl, Nat.add_eq_left, Nat.left_eq_add, beq_self_eq_true, ite_self, n1, n2, n3, n4, n5, n6, g1, g2, g3, g4, t3, t6, t7, w7, m1, m2, m3, m4, o1, o2, o3, o4, Ne.symm o1, Ne.symm o2, Ne.symm o3, Ne.symm o4, Ne.symm m1, Ne.symm m2, Ne.symm m3, Ne.symm m4, Ne.symm n1, Ne.symm n2, Ne.symm n3, Ne.symm n4, Ne.symm n5, Ne.symm n6]
          all_goals (simp only [St.n_set, St.n_push]; omega)
        · have c4 : decide (x.pos < 0) = false := by simpa using cp
          obtain ⟨i, hi⟩ := Int.eq_ofNat_of_zero_le (show 0 ≤ x.pos by omega)
          by_cases cl : i < toks.length
          · have c5 : decide ((i : Int) ≥ (toks.length : Int)) = false := by simp; omega
            have hget : toks[i]? = some toks[i] := by simp [cl]
            have hidx : ∀ τ : St, indexK τ 3 (tokD z toks) (.d (.int .i64 (i : Int))) = .val (.d (.vptr (toks[i]).cs 0)) τ [] [] := fun τ => indexD_nat (by simp [hget]) (toks[i]).cs_len
            have hlen : ∀ τ : St, sliceLen τ (tokD z toks) = some toks.length := fun τ => by simp [tokD, sliceLen]
            have hrefs : (tokD z toks).refs = [] := by simp [tokD, A.refs]
            have hsp0 : spanS toks d x s = (true, if s.1 then (true, if (toks[i]).lo < s.2.1 then (toks[i]).lo else s.2.1, if (toks[i]).hi > s.2.2 then (toks[i]).hi else s.2.2) else (true, (toks[i]).lo, (toks[i]).hi)) := by
              simp only [spanS, if_neg ck, hi, Int.toNat_natCast, hget]; rw [if_neg (by omega)]
            have c4' : decide ((i : Int) < 0) = false := by simp
            cases ca : s.1 with
            | false =>
              rw [ca] at g4
              simp only [go_sem, ↓reduceIte, Option.some.injEq, Bool.true_eq_false, Bool.false_eq_true, Int.reduceBEq, Int.reduceBNe, Int.reduceLT, Int.reduceLE, Nat.add_assoc, Nat.reduceAdd, Nat.reducePow, Nat.zero_le, Nat.reduceEqDiff, Nat.reduceLT, Nat.reduceLeDiff, Nat.reduceMul, Nat.reduceSub, Nat.add_left_cancel_iff, Nat.lt_irrefl, Nat.le_refl, Nat.add_eq_left, Nat.left_eq_add, beq_self_eq_true, Node.a, d1, hi, c4', c5, hidx, hlen, hrefs, Tok.part, n1, n2, n3, n4, n5, n6, g1, g2, g3, g4, t3, t6, t7, w7, m1, m2, m3, m4, o1, o2, o3, o4, Ne.symm o1, Ne.symm o2, Ne.symm o3, Ne.symm o4, Ne.symm m1, Ne.symm m2, Ne.symm m3, Ne.symm m4, Ne.symm n1, Ne.symm n2, Ne.symm n3, Ne.symm n4, Ne.symm n5, Ne.symm n6]
              have hsp : spanS toks d x s = (true, true, (toks[i]).lo, (toks[i]).hi) := by rw [hsp0, ca]; rfl
              rw [hsp]
              refine ⟨_, rfl, rfl, [kl, k3, k6, k7], ((((((((Kept.refl.push).set (.inr (Nat.le_refl _))).write (.inl (by simp))).push).set (k := σ.n + 1) (.inr (by omega))).write (.inl (by simp))).write (.inl (by simp))).write (.inl (by simp))).raw (.inl (by simp)), rfl, ?_, ?_, ?_, ?_, ?_, ?_, ?_, ?_⟩
              · exact St.get_set_eq
              · simp only [go_sem, ↓reduceIte, Option.some.injEq, Bool.true_eq_false, Bool.false_eq_true, Int.reduceBEq, Int.reduceBNe, Int.reduceLT, Int.reduceLE, Nat.add_assoc, Nat.reduceAdd, Nat.reducePow, Nat.zero_le, Nat.reduceEqDiff, Nat.reduceLT, Nat.reduceLeDiff, Nat.reduceMul, Nat.reduceSub, Nat.add_left_cancel_iff, Nat.lt_irrefl, Nat.le_refl, Nat.add_eq_left, Nat.left_eq_add, beq_self_eq_true, ite_self, n1, n2, n3, n4, n5, n6, g1, g2, g3, g4, t3, t6, t7, w7, m1, m2, m3, m4, o1, o2, o3, o4, Ne.symm o1, Ne.symm o2, Ne.symm o3, Ne.symm o4, Ne.symm m1, Ne.symm m2, Ne.symm m3, Ne.symm m4, Ne.symm n1, Ne.symm n2, Ne.symm n3, Ne.symm n4, Ne.symm n5, Ne.symm n6]
              · simp only [go_sem, ↓reduceIte, Option.some.injEq, Bool.true_eq_false, Bool.false_eq_true, Int.reduceBEq, Int.reduceBNe, Int.reduceLT, Int.reduceLE, Nat.add_assoc, Nat.reduceAdd, Nat.reducePow, Nat.zero_le, Nat.reduceEqDiff, Nat.reduceLT, Nat.reduceLeDiff, Nat.reduceMul, Nat.reduceSub, Nat.add_left_cancel_iff, Nat.lt_irrefl, Nat.le_refl, Nat.add_eq_left, Nat.left_eq_add, beq_self_eq_true, ite_self, n1, n2, n3, n4, n5, n6, g1, g2, g3, g4, t3, t6, t7, w7, m1, m2, m3, m4, o1, o2, o3, o4, Ne.symm o1, Ne.symm o2, Ne.symm o3, Ne.symm o4, Ne.symm m1, Ne.symm m2, Ne.symm m3, Ne.symm m4, Ne.symm n1, Ne.symm n2, Ne.symm n3, Ne.symm n4, Ne.symm n5, Ne.symm n6]
              · simp only [go_sem, ↓reduceIte, Option.some.injEq, Bool.true_eq_false, Bool.false_eq_true, Int.reduceBEq, Int.reduceBNe, Int.reduceLT, Int.reduceLE, Nat.add_assoc, Nat.reduceAdd, Nat.reducePow, Nat.zero_le, Nat.reduceEqDiff, Nat.reduceLT, Nat.reduceLeDiff, Nat.reduceMul, Nat.reduceSub, Nat.add_left_cancel_iff, Nat.lt_irrefl, Nat.le_refl, Nat.add_eq_left, Nat.left_eq_add, beq_self_eq_true, ite_self, n1, n2, n3, n4, n5, n6, g1, g2, g3, g4, t3, t6, t7, w7, m1, m2, m3, m4, o1, o2, o3, o4, Ne.symm o1, Ne.symm o2, Ne.symm o3, Ne.symm o4, Ne.symm m1, Ne.symm m2, Ne.symm m3, Ne.symm m4, Ne.symm n1, Ne.symm n2, Ne.symm n3, Ne.symm n4, Ne.symm n5, Ne.symm n6]
              all_goals (simp only [St.n_set, St.n_push]; omega)
            | true =>
              rw [ca] at g4
              simp only [go_sem, ↓reduceIte, Option.some.injEq, Bool.true_eq_false, Bool.false_eq_true, Int.reduceBEq, Int.reduceBNe, Int.reduceLT, Int.reduceLE, Nat.add_assoc, Nat.reduceAdd, Nat.reducePow, Nat.zero_le, Nat.reduceEqDiff, Nat.reduceLT, Nat.reduceLeDiff, Nat.reduceMul, Nat.reduceSub, Nat.add_left_cancel_iff, Nat.lt_irrefl, Nat.le_refl, Nat.add_eq_left, Nat.left_eq_add, beq_self_eq_true, Node.a, d1, hi, c4', c5, hidx, hlen, hrefs, Tok.part, n1, n2, n3, n4, n5, n6, g1, g2, g3, g4, t3, t6, t7, w7, m1, m2, m3, m4, o1, o2, o3, o4, Ne.symm o1, Ne.symm o2, Ne.symm o3, Ne.symm o4, Ne.symm m1, Ne.symm m2, Ne.symm m3, Ne.symm m4, Ne.symm n1, Ne.symm n2, Ne.symm n3, Ne.symm n4, Ne.symm n5, Ne.symm n6]
              have hsp : spanS toks d x s = (true, true, (if (toks[i]).lo < s.2.1 then (toks[i]).lo else s.2.1), (if (toks[i]).hi > s.2.2 then (toks[i]).hi else s.2.2)) := by rw [hsp0, ca]; rfl
              rw [hsp]
              refine ⟨_, rfl, rfl, [kl, k3, k6, k7], ((((((Kept.refl.push).set (.inr (Nat.le_refl _))).write (.inl (by simp))).push).set (k := σ.n + 1) (.inr (by omega))).write (.inl (by simp))).raw (.inl (by simp)), rfl, ?_, ?_, ?_, ?_, ?_, ?_, ?_, ?_⟩
              · exact St.get_set_eq
              · simp only [go_sem, ↓reduceIte, Option.some.injEq, Bool.true_eq_false, Bool.false_eq_true, Int.reduceBEq, Int.reduceBNe, Int.reduceLT, Int.reduceLE, Nat.add_assoc, Nat.reduceAdd, Nat.reducePow, Nat.zero_le, Nat.reduceEqDiff, Nat.reduceLT, Nat.reduceLeDiff, Nat.reduceMul, Nat.reduceSub, Nat.add_left_cancel_iff, Nat.lt_irrefl, Nat.le_refl, Nat.add_eq_left, Nat.left_eq_add, beq_self_eq_true, ite_self, n1, n2, n3, n4, n5, n6, g1, g2, g3, g4, t3, t6, t7, w7, m1, m2, m3, m4, o1, o2, o3, o4, Ne.symm o1, Ne.symm o2, Ne.symm o3, Ne.symm o4, Ne.symm m1, Ne.symm m2, Ne.symm m3, Ne.symm m4, Ne.symm n1, Ne.symm n2, Ne.symm n3, Ne.symm n4, Ne.symm n5, Ne.symm n6]
              · simp only [go_sem, ↓reduceIte, Option.some.injEq, Bool.true_eq_false, Bool.false_eq_true, Int.reduceBEq, Int.reduceBNe, Int.reduceLT, Int.reduceLE, Nat.add_assoc, Nat.reduceAdd, Nat.reducePow, Nat.zero_le, Nat.reduceEqDiff, Nat.reduceLT, Nat.reduceLeDiff, Nat.reduceMul, Nat.reduceSub, Nat.add_left_cancel_iff, Nat.lt_irrefl, Nat.le_refl, Nat.add_eq_left, Nat.left_eq_add, beq_self_eq_true, ite_self, n1, n2, n3, n4, n5, n6, g1, g2, g3, g4, t3, t6, t7, w7, m1, m2, m3, m4, o1, o2, o3, o4, Ne.symm o1, Ne.symm o2, Ne.symm o3, Ne.symm o4, Ne.symm m1, Ne.symm m2, Ne.symm m3, Ne.symm m4, Ne.symm n1, Ne.symm n2, Ne.symm n3, Ne.symm n4, Ne.symm n5, Ne.symm n6]
              · simp only [go_sem, ↓reduceIte, Option.some.injEq, Bool.true_eq_false, Bool.false_eq_true, Int.reduceBEq, Int.reduceBNe, Int.reduceLT, Int.reduceLE, Nat.add_assoc, Nat.reduceAdd, Nat.reducePow, Nat.zero_le, Nat.reduceEqDiff, Nat.reduceLT, Nat.reduceLeDiff, Nat.reduceMul, Nat.reduceSub, Nat.add_left_cancel_iff, Nat.lt_irrefl, Nat.le_refl, Nat.add_eq_left, Nat.left_eq_add, beq_self_eq_true, ite_self, n1, n2, n3, n4, n5, n6, g1, g2, g3, g4, t3, t6, t7, w7, m1, m2, m3, m4, o1, o2, o3, o4, Ne.symm o1, Ne.symm o2, Ne.symm o3, Ne.symm o4, Ne.symm m1, Ne.symm m2, Ne.symm m3, Ne.symm m4, Ne.symm n1, Ne.symm n2, Ne.symm n3, Ne.symm n4, Ne.symm n5, Ne.symm n6]
              all_goals (simp only [St.n_set, St.n_push]; omega)
          · have c5 : decide ((i : Int) ≥ (toks.length : Int)) = true := by simp; omega
            have hlen : ∀ τ : St, sliceLen τ (tokD z toks) = some toks.length := fun τ => by simp [tokD, sliceLen]
            have hrefs : (tokD z toks).refs = [] := by simp [tokD, A.refs]
            have c4' : decide ((i : Int) < 0) = false := by simp
            have hnone : toks[i]? = none := by simp; omega
            simp only [go_sem, ↓reduceIte, Option.some.injEq, Bool.true_eq_false, Bool.false_eq_true, Int.reduceBEq, Int.reduceBNe, Int.reduceLT, Int.reduceLE, Nat.add_assoc, Nat.reduceAdd, Nat.reducePow, Nat.zero_le, Nat.reduceEqDiff, Nat.reduceLT, Nat.reduceLeDiff, Nat.reduceMul, Nat.reduceSub, Nat.add_left_cancel_iff, Nat.lt_irrefl, Nat.le_refl, Nat.add_eq_left, Nat.left_eq_add, beq_self_eq_true, Node.a, d1, hi, c4', c5, hlen, hrefs, n1, n2, n3, n4, n5, n6, g1, g2, g3, g4, t3, t6, t7, w7, m1, m2, m3, m4, o1, o2, o3, o4, Ne.symm o1, Ne.symm o2, Ne.symm o3, Ne.symm o4, Ne.symm m1, Ne.symm m2, Ne.symm m3, Ne.symm m4, Ne.symm n1, Ne.symm n2, Ne.symm n3, Ne.symm n4, Ne.symm n5, Ne.symm n6]
            have hsp : spanS toks d x s = (true, s) := by simp only [spanS, if_neg ck, hi, Int.toNat_natCast, hnone]; rw [if_neg (by omega)]
            rw [hsp]
            refine ⟨_, rfl, rfl, [kl, k3, k6, k7], ((((Kept.refl.push).set (.inr (Nat.le_refl _))).write (.inl (by simp))).raw (.inl (by simp))), rfl, ?_, ?_, ?_, ?_, ?_, ?_, ?_, ?_⟩
            · exact St.get_set_eq
            · simp only [go_sem, ↓reduceIte, Option.some.injEq, Bool.true_eq_false, Bool.false_eq_true, Int.reduceBEq, Int.reduceBNe, Int.reduceLT, Int.reduceLE, Nat.add_assoc, Nat.reduceAdd, Nat.reducePow, Nat.zero_le, Nat.reduceEqDiff, Nat.reduceLT, Nat.reduceLeDiff, Nat.reduceMul, Nat.reduceSub, Nat.add_left_cancel_iff, Nat.lt_irrefl, Nat.le_refl, Nat.add_eq_left, Nat.left_eq_add, beq_self_eq_true, ite_self, n1, n2, n3, n4, n5, n6, g1, g2, g3, g4, t3, t6, t7, w7, m1, m2, m3, m4, o1, o2, o3, o4, Ne.symm o1, Ne.symm o2, Ne.symm o3, Ne.symm o4, Ne.symm m1, Ne.symm m2, Ne.symm m3, Ne.symm m4, Ne.symm n1, Ne.symm n2, Ne.symm n3, Ne.symm n4, Ne.symm n5, Ne.symm n6]
            · simp only [go_sem, ↓reduceIte, Option.some.injEq, Bool.true_eq_false, Bool.false_eq_true, Int.reduceBEq, Int.reduceBNe, Int.reduceLT, Int.reduceLE, Nat.add_assoc, Nat.reduceAdd, Nat.reducePow, Nat.zero_le, Nat.reduceEqDiff, Nat.reduceLT, Nat.reduceLeDiff, Nat.reduceMul, Nat.reduceSub, Nat.add_left_cancel_iff, Nat.lt_irrefl, Nat.le_refl, Nat.add_eq_left, Nat.left_eq_add, beq_self_eq_true, ite_self, n1, n2, n3, n4, n5, n6, g1, g2, g3, g4, t3, t6, t7, w7, m1, m2, m3, m4, o1, o2, o3, o4, Ne.symm o1, Ne.symm o2, Ne.symm o3, Ne.symm o4, Ne.symm m1, Ne.symm m2, Ne.symm m3, Ne.symm m4, Ne.symm n1, Ne.symm n2, Ne.symm n3, Ne.symm n4, Ne.symm n5, Ne.symm n6]
            · simp only [go_sem, ↓reduceIte, Option.some.injEq, Bool.true_eq_false, Bool.false_eq_true, Int.reduceBEq, Int.reduceBNe, Int.reduceLT, Int.reduceLE, Nat.add_assoc, Nat.reduceAdd, Nat.reducePow, Nat.zero_le, Nat.reduceEqDiff, Nat.reduceLT, Nat.reduceLeDiff, Nat.reduceMul, Nat.reduceSub, Nat.add_left_cancel_iff, Nat.lt_irrefl, Nat.le_refl, Nat.add_eq_left, Nat.left_eq_add, beq_self_eq_true, ite_self, n1, n2, n3, n4, n5, n6, g1, g2, g3, g4, t3, t6, t7, w7, m1, m2, m3, m4, o1, o2, o3, o4, Ne.symm o1, Ne.symm o2, Ne.symm o3, Ne.symm o4, Ne.symm m1, Ne.symm m2, Ne.symm m3, Ne.symm m4, Ne.symm n1, Ne.symm n2, Ne.symm n3, Ne.symm n4, Ne.symm n5, Ne.symm n6]
            all_goals (simp only [St.n_set, St.n_push]; omega)
      · have d1 : (x.kind != 1) = true := by simpa using c1
        have d3 : (x.kind != 3) = false := by
          have : x.kind = 3 := Classical.byContradiction fun h => ck ⟨c1, h⟩
          simpa using this
        by_cases cp : x.pos < 0
        · have c4 : decide (x.pos < 0) = true := by simpa using cp
          simp only [go_sem, ↓reduceIte, Option.some.injEq, Bool.true_eq_false, Bool.false_eq_true, Int.reduceBEq, Int.reduceBNe, Int.reduceLT, Int.reduceLE, Nat.add_assoc, Nat.reduceAdd, Nat.reducePow, Nat.zero_le, Nat.reduceEqDiff, Nat.reduceLT, Nat.reduceLeDiff, Nat.reduceMul, Nat.reduceSub, Nat.add_left_cancel_iff, Nat.lt_irrefl, Nat.le_refl, Nat.add_eq_left, Nat.left_eq_add, beq_self_eq_true, Node.a, d1, d3, c4, n1, n2, n3, n4, n5, n6, g1, g2, g3, g4, t3, t6, t7, w7, m1, m2, m3, m4, o1, o2, o3, o4, Ne.symm o1, Ne.symm o2, Ne.symm o3, Ne.symm o4, Ne.symm m1, Ne.symm m2, Ne.symm m3, Ne.symm m4, Ne.symm n1, Ne.symm n2, Ne.symm n3, Ne.symm n4, Ne.symm n5, Ne.symm n6]
          have hsp : spanS toks d x s = (true, s) := by simp only [spanS, if_neg ck, if_pos cp]
          rw [hsp]
          refine ⟨_, rfl, rfl, [kl, k3, k6, k7], ((((Kept.refl.push).set (.inr (Nat.le_refl _))).write (.inl (by simp))).raw (.inl (by simp))), rfl, ?_, ?_, ?_, ?_, ?_, ?_, ?_, ?_⟩
          · exact St.get_set_eq
          · simp only [go_sem, ↓reduceIte, Option.some.injEq, Bool.true_eq_false, Bool.false_eq_true, Int.reduceBEq, Int.reduceBNe, Int.reduceLT, Int.reduceLE, Nat.add_assoc, Nat.reduceAdd, Nat.reducePow, Nat.zero_le, Nat.reduceEqDiff, Nat.reduceLT, Nat.reduceLeDiff, Nat.reduceMul, Nat.reduceSub, Nat.add_left_cancel_iff, Nat.lt_irrefl, Nat.le_refl, Nat.add_eq_left, Nat.left_eq_add, beq_self_eq_true, ite_self, n1, n2, n3, n4, n5, n6, g1, g2, g3, g4, t3, t6, t7, w7, m1, m2, m3, m4, o1, o2, o3, o4, Ne.symm o1, Ne.symm o2, Ne.symm o3, Ne.symm o4, Ne.symm m1, Ne.symm m2, Ne.symm m3, Ne.symm m4, Ne.symm n1, Ne.symm n2, Ne.symm n3, Ne.symm n4, Ne.symm n5, Ne.symm n6]
          · simp only [go_sem, ↓reduceIte, Option.some.injEq, Bool.true_eq_false, Bool.false_eq_true, Int.reduceBEq, Int.reduceBNe, Int.reduceLT, Int.reduceLE, Nat.add_assoc, Nat.reduceAdd, Nat.reducePow, Nat.zero_le, Nat.reduceEqDiff, Nat.reduceLT, Nat.reduceLeDiff, Nat.reduceMul, Nat.reduceSub, Nat.add_left_cancel_iff, Nat.lt_irrefl, Nat.le_refl, Nat.add_eq_left, Nat.left_eq_add, beq_self_eq_true, ite_self, n1, n2, n3, n4, n5, n6, g1, g2, g3, g4, t3, t6, t7, w7, m1, m2, m3, m4, o1, o2, o3, o4, Ne.symm o1, Ne.symm o2, Ne.symm o3, Ne.symm o4, Ne.symm m1, Ne.symm m2, Ne.symm m3, Ne.symm m4, Ne.symm n1, Ne.symm n2, Ne.symm n3, Ne.symm n4, Ne.symm n5, Ne.symm n6]
          · simp only [go_sem, ↓reduceIte, Option.some.injEq, Bool.true_eq_false, Bool.false_eq_true, Int.reduceBEq, Int.reduceBNe, Int.reduceLT, Int.reduceLE, Nat.add_assoc, Nat.reduceAdd, Nat.reducePow, Nat.zero_le, Nat.reduceEqDiff, Nat.reduceLT, Nat.reduceLeDiff, Nat.reduceMul, Nat.reduceSub, Nat.add_left_cancel_iff, Nat.lt_irrefl, Nat.le_refl, Nat.add_eq_left, Nat.left_eq_add, beq_self_eq_true, ite_self, n1, n2, n3, n4, n5, n6, g1, g2, g3, g4, t3, t6, t7, w7, m1, m2, m3, m4, o1, o2, o3, o4, Ne.symm o1, Ne.symm o2, Ne.symm o3, Ne.symm o4, Ne.symm m1, Ne.symm m2, Ne.symm m3, Ne.symm m4, Ne.symm n1, Ne.symm n2, Ne.symm n3, Ne.symm n4, Ne.symm n5, Ne.symm n6]
          all_goals (simp only [St.n_set, St.n_push]; omega)
        · have c4 : decide (x.pos < 0) = false := by simpa using cp
          obtain ⟨i, hi⟩ := Int.eq_ofNat_of_zero_le (show 0 ≤ x.pos by omega)
          by_cases cl : i < toks.length
          · have c5 : decide ((i : Int) ≥ (toks.length : Int)) = false := by simp; omega
            have hget : toks[i]? = some toks[i] := by simp [cl]
            have hidx : ∀ τ : St, indexK τ 3 (tokD z toks) (.d (.int .i64 (i : Int))) = .val (.d (.vptr (toks[i]).cs 0)) τ [] [] := fun τ => indexD_nat (by simp [hget]) (toks[i]).cs_len
            have hlen : ∀ τ : St, sliceLen τ (tokD z toks) = some toks.length := fun τ => by simp [tokD, sliceLen]
            have hrefs : (tokD z toks).refs = [] := by simp [tokD, A.refs]
            have hsp0 : spanS toks d x s = (true, if s.1 then (true, if (toks[i]).lo < s.2.1 then (toks[i]).lo else s.2.1, if (toks[i]).hi > s.2.2 then (toks[i]).hi else s.2.2) else (true, (toks[i]).lo, (toks[i]).hi)) := by
              simp only [spanS, if_neg ck, hi, Int.toNat_natCast, hget]; rw [if_neg (by omega)]
            have c4' : decide ((i : Int) < 0) = false := by simp
            cases ca : s.1 with
            | false =>
              rw [ca] at g4
              simp only [go_sem, ↓reduceIte, Option.some.injEq, Bool.true_eq_false, Bool.false_eq_true, Int.reduceBEq, Int.reduceBNe, Int.reduceLT, Int.reduceLE, Nat.add_assoc, Nat.reduceAdd, Nat.reducePow, Nat.zero_le, Nat.reduceEqDiff, Nat.reduceLT, Nat.reduceLeDiff, Nat.reduceMul, Nat.reduceSub, Nat.add_left_cancel_iff, Nat.lt_irrefl, Nat.le_refl, Nat.add_eq_left, Nat.left_eq_add, beq_self_eq_true, Node.a, d1, d3, hi, c4', c5, hidx, hlen, hrefs, Tok.part, n1, n2, n3, n4, n5, n6, g1, g2, g3, g4, t3, t6, t7, w7, m1, m2, m3, m4, o1, o2, o3, o4, Ne.symm o1, Ne.symm o2, Ne.symm o3, Ne.symm o4, Ne.symm m1, Ne.symm m2, Ne.symm m3, Ne.symm m4, Ne.symm n1, Ne.symm n2, Ne.symm n3, Ne.symm n4, Ne.symm n5, Ne.symm n6]
              have hsp : spanS toks d x s = (true, true, (toks[i]).lo, (toks[i]).hi) := by rw [hsp0, ca]; rfl
              rw [hsp]
              refine ⟨_, rfl, rfl, [kl, k3, k6, k7], ((((((((Kept.refl.push).set (.inr (Nat.le_refl _))).write (.inl (by simp))).push).set (k := σ.n + 1) (.inr (by omega))).write (.inl (by simp))).write (.inl (by simp))).write (.inl (by simp))).raw (.inl (by simp)), rfl, ?_, ?_, ?_, ?_, ?_, ?_, ?_, ?_⟩
              · exact St.get_set_eq
              · simp only [go_sem, ↓reduceIte, Option.some.injEq, Bool.true_eq_false, Bool.false_eq_true, Int.reduceBEq, Int.reduceBNe, Int.reduceLT, Int.reduceLE, Nat.add_assoc, Nat.reduceAdd, Nat.reducePow, Nat.zero_le, Nat.reduceEqDiff, Nat.reduceLT, Nat.reduceLeDiff, Nat.reduceMul, Nat.reduceSub, Nat.add_left_cancel_iff, Nat.lt_irrefl, Nat.le_refl, Nat.add_eq_left, Nat.left_eq_add, beq_self_eq_true, ite_self, n1, n2, n3, n4, n5, n6, g1, g2, g3, g4, t3, t6, t7, w7, m1, m2, m3, m4, o1, o2, o3, o4, Ne.symm o1, Ne.symm o2, Ne.symm o3, Ne.symm o4, Ne.symm m1, Ne.symm m2, Ne.symm m3, Ne.symm m4, Ne.symm n1, Ne.symm n2, Ne.symm n3, Ne.symm n4, Ne.symm n5, Ne.symm n6]
              · simp only [go_sem, ↓reduceIte, Option.some.injEq, Bool.true_eq_false, Bool.false_eq_true, Int.reduceBEq, Int.reduceBNe, Int.reduceLT, Int.reduceLE, Nat.add_assoc, Nat.reduceAdd, Nat.reducePow, Nat.zero_le, Nat.reduceEqDiff, Nat.reduceLT, Nat.reduceLeDiff, Nat.reduceMul, Nat.reduceSub, Nat.add_left_cancel_iff, Nat.lt_irrefl, Nat.le_refl, Nat.add_eq_left, Nat.left_eq_add, beq_self_eq_true, ite_self, n1, n2, n3, n4, n5, n6, g1, g2, g3, g4, t3, t6, t7, w7, m1, m2, m3, m4, o1, o2, o3, o4, Ne.symm o1, Ne.symm o2, Ne.symm o3, Ne.symm o4, Ne.symm m1, Ne.symm m2, Ne.symm m3, Ne.symm m4, Ne.symm n1, Ne.symm n2, Ne.symm n3, Ne.symm n4, Ne.symm n5, Ne.symm n6]
              · simp only [go_sem, ↓reduceIte, Option.some.injEq, Bool.true_eq_false, Bool.false_eq_true, Int.reduceBEq, Int.reduceBNe, Int.reduceLT, Int.reduceLE, Nat.add_assoc, Nat.reduceAdd, Nat.reducePow, Nat.zero_le, Nat.reduceEqDiff, Nat.reduceLT, Nat.reduceLeDiff, Nat.reduceMul, Nat.reduceSub, Nat.add_left_cancel_iff, Nat.lt_irrefl, Nat.le_refl, Nat.add_eq_left, Nat.left_eq_add, beq_self_eq_true, ite_self, n1, n2, n3, n4, n5, n6, g1, g2, g3, g4, t3, t6, t7, w7, m1, m2, m3, m4, o1, o2, o3, o4, Ne.symm o1, Ne.symm o2, Ne.symm o3, Ne.symm o4, Ne.symm m1, Ne.symm m2, Ne.symm m3, Ne.symm m4, Ne.symm n1, Ne.symm n2, Ne.symm n3, Ne.symm n4, Ne.symm n5, Ne.symm n6]
              all_goals (simp only [St.n_set, St.n_push]; omega)
            | true =>
              rw [ca] at g4
              simp only [go_sem, ↓reduceIte, Option.some.injEq, Bool.true_eq_false, Bool.false_eq_true, Int.reduceBEq, Int.reduceBNe, Int.reduceLT, Int.reduceLE, Nat.add_assoc, Nat.reduceAdd, Nat.reducePow, Nat.zero_le, Nat.reduceEqDiff, Nat.reduceLT, Nat.reduceLeDiff, Nat.reduceMul, Nat.reduceSub, Nat.add_left_cancel_iff, Nat.lt_irrefl, Nat.le_refl, Nat.add_eq_left, Nat.left_eq_add, beq_self_eq_true, Node.a, d1, d3, hi, c4', c5, hidx, hlen, hrefs, Tok.part, n1, n2, n3, n4, n5, n6, g1, g2, g3, g4, t3, t6, t7, w7, m1, m2, m3, m4, o1, o2, o3, o4, Ne.symm o1, Ne.symm o2, Ne.symm o3, Ne.symm o4, Ne.symm m1, Ne.symm m2, Ne.symm m3, Ne.symm m4, Ne.symm n1, Ne.symm n2, Ne.symm n3, Ne.symm n4, Ne.symm n5, Ne.symm n6]
              have hsp : spanS toks d x s = (true, true, (if (toks[i]).lo < s.2.1 then (toks[i]).lo else s.2.1), (if (toks[i]).hi > s.2.2 then (toks[i]).hi else s.2.2)) := by rw [hsp0, ca]; rfl
              rw [hsp]
              refine ⟨_, rfl, rfl, [kl, k3, k6, k7], ((((((Kept.refl.push).set (.inr (Nat.le_refl _))).write (.inl (by simp))).push).set (k := σ.n + 1) (.inr (by omega))).write (.inl (by simp))).raw (.inl (by simp)), rfl, ?_, ?_, ?_, ?_, ?_, ?_, ?_, ?_⟩
              · exact St.get_set_eq
              · simp only [go_sem, ↓reduceIte, Option.some.injEq, Bool.true_eq_false, Bool.false_eq_true, Int.reduceBEq, Int.reduceBNe, Int.reduceLT, Int.reduceLE, Nat.add_assoc, Nat.reduceAdd, Nat.reducePow, Nat.zero_le, Nat.reduceEqDiff, Nat.reduceLT, Nat.reduceLeDiff, Nat.reduceMul, Nat.reduceSub, Nat.add_left_cancel_iff, Nat.lt_irrefl, Nat.le_refl, Nat.add_eq_left, Nat.left_eq_add, beq_self_eq_true, ite_self, n1, n2, n3, n4, n5, n6, g1, g2, g3, g4, t3, t6, t7, w7, m1, m2, m3, m4, o1, o2, o3, o4, Ne.symm o1, Ne.symm o2, Ne.symm o3, Ne.symm o4, Ne.symm m1, Ne.symm m2, Ne.symm m3, Ne.symm m4, Ne.symm n1, Ne.symm n2, Ne.symm n3, Ne.symm n4, Ne.symm n5, Ne.symm n6]
              · simp only [go_sem, ↓reduceIte, Option.some.injEq, Bool.true_eq_false, Bool.false_eq_true, Int.reduceBEq, Int.reduceBNe, Int.reduceLT, Int.reduceLE, Nat.add_assoc, Nat.reduceAdd, Nat.reducePow, Nat.zero_le, Nat.reduceEqDiff, Nat.reduceLT, Nat.reduceLeDiff, Nat.reduceMul, Nat.reduceSub, Nat.add_left_cancel_iff, Nat.lt_irrefl, Nat.le_refl, Nat.add_eq_left, Nat.left_eq_add, beq_self_eq_true, ite_self, n1, n2, n3, n4, n5, n6, g1, g2, g3, g4, t3, t6, t7, w7, m1, m2, m3, m4, o1, o2, o3, o4, Ne.symm o1, Ne.symm o2, Ne.symm o3, Ne.symm o4, Ne.symm m1, Ne.symm m2, Ne.symm m3, Ne.symm m4, Ne.symm n1, Ne.symm n2, Ne.symm n3, Ne.symm n4, Ne.symm n5, Ne.symm n6]
              · simp only [go_sem, ↓reduceIte, Option.some.injEq, Bool.true_eq_false, Bool.false_eq_true, Int.reduceBEq, Int.reduceBNe, Int.reduceLT, Int.reduceLE, Nat.add_assoc, Nat.reduceAdd, Nat.reducePow, Nat.zero_le, Nat.reduceEqDiff, Nat.reduceLT, Nat.reduceLeDiff, Nat.reduceMul, Nat.reduceSub, Nat.add_left_cancel_iff, Nat.lt_irrefl, Nat.le_refl, Nat.add_eq_left, Nat.left_eq_add, beq_self_eq_true, ite_self, n1, n2, n3, n4, n5, n6, g1, g2, g3, g4, t3, t6, t7, w7, m1, m2, m3, m4, o1, o2, o3, o4, Ne.symm o1, Ne.symm o2, Ne.symm o3, Ne.symm o4, Ne.symm m1, Ne.symm m2, Ne.symm m3, Ne.symm m4, Ne.symm n1, Ne.symm n2, Ne.symm n3, Ne.symm n4, Ne.symm n5, Ne.symm n6]
              all_goals (simp only [St.n_set, St.n_push]; omega)
          · have c5 : decide ((i : Int) ≥ (toks.length : Int)) = true := by simp; omega
            have hlen : ∀ τ : St, sliceLen τ (tokD z toks) = some toks.length := fun τ => by simp [tokD, sliceLen]
            have hrefs : (tokD z toks).refs = [] := by simp [tokD, A.refs]
            have c4' : decide ((i : Int) < 0) = false := by simp
            have hnone : toks[i]? = none := by simp; omega
            simp only [go_sem, ↓reduceIte, Option.some.injEq, Bool.true_eq_false, Bool.false_eq_true, Int.reduceBEq, Int.reduceBNe, Int.reduceLT, Int.reduceLE, Nat.add_assoc, Nat.reduceAdd, Nat.reducePow, Nat.zero_le, Nat.reduceEqDiff, Nat.reduceLT, Nat.reduceLeDiff, Nat.reduceMul, Nat.reduceSub, Nat.add_left_cancel_iff, Nat.lt_irrefl, Nat.le_refl, Nat.add_eq_left, Nat.left_eq_add, beq_self_eq_true, Node.a, d1, d3, hi, c4', c5, hlen, hrefs, n1, n2, n3, n4, n5, n6, g1, g2, g3, g4, t3, t6, t7, w7, m1, m2, m3, m4, o1, o2, o3, o4, Ne.symm o1, Ne.symm o2, Ne.symm o3, Ne.symm o4, Ne.symm m1, Ne.symm m2, Ne.symm m3, Ne.symm m4, Ne.symm n1, Ne.symm n2, Ne.symm n3, Ne.symm n4, Ne.symm n5, Ne.symm n6]
            have hsp : spanS toks d x s = (true, s) := by simp only [spanS, if_neg ck, hi, Int.toNat_natCast, hnone]; rw [if_neg (by omega)]
            rw [hsp]
            refine ⟨_, rfl, rfl, [kl, k3, k6, k7], ((((Kept.refl.push).set (.inr (Nat.le_refl _))).write (.inl (by simp))).raw (.inl (by simp))), rfl, ?_, ?_, ?_, ?_, ?_, ?_, ?_, ?_⟩
            · exact St.get_set_eq
            · simp only [go_sem, ↓reduceIte, Option.some.injEq, Bool.true_eq_false, Bool.false_eq_true, Int.reduceBEq, Int.reduceBNe, Int.reduceLT, Int.reduceLE, Nat.add_assoc, Nat.reduceAdd, Nat.reducePow, Nat.zero_le, Nat.reduceEqDiff, Nat.reduceLT, Nat.reduceLeDiff, Nat.reduceMul, Nat.reduceSub, Nat.add_left_cancel_iff, Nat.lt_irrefl, Nat.le_refl, Nat.add_eq_left, Nat.left_eq_add, beq_self_eq_true, ite_self, n1, n2, n3, n4, n5, n6, g1, g2, g3, g4, t3, t6, t7, w7, m1, m2, m3, m4, o1, o2, o3, o4, Ne.symm o1, Ne.symm o2, Ne.symm o3, Ne.symm o4, Ne.symm m1, Ne.symm m2, Ne.symm m3, Ne.symm m4, Ne.symm n1, Ne.symm n2, Ne.symm n3, Ne.symm n4, Ne.symm n5, Ne.symm n6]
            · simp only [go_sem, ↓reduceIte, Option.some.injEq, Bool.true_eq_false, Bool.false_eq_true, Int.reduceBEq, Int.reduceBNe, Int.reduceLT, Int.reduceLE, Nat.add_assoc, Nat.reduceAdd, Nat.reducePow, Nat.zero_le, Nat.reduceEqDiff, Nat.reduceLT, Nat.reduceLeDiff, Nat.reduceMul, Nat.reduceSub, Nat.add_left_cancel_iff, Nat.lt_irrefl, Nat.le_refl, Nat.add_eq_left, Nat.left_eq_add, beq_self_eq_true, ite_self, n1, n2, n3, n4, n5, n6, g1, g2, g3, g4, t3, t6, t7, w7, m1, m2, m3, m4, o1, o2, o3, o4, Ne.symm o1, Ne.symm o2, Ne.symm o3, Ne.symm o4, Ne.symm m1, Ne.symm m2, Ne.symm m3, Ne.symm m4, Ne.symm n1, Ne.symm n2, Ne.symm n3, Ne.symm n4, Ne.symm n5, Ne.symm n6]
            · simp only [go_sem, ↓reduceIte, Option.some.injEq, Bool.true_eq_false, Bool.false_eq_true, Int.reduceBEq, Int.reduceBNe, Int.reduceLT, Int.reduceLE, Nat.add_assoc, Nat.reduceAdd, Nat.reducePow, Nat.zero_le, Nat.reduceEqDiff, Nat.reduceLT, Nat.reduceLeDiff, Nat.reduceMul, Nat.reduceSub, Nat.add_left_cancel_iff, Nat.lt_irrefl, Nat.le_refl, Nat.add_eq_left, Nat.left_eq_add, beq_self_eq_true, ite_self, n1, n2, n3, n4, n5, n6, g1, g2, g3, g4, t3, t6, t7, w7, m1, m2, m3, m4, o1, o2, o3, o4, Ne.symm o1, Ne.symm o2, Ne.symm o3, Ne.symm o4, Ne.symm m1, Ne.symm m2, Ne.symm m3, Ne.symm m4, Ne.symm n1, Ne.symm n2, Ne.symm n3, Ne.symm n4, Ne.symm n5, Ne.symm n6]
            all_goals (simp only [St.n_set, St.n_push]; omega)
end Go.Am
namespace Go.Am
open Go Go.Proofs
variable {fz : Nat → Md}

abbrev SpV := Bool × Int × Int
def spMerge (s r : SpV) : SpV := if r.1 then (if s.1 then (true, if r.2.1 < s.2.1 then r.2.1 else s.2.1, if r.2.2 > s.2.2 then r.2.2 else s.2.2) else r) else s
def leafSpan (toks : List Tok) (x : Node) : SpV := if x.kind ≠ 1 ∧ x.kind ≠ 3 then (false, 0, 0) else if x.pos < 0 then (false, 0, 0) else match toks[x.pos.toNat]? with
  | none => (false, 0, 0)
  | some t => (true, t.lo, t.hi)
mutual
/-- a tree's span -/
def spP (toks : List Tok) : Node → SpV
  | .mk k n p z l => if k = 0 then spM toks l else leafSpan toks (.mk k n p z l)
def spM (toks : List Tok) : List Node → SpV
  | [] => (false, 0, 0)
  | x :: l => spMerge (spP toks x) (spM toks l)
end
theorem spanS_eq (toks : List Tok) (d : Int) (x : Node) (s : SpV) : spanS toks d x s = (true, spMerge s (leafSpan toks x)) := by
  unfold spanS leafSpan spMerge
  split
  · simp
  · split
    · simp
    · cases toks[x.pos.toNat]? with
      | none => simp
      | some t =>
        obtain ⟨b, f, u⟩ := s
        cases b <;> simp
theorem merge_assoc (a b c : SpV) : spMerge (spMerge a b) c = spMerge a (spMerge b c) := by
  obtain ⟨a1, a2, a3⟩ := a
  obtain ⟨b1, b2, b3⟩ := b
  obtain ⟨c1, c2, c3⟩ := c
  unfold spMerge
  cases a1 <;> cases b1 <;> cases c1 <;> simp
  constructor
  · split <;> split <;> (try split) <;> omega
  · split <;> split <;> (try split) <;> omega
mutual
theorem spWalk_P (toks : List Tok) : ∀ (x : Node) (d : Int) (s : SpV), walkP (leafS (spanS toks)) x d s = (true, spMerge s (spP toks x))
  | .mk k n p z l, d, s => by
    rw [walkP, spP]
    by_cases hk : k = 0
    · have e1 : leafS (spanS toks) d (.mk k n p z l) s = (true, s) := if_pos hk
      simp only [e1]
      rw [if_pos hk, if_neg (by simp), if_neg (by simp [hk])]
      exact spWalk_L toks l _ s
    · have e1 : leafS (spanS toks) d (.mk k n p z l) s = (true, spMerge s (leafSpan toks (.mk k n p z l))) := (if_neg hk).trans (spanS_eq _ _ _ _)
      simp only [e1]
      rw [if_neg hk, if_neg (by simp), if_pos hk]
theorem spWalk_L (toks : List Tok) : ∀ (l : List Node) (d : Int) (s : SpV), walkL (leafS (spanS toks)) l d s = (true, spMerge s (spM toks l))
  | [], d, s => by rw [walkL, spM]; rfl
  | x :: l, d, s => by
    rw [walkL, spM, spWalk_P toks x]
    dsimp only
    rw [if_neg (by simp), spWalk_L toks l, merge_assoc]
end
theorem leaf_norm (toks : List Tok) (x : Node) (h : (leafSpan toks x).1 = false) : leafSpan toks x = (false, 0, 0) := by
  unfold leafSpan at h ⊢
  split
  · rfl
  · split
    · rfl
    · rename_i h1 h2
      rw [if_neg h1, if_neg h2] at h
      split at h <;> simp_all
mutual
theorem sp_norm (toks : List Tok) : ∀ x : Node, (spP toks x).1 = false → spP toks x = (false, 0, 0)
  | .mk k n p z l => by
    rw [spP]; split
    · exact sp_normM toks l
    · exact leaf_norm toks _
theorem sp_normM (toks : List Tok) : ∀ l : List Node, (spM toks l).1 = false → spM toks l = (false, 0, 0)
  | [], _ => rfl
  | x :: l, h => by
    rw [spM] at h ⊢
    have h1 := sp_norm toks x
    have h2 := sp_normM toks l
    unfold spMerge at h ⊢
    cases e2 : (spM toks l).1 with
    | true => rw [e2] at h; simp only [if_true] at h; split at h <;> simp_all
    | false => rw [e2] at h; simp only [Bool.false_eq_true, if_false] at h ⊢; exact h1 h
end
theorem sp_start (toks : List Tok) (x : Node) : spMerge (false, 0, 0) (spP toks x) = spP toks x := by
  unfold spMerge
  cases e : (spP toks x).1 with
  | true => simp
  | false => rw [sp_norm toks x e]; simp
theorem sp_in (toks : List Tok) : ∀ {l : List Node} {y : Node}, y ∈ l → (spP toks y).1 = true → (spM toks l).1 = true ∧ (spM toks l).2.1 ≤ (spP toks y).2.1 ∧ (spP toks y).2.2 ≤ (spM toks l).2.2
  | x :: l, y, hy, h => by
    rw [spM]
    rcases List.mem_cons.1 hy with rfl | hy
    · unfold spMerge
      cases e : (spM toks l).1 with
      | false => simp [h]
      | true => simp only [h, if_true]; refine ⟨trivial, ?_, ?_⟩ <;> split <;> omega
    · obtain ⟨h1, h2, h3⟩ := sp_in toks hy h
      unfold spMerge
      rw [if_pos h1]
      cases e : (spP toks x).1 with
      | false => simp [h1, h2, h3]
      | true => simp only [if_true]; refine ⟨trivial, ?_, ?_⟩ <;> split <;> omega
theorem sp_any (toks : List Tok) : ∀ l : List Node, (spM toks l).1 = l.any fun y => (spP toks y).1
  | [] => rfl
  | x :: l => by
    rw [spM, List.any_cons, ← sp_any toks l]; unfold spMerge
    cases e : (spM toks l).1 <;> cases e' : (spP toks x).1 <;> simp [e, e']
mutual
theorem sp_none : ∀ x : Node, spP [] x = (false, 0, 0)
  | .mk k n p z l => by
    rw [spP]; split
    · exact sp_noneM l
    · unfold leafSpan; simp
theorem sp_noneM : ∀ l : List Node, spM [] l = (false, 0, 0)
  | [] => rfl
  | x :: l => by rw [spM, sp_none x, sp_noneM l]; rfl
end
theorem spP_rule {toks : List Tok} {x : Node} (h : x.kind = 0) : spP toks x = spM toks x.l := by cases x; rw [spP]; exact if_pos h

def spA (v : SpV) : A := .tup [.agg [.d (.int .i64 v.2.1), .d (.int .i64 v.2.2)], .d (.bool v.1)]

set_option maxHeartbeats 1000000 in
theorem span_call (h23 : fz 23 = .cut) (h18 : fz 18 = .keep) (h54 : fz 54 = .keep) (h52 : fz 52 = .keep) (h55 : fz 55 = .keep) (h56 : fz 56 = .ice) (h96 : fz 96 = .keep) (x : Node) (z : Bool) (toks : List Tok) (σ : St) (hx : Small x) :
    CallsTo (XX fz) (.func 23 []) [x.a, tokD z toks] σ (spA (spP toks x)) σ [] := by
  refine CallsTo.cut0 h23 fn23 (by simp) (by simp [spA, A.under, A.underL]) ?_
  simp only [Try.f23, Option.getD_some]
  have hcz : (tokD z toks).cells = some [tokD z toks] := rfl
  simp only [go_sem, ↓reduceIte, Option.some.injEq, Bool.true_eq_false, Bool.false_eq_true, Int.reduceBEq, Int.reduceBNe, Int.reduceLT, Int.reduceLE, Nat.add_assoc, Nat.reduceAdd, Nat.reducePow, Nat.zero_le, Nat.reduceEqDiff, Nat.reduceLT, Nat.reduceLeDiff, Nat.reduceMul, Nat.reduceSub, Nat.add_left_cancel_iff, Nat.lt_irrefl, Nat.le_refl, Nat.add_eq_left, Nat.left_eq_add, beq_self_eq_true, Node.a, hcz]
  refine ⟨_, _, _, leaves_call h18 x _, ?_⟩
  simp only [go_sem, ↓reduceIte, Option.some.injEq, Bool.true_eq_false, Bool.false_eq_true, Int.reduceBEq, Int.reduceBNe, Int.reduceLT, Int.reduceLE, Nat.add_assoc, Nat.reduceAdd, Nat.reducePow, Nat.zero_le, Nat.reduceEqDiff, Nat.reduceLT, Nat.reduceLeDiff, Nat.reduceMul, Nat.reduceSub, Nat.add_left_cancel_iff, Nat.lt_irrefl, Nat.le_refl, Nat.add_eq_left, Nat.left_eq_add, beq_self_eq_true, Node.a]
  generalize hσ : (((((((σ.push (.cells x.c)).push (.cells [tokD z toks])).push (.cells [.d (.int .i64 0), .d (.int .i64 0)])).push (.cells [.d (.int .i64 0), .d (.int .i64 0)])).push (.cells [.d (.bool false)])).set (σ.n + 4) (.cells [.d (.bool false)])).push (.cells x.c)) = σ0
  have e0 : σ0.n = σ.n + 6 := by rw [← hσ]; simp [St.n_push, St.n_set]
  have b1 : σ0.get (σ.n + 1) = .cells [tokD z toks] := by rw [← hσ]; simp only [go_sem, ↓reduceIte, Option.some.injEq, Bool.true_eq_false, Bool.false_eq_true, Int.reduceBEq, Int.reduceBNe, Int.reduceLT, Int.reduceLE, Nat.add_assoc, Nat.reduceAdd, Nat.reducePow, Nat.zero_le, Nat.reduceEqDiff, Nat.reduceLT, Nat.reduceLeDiff, Nat.reduceMul, Nat.reduceSub, Nat.add_left_cancel_iff, Nat.lt_irrefl, Nat.le_refl, Nat.add_eq_left, Nat.left_eq_add, beq_self_eq_true]
  have b2 : σ0.get (σ.n + 2) = .cells [.d (.int .i64 0), .d (.int .i64 0)] := by rw [← hσ]; simp only [go_sem, ↓reduceIte, Option.some.injEq, Bool.true_eq_false, Bool.false_eq_true, Int.reduceBEq, Int.reduceBNe, Int.reduceLT, Int.reduceLE, Nat.add_assoc, Nat.reduceAdd, Nat.reducePow, Nat.zero_le, Nat.reduceEqDiff, Nat.reduceLT, Nat.reduceLeDiff, Nat.reduceMul, Nat.reduceSub, Nat.add_left_cancel_iff, Nat.lt_irrefl, Nat.le_refl, Nat.add_eq_left, Nat.left_eq_add, beq_self_eq_true]
  have b3 : σ0.get (σ.n + 3) = .cells [.d (.int .i64 0), .d (.int .i64 0)] := by rw [← hσ]; simp only [go_sem, ↓reduceIte, Option.some.injEq, Bool.true_eq_false, Bool.false_eq_true, Int.reduceBEq, Int.reduceBNe, Int.reduceLT, Int.reduceLE, Nat.add_assoc, Nat.reduceAdd, Nat.reducePow, Nat.zero_le, Nat.reduceEqDiff, Nat.reduceLT, Nat.reduceLeDiff, Nat.reduceMul, Nat.reduceSub, Nat.add_left_cancel_iff, Nat.lt_irrefl, Nat.le_refl, Nat.add_eq_left, Nat.left_eq_add, beq_self_eq_true]
  have b4 : σ0.get (σ.n + 4) = .cells [.d (.bool false)] := by rw [← hσ]; simp only [go_sem, ↓reduceIte, Option.some.injEq, Bool.true_eq_false, Bool.false_eq_true, Int.reduceBEq, Int.reduceBNe, Int.reduceLT, Int.reduceLE, Nat.add_assoc, Nat.reduceAdd, Nat.reducePow, Nat.zero_le, Nat.reduceEqDiff, Nat.reduceLT, Nat.reduceLeDiff, Nat.reduceMul, Nat.reduceSub, Nat.add_left_cancel_iff, Nat.lt_irrefl, Nat.le_refl, Nat.add_eq_left, Nat.left_eq_add, beq_self_eq_true]
  have b5 : σ0.get (σ.n + 5) = .cells x.c := by rw [← hσ]; simp only [go_sem, ↓reduceIte, Option.some.injEq, Bool.true_eq_false, Bool.false_eq_true, Int.reduceBEq, Int.reduceBNe, Int.reduceLT, Int.reduceLE, Nat.add_assoc, Nat.reduceAdd, Nat.reducePow, Nat.zero_le, Nat.reduceEqDiff, Nat.reduceLT, Nat.reduceLeDiff, Nat.reduceMul, Nat.reduceSub, Nat.add_left_cancel_iff, Nat.lt_irrefl, Nat.le_refl, Nat.add_eq_left, Nat.left_eq_add, beq_self_eq_true]
  clear hσ
  generalize htm : FT.set _ 12 (A.func 54 [A.ptr (σ.n + 5) 0]) = tm
  have t3 : Tm.at tm 3 = .ptr (σ.n + 1) 0 := by rw [← htm]; simp only [go_sem, ↓reduceIte, Option.some.injEq, Bool.true_eq_false, Bool.false_eq_true, Int.reduceBEq, Int.reduceBNe, Int.reduceLT, Int.reduceLE, Nat.add_assoc, Nat.reduceAdd, Nat.reducePow, Nat.zero_le, Nat.reduceEqDiff, Nat.reduceLT, Nat.reduceLeDiff, Nat.reduceMul, Nat.reduceSub, Nat.add_left_cancel_iff, Nat.lt_irrefl, Nat.le_refl, Nat.add_eq_left, Nat.left_eq_add, beq_self_eq_true]
  have t4 : Tm.at tm 4 = .ptr (σ.n + 2) 0 := by rw [← htm]; simp only [go_sem, ↓reduceIte, Option.some.injEq, Bool.true_eq_false, Bool.false_eq_true, Int.reduceBEq, Int.reduceBNe, Int.reduceLT, Int.reduceLE, Nat.add_assoc, Nat.reduceAdd, Nat.reducePow, Nat.zero_le, Nat.reduceEqDiff, Nat.reduceLT, Nat.reduceLeDiff, Nat.reduceMul, Nat.reduceSub, Nat.add_left_cancel_iff, Nat.lt_irrefl, Nat.le_refl, Nat.add_eq_left, Nat.left_eq_add, beq_self_eq_true]
  have t6 : Tm.at tm 6 = .ptr (σ.n + 3) 0 := by rw [← htm]; simp only [go_sem, ↓reduceIte, Option.some.injEq, Bool.true_eq_false, Bool.false_eq_true, Int.reduceBEq, Int.reduceBNe, Int.reduceLT, Int.reduceLE, Nat.add_assoc, Nat.reduceAdd, Nat.reducePow, Nat.zero_le, Nat.reduceEqDiff, Nat.reduceLT, Nat.reduceLeDiff, Nat.reduceMul, Nat.reduceSub, Nat.add_left_cancel_iff, Nat.lt_irrefl, Nat.le_refl, Nat.add_eq_left, Nat.left_eq_add, beq_self_eq_true]
  have t7 : Tm.at tm 7 = .ptr (σ.n + 4) 0 := by rw [← htm]; simp only [go_sem, ↓reduceIte, Option.some.injEq, Bool.true_eq_false, Bool.false_eq_true, Int.reduceBEq, Int.reduceBNe, Int.reduceLT, Int.reduceLE, Nat.add_assoc, Nat.reduceAdd, Nat.reducePow, Nat.zero_le, Nat.reduceEqDiff, Nat.reduceLT, Nat.reduceLeDiff, Nat.reduceMul, Nat.reduceSub, Nat.add_left_cancel_iff, Nat.lt_irrefl, Nat.le_refl, Nat.add_eq_left, Nat.left_eq_add, beq_self_eq_true]
  have t12 : Tm.at tm 12 = .func 54 [.ptr (σ.n + 5) 0] := by rw [← htm]; simp only [go_sem, ↓reduceIte, Option.some.injEq, Bool.true_eq_false, Bool.false_eq_true, Int.reduceBEq, Int.reduceBNe, Int.reduceLT, Int.reduceLE, Nat.add_assoc, Nat.reduceAdd, Nat.reducePow, Nat.zero_le, Nat.reduceEqDiff, Nat.reduceLT, Nat.reduceLeDiff, Nat.reduceMul, Nat.reduceSub, Nat.add_left_cancel_iff, Nat.lt_irrefl, Nat.le_refl, Nat.add_eq_left, Nat.left_eq_add, beq_self_eq_true]
  obtain ⟨σ1, T, own1, hc, hK, rfl, g1, -, g3, g4, -, -, -, -⟩ := leaves_run h54 h52 h55 h56 h96 (sp_rounds (fz := fz) (kl := σ0.n) (k3 := σ.n + 1) (k6 := σ.n + 3) (k7 := σ.n + 4) (z := z) (toks := toks) t3 t6 t7 (by omega) (by omega) (by omega) (by omega) (by omega) (by omega)) 0 x (false, 0, 0) (σ0.push (.loop (spL tm))) [σ0.n, σ.n + 1, σ.n + 3, σ.n + 4] hx
    ⟨rfl, St.get_push_eq, by rw [St.get_push_ne (by omega)]; exact b1, by rw [St.get_push_ne (by omega)]; exact b3, by rw [St.get_push_ne (by omega)]; exact b4, by simp [St.n_push], by simp [St.n_push]; omega, by simp [St.n_push]; omega, by simp [St.n_push]; omega⟩
    (kx := σ.n + 5) (by rw [St.get_push_ne (by omega)]; exact b5) (by simp [St.n_push]; omega)
  rw [spWalk_P] at g3 g4
  simp only [sp_start] at g3 g4
  refine Ev.range (r := .tup []) (σ2 := σ1) (T := T) (L := spL tm) rfl ?_ g1 (by intro h; cases h) ?_
  · rw [show ev tm (.tmp 12) = Tm.at tm 12 from rfl, t12]; exact hc
  have hT : low σ.n T = [] := low_all fun k hk => by
    rcases hK.w k hk with h | h
    · simp at h; omega
    · simp [St.n_push] at h; omega
  have g2 : σ1.get (σ.n + 2) = .cells [.d (.int .i64 0), .d (.int .i64 0)] := by
    rw [hK.same _ (by simp [St.n_push]; omega) (by simp; omega), St.get_push_ne (by omega)]; exact b2
  rw [hT, show ((spL tm).pending.map Item.code).toList = [] from rfl]
  have m1 : σ.n + 2 ≠ σ0.n := by omega
  have m2 : σ.n + 3 ≠ σ0.n := by omega
  have m3 : σ.n + 4 ≠ σ0.n := by omega
  simp only [go_sem, ↓reduceIte, Option.some.injEq, Bool.true_eq_false, Bool.false_eq_true, Int.reduceBEq, Int.reduceBNe, Int.reduceLT, Int.reduceLE, Nat.add_assoc, Nat.reduceAdd, Nat.reducePow, Nat.zero_le, Nat.reduceEqDiff, Nat.reduceLT, Nat.reduceLeDiff, Nat.reduceMul, Nat.reduceSub, Nat.add_left_cancel_iff, Nat.lt_irrefl, Nat.le_refl, Nat.add_eq_left, Nat.left_eq_add, beq_self_eq_true, t4, t6, t7, g2, g3, g4, m1, m2, m3]
  exact ⟨drawOk_rel [2] [(2, 1)] rfl (by kernel_rfl) rfl (by simp [meets]), rfl⟩

theorem sp_cmp : (XX fz).cmp 40 = true := by kernel_rfl
theorem eq40 {σ : St} {a b c d : Int} : eqT (XX fz) σ 8 40 (.agg [.d (.int .i64 a), .d (.int .i64 b)]) (.agg [.d (.int .i64 c), .d (.int .i64 d)]) = some (a == c && b == d) := by
  have e3 : ∀ (n : Nat) (x y : Int), eqT (XX fz) σ (n + 1) 3 (.d (.int .i64 x)) (.d (.int .i64 y)) = some (x == y) := fun n x y => by
    rw [eqT, ti3]; simp [eq1]
  rw [eqT, ti40]
  simp only [sp_cmp, if_true, eqFs, partT, ti3, TI.agg, agg_int, partOf_f, List.getElem?_cons_zero, List.getElem?_cons_succ, e3]
  cases (a == c) <;> cases (b == d) <;> rfl
end Go.Am
namespace Go.Am
open Go Go.Proofs

theorem works1 (m : Nat → Blk) : CallsTo (XX mdC) (.func 15 []) [] ⟨1, m⟩ (.d (.bool true)) ⟨1, m⟩ [] := ⟨3000, by kernel_rfl⟩

/-- a law's run from nothing -/
theorem law_call {fz : Nat → Md} {f : Nat} {args : List A} {F : AFn} (hz : fz f = .cut) (hF : (XX fz).fn f = some F) (hl : args.length + 0 ≤ F.nt)
    (h : Ev (XX fz) f F.nt none 0 [.code F.body] (initTm args 0 .nil) St.empty [] (RetQ (XX fz) F.results fun a _ _ => a = .d (.bool true))) :
    ∃ σ' T, CallsTo (XX fz) (.func f []) args St.empty (.d (.bool true)) σ' T := by
  obtain ⟨n, o, hn, hq⟩ := h
  cases o with
  | leave _ _ _ => exact hq.elim
  | ret tm σ1 W1 =>
    unfold RetQ at hq
    dsimp only at hq
    split at hq
    · rename_i l hl'
      cases hlv : leaveCall .cut St.empty (tupOf l) σ1 W1 with
      | none => unfold leaveCall at hlv; dsimp only at hlv; split at hlv <;> cases hlv
      | some q =>
        obtain ⟨a, σ', T⟩ := q
        have ha : a = .d (.bool true) := by
          unfold leaveCall at hlv; dsimp only at hlv; split at hlv <;> (cases hlv; exact hq)
        subst ha
        refine ⟨σ', T, CallsTo.of hF (by simpa using hl) ⟨n, _, by rw [List.append_nil]; exact hn, tm, σ1, W1, l, rfl, hl', ?_⟩⟩
        rw [XX_fz, hz]; exact hlv
    · exact hq.elim

set_option maxHeartbeats 2000000 in
theorem within_call (x : Node) (hx : Small x) (z : Bool) (toks : List Tok) : ∃ σ' T, CallsTo (XX mdC) (.func 4 []) [x.a, tokD z toks] St.empty (.d (.bool true)) σ' T := by
  refine law_call rfl fn4 (by simp) ?_
  simp only [Try.f4, Option.getD_some]
  have z0 : (St.empty).n = 0 := rfl
  have hsc : ∀ toks' z' σ, CallsTo (XX mdC) (.func 23 []) [x.a, tokD z' toks'] σ (spA (spP toks' x)) σ [] := fun toks' z' σ => span_call rfl rfl rfl rfl rfl rfl rfl x z' toks' σ hx
  simp only [go_sem, ↓reduceIte, Option.some.injEq, Bool.true_eq_false, Bool.false_eq_true, Int.reduceBEq, Int.reduceBNe, Int.reduceLT, Int.reduceLE, Nat.add_assoc, Nat.reduceAdd, Nat.reducePow, Nat.zero_le, Nat.reduceEqDiff, Nat.reduceLT, Nat.reduceLeDiff, Nat.reduceMul, Nat.reduceSub, Nat.add_left_cancel_iff, Nat.lt_irrefl, Nat.le_refl, Nat.add_eq_left, Nat.left_eq_add, beq_self_eq_true, Node.a, z0]
  have hw : CallsTo (XX mdC) (.func 15 []) [] (St.empty.push (.cells x.c)) (.d (.bool true)) (St.empty.push (.cells x.c)) [] := works1 _
  generalize hσ : St.empty.push (.cells x.c) = σ at hw
  have e2 : σ.n = 1 := by rw [← hσ]; rfl
  have b0 : σ.get 0 = .cells x.c := by rw [← hσ]; rfl
  clear hσ
  refine ⟨_, _, _, hw, ?_⟩
  simp only [go_sem, ↓reduceIte, Option.some.injEq, Bool.true_eq_false, Bool.false_eq_true, Int.reduceBEq, Int.reduceBNe, Int.reduceLT, Int.reduceLE, Nat.add_assoc, Nat.reduceAdd, Nat.reducePow, Nat.zero_le, Nat.reduceEqDiff, Nat.reduceLT, Nat.reduceLeDiff, Nat.reduceMul, Nat.reduceSub, Nat.add_left_cancel_iff, Nat.lt_irrefl, Nat.le_refl, Nat.add_eq_left, Nat.left_eq_add, beq_self_eq_true, e2, b0, low_zero]
  refine ⟨_, _, _, deep_call (fz := mdC) rfl x 1000 σ hx (by omega), ?_⟩
  cases hd : deepP x 1000 with
  | true => simp only [go_sem, ↓reduceIte, Option.some.injEq, Bool.true_eq_false, Bool.false_eq_true, Int.reduceBEq, Int.reduceBNe, Int.reduceLT, Int.reduceLE, Nat.add_assoc, Nat.reduceAdd, Nat.reducePow, Nat.zero_le, Nat.reduceEqDiff, Nat.reduceLT, Nat.reduceLeDiff, Nat.reduceMul, Nat.reduceSub, Nat.add_left_cancel_iff, Nat.lt_irrefl, Nat.le_refl, Nat.add_eq_left, Nat.left_eq_add, beq_self_eq_true]
  | false =>
    simp only [go_sem, ↓reduceIte, Option.some.injEq, Bool.true_eq_false, Bool.false_eq_true, Int.reduceBEq, Int.reduceBNe, Int.reduceLT, Int.reduceLE, Nat.add_assoc, Nat.reduceAdd, Nat.reducePow, Nat.zero_le, Nat.reduceEqDiff, Nat.reduceLT, Nat.reduceLeDiff, Nat.reduceMul, Nat.reduceSub, Nat.add_left_cancel_iff, Nat.lt_irrefl, Nat.le_refl, Nat.add_eq_left, Nat.left_eq_add, beq_self_eq_true, e2, b0, low_zero]
    refine ⟨_, _, _, hsc toks z σ, ?_⟩
    simp only [go_sem, ↓reduceIte, Option.some.injEq, Bool.true_eq_false, Bool.false_eq_true, Int.reduceBEq, Int.reduceBNe, Int.reduceLT, Int.reduceLE, Nat.add_assoc, Nat.reduceAdd, Nat.reducePow, Nat.zero_le, Nat.reduceEqDiff, Nat.reduceLT, Nat.reduceLeDiff, Nat.reduceMul, Nat.reduceSub, Nat.add_left_cancel_iff, Nat.lt_irrefl, Nat.le_refl, Nat.add_eq_left, Nat.left_eq_add, beq_self_eq_true, e2, b0, low_zero, spA]
    refine ⟨_, _, _, hsc [] true _, ?_⟩
    rw [sp_none]
    simp only [go_sem, ↓reduceIte, Option.some.injEq, Bool.true_eq_false, Bool.false_eq_true, Int.reduceBEq, Int.reduceBNe, Int.reduceLT, Int.reduceLE, Nat.add_assoc, Nat.reduceAdd, Nat.reducePow, Nat.zero_le, Nat.reduceEqDiff, Nat.reduceLT, Nat.reduceLeDiff, Nat.reduceMul, Nat.reduceSub, Nat.add_left_cancel_iff, Nat.lt_irrefl, Nat.le_refl, Nat.add_eq_left, Nat.left_eq_add, beq_self_eq_true, e2, b0, low_zero, spA]
    cases ci : (spP toks x).1 with
    | true =>
      have hval : True := trivial
      have hz2 : True := trivial
      simp only [go_sem, ↓reduceIte, Option.some.injEq, Bool.true_eq_false, Bool.false_eq_true, Int.reduceBEq, Int.reduceBNe, Int.reduceLT, Int.reduceLE, Nat.add_assoc, Nat.reduceAdd, Nat.reducePow, Nat.zero_le, Nat.reduceEqDiff, Nat.reduceLT, Nat.reduceLeDiff, Nat.reduceMul, Nat.reduceSub, Nat.add_left_cancel_iff, Nat.lt_irrefl, Nat.le_refl, Nat.add_eq_left, Nat.left_eq_add, beq_self_eq_true, e2, b0, low_zero, ci, eq40]
      refine ⟨_, _, _, size_call (fz := mdC) rfl rfl rfl x _ hx, ?_⟩
      by_cases h300 : (x.size : Int) > 300
      · have d2 : decide ((x.size : Int) > 300) = true := by simpa using h300
        simp only [go_sem, ↓reduceIte, Option.some.injEq, Bool.true_eq_false, Bool.false_eq_true, Int.reduceBEq, Int.reduceBNe, Int.reduceLT, Int.reduceLE, Nat.add_assoc, Nat.reduceAdd, Nat.reducePow, Nat.zero_le, Nat.reduceEqDiff, Nat.reduceLT, Nat.reduceLeDiff, Nat.reduceMul, Nat.reduceSub, Nat.add_left_cancel_iff, Nat.lt_irrefl, Nat.le_refl, Nat.add_eq_left, Nat.left_eq_add, beq_self_eq_true, e2, b0, low_zero, d2]
      · have d2 : decide ((x.size : Int) > 300) = false := by simpa using h300
        cases hk : (x.kind != 0) with
        | true => simp only [go_sem, ↓reduceIte, Option.some.injEq, Bool.true_eq_false, Bool.false_eq_true, Int.reduceBEq, Int.reduceBNe, Int.reduceLT, Int.reduceLE, Nat.add_assoc, Nat.reduceAdd, Nat.reducePow, Nat.zero_le, Nat.reduceEqDiff, Nat.reduceLT, Nat.reduceLeDiff, Nat.reduceMul, Nat.reduceSub, Nat.add_left_cancel_iff, Nat.lt_irrefl, Nat.le_refl, Nat.add_eq_left, Nat.left_eq_add, beq_self_eq_true, e2, b0, low_zero, d2, hk]
        | false =>
          have hk0 : x.kind = 0 := by simpa using hk
          rw [spP_rule hk0] at ci
          have hlen := x.len_lt
          unfold Small at hx
          simp only [go_sem, ↓reduceIte, Option.some.injEq, Bool.true_eq_false, Bool.false_eq_true, Int.reduceBEq, Int.reduceBNe, Int.reduceLT, Int.reduceLE, Nat.add_assoc, Nat.reduceAdd, Nat.reducePow, Nat.zero_le, Nat.reduceEqDiff, Nat.reduceLT, Nat.reduceLeDiff, Nat.reduceMul, Nat.reduceSub, Nat.add_left_cancel_iff, Nat.lt_irrefl, Nat.le_refl, Nat.add_eq_left, Nat.left_eq_add, beq_self_eq_true, e2, b0, low_zero, d2, hk]
          refine Ev.loop_ind (fun m tm σ' _ => ∃ (i : Nat), m = x.l.length - i ∧ i ≤ x.l.length ∧ 3 ≤ σ'.n ∧ σ'.get 0 = .cells x.c ∧ σ'.get 1 = .cells [.d (.int .i64 (spM toks x.l).2.1), .d (.int .i64 (spM toks x.l).2.2)] ∧
            Tm.at tm 1 = tokD z toks ∧ Tm.at tm 2 = .ptr 0 0 ∧ Tm.at tm 5 = .ptr 1 0 ∧ Tm.at tm 6 = .d (.bool (spM toks x.l).1) ∧ Tm.at tm 9 = .d (.bool ((x.l.take i).any fun y => (spP toks y).1)) ∧ Tm.at tm 10 = .d (.int .i64 i)) ?_ x.l.length _ _ _
            ⟨0, rfl, by omega, ?_, ?_, ?_, ?_, ?_, ?_, ?_, ?_, ?_⟩
          · rintro m tm σ' W ⟨i, rfl, hi, hn, w0, w1, u1, u2, u5, u6, u9, u10⟩ ih
            by_cases hl : i < x.l.length
            · have hget : x.l[i]? = some x.l[i] := by simp [hl]
              have hmem : x.l[i] ∈ x.l := List.getElem_mem hl
              simp only [go_sem, ↓reduceIte, Option.some.injEq, Bool.true_eq_false, Bool.false_eq_true, Int.reduceBEq, Int.reduceBNe, Int.reduceLT, Int.reduceLE, Nat.add_assoc, Nat.reduceAdd, Nat.reducePow, Nat.zero_le, Nat.reduceEqDiff, Nat.reduceLT, Nat.reduceLeDiff, Nat.reduceMul, Nat.reduceSub, Nat.add_left_cancel_iff, Nat.lt_irrefl, Nat.le_refl, Nat.add_eq_left, Nat.left_eq_add, beq_self_eq_true, u1, u2, u5, u6, u9, u10, w0, dec_lt hl, Node.index_ld hget]
              refine ⟨_, _, _, span_call (fz := mdC) rfl rfl rfl rfl rfl rfl rfl x.l[i] z toks σ' (Small.sub (x := x) hx hmem), ?_⟩
              have m0 : (0 : Nat) ≠ σ'.n := by omega
              have m1 : (1 : Nat) ≠ σ'.n := by omega
              have htake : ((x.l.take (i + 1)).any fun y => (spP toks y).1) = (((x.l.take i).any fun y => (spP toks y).1) || (spP toks x.l[i]).1) := by
                rw [List.take_succ_eq_append_getElem hl, List.any_append]; simp
              cases cs : (spP toks x.l[i]).1 with
              | false =>
                rw [cs, Bool.or_false] at htake
                cases ca : ((x.l.take i).any fun y => (spP toks y).1) with
                | true =>
                  rw [ca] at htake
                  simp only [go_sem, ↓reduceIte, Option.some.injEq, Bool.true_eq_false, Bool.false_eq_true, Int.reduceBEq, Int.reduceBNe, Int.reduceLT, Int.reduceLE, Nat.add_assoc, Nat.reduceAdd, Nat.reducePow, Nat.zero_le, Nat.reduceEqDiff, Nat.reduceLT, Nat.reduceLeDiff, Nat.reduceMul, Nat.reduceSub, Nat.add_left_cancel_iff, Nat.lt_irrefl, Nat.le_refl, Nat.add_eq_left, Nat.left_eq_add, beq_self_eq_true, spA, u1, u2, u5, u6, u9, u10, w0, w1, cs, ca, ci, m0, m1, wrap_succ hl (by omega)]
                  exact ih _ _ _ _ (by omega) ⟨i + 1, rfl, hl, by simp only [St.n_set, St.n_push]; omega, by simp only [go_sem, ↓reduceIte, Option.some.injEq, Bool.true_eq_false, Bool.false_eq_true, Int.reduceBEq, Int.reduceBNe, Int.reduceLT, Int.reduceLE, Nat.add_assoc, Nat.reduceAdd, Nat.reducePow, Nat.zero_le, Nat.reduceEqDiff, Nat.reduceLT, Nat.reduceLeDiff, Nat.reduceMul, Nat.reduceSub, Nat.add_left_cancel_iff, Nat.lt_irrefl, Nat.le_refl, Nat.add_eq_left, Nat.left_eq_add, beq_self_eq_true, m0, w0], by simp only [go_sem, ↓reduceIte, Option.some.injEq, Bool.true_eq_false, Bool.false_eq_true, Int.reduceBEq, Int.reduceBNe, Int.reduceLT, Int.reduceLE, Nat.add_assoc, Nat.reduceAdd, Nat.reducePow, Nat.zero_le, Nat.reduceEqDiff, Nat.reduceLT, Nat.reduceLeDiff, Nat.reduceMul, Nat.reduceSub, Nat.add_left_cancel_iff, Nat.lt_irrefl, Nat.le_refl, Nat.add_eq_left, Nat.left_eq_add, beq_self_eq_true, m1, w1], by simp only [go_sem, ↓reduceIte, Option.some.injEq, Bool.true_eq_false, Bool.false_eq_true, Int.reduceBEq, Int.reduceBNe, Int.reduceLT, Int.reduceLE, Nat.add_assoc, Nat.reduceAdd, Nat.reducePow, Nat.zero_le, Nat.reduceEqDiff, Nat.reduceLT, Nat.reduceLeDiff, Nat.reduceMul, Nat.reduceSub, Nat.add_left_cancel_iff, Nat.lt_irrefl, Nat.le_refl, Nat.add_eq_left, Nat.left_eq_add, beq_self_eq_true, u1], by simp only [go_sem, ↓reduceIte, Option.some.injEq, Bool.true_eq_false, Bool.false_eq_true, Int.reduceBEq, Int.reduceBNe, Int.reduceLT, Int.reduceLE, Nat.add_assoc, Nat.reduceAdd, Nat.reducePow, Nat.zero_le, Nat.reduceEqDiff, Nat.reduceLT, Nat.reduceLeDiff, Nat.reduceMul, Nat.reduceSub, Nat.add_left_cancel_iff, Nat.lt_irrefl, Nat.le_refl, Nat.add_eq_left, Nat.left_eq_add, beq_self_eq_true, u2], by simp only [go_sem, ↓reduceIte, Option.some.injEq, Bool.true_eq_false, Bool.false_eq_true, Int.reduceBEq, Int.reduceBNe, Int.reduceLT, Int.reduceLE, Nat.add_assoc, Nat.reduceAdd, Nat.reducePow, Nat.zero_le, Nat.reduceEqDiff, Nat.reduceLT, Nat.reduceLeDiff, Nat.reduceMul, Nat.reduceSub, Nat.add_left_cancel_iff, Nat.lt_irrefl, Nat.le_refl, Nat.add_eq_left, Nat.left_eq_add, beq_self_eq_true, u5], by simp only [go_sem, ↓reduceIte, Option.some.injEq, Bool.true_eq_false, Bool.false_eq_true, Int.reduceBEq, Int.reduceBNe, Int.reduceLT, Int.reduceLE, Nat.add_assoc, Nat.reduceAdd, Nat.reducePow, Nat.zero_le, Nat.reduceEqDiff, Nat.reduceLT, Nat.reduceLeDiff, Nat.reduceMul, Nat.reduceSub, Nat.add_left_cancel_iff, Nat.lt_irrefl, Nat.le_refl, Nat.add_eq_left, Nat.left_eq_add, beq_self_eq_true, u6, ci], by simp only [go_sem, ↓reduceIte, Option.some.injEq, Bool.true_eq_false, Bool.false_eq_true, Int.reduceBEq, Int.reduceBNe, Int.reduceLT, Int.reduceLE, Nat.add_assoc, Nat.reduceAdd, Nat.reducePow, Nat.zero_le, Nat.reduceEqDiff, Nat.reduceLT, Nat.reduceLeDiff, Nat.reduceMul, Nat.reduceSub, Nat.add_left_cancel_iff, Nat.lt_irrefl, Nat.le_refl, Nat.add_eq_left, Nat.left_eq_add, beq_self_eq_true, htake, u9, ca], by simp only [go_sem, ↓reduceIte, Option.some.injEq, Bool.true_eq_false, Bool.false_eq_true, Int.reduceBEq, Int.reduceBNe, Int.reduceLT, Int.reduceLE, Nat.add_assoc, Nat.reduceAdd, Nat.reducePow, Nat.zero_le, Nat.reduceEqDiff, Nat.reduceLT, Nat.reduceLeDiff, Nat.reduceMul, Nat.reduceSub, Nat.add_left_cancel_iff, Nat.lt_irrefl, Nat.le_refl, Nat.add_eq_left, Nat.left_eq_add, beq_self_eq_true]⟩
                | false =>
                  rw [ca] at htake
                  simp only [go_sem, ↓reduceIte, Option.some.injEq, Bool.true_eq_false, Bool.false_eq_true, Int.reduceBEq, Int.reduceBNe, Int.reduceLT, Int.reduceLE, Nat.add_assoc, Nat.reduceAdd, Nat.reducePow, Nat.zero_le, Nat.reduceEqDiff, Nat.reduceLT, Nat.reduceLeDiff, Nat.reduceMul, Nat.reduceSub, Nat.add_left_cancel_iff, Nat.lt_irrefl, Nat.le_refl, Nat.add_eq_left, Nat.left_eq_add, beq_self_eq_true, spA, u1, u2, u5, u6, u9, u10, w0, w1, cs, ca, ci, m0, m1, wrap_succ hl (by omega)]
                  exact ih _ _ _ _ (by omega) ⟨i + 1, rfl, hl, by simp only [St.n_set, St.n_push]; omega, by simp only [go_sem, ↓reduceIte, Option.some.injEq, Bool.true_eq_false, Bool.false_eq_true, Int.reduceBEq, Int.reduceBNe, Int.reduceLT, Int.reduceLE, Nat.add_assoc, Nat.reduceAdd, Nat.reducePow, Nat.zero_le, Nat.reduceEqDiff, Nat.reduceLT, Nat.reduceLeDiff, Nat.reduceMul, Nat.reduceSub, Nat.add_left_cancel_iff, Nat.lt_irrefl, Nat.le_refl, Nat.add_eq_left, Nat.left_eq_add, beq_self_eq_true, m0, w0], by simp only [go_sem, ↓reduceIte, Option.some.injEq, Bool.true_eq_false, Bool.false_eq_true, Int.reduceBEq, Int.reduceBNe, Int.reduceLT, Int.reduceLE, Nat.add_assoc, Nat.reduceAdd, Nat.reducePow, Nat.zero_le, Nat.reduceEqDiff, Nat.reduceLT, Nat.reduceLeDiff, Nat.reduceMul, Nat.reduceSub, Nat.add_left_cancel_iff, Nat.lt_irrefl, Nat.le_refl, Nat.add_eq_left, Nat.left_eq_add, beq_self_eq_true, m1, w1], by simp only [go_sem, ↓reduceIte, Option.some.injEq, Bool.true_eq_false, Bool.false_eq_true, Int.reduceBEq, Int.reduceBNe, Int.reduceLT, Int.reduceLE, Nat.add_assoc, Nat.reduceAdd, Nat.reducePow, Nat.zero_le, Nat.reduceEqDiff, Nat.reduceLT, Nat.reduceLeDiff, Nat.reduceMul, Nat.reduceSub, Nat.add_left_cancel_iff, Nat.lt_irrefl, Nat.le_refl, Nat.add_eq_left, Nat.left_eq_add, beq_self_eq_true, u1], by simp only [go_sem, ↓reduceIte, Option.some.injEq, Bool.true_eq_false, Bool.false_eq_true, Int.reduceBEq, Int.reduceBNe, Int.reduceLT, Int.reduceLE, Nat.add_assoc, Nat.reduceAdd, Nat.reducePow, Nat.zero_le, Nat.reduceEqDiff, Nat.reduceLT, Nat.reduceLeDiff, Nat.reduceMul, Nat.reduceSub, Nat.add_left_cancel_iff, Nat.lt_irrefl, Nat.le_refl, Nat.add_eq_left, Nat.left_eq_add, beq_self_eq_true, u2], by simp only [go_sem, ↓reduceIte, Option.some.injEq, Bool.true_eq_false, Bool.false_eq_true, Int.reduceBEq, Int.reduceBNe, Int.reduceLT, Int.reduceLE, Nat.add_assoc, Nat.reduceAdd, Nat.reducePow, Nat.zero_le, Nat.reduceEqDiff, Nat.reduceLT, Nat.reduceLeDiff, Nat.reduceMul, Nat.reduceSub, Nat.add_left_cancel_iff, Nat.lt_irrefl, Nat.le_refl, Nat.add_eq_left, Nat.left_eq_add, beq_self_eq_true, u5], by simp only [go_sem, ↓reduceIte, Option.some.injEq, Bool.true_eq_false, Bool.false_eq_true, Int.reduceBEq, Int.reduceBNe, Int.reduceLT, Int.reduceLE, Nat.add_assoc, Nat.reduceAdd, Nat.reducePow, Nat.zero_le, Nat.reduceEqDiff, Nat.reduceLT, Nat.reduceLeDiff, Nat.reduceMul, Nat.reduceSub, Nat.add_left_cancel_iff, Nat.lt_irrefl, Nat.le_refl, Nat.add_eq_left, Nat.left_eq_add, beq_self_eq_true, u6, ci], by simp only [go_sem, ↓reduceIte, Option.some.injEq, Bool.true_eq_false, Bool.false_eq_true, Int.reduceBEq, Int.reduceBNe, Int.reduceLT, Int.reduceLE, Nat.add_assoc, Nat.reduceAdd, Nat.reducePow, Nat.zero_le, Nat.reduceEqDiff, Nat.reduceLT, Nat.reduceLeDiff, Nat.reduceMul, Nat.reduceSub, Nat.add_left_cancel_iff, Nat.lt_irrefl, Nat.le_refl, Nat.add_eq_left, Nat.left_eq_add, beq_self_eq_true, htake, u9, ca], by simp only [go_sem, ↓reduceIte, Option.some.injEq, Bool.true_eq_false, Bool.false_eq_true, Int.reduceBEq, Int.reduceBNe, Int.reduceLT, Int.reduceLE, Nat.add_assoc, Nat.reduceAdd, Nat.reducePow, Nat.zero_le, Nat.reduceEqDiff, Nat.reduceLT, Nat.reduceLeDiff, Nat.reduceMul, Nat.reduceSub, Nat.add_left_cancel_iff, Nat.lt_irrefl, Nat.le_refl, Nat.add_eq_left, Nat.left_eq_add, beq_self_eq_true]⟩
              | true =>
                obtain ⟨i1, i2, i3⟩ := sp_in toks hmem cs
                have q1 : decide ((spP toks x.l[i]).2.1 < (spM toks x.l).2.1) = false := by simp; omega
                have q2 : decide ((spP toks x.l[i]).2.2 > (spM toks x.l).2.2) = false := by simp; omega
                rw [cs, Bool.or_true] at htake
                cases ca : ((x.l.take i).any fun y => (spP toks y).1) with
                | true =>
                  simp only [go_sem, ↓reduceIte, Option.some.injEq, Bool.true_eq_false, Bool.false_eq_true, Int.reduceBEq, Int.reduceBNe, Int.reduceLT, Int.reduceLE, Nat.add_assoc, Nat.reduceAdd, Nat.reducePow, Nat.zero_le, Nat.reduceEqDiff, Nat.reduceLT, Nat.reduceLeDiff, Nat.reduceMul, Nat.reduceSub, Nat.add_left_cancel_iff, Nat.lt_irrefl, Nat.le_refl, Nat.add_eq_left, Nat.left_eq_add, beq_self_eq_true, spA, u1, u2, u5, u6, u9, u10, w0, w1, cs, ca, i1, q1, q2, m0, m1, Ne.symm m1, wrap_succ hl (by omega)]
                  exact ih _ _ _ _ (by omega) ⟨i + 1, rfl, hl, by simp only [St.n_set, St.n_push]; omega, by simp only [go_sem, ↓reduceIte, Option.some.injEq, Bool.true_eq_false, Bool.false_eq_true, Int.reduceBEq, Int.reduceBNe, Int.reduceLT, Int.reduceLE, Nat.add_assoc, Nat.reduceAdd, Nat.reducePow, Nat.zero_le, Nat.reduceEqDiff, Nat.reduceLT, Nat.reduceLeDiff, Nat.reduceMul, Nat.reduceSub, Nat.add_left_cancel_iff, Nat.lt_irrefl, Nat.le_refl, Nat.add_eq_left, Nat.left_eq_add, beq_self_eq_true, m0, w0], by simp only [go_sem, ↓reduceIte, Option.some.injEq, Bool.true_eq_false, Bool.false_eq_true, Int.reduceBEq, Int.reduceBNe, Int.reduceLT, Int.reduceLE, Nat.add_assoc, Nat.reduceAdd, Nat.reducePow, Nat.zero_le, Nat.reduceEqDiff, Nat.reduceLT, Nat.reduceLeDiff, Nat.reduceMul, Nat.reduceSub, Nat.add_left_cancel_iff, Nat.lt_irrefl, Nat.le_refl, Nat.add_eq_left, Nat.left_eq_add, beq_self_eq_true, m1, w1], by simp only [go_sem, ↓reduceIte, Option.some.injEq, Bool.true_eq_false, Bool.false_eq_true, Int.reduceBEq, Int.reduceBNe, Int.reduceLT, Int.reduceLE, Nat.add_assoc, Nat.reduceAdd, Nat.reducePow, Nat.zero_le, Nat.reduceEqDiff, Nat.reduceLT, Nat.reduceLeDiff, Nat.reduceMul, Nat.reduceSub, Nat.add_left_cancel_iff, Nat.lt_irrefl, Nat.le_refl, Nat.add_eq_left, Nat.left_eq_add, beq_self_eq_true, u1], by simp only [go_sem, ↓reduceIte, Option.some.injEq, Bool.true_eq_false, Bool.false_eq_true, Int.reduceBEq, Int.reduceBNe, Int.reduceLT, Int.reduceLE, Nat.add_assoc, Nat.reduceAdd, Nat.reducePow, Nat.zero_le, Nat.reduceEqDiff, Nat.reduceLT, Nat.reduceLeDiff, Nat.reduceMul, Nat.reduceSub, Nat.add_left_cancel_iff, Nat.lt_irrefl, Nat.le_refl, Nat.add_eq_left, Nat.left_eq_add, beq_self_eq_true, u2], by simp only [go_sem, ↓reduceIte, Option.some.injEq, Bool.true_eq_false, Bool.false_eq_true, Int.reduceBEq, Int.reduceBNe, Int.reduceLT, Int.reduceLE, Nat.add_assoc, Nat.reduceAdd, Nat.reducePow, Nat.zero_le, Nat.reduceEqDiff, Nat.reduceLT, Nat.reduceLeDiff, Nat.reduceMul, Nat.reduceSub, Nat.add_left_cancel_iff, Nat.lt_irrefl, Nat.le_refl, Nat.add_eq_left, Nat.left_eq_add, beq_self_eq_true, u5], by simp only [go_sem, ↓reduceIte, Option.some.injEq, Bool.true_eq_false, Bool.false_eq_true, Int.reduceBEq, Int.reduceBNe, Int.reduceLT, Int.reduceLE, Nat.add_assoc, Nat.reduceAdd, Nat.reducePow, Nat.zero_le, Nat.reduceEqDiff, Nat.reduceLT, Nat.reduceLeDiff, Nat.reduceMul, Nat.reduceSub, Nat.add_left_cancel_iff, Nat.lt_irrefl, Nat.le_refl, Nat.add_eq_left, Nat.left_eq_add, beq_self_eq_true, u6, i1], by simp only [go_sem, ↓reduceIte, Option.some.injEq, Bool.true_eq_false, Bool.false_eq_true, Int.reduceBEq, Int.reduceBNe, Int.reduceLT, Int.reduceLE, Nat.add_assoc, Nat.reduceAdd, Nat.reducePow, Nat.zero_le, Nat.reduceEqDiff, Nat.reduceLT, Nat.reduceLeDiff, Nat.reduceMul, Nat.reduceSub, Nat.add_left_cancel_iff, Nat.lt_irrefl, Nat.le_refl, Nat.add_eq_left, Nat.left_eq_add, beq_self_eq_true, htake, u9, ca], by simp only [go_sem, ↓reduceIte, Option.some.injEq, Bool.true_eq_false, Bool.false_eq_true, Int.reduceBEq, Int.reduceBNe, Int.reduceLT, Int.reduceLE, Nat.add_assoc, Nat.reduceAdd, Nat.reducePow, Nat.zero_le, Nat.reduceEqDiff, Nat.reduceLT, Nat.reduceLeDiff, Nat.reduceMul, Nat.reduceSub, Nat.add_left_cancel_iff, Nat.lt_irrefl, Nat.le_refl, Nat.add_eq_left, Nat.left_eq_add, beq_self_eq_true]⟩
                | false =>
                  simp only [go_sem, ↓reduceIte, Option.some.injEq, Bool.true_eq_false, Bool.false_eq_true, Int.reduceBEq, Int.reduceBNe, Int.reduceLT, Int.reduceLE, Nat.add_assoc, Nat.reduceAdd, Nat.reducePow, Nat.zero_le, Nat.reduceEqDiff, Nat.reduceLT, Nat.reduceLeDiff, Nat.reduceMul, Nat.reduceSub, Nat.add_left_cancel_iff, Nat.lt_irrefl, Nat.le_refl, Nat.add_eq_left, Nat.left_eq_add, beq_self_eq_true, spA, u1, u2, u5, u6, u9, u10, w0, w1, cs, ca, i1, q1, q2, m0, m1, Ne.symm m1, wrap_succ hl (by omega)]
                  exact ih _ _ _ _ (by omega) ⟨i + 1, rfl, hl, by simp only [St.n_set, St.n_push]; omega, by simp only [go_sem, ↓reduceIte, Option.some.injEq, Bool.true_eq_false, Bool.false_eq_true, Int.reduceBEq, Int.reduceBNe, Int.reduceLT, Int.reduceLE, Nat.add_assoc, Nat.reduceAdd, Nat.reducePow, Nat.zero_le, Nat.reduceEqDiff, Nat.reduceLT, Nat.reduceLeDiff, Nat.reduceMul, Nat.reduceSub, Nat.add_left_cancel_iff, Nat.lt_irrefl, Nat.le_refl, Nat.add_eq_left, Nat.left_eq_add, beq_self_eq_true, m0, w0], by simp only [go_sem, ↓reduceIte, Option.some.injEq, Bool.true_eq_false, Bool.false_eq_true, Int.reduceBEq, Int.reduceBNe, Int.reduceLT, Int.reduceLE, Nat.add_assoc, Nat.reduceAdd, Nat.reducePow, Nat.zero_le, Nat.reduceEqDiff, Nat.reduceLT, Nat.reduceLeDiff, Nat.reduceMul, Nat.reduceSub, Nat.add_left_cancel_iff, Nat.lt_irrefl, Nat.le_refl, Nat.add_eq_left, Nat.left_eq_add, beq_self_eq_true, m1, w1], by simp only [go_sem, ↓reduceIte, Option.some.injEq, Bool.true_eq_false, Bool.false_eq_true, Int.reduceBEq, Int.reduceBNe, Int.reduceLT, Int.reduceLE, Nat.add_assoc, Nat.reduceAdd, Nat.reducePow, Nat.zero_le, Nat.reduceEqDiff, Nat.reduceLT, Nat.reduceLeDiff, Nat.reduceMul, Nat.reduceSub, Nat.add_left_cancel_iff, Nat.lt_irrefl, Nat.le_refl, Nat.add_eq_left, Nat.left_eq_add, beq_self_eq_true, u1], by simp only [go_sem, ↓reduceIte, Option.some.injEq, Bool.true_eq_false, Bool.false_eq_true, Int.reduceBEq, Int.reduceBNe, Int.reduceLT, Int.reduceLE, Nat.add_assoc, Nat.reduceAdd, Nat.reducePow, Nat.zero_le, Nat.reduceEqDiff, Nat.reduceLT, Nat.reduceLeDiff, Nat.reduceMul, Nat.reduceSub, Nat.add_left_cancel_iff, Nat.lt_irrefl, Nat.le_refl, Nat.add_eq_left, Nat.left_eq_add, beq_self_eq_true, u2], by simp only [go_sem, ↓reduceIte, Option.some.injEq, Bool.true_eq_false, Bool.false_eq_true, Int.reduceBEq, Int.reduceBNe, Int.reduceLT, Int.reduceLE, Nat.add_assoc, Nat.reduceAdd, Nat.reducePow, Nat.zero_le, Nat.reduceEqDiff, Nat.reduceLT, Nat.reduceLeDiff, Nat.reduceMul, Nat.reduceSub, Nat.add_left_cancel_iff, Nat.lt_irrefl, Nat.le_refl, Nat.add_eq_left, Nat.left_eq_add, beq_self_eq_true, u5], by simp only [go_sem, ↓reduceIte, Option.some.injEq, Bool.true_eq_false, Bool.false_eq_true, Int.reduceBEq, Int.reduceBNe, Int.reduceLT, Int.reduceLE, Nat.add_assoc, Nat.reduceAdd, Nat.reducePow, Nat.zero_le, Nat.reduceEqDiff, Nat.reduceLT, Nat.reduceLeDiff, Nat.reduceMul, Nat.reduceSub, Nat.add_left_cancel_iff, Nat.lt_irrefl, Nat.le_refl, Nat.add_eq_left, Nat.left_eq_add, beq_self_eq_true, u6, i1], by simp only [go_sem, ↓reduceIte, Option.some.injEq, Bool.true_eq_false, Bool.false_eq_true, Int.reduceBEq, Int.reduceBNe, Int.reduceLT, Int.reduceLE, Nat.add_assoc, Nat.reduceAdd, Nat.reducePow, Nat.zero_le, Nat.reduceEqDiff, Nat.reduceLT, Nat.reduceLeDiff, Nat.reduceMul, Nat.reduceSub, Nat.add_left_cancel_iff, Nat.lt_irrefl, Nat.le_refl, Nat.add_eq_left, Nat.left_eq_add, beq_self_eq_true, htake, u9, ca], by simp only [go_sem, ↓reduceIte, Option.some.injEq, Bool.true_eq_false, Bool.false_eq_true, Int.reduceBEq, Int.reduceBNe, Int.reduceLT, Int.reduceLE, Nat.add_assoc, Nat.reduceAdd, Nat.reducePow, Nat.zero_le, Nat.reduceEqDiff, Nat.reduceLT, Nat.reduceLeDiff, Nat.reduceMul, Nat.reduceSub, Nat.add_left_cancel_iff, Nat.lt_irrefl, Nat.le_refl, Nat.add_eq_left, Nat.left_eq_add, beq_self_eq_true]⟩
            · rw [List.take_of_length_le (by omega), ← sp_any] at u9
              simp only [go_sem, ↓reduceIte, Option.some.injEq, Bool.true_eq_false, Bool.false_eq_true, Int.reduceBEq, Int.reduceBNe, Int.reduceLT, Int.reduceLE, Nat.add_assoc, Nat.reduceAdd, Nat.reducePow, Nat.zero_le, Nat.reduceEqDiff, Nat.reduceLT, Nat.reduceLeDiff, Nat.reduceMul, Nat.reduceSub, Nat.add_left_cancel_iff, Nat.lt_irrefl, Nat.le_refl, Nat.add_eq_left, Nat.left_eq_add, beq_self_eq_true, u1, u2, u5, u6, u9, u10, w0, dec_ge hl]
          all_goals first | (simp only [go_sem, ↓reduceIte, Option.some.injEq, Bool.true_eq_false, Bool.false_eq_true, Int.reduceBEq, Int.reduceBNe, Int.reduceLT, Int.reduceLE, Nat.add_assoc, Nat.reduceAdd, Nat.reducePow, Nat.zero_le, Nat.reduceEqDiff, Nat.reduceLT, Nat.reduceLeDiff, Nat.reduceMul, Nat.reduceSub, Nat.add_left_cancel_iff, Nat.lt_irrefl, Nat.le_refl, Nat.add_eq_left, Nat.left_eq_add, beq_self_eq_true, e2, b0, ci, hz2, spP_rule hk0]; done) | (simp only [go_sem, ↓reduceIte, Option.some.injEq, Bool.true_eq_false, Bool.false_eq_true, Int.reduceBEq, Int.reduceBNe, Int.reduceLT, Int.reduceLE, Nat.add_assoc, Nat.reduceAdd, Nat.reducePow, Nat.zero_le, Nat.reduceEqDiff, Nat.reduceLT, Nat.reduceLeDiff, Nat.reduceMul, Nat.reduceSub, Nat.add_left_cancel_iff, Nat.lt_irrefl, Nat.le_refl, Nat.add_eq_left, Nat.left_eq_add, beq_self_eq_true, e2, b0, ci, spP_rule hk0]; done) | (simp only [go_sem, ↓reduceIte, Option.some.injEq, Bool.true_eq_false, Bool.false_eq_true, Int.reduceBEq, Int.reduceBNe, Int.reduceLT, Int.reduceLE, Nat.add_assoc, Nat.reduceAdd, Nat.reducePow, Nat.zero_le, Nat.reduceEqDiff, Nat.reduceLT, Nat.reduceLeDiff, Nat.reduceMul, Nat.reduceSub, Nat.add_left_cancel_iff, Nat.lt_irrefl, Nat.le_refl, Nat.add_eq_left, Nat.left_eq_add, beq_self_eq_true, e2, b0, ci, spP_rule hk0]; omega) | (simp only [go_sem, ↓reduceIte, Option.some.injEq, Bool.true_eq_false, Bool.false_eq_true, Int.reduceBEq, Int.reduceBNe, Int.reduceLT, Int.reduceLE, Nat.add_assoc, Nat.reduceAdd, Nat.reducePow, Nat.zero_le, Nat.reduceEqDiff, Nat.reduceLT, Nat.reduceLeDiff, Nat.reduceMul, Nat.reduceSub, Nat.add_left_cancel_iff, Nat.lt_irrefl, Nat.le_refl, Nat.add_eq_left, Nat.left_eq_add, beq_self_eq_true, e2, b0, ci, spP_rule hk0]; rfl)
    | false =>
      have hval : True := trivial
      have hz2 : (spP toks x).2.1 = 0 ∧ (spP toks x).2.2 = 0 := by rw [sp_norm toks x ci]; exact ⟨rfl, rfl⟩
      simp only [go_sem, ↓reduceIte, Option.some.injEq, Bool.true_eq_false, Bool.false_eq_true, Int.reduceBEq, Int.reduceBNe, Int.reduceLT, Int.reduceLE, Nat.add_assoc, Nat.reduceAdd, Nat.reducePow, Nat.zero_le, Nat.reduceEqDiff, Nat.reduceLT, Nat.reduceLeDiff, Nat.reduceMul, Nat.reduceSub, Nat.add_left_cancel_iff, Nat.lt_irrefl, Nat.le_refl, Nat.add_eq_left, Nat.left_eq_add, beq_self_eq_true, e2, b0, low_zero, ci, hz2, eq40]
      refine ⟨_, _, _, size_call (fz := mdC) rfl rfl rfl x _ hx, ?_⟩
      by_cases h300 : (x.size : Int) > 300
      · have d2 : decide ((x.size : Int) > 300) = true := by simpa using h300
        simp only [go_sem, ↓reduceIte, Option.some.injEq, Bool.true_eq_false, Bool.false_eq_true, Int.reduceBEq, Int.reduceBNe, Int.reduceLT, Int.reduceLE, Nat.add_assoc, Nat.reduceAdd, Nat.reducePow, Nat.zero_le, Nat.reduceEqDiff, Nat.reduceLT, Nat.reduceLeDiff, Nat.reduceMul, Nat.reduceSub, Nat.add_left_cancel_iff, Nat.lt_irrefl, Nat.le_refl, Nat.add_eq_left, Nat.left_eq_add, beq_self_eq_true, e2, b0, low_zero, d2]
      · have d2 : decide ((x.size : Int) > 300) = false := by simpa using h300
        cases hk : (x.kind != 0) with
        | true => simp only [go_sem, ↓reduceIte, Option.some.injEq, Bool.true_eq_false, Bool.false_eq_true, Int.reduceBEq, Int.reduceBNe, Int.reduceLT, Int.reduceLE, Nat.add_assoc, Nat.reduceAdd, Nat.reducePow, Nat.zero_le, Nat.reduceEqDiff, Nat.reduceLT, Nat.reduceLeDiff, Nat.reduceMul, Nat.reduceSub, Nat.add_left_cancel_iff, Nat.lt_irrefl, Nat.le_refl, Nat.add_eq_left, Nat.left_eq_add, beq_self_eq_true, e2, b0, low_zero, d2, hk]
        | false =>
          have hk0 : x.kind = 0 := by simpa using hk
          rw [spP_rule hk0] at ci hz2
          have hlen := x.len_lt
          unfold Small at hx
          simp only [go_sem, ↓reduceIte, Option.some.injEq, Bool.true_eq_false, Bool.false_eq_true, Int.reduceBEq, Int.reduceBNe, Int.reduceLT, Int.reduceLE, Nat.add_assoc, Nat.reduceAdd, Nat.reducePow, Nat.zero_le, Nat.reduceEqDiff, Nat.reduceLT, Nat.reduceLeDiff, Nat.reduceMul, Nat.reduceSub, Nat.add_left_cancel_iff, Nat.lt_irrefl, Nat.le_refl, Nat.add_eq_left, Nat.left_eq_add, beq_self_eq_true, e2, b0, low_zero, d2, hk]
          refine Ev.loop_ind (fun m tm σ' _ => ∃ (i : Nat), m = x.l.length - i ∧ i ≤ x.l.length ∧ 3 ≤ σ'.n ∧ σ'.get 0 = .cells x.c ∧ σ'.get 1 = .cells [.d (.int .i64 (spM toks x.l).2.1), .d (.int .i64 (spM toks x.l).2.2)] ∧
            Tm.at tm 1 = tokD z toks ∧ Tm.at tm 2 = .ptr 0 0 ∧ Tm.at tm 5 = .ptr 1 0 ∧ Tm.at tm 6 = .d (.bool (spM toks x.l).1) ∧ Tm.at tm 9 = .d (.bool ((x.l.take i).any fun y => (spP toks y).1)) ∧ Tm.at tm 10 = .d (.int .i64 i)) ?_ x.l.length _ _ _
            ⟨0, rfl, by omega, ?_, ?_, ?_, ?_, ?_, ?_, ?_, ?_, ?_⟩
          · rintro m tm σ' W ⟨i, rfl, hi, hn, w0, w1, u1, u2, u5, u6, u9, u10⟩ ih
            by_cases hl : i < x.l.length
            · have hget : x.l[i]? = some x.l[i] := by simp [hl]
              have hmem : x.l[i] ∈ x.l := List.getElem_mem hl
              simp only [go_sem, ↓reduceIte, Option.some.injEq, Bool.true_eq_false, Bool.false_eq_true, Int.reduceBEq, Int.reduceBNe, Int.reduceLT, Int.reduceLE, Nat.add_assoc, Nat.reduceAdd, Nat.reducePow, Nat.zero_le, Nat.reduceEqDiff, Nat.reduceLT, Nat.reduceLeDiff, Nat.reduceMul, Nat.reduceSub, Nat.add_left_cancel_iff, Nat.lt_irrefl, Nat.le_refl, Nat.add_eq_left, Nat.left_eq_add, beq_self_eq_true, u1, u2, u5, u6, u9, u10, w0, dec_lt hl, Node.index_ld hget]
              refine ⟨_, _, _, span_call (fz := mdC) rfl rfl rfl rfl rfl rfl rfl x.l[i] z toks σ' (Small.sub (x := x) hx hmem), ?_⟩
              have m0 : (0 : Nat) ≠ σ'.n := by omega
              have m1 : (1 : Nat) ≠ σ'.n := by omega
              have htake : ((x.l.take (i + 1)).any fun y => (spP toks y).1) = (((x.l.take i).any fun y => (spP toks y).1) || (spP toks x.l[i]).1) := by
                rw [List.take_succ_eq_append_getElem hl, List.any_append]; simp
              cases cs : (spP toks x.l[i]).1 with
              | false =>
                rw [cs, Bool.or_false] at htake
                cases ca : ((x.l.take i).any fun y => (spP toks y).1) with
                | true =>
                  rw [ca] at htake
                  simp only [go_sem, ↓reduceIte, Option.some.injEq, Bool.true_eq_false, Bool.false_eq_true, Int.reduceBEq, Int.reduceBNe, Int.reduceLT, Int.reduceLE, Nat.add_assoc, Nat.reduceAdd, Nat.reducePow, Nat.zero_le, Nat.reduceEqDiff, Nat.reduceLT, Nat.reduceLeDiff, Nat.reduceMul, Nat.reduceSub, Nat.add_left_cancel_iff, Nat.lt_irrefl, Nat.le_refl, Nat.add_eq_left, Nat.left_eq_add, beq_self_eq_true, spA, u1, u2, u5, u6, u9, u10, w0, w1, cs, ca, ci, m0, m1, wrap_succ hl (by omega)]
                  exact ih _ _ _ _ (by omega) ⟨i + 1, rfl, hl, by simp only [St.n_set, St.n_push]; omega, by simp only [go_sem, ↓reduceIte, Option.some.injEq, Bool.true_eq_false, Bool.false_eq_true, Int.reduceBEq, Int.reduceBNe, Int.reduceLT, Int.reduceLE, Nat.add_assoc, Nat.reduceAdd, Nat.reducePow, Nat.zero_le, Nat.reduceEqDiff, Nat.reduceLT, Nat.reduceLeDiff, Nat.reduceMul, Nat.reduceSub, Nat.add_left_cancel_iff, Nat.lt_irrefl, Nat.le_refl, Nat.add_eq_left, Nat.left_eq_add, beq_self_eq_true, m0, w0], by simp only [go_sem, ↓reduceIte, Option.some.injEq, Bool.true_eq_false, Bool.false_eq_true, Int.reduceBEq, Int.reduceBNe, Int.reduceLT, Int.reduceLE, Nat.add_assoc, Nat.reduceAdd, Nat.reducePow, Nat.zero_le, Nat.reduceEqDiff, Nat.reduceLT, Nat.reduceLeDiff, Nat.reduceMul, Nat.reduceSub, Nat.add_left_cancel_iff, Nat.lt_irrefl, Nat.le_refl, Nat.add_eq_left, Nat.left_eq_add, beq_self_eq_true, m1, w1], by simp only [go_sem, ↓reduceIte, Option.some.injEq, Bool.true_eq_false, Bool.false_eq_true, Int.reduceBEq, Int.reduceBNe, Int.reduceLT, Int.reduceLE, Nat.add_assoc, Nat.reduceAdd, Nat.reducePow, Nat.zero_le, Nat.reduceEqDiff, Nat.reduceLT, Nat.reduceLeDiff, Nat.reduceMul, Nat.reduceSub, Nat.add_left_cancel_iff, Nat.lt_irrefl, Nat.le_refl, Nat.add_eq_left, Nat.left_eq_add, beq_self_eq_true, u1], by simp only [go_sem, ↓reduceIte, Option.some.injEq, Bool.true_eq_false, Bool.false_eq_true, Int.reduceBEq, Int.reduceBNe, Int.reduceLT, Int.reduceLE, Nat.add_assoc, Nat.reduceAdd, Nat.reducePow, Nat.zero_le, Nat.reduceEqDiff, Nat.reduceLT, Nat.reduceLeDiff, Nat.reduceMul, Nat.reduceSub, Nat.add_left_cancel_iff, Nat.lt_irrefl, Nat.le_refl, Nat.add_eq_left, Nat.left_eq_add, beq_self_eq_true, u2], by simp only [go_sem, ↓reduceIte, Option.some.injEq, Bool.true_eq_false, Bool.false_eq_true, Int.reduceBEq, Int.reduceBNe, Int.reduceLT, Int.reduceLE, Nat.add_assoc, Nat.reduceAdd, Nat.reducePow, Nat.zero_le, Nat.reduceEqDiff, Nat.reduceLT, Nat.reduceLeDiff, Nat.reduceMul, Nat.reduceSub, Nat.add_left_cancel_iff, Nat.lt_irrefl, Nat.le_refl, Nat.add_eq_left, Nat.left_eq_add, beq_self_eq_true, u5], by simp only [go_sem, ↓reduceIte, Option.some.injEq, Bool.true_eq_false, Bool.false_eq_true, Int.reduceBEq, Int.reduceBNe, Int.reduceLT, Int.reduceLE, Nat.add_assoc, Nat.reduceAdd, Nat.reducePow, Nat.zero_le, Nat.reduceEqDiff, Nat.reduceLT, Nat.reduceLeDiff, Nat.reduceMul, Nat.reduceSub, Nat.add_left_cancel_iff, Nat.lt_irrefl, Nat.le_refl, Nat.add_eq_left, Nat.left_eq_add, beq_self_eq_true, u6, ci], by simp only [go_sem, ↓reduceIte, Option.some.injEq, Bool.true_eq_false, Bool.false_eq_true, Int.reduceBEq, Int.reduceBNe, Int.reduceLT, Int.reduceLE, Nat.add_assoc, Nat.reduceAdd, Nat.reducePow, Nat.zero_le, Nat.reduceEqDiff, Nat.reduceLT, Nat.reduceLeDiff, Nat.reduceMul, Nat.reduceSub, Nat.add_left_cancel_iff, Nat.lt_irrefl, Nat.le_refl, Nat.add_eq_left, Nat.left_eq_add, beq_self_eq_true, htake, u9, ca], by simp only [go_sem, ↓reduceIte, Option.some.injEq, Bool.true_eq_false, Bool.false_eq_true, Int.reduceBEq, Int.reduceBNe, Int.reduceLT, Int.reduceLE, Nat.add_assoc, Nat.reduceAdd, Nat.reducePow, Nat.zero_le, Nat.reduceEqDiff, Nat.reduceLT, Nat.reduceLeDiff, Nat.reduceMul, Nat.reduceSub, Nat.add_left_cancel_iff, Nat.lt_irrefl, Nat.le_refl, Nat.add_eq_left, Nat.left_eq_add, beq_self_eq_true]⟩
                | false =>
                  rw [ca] at htake
                  simp only [go_sem, ↓reduceIte, Option.some.injEq, Bool.true_eq_false, Bool.false_eq_true, Int.reduceBEq, Int.reduceBNe, Int.reduceLT, Int.reduceLE, Nat.add_assoc, Nat.reduceAdd, Nat.reducePow, Nat.zero_le, Nat.reduceEqDiff, Nat.reduceLT, Nat.reduceLeDiff, Nat.reduceMul, Nat.reduceSub, Nat.add_left_cancel_iff, Nat.lt_irrefl, Nat.le_refl, Nat.add_eq_left, Nat.left_eq_add, beq_self_eq_true, spA, u1, u2, u5, u6, u9, u10, w0, w1, cs, ca, ci, m0, m1, wrap_succ hl (by omega)]
                  exact ih _ _ _ _ (by omega) ⟨i + 1, rfl, hl, by simp only [St.n_set, St.n_push]; omega, by simp only [go_sem, ↓reduceIte, Option.some.injEq, Bool.true_eq_false, Bool.false_eq_true, Int.reduceBEq, Int.reduceBNe, Int.reduceLT, Int.reduceLE, Nat.add_assoc, Nat.reduceAdd, Nat.reducePow, Nat.zero_le, Nat.reduceEqDiff, Nat.reduceLT, Nat.reduceLeDiff, Nat.reduceMul, Nat.reduceSub, Nat.add_left_cancel_iff, Nat.lt_irrefl, Nat.le_refl, Nat.add_eq_left, Nat.left_eq_add, beq_self_eq_true, m0, w0], by simp only [go_sem, ↓reduceIte, Option.some.injEq, Bool.true_eq_false, Bool.false_eq_true, Int.reduceBEq, Int.reduceBNe, Int.reduceLT, Int.reduceLE, Nat.add_assoc, Nat.reduceAdd, Nat.reducePow, Nat.zero_le, Nat.reduceEqDiff, Nat.reduceLT, Nat.reduceLeDiff, Nat.reduceMul, Nat.reduceSub, Nat.add_left_cancel_iff, Nat.lt_irrefl, Nat.le_refl, Nat.add_eq_left, Nat.left_eq_add, beq_self_eq_true, m1, w1], by simp only [go_sem, ↓reduceIte, Option.some.injEq, Bool.true_eq_false, Bool.false_eq_true, Int.reduceBEq, Int.reduceBNe, Int.reduceLT, Int.reduceLE, Nat.add_assoc, Nat.reduceAdd, Nat.reducePow, Nat.zero_le, Nat.reduceEqDiff, Nat.reduceLT, Nat.reduceLeDiff, Nat.reduceMul, Nat.reduceSub, Nat.add_left_cancel_iff, Nat.lt_irrefl, Nat.le_refl, Nat.add_eq_left, Nat.left_eq_add, beq_self_eq_true, u1], by simp only [go_sem, ↓reduceIte, Option.some.injEq, Bool.true_eq_false, Bool.false_eq_true, Int.reduceBEq, Int.reduceBNe, Int.reduceLT, Int.reduceLE, Nat.add_assoc, Nat.reduceAdd, Nat.reducePow, Nat.zero_le, Nat.reduceEqDiff, Nat.reduceLT, Nat.reduceLeDiff, Nat.reduceMul, Nat.reduceSub, Nat.add_left_cancel_iff, Nat.lt_irrefl, Nat.le_refl, Nat.add_eq_left, Nat.left_eq_add, beq_self_eq_true, u2], by simp only [go_sem, ↓reduceIte, Option.some.injEq, Bool.true_eq_false, Bool.false_eq_true, Int.reduceBEq, Int.reduceBNe, Int.reduceLT, Int.reduceLE, Nat.add_assoc, Nat.reduceAdd, Nat.reducePow, Nat.zero_le, Nat.reduceEqDiff, Nat.reduceLT, Nat.reduceLeDiff, Nat.reduceMul, Nat.reduceSub, Nat.add_left_cancel_iff, Nat.lt_irrefl, Nat.le_refl, Nat.add_eq_left, Nat.left_eq_add, beq_self_eq_true, u5], by simp only [go_sem, ↓reduceIte, Option.some.injEq, Bool.true_eq_false, Bool.false_eq_true, Int.reduceBEq, Int.reduceBNe, Int.reduceLT, Int.reduceLE, Nat.add_assoc, Nat.reduceAdd, Nat.reducePow, Nat.zero_le, Nat.reduceEqDiff, Nat.reduceLT, Nat.reduceLeDiff, Nat.reduceMul, Nat.reduceSub, Nat.add_left_cancel_iff, Nat.lt_irrefl, Nat.le_refl, Nat.add_eq_left, Nat.left_eq_add, beq_self_eq_true, u6, ci], by simp only [go_sem, ↓reduceIte, Option.some.injEq, Bool.true_eq_false, Bool.false_eq_true, Int.reduceBEq, Int.reduceBNe, Int.reduceLT, Int.reduceLE, Nat.add_assoc, Nat.reduceAdd, Nat.reducePow, Nat.zero_le, Nat.reduceEqDiff, Nat.reduceLT, Nat.reduceLeDiff, Nat.reduceMul, Nat.reduceSub, Nat.add_left_cancel_iff, Nat.lt_irrefl, Nat.le_refl, Nat.add_eq_left, Nat.left_eq_add, beq_self_eq_true, htake, u9, ca], by simp only [go_sem, ↓reduceIte, Option.some.injEq, Bool.true_eq_false, Bool.false_eq_true, Int.reduceBEq, Int.reduceBNe, Int.reduceLT, Int.reduceLE, Nat.add_assoc, Nat.reduceAdd, Nat.reducePow, Nat.zero_le, Nat.reduceEqDiff, Nat.reduceLT, Nat.reduceLeDiff, Nat.reduceMul, Nat.reduceSub, Nat.add_left_cancel_iff, Nat.lt_irrefl, Nat.le_refl, Nat.add_eq_left, Nat.left_eq_add, beq_self_eq_true]⟩
              | true =>
                obtain ⟨i1, i2, i3⟩ := sp_in toks hmem cs
                have q1 : decide ((spP toks x.l[i]).2.1 < (spM toks x.l).2.1) = false := by simp; omega
                have q2 : decide ((spP toks x.l[i]).2.2 > (spM toks x.l).2.2) = false := by simp; omega
                rw [cs, Bool.or_true] at htake
                cases ca : ((x.l.take i).any fun y => (spP toks y).1) with
                | true =>
                  simp only [go_sem, ↓reduceIte, Option.some.injEq, Bool.true_eq_false, Bool.false_eq_true, Int.reduceBEq, Int.reduceBNe, Int.reduceLT, Int.reduceLE, Nat.add_assoc, Nat.reduceAdd, Nat.reducePow, Nat.zero_le, Nat.reduceEqDiff, Nat.reduceLT, Nat.reduceLeDiff, Nat.reduceMul, Nat.reduceSub, Nat.add_left_cancel_iff, Nat.lt_irrefl, Nat.le_refl, Nat.add_eq_left, Nat.left_eq_add, beq_self_eq_true, spA, u1, u2, u5, u6, u9, u10, w0, w1, cs, ca, i1, q1, q2, m0, m1, Ne.symm m1, wrap_succ hl (by omega)]
                  exact ih _ _ _ _ (by omega) ⟨i + 1, rfl, hl, by simp only [St.n_set, St.n_push]; omega, by simp only [go_sem, ↓reduceIte, Option.some.injEq, Bool.true_eq_false, Bool.false_eq_true, Int.reduceBEq, Int.reduceBNe, Int.reduceLT, Int.reduceLE, Nat.add_assoc, Nat.reduceAdd, Nat.reducePow, Nat.zero_le, Nat.reduceEqDiff, Nat.reduceLT, Nat.reduceLeDiff, Nat.reduceMul, Nat.reduceSub, Nat.add_left_cancel_iff, Nat.lt_irrefl, Nat.le_refl, Nat.add_eq_left, Nat.left_eq_add, beq_self_eq_true, m0, w0], by simp only [go_sem, ↓reduceIte, Option.some.injEq, Bool.true_eq_false, Bool.false_eq_true, Int.reduceBEq, Int.reduceBNe, Int.reduceLT, Int.reduceLE, Nat.add_assoc, Nat.reduceAdd, Nat.reducePow, Nat.zero_le, Nat.reduceEqDiff, Nat.reduceLT, Nat.reduceLeDiff, Nat.reduceMul, Nat.reduceSub, Nat.add_left_cancel_iff, Nat.lt_irrefl, Nat.le_refl, Nat.add_eq_left, Nat.left_eq_add, beq_self_eq_true, m1, w1], by simp only [go_sem, ↓reduceIte, Option.some.injEq, Bool.true_eq_false, Bool.false_eq_true, Int.reduceBEq, Int.reduceBNe, Int.reduceLT, Int.reduceLE, Nat.add_assoc, Nat.reduceAdd, Nat.reducePow, Nat.zero_le, Nat.reduceEqDiff, Nat.reduceLT, Nat.reduceLeDiff, Nat.reduceMul, Nat.reduceSub, Nat.add_left_cancel_iff, Nat.lt_irrefl, Nat.le_refl, Nat.add_eq_left, Nat.left_eq_add, beq_self_eq_true, u1], by simp only [go_sem, ↓reduceIte, Option.some.injEq, Bool.true_eq_false, Bool.false_eq_true, Int.reduceBEq, Int.reduceBNe, Int.reduceLT, Int.reduceLE, Nat.add_assoc, Nat.reduceAdd, Nat.reducePow, Nat.zero_le, Nat.reduceEqDiff, Nat.reduceLT, Nat.reduceLeDiff, Nat.reduceMul, Nat.reduceSub, Nat.add_left_cancel_iff, Nat.lt_irrefl, Nat.le_refl, Nat.add_eq_left, Nat.left_eq_add, beq_self_eq_true, u2], by simp only [go_sem, ↓reduceIte, Option.some.injEq, Bool.true_eq_false, Bool.false_eq_true, Int.reduceBEq, Int.reduceBNe, Int.reduceLT, Int.reduceLE, Nat.add_assoc, Nat.reduceAdd, Nat.reducePow, Nat.zero_le, Nat.reduceEqDiff, Nat.reduceLT, Nat.reduceLeDiff, Nat.reduceMul, Nat.reduceSub, Nat.add_left_cancel_iff, Nat.lt_irrefl, Nat.le_refl, Nat.add_eq_left, Nat.left_eq_add, beq_self_eq_true, u5], by simp only [go_sem, ↓reduceIte, Option.some.injEq, Bool.true_eq_false, Bool.false_eq_true, Int.reduceBEq, Int.reduceBNe, Int.reduceLT, Int.reduceLE, Nat.add_assoc, Nat.reduceAdd, Nat.reducePow, Nat.zero_le, Nat.reduceEqDiff, Nat.reduceLT, Nat.reduceLeDiff, Nat.reduceMul, Nat.reduceSub, Nat.add_left_cancel_iff, Nat.lt_irrefl, Nat.le_refl, Nat.add_eq_left, Nat.left_eq_add, beq_self_eq_true, u6, i1], by simp only [go_sem, ↓reduceIte, Option.some.injEq, Bool.true_eq_false, Bool.false_eq_true, Int.reduceBEq, Int.reduceBNe, Int.reduceLT, Int.reduceLE, Nat.add_assoc, Nat.reduceAdd, Nat.reducePow, Nat.zero_le, Nat.reduceEqDiff, Nat.reduceLT, Nat.reduceLeDiff, Nat.reduceMul, Nat.reduceSub, Nat.add_left_cancel_iff, Nat.lt_irrefl, Nat.le_refl, Nat.add_eq_left, Nat.left_eq_add, beq_self_eq_true, htake, u9, ca], by simp only [go_sem, ↓reduceIte, Option.some.injEq, Bool.true_eq_false, Bool.false_eq_true, Int.reduceBEq, Int.reduceBNe, Int.reduceLT, Int.reduceLE, Nat.add_assoc, Nat.reduceAdd, Nat.reducePow, Nat.zero_le, Nat.reduceEqDiff, Nat.reduceLT, Nat.reduceLeDiff, Nat.reduceMul, Nat.reduceSub, Nat.add_left_cancel_iff, Nat.lt_irrefl, Nat.le_refl, Nat.add_eq_left, Nat.left_eq_add, beq_self_eq_true]⟩
                | false =>
                  simp only [go_sem, ↓reduceIte, Option.some.injEq, Bool.true_eq_false, Bool.false_eq_true, Int.reduceBEq, Int.reduceBNe, Int.reduceLT, Int.reduceLE, Nat.add_assoc, Nat.reduceAdd, Nat.reducePow, Nat.zero_le, Nat.reduceEqDiff, Nat.reduceLT, Nat.reduceLeDiff, Nat.reduceMul, Nat.reduceSub, Nat.add_left_cancel_iff, Nat.lt_irrefl, Nat.le_refl, Nat.add_eq_left, Nat.left_eq_add, beq_self_eq_true, spA, u1, u2, u5, u6, u9, u10, w0, w1, cs, ca, i1, q1, q2, m0, m1, Ne.symm m1, wrap_succ hl (by omega)]
                  exact ih _ _ _ _ (by omega) ⟨i + 1, rfl, hl, by simp only [St.n_set, St.n_push]; omega, by simp only [go_sem, ↓reduceIte, Option.some.injEq, Bool.true_eq_false, Bool.false_eq_true, Int.reduceBEq, Int.reduceBNe, Int.reduceLT, Int.reduceLE, Nat.add_assoc, Nat.reduceAdd, Nat.reducePow, Nat.zero_le, Nat.reduceEqDiff, Nat.reduceLT, Nat.reduceLeDiff, Nat.reduceMul, Nat.reduceSub, Nat.add_left_cancel_iff, Nat.lt_irrefl, Nat.le_refl, Nat.add_eq_left, Nat.left_eq_add, beq_self_eq_true, m0, w0], by simp only [go_sem, ↓reduceIte, Option.some.injEq, Bool.true_eq_false, Bool.false_eq_true, Int.reduceBEq, Int.reduceBNe, Int.reduceLT, Int.reduceLE, Nat.add_assoc, Nat.reduceAdd, Nat.reducePow, Nat.zero_le, Nat.reduceEqDiff, Nat.reduceLT, Nat.reduceLeDiff, Nat.reduceMul, Nat.reduceSub, Nat.add_left_cancel_iff, Nat.lt_irrefl, Nat.le_refl, Nat.add_eq_left, Nat.left_eq_add, beq_self_eq_true, m1, w1], by simp only [go_sem, ↓reduceIte, Option.some.injEq, Bool.true_eq_false, Bool.false_eq_true, Int.reduceBEq, Int.reduceBNe, Int.reduceLT, Int.reduceLE, Nat.add_assoc, Nat.reduceAdd, Nat.reducePow, Nat.zero_le, Nat.reduceEqDiff, Nat.reduceLT, Nat.reduceLeDiff, Nat.reduceMul, Nat.reduceSub, Nat.add_left_cancel_iff, Nat.lt_irrefl, Nat.le_refl, Nat.add_eq_left, Nat.left_eq_add, beq_self_eq_true, u1], by simp only [go_sem, ↓reduceIte, Option.some.injEq, Bool.true_eq_false, Bool.false_eq_true, Int.reduceBEq, Int.reduceBNe, Int.reduceLT, Int.reduceLE, Nat.add_assoc, Nat.reduceAdd, Nat.reducePow, Nat.zero_le, Nat.reduceEqDiff, Nat.reduceLT, Nat.reduceLeDiff, Nat.reduceMul, Nat.reduceSub, Nat.add_left_cancel_iff, Nat.lt_irrefl, Nat.le_refl, Nat.add_eq_left, Nat.left_eq_add, beq_self_eq_true, u2], by simp only [go_sem, ↓reduceIte, Option.some.injEq, Bool.true_eq_false, Bool.false_eq_true, Int.reduceBEq, Int.reduceBNe, Int.reduceLT, Int.reduceLE, Nat.add_assoc, Nat.reduceAdd, Nat.reducePow, Nat.zero_le, Nat.reduceEqDiff, Nat.reduceLT, Nat.reduceLeDiff, Nat.reduceMul, Nat.reduceSub, Nat.add_left_cancel_iff, Nat.lt_irrefl, Nat.le_refl, Nat.add_eq_left, Nat.left_eq_add, beq_self_eq_true, u5], by simp only [go_sem, ↓reduceIte, Option.some.injEq, Bool.true_eq_false, Bool.false_eq_true, Int.reduceBEq, Int.reduceBNe, Int.reduceLT, Int.reduceLE, Nat.add_assoc, Nat.reduceAdd, Nat.reducePow, Nat.zero_le, Nat.reduceEqDiff, Nat.reduceLT, Nat.reduceLeDiff, Nat.reduceMul, Nat.reduceSub, Nat.add_left_cancel_iff, Nat.lt_irrefl, Nat.le_refl, Nat.add_eq_left, Nat.left_eq_add, beq_self_eq_true, u6, i1], by simp only [go_sem, ↓reduceIte, Option.some.injEq, Bool.true_eq_false, Bool.false_eq_true, Int.reduceBEq, Int.reduceBNe, Int.reduceLT, Int.reduceLE, Nat.add_assoc, Nat.reduceAdd, Nat.reducePow, Nat.zero_le, Nat.reduceEqDiff, Nat.reduceLT, Nat.reduceLeDiff, Nat.reduceMul, Nat.reduceSub, Nat.add_left_cancel_iff, Nat.lt_irrefl, Nat.le_refl, Nat.add_eq_left, Nat.left_eq_add, beq_self_eq_true, htake, u9, ca], by simp only [go_sem, ↓reduceIte, Option.some.injEq, Bool.true_eq_false, Bool.false_eq_true, Int.reduceBEq, Int.reduceBNe, Int.reduceLT, Int.reduceLE, Nat.add_assoc, Nat.reduceAdd, Nat.reducePow, Nat.zero_le, Nat.reduceEqDiff, Nat.reduceLT, Nat.reduceLeDiff, Nat.reduceMul, Nat.reduceSub, Nat.add_left_cancel_iff, Nat.lt_irrefl, Nat.le_refl, Nat.add_eq_left, Nat.left_eq_add, beq_self_eq_true]⟩
            · rw [List.take_of_length_le (by omega), ← sp_any] at u9
              simp only [go_sem, ↓reduceIte, Option.some.injEq, Bool.true_eq_false, Bool.false_eq_true, Int.reduceBEq, Int.reduceBNe, Int.reduceLT, Int.reduceLE, Nat.add_assoc, Nat.reduceAdd, Nat.reducePow, Nat.zero_le, Nat.reduceEqDiff, Nat.reduceLT, Nat.reduceLeDiff, Nat.reduceMul, Nat.reduceSub, Nat.add_left_cancel_iff, Nat.lt_irrefl, Nat.le_refl, Nat.add_eq_left, Nat.left_eq_add, beq_self_eq_true, u1, u2, u5, u6, u9, u10, w0, dec_ge hl]
          all_goals first | (simp only [go_sem, ↓reduceIte, Option.some.injEq, Bool.true_eq_false, Bool.false_eq_true, Int.reduceBEq, Int.reduceBNe, Int.reduceLT, Int.reduceLE, Nat.add_assoc, Nat.reduceAdd, Nat.reducePow, Nat.zero_le, Nat.reduceEqDiff, Nat.reduceLT, Nat.reduceLeDiff, Nat.reduceMul, Nat.reduceSub, Nat.add_left_cancel_iff, Nat.lt_irrefl, Nat.le_refl, Nat.add_eq_left, Nat.left_eq_add, beq_self_eq_true, e2, b0, ci, hz2, spP_rule hk0]; done) | (simp only [go_sem, ↓reduceIte, Option.some.injEq, Bool.true_eq_false, Bool.false_eq_true, Int.reduceBEq, Int.reduceBNe, Int.reduceLT, Int.reduceLE, Nat.add_assoc, Nat.reduceAdd, Nat.reducePow, Nat.zero_le, Nat.reduceEqDiff, Nat.reduceLT, Nat.reduceLeDiff, Nat.reduceMul, Nat.reduceSub, Nat.add_left_cancel_iff, Nat.lt_irrefl, Nat.le_refl, Nat.add_eq_left, Nat.left_eq_add, beq_self_eq_true, e2, b0, ci, spP_rule hk0]; done) | (simp only [go_sem, ↓reduceIte, Option.some.injEq, Bool.true_eq_false, Bool.false_eq_true, Int.reduceBEq, Int.reduceBNe, Int.reduceLT, Int.reduceLE, Nat.add_assoc, Nat.reduceAdd, Nat.reducePow, Nat.zero_le, Nat.reduceEqDiff, Nat.reduceLT, Nat.reduceLeDiff, Nat.reduceMul, Nat.reduceSub, Nat.add_left_cancel_iff, Nat.lt_irrefl, Nat.le_refl, Nat.add_eq_left, Nat.left_eq_add, beq_self_eq_true, e2, b0, ci, spP_rule hk0]; omega) | (simp only [go_sem, ↓reduceIte, Option.some.injEq, Bool.true_eq_false, Bool.false_eq_true, Int.reduceBEq, Int.reduceBNe, Int.reduceLT, Int.reduceLE, Nat.add_assoc, Nat.reduceAdd, Nat.reducePow, Nat.zero_le, Nat.reduceEqDiff, Nat.reduceLT, Nat.reduceLeDiff, Nat.reduceMul, Nat.reduceSub, Nat.add_left_cancel_iff, Nat.lt_irrefl, Nat.le_refl, Nat.add_eq_left, Nat.left_eq_add, beq_self_eq_true, e2, b0, ci, spP_rule hk0]; rfl)
end Go.Am

/- Part Y3 of a proof that runs a program's calls on a small machine whose values bear no addresses: no conditions. -/
import Derived.Test.YtbppacknigeiaaaDoorAmY1
set_option autoImplicit false
set_option linter.unusedSimpArgs false
set_option linter.unusedVariables false
set_option linter.unusedSectionVars false
namespace Go.Am
open Go Go.Proofs
variable {fz : Nat → Md}
def mostN (t : Int) (r : Nat) (k : Int) : Int := if (k == 2) = true then (r : Int) else if (k == 1) = true then t else 1
def rigH1 (k n most : Int) : Bool := decide (k < 0) || decide (k > 6) || decide (n < 0) || decide (n ≥ most)
def rigH2 (k : Int) (len : Nat) : Bool := (decide (k ≤ 2) && decide ((len : Int) > 0)) || ((k == 4) && ((len : Int) == 0)) || (decide (k ≥ 5) && ((len : Int) != 1))
mutual
def rigE (t : Int) (r : Nat) : Ex → Bool
  | .mk k n _ l => !rigH1 k n (mostN t r k) && !rigH2 k l.length && rigL t r l
def rigL (t : Int) (r : Nat) : List Ex → Bool
  | [] => true
  | x :: l => rigE t r x && rigL t r l
end
theorem rigE_eq (t : Int) (r : Nat) (x : Ex) : rigE t r x = (!rigH1 x.kind x.num (mostN t r x.kind) && !rigH2 x.kind x.l.length && rigL t r x.l) := by cases x; rw [rigE]; rfl
set_option maxHeartbeats 40000000 in
theorem rig_call (h90 : fz 72 = .cut) (g : Gr) (x : Ex) (σ : St) (hx : SmallE x) : CallsTo (XX fz) (.func 72 []) [g.a, x.a] σ (.d (.bool (rigE g.tokens g.rules.length x))) σ [] := by
  refine CallsTo.cut0 h90 fn72 (by simp) rfl ?_
  rw [rigE_eq]
  have hlen := hx.len
  have loop : ∀ (tm : Tm) (τ : St), (∀ y ∈ x.l, ∀ τ, CallsTo (XX fz) (.func 72 []) [g.a, y.a] τ (.d (.bool (rigE g.tokens g.rules.length y))) τ []) → tm.at 2 = .ptr σ.n 0 → tm.at 3 = .ptr (σ.n + 1) 0 → tm.at 6 = .d (.int .i64 x.l.length) → τ = (σ.push (.cells g.c)).push (.cells x.c) →
      Ev (XX fz) 72 79 none σ.n [.code (Code.r (Code.r (Code.r (Code.r (Code.r (Code.r (Code.r (Tryd.f72.body.getD .skip))))))))] tm τ [] (RetQ (XX fz) [.tmp 4] fun a _ W1 => a = .d (.bool (rigL g.tokens g.rules.length x.l)) ∧ W1 = []) := by
    intro tm τ hrec t2 t3 t6 hτ
    have q0 : τ.get σ.n = .cells g.c := by rw [hτ, St.get_push_ne (by simp [St.n_push]), St.get_push_eq]
    have q1 : τ.get (σ.n + 1) = .cells x.c := by rw [hτ]; exact St.get_push_eq' (by simp [St.n_push])
    simp only [Code.r, Tryd.f72, Option.getD_some]
    simp only [go_sem, ↓reduceIte, Int.reduceEq, Nat.reduceBEq, Int.reduceBEq, Nat.reduceAdd, Nat.reduceEqDiff, Nat.reduceLT, Nat.reduceSub]
    refine Ev.loop_ind (fun k tm τ' W => ∃ i : Nat, k = x.l.length - i ∧ i ≤ x.l.length ∧ W = [] ∧ τ' = τ ∧ rigL g.tokens g.rules.length (x.l.drop i) = rigL g.tokens g.rules.length x.l ∧
        tm.at 2 = .ptr σ.n 0 ∧ tm.at 3 = .ptr (σ.n + 1) 0 ∧ tm.at 6 = .d (.int .i64 x.l.length) ∧ tm.at 7 = .d (.int .i64 i)) ?_ x.l.length _ _ _ ⟨0, rfl, by omega, rfl, rfl, rfl, ?_, ?_, ?_, ?_⟩
    · rintro k tm τ' W ⟨i, rfl, hi, rfl, rfl, he, t2, t3, t6, t7⟩ ih
      by_cases hl : i < x.l.length
      · have hget : x.l[i]? = some x.l[i] := by simp [hl]
        have hmem : x.l[i] ∈ x.l := List.getElem_mem hl
        rw [List.drop_eq_getElem_cons hl, rigL] at he
        simp only [go_sem, ↓reduceIte, Int.reduceEq, Nat.reduceBEq, Int.reduceBEq, Nat.reduceAdd, Nat.reduceEqDiff, Nat.reduceLT, Nat.reduceSub, t2, t3, t6, t7, dec_lt' hl, q0, q1, Ex.index_ld hget]
        refine ⟨_, _, _, hrec _ hmem _, ?_⟩
        cases hc : rigE g.tokens g.rules.length x.l[i] with
        | false =>
          rw [hc, Bool.false_and] at he
          simp only [go_sem, ↓reduceIte, Int.reduceEq, Nat.reduceBEq, Int.reduceBEq, Nat.reduceAdd, Nat.reduceEqDiff, Nat.reduceLT, Nat.reduceSub, ← he]
          rfl
        | true =>
          rw [hc, Bool.true_and] at he
          simp only [go_sem, ↓reduceIte, Int.reduceEq, Nat.reduceBEq, Int.reduceBEq, Nat.reduceAdd, Nat.reduceEqDiff, Nat.reduceLT, Nat.reduceSub, t7, wrap_succ' hl hlen]
          refine ⟨rfl, ?_⟩
          exact ih _ _ _ _ (by omega) ⟨i + 1, rfl, hl, rfl, rfl, he, by simp only [go_sem, ↓reduceIte, Int.reduceEq, Nat.reduceBEq, Int.reduceBEq, Nat.reduceAdd, Nat.reduceEqDiff, Nat.reduceLT, Nat.reduceSub, t2], by simp only [go_sem, ↓reduceIte, Int.reduceEq, Nat.reduceBEq, Int.reduceBEq, Nat.reduceAdd, Nat.reduceEqDiff, Nat.reduceLT, Nat.reduceSub, t3], by simp only [go_sem, ↓reduceIte, Int.reduceEq, Nat.reduceBEq, Int.reduceBEq, Nat.reduceAdd, Nat.reduceEqDiff, Nat.reduceLT, Nat.reduceSub, t6], by simp only [go_sem, ↓reduceIte, Int.reduceEq, Nat.reduceBEq, Int.reduceBEq, Nat.reduceAdd, Nat.reduceEqDiff, Nat.reduceLT, Nat.reduceSub]⟩
      · simp only [go_sem, ↓reduceIte, Int.reduceEq, Nat.reduceBEq, Int.reduceBEq, Nat.reduceAdd, Nat.reduceEqDiff, Nat.reduceLT, Nat.reduceSub, t2, t3, t6, t7, dec_ge' hl]
        rw [List.drop_eq_nil_of_le (by omega), rigL] at he
        rw [← he]
    · simp only [go_sem, ↓reduceIte, Int.reduceEq, Nat.reduceBEq, Int.reduceBEq, Nat.reduceAdd, Nat.reduceEqDiff, Nat.reduceLT, Nat.reduceSub, t2]
    · simp only [go_sem, ↓reduceIte, Int.reduceEq, Nat.reduceBEq, Int.reduceBEq, Nat.reduceAdd, Nat.reduceEqDiff, Nat.reduceLT, Nat.reduceSub, t3]
    · simp only [go_sem, ↓reduceIte, Int.reduceEq, Nat.reduceBEq, Int.reduceBEq, Nat.reduceAdd, Nat.reduceEqDiff, Nat.reduceLT, Nat.reduceSub, t6]
    · simp only [go_sem, ↓reduceIte, Int.reduceEq, Nat.reduceBEq, Int.reduceBEq, Nat.reduceAdd, Nat.reduceEqDiff, Nat.reduceLT, Nat.reduceSub]; rfl
  have hrec : ∀ y ∈ x.l, ∀ τ, CallsTo (XX fz) (.func 72 []) [g.a, y.a] τ (.d (.bool (rigE g.tokens g.rules.length y))) τ [] := fun y hy τ => rig_call h90 g y τ (hx.sub hy)
  have loop' := fun tm τ => loop tm τ hrec
  clear loop hrec
  generalize hX : Tryd.f72.body.getD .skip = X at loop' ⊢
  have hbody : X = .seq (Code.l X) (.seq (Code.l (Code.r X)) (.seq (Code.l (Code.r (Code.r X))) (.seq (Code.l (Code.r (Code.r (Code.r X)))) (.seq (Code.l (Code.r (Code.r (Code.r (Code.r X))))) (.seq (Code.l (Code.r (Code.r (Code.r (Code.r (Code.r X)))))) (.seq (Code.l (Code.r (Code.r (Code.r (Code.r (Code.r (Code.r X))))))) (Code.r (Code.r (Code.r (Code.r (Code.r (Code.r (Code.r X)))))))))))))  := by rw [← hX]; rfl
  rw [hbody]
  generalize Code.r (Code.r (Code.r (Code.r (Code.r (Code.r (Code.r X)))))) = B at loop'
  rw [← hX]
  simp only [Code.l, Code.r, Tryd.f72, Option.getD_some]
  unfold rigH1 rigH2 mostN
  cases k2 : (x.kind == 2) with
  | true =>
    cases k1 : (x.kind == 1) with
    | true =>
      exfalso
      have a1 : x.kind = 1 := by simpa using k1
      have a2 : x.kind = 2 := by simpa using k2
      omega
    | false =>
      cases c1 : decide (x.kind < 0) with
      | true => simp only [go_sem, ↓reduceIte, Int.reduceEq, Nat.reduceBEq, Int.reduceBEq, Nat.reduceAdd, Nat.reduceEqDiff, Nat.reduceLT, Nat.reduceSub, Ex.a, Gr.a, k1, k2, c1, Bool.true_or, Bool.false_or, Bool.or_true, Bool.or_false, Bool.not_true, Bool.not_false, Bool.false_and, Bool.true_and, Bool.and_false, Bool.and_true, Bool.or_self, Bool.and_self, Bool.false_eq_true, if_false, if_true]
      | false =>
      cases c2 : decide (x.kind > 6) with
      | true => simp only [go_sem, ↓reduceIte, Int.reduceEq, Nat.reduceBEq, Int.reduceBEq, Nat.reduceAdd, Nat.reduceEqDiff, Nat.reduceLT, Nat.reduceSub, Ex.a, Gr.a, k1, k2, c1, c2, Bool.true_or, Bool.false_or, Bool.or_true, Bool.or_false, Bool.not_true, Bool.not_false, Bool.false_and, Bool.true_and, Bool.and_false, Bool.and_true, Bool.or_self, Bool.and_self, Bool.false_eq_true, if_false, if_true]
      | false =>
      cases c3 : decide (x.num < 0) with
      | true => simp only [go_sem, ↓reduceIte, Int.reduceEq, Nat.reduceBEq, Int.reduceBEq, Nat.reduceAdd, Nat.reduceEqDiff, Nat.reduceLT, Nat.reduceSub, Ex.a, Gr.a, k1, k2, c1, c2, c3, Bool.true_or, Bool.false_or, Bool.or_true, Bool.or_false, Bool.not_true, Bool.not_false, Bool.false_and, Bool.true_and, Bool.and_false, Bool.and_true, Bool.or_self, Bool.and_self, Bool.false_eq_true, if_false, if_true]
      | false =>
      cases c4 : decide (x.num ≥ (g.rules.length : Int)) with
      | true => simp only [go_sem, ↓reduceIte, Int.reduceEq, Nat.reduceBEq, Int.reduceBEq, Nat.reduceAdd, Nat.reduceEqDiff, Nat.reduceLT, Nat.reduceSub, Ex.a, Gr.a, k1, k2, c1, c2, c3, c4, Bool.true_or, Bool.false_or, Bool.or_true, Bool.or_false, Bool.not_true, Bool.not_false, Bool.false_and, Bool.true_and, Bool.and_false, Bool.and_true, Bool.or_self, Bool.and_self, Bool.false_eq_true, if_false, if_true]
      | false =>
      cases d1 : decide (x.kind ≤ 2) <;> cases d2 : decide ((x.l.length : Int) > 0) <;> cases d3 : (x.kind == 4) <;> cases d4 : ((x.l.length : Int) == 0) <;> cases d5 : decide (x.kind ≥ 5) <;> cases d6 : ((x.l.length : Int) != 1)
      all_goals first
        | (simp only [go_sem, ↓reduceIte, Int.reduceEq, Nat.reduceBEq, Int.reduceBEq, Nat.reduceAdd, Nat.reduceEqDiff, Nat.reduceLT, Nat.reduceSub, Ex.a, Gr.a, k1, k2, c1, c2, c3, c4, d1, d2, d3, d4, d5, d6, Bool.true_or, Bool.false_or, Bool.or_true, Bool.or_false, Bool.not_true, Bool.not_false, Bool.false_and, Bool.true_and, Bool.and_false, Bool.and_true, Bool.or_self, Bool.and_self, Bool.false_eq_true, if_false, if_true]; done)
        | (simp only [go_sem, ↓reduceIte, Int.reduceEq, Nat.reduceBEq, Int.reduceBEq, Nat.reduceAdd, Nat.reduceEqDiff, Nat.reduceLT, Nat.reduceSub, Ex.a, Gr.a, k1, k2, c1, c2, c3, c4, d1, d2, d3, d4, d5, d6, Bool.true_or, Bool.false_or, Bool.or_true, Bool.or_false, Bool.not_true, Bool.not_false, Bool.false_and, Bool.true_and, Bool.and_false, Bool.and_true, Bool.or_self, Bool.and_self, Bool.false_eq_true, if_false, if_true]; exact loop' _ _ (by simp only [go_sem, ↓reduceIte, Int.reduceEq, Nat.reduceBEq, Int.reduceBEq, Nat.reduceAdd, Nat.reduceEqDiff, Nat.reduceLT, Nat.reduceSub]) (by simp only [go_sem, ↓reduceIte, Int.reduceEq, Nat.reduceBEq, Int.reduceBEq, Nat.reduceAdd, Nat.reduceEqDiff, Nat.reduceLT, Nat.reduceSub]) (by simp only [go_sem, ↓reduceIte, Int.reduceEq, Nat.reduceBEq, Int.reduceBEq, Nat.reduceAdd, Nat.reduceEqDiff, Nat.reduceLT, Nat.reduceSub]) rfl)
  | false =>
  cases k1 : (x.kind == 1) with
  | true =>
    cases c1 : decide (x.kind < 0) with
    | true => simp only [go_sem, ↓reduceIte, Int.reduceEq, Nat.reduceBEq, Int.reduceBEq, Nat.reduceAdd, Nat.reduceEqDiff, Nat.reduceLT, Nat.reduceSub, Ex.a, Gr.a, k1, k2, c1, Bool.true_or, Bool.false_or, Bool.or_true, Bool.or_false, Bool.not_true, Bool.not_false, Bool.false_and, Bool.true_and, Bool.and_false, Bool.and_true, Bool.or_self, Bool.and_self, Bool.false_eq_true, if_false, if_true]
    | false =>
    cases c2 : decide (x.kind > 6) with
    | true => simp only [go_sem, ↓reduceIte, Int.reduceEq, Nat.reduceBEq, Int.reduceBEq, Nat.reduceAdd, Nat.reduceEqDiff, Nat.reduceLT, Nat.reduceSub, Ex.a, Gr.a, k1, k2, c1, c2, Bool.true_or, Bool.false_or, Bool.or_true, Bool.or_false, Bool.not_true, Bool.not_false, Bool.false_and, Bool.true_and, Bool.and_false, Bool.and_true, Bool.or_self, Bool.and_self, Bool.false_eq_true, if_false, if_true]
    | false =>
    cases c3 : decide (x.num < 0) with
    | true => simp only [go_sem, ↓reduceIte, Int.reduceEq, Nat.reduceBEq, Int.reduceBEq, Nat.reduceAdd, Nat.reduceEqDiff, Nat.reduceLT, Nat.reduceSub, Ex.a, Gr.a, k1, k2, c1, c2, c3, Bool.true_or, Bool.false_or, Bool.or_true, Bool.or_false, Bool.not_true, Bool.not_false, Bool.false_and, Bool.true_and, Bool.and_false, Bool.and_true, Bool.or_self, Bool.and_self, Bool.false_eq_true, if_false, if_true]
    | false =>
    cases c4 : decide (x.num ≥ g.tokens) with
    | true => simp only [go_sem, ↓reduceIte, Int.reduceEq, Nat.reduceBEq, Int.reduceBEq, Nat.reduceAdd, Nat.reduceEqDiff, Nat.reduceLT, Nat.reduceSub, Ex.a, Gr.a, k1, k2, c1, c2, c3, c4, Bool.true_or, Bool.false_or, Bool.or_true, Bool.or_false, Bool.not_true, Bool.not_false, Bool.false_and, Bool.true_and, Bool.and_false, Bool.and_true, Bool.or_self, Bool.and_self, Bool.false_eq_true, if_false, if_true]
    | false =>
    cases d1 : decide (x.kind ≤ 2) <;> cases d2 : decide ((x.l.length : Int) > 0) <;> cases d3 : (x.kind == 4) <;> cases d4 : ((x.l.length : Int) == 0) <;> cases d5 : decide (x.kind ≥ 5) <;> cases d6 : ((x.l.length : Int) != 1)
    all_goals first
      | (simp only [go_sem, ↓reduceIte, Int.reduceEq, Nat.reduceBEq, Int.reduceBEq, Nat.reduceAdd, Nat.reduceEqDiff, Nat.reduceLT, Nat.reduceSub, Ex.a, Gr.a, k1, k2, c1, c2, c3, c4, d1, d2, d3, d4, d5, d6, Bool.true_or, Bool.false_or, Bool.or_true, Bool.or_false, Bool.not_true, Bool.not_false, Bool.false_and, Bool.true_and, Bool.and_false, Bool.and_true, Bool.or_self, Bool.and_self, Bool.false_eq_true, if_false, if_true]; done)
      | (simp only [go_sem, ↓reduceIte, Int.reduceEq, Nat.reduceBEq, Int.reduceBEq, Nat.reduceAdd, Nat.reduceEqDiff, Nat.reduceLT, Nat.reduceSub, Ex.a, Gr.a, k1, k2, c1, c2, c3, c4, d1, d2, d3, d4, d5, d6, Bool.true_or, Bool.false_or, Bool.or_true, Bool.or_false, Bool.not_true, Bool.not_false, Bool.false_and, Bool.true_and, Bool.and_false, Bool.and_true, Bool.or_self, Bool.and_self, Bool.false_eq_true, if_false, if_true]; exact loop' _ _ (by simp only [go_sem, ↓reduceIte, Int.reduceEq, Nat.reduceBEq, Int.reduceBEq, Nat.reduceAdd, Nat.reduceEqDiff, Nat.reduceLT, Nat.reduceSub]) (by simp only [go_sem, ↓reduceIte, Int.reduceEq, Nat.reduceBEq, Int.reduceBEq, Nat.reduceAdd, Nat.reduceEqDiff, Nat.reduceLT, Nat.reduceSub]) (by simp only [go_sem, ↓reduceIte, Int.reduceEq, Nat.reduceBEq, Int.reduceBEq, Nat.reduceAdd, Nat.reduceEqDiff, Nat.reduceLT, Nat.reduceSub]) rfl)
  | false =>
    cases c1 : decide (x.kind < 0) with
    | true => simp only [go_sem, ↓reduceIte, Int.reduceEq, Nat.reduceBEq, Int.reduceBEq, Nat.reduceAdd, Nat.reduceEqDiff, Nat.reduceLT, Nat.reduceSub, Ex.a, Gr.a, k1, k2, c1, Bool.true_or, Bool.false_or, Bool.or_true, Bool.or_false, Bool.not_true, Bool.not_false, Bool.false_and, Bool.true_and, Bool.and_false, Bool.and_true, Bool.or_self, Bool.and_self, Bool.false_eq_true, if_false, if_true]
    | false =>
    cases c2 : decide (x.kind > 6) with
    | true => simp only [go_sem, ↓reduceIte, Int.reduceEq, Nat.reduceBEq, Int.reduceBEq, Nat.reduceAdd, Nat.reduceEqDiff, Nat.reduceLT, Nat.reduceSub, Ex.a, Gr.a, k1, k2, c1, c2, Bool.true_or, Bool.false_or, Bool.or_true, Bool.or_false, Bool.not_true, Bool.not_false, Bool.false_and, Bool.true_and, Bool.and_false, Bool.and_true, Bool.or_self, Bool.and_self, Bool.false_eq_true, if_false, if_true]
    | false =>
    cases c3 : decide (x.num < 0) with
    | true => simp only [go_sem, ↓reduceIte, Int.reduceEq, Nat.reduceBEq, Int.reduceBEq, Nat.reduceAdd, Nat.reduceEqDiff, Nat.reduceLT, Nat.reduceSub, Ex.a, Gr.a, k1, k2, c1, c2, c3, Bool.true_or, Bool.false_or, Bool.or_true, Bool.or_false, Bool.not_true, Bool.not_false, Bool.false_and, Bool.true_and, Bool.and_false, Bool.and_true, Bool.or_self, Bool.and_self, Bool.false_eq_true, if_false, if_true]
    | false =>
    cases c4 : decide (x.num ≥ 1) with
    | true => simp only [go_sem, ↓reduceIte, Int.reduceEq, Nat.reduceBEq, Int.reduceBEq, Nat.reduceAdd, Nat.reduceEqDiff, Nat.reduceLT, Nat.reduceSub, Ex.a, Gr.a, k1, k2, c1, c2, c3, c4, Bool.true_or, Bool.false_or, Bool.or_true, Bool.or_false, Bool.not_true, Bool.not_false, Bool.false_and, Bool.true_and, Bool.and_false, Bool.and_true, Bool.or_self, Bool.and_self, Bool.false_eq_true, if_false, if_true]
    | false =>
    cases d1 : decide (x.kind ≤ 2) <;> cases d2 : decide ((x.l.length : Int) > 0) <;> cases d3 : (x.kind == 4) <;> cases d4 : ((x.l.length : Int) == 0) <;> cases d5 : decide (x.kind ≥ 5) <;> cases d6 : ((x.l.length : Int) != 1)
    all_goals first
      | (simp only [go_sem, ↓reduceIte, Int.reduceEq, Nat.reduceBEq, Int.reduceBEq, Nat.reduceAdd, Nat.reduceEqDiff, Nat.reduceLT, Nat.reduceSub, Ex.a, Gr.a, k1, k2, c1, c2, c3, c4, d1, d2, d3, d4, d5, d6, Bool.true_or, Bool.false_or, Bool.or_true, Bool.or_false, Bool.not_true, Bool.not_false, Bool.false_and, Bool.true_and, Bool.and_false, Bool.and_true, Bool.or_self, Bool.and_self, Bool.false_eq_true, if_false, if_true]; done)
      | (simp only [go_sem, ↓reduceIte, Int.reduceEq, Nat.reduceBEq, Int.reduceBEq, Nat.reduceAdd, Nat.reduceEqDiff, Nat.reduceLT, Nat.reduceSub, Ex.a, Gr.a, k1, k2, c1, c2, c3, c4, d1, d2, d3, d4, d5, d6, Bool.true_or, Bool.false_or, Bool.or_true, Bool.or_false, Bool.not_true, Bool.not_false, Bool.false_and, Bool.true_and, Bool.and_false, Bool.and_true, Bool.or_self, Bool.and_self, Bool.false_eq_true, if_false, if_true]; exact loop' _ _ (by simp only [go_sem, ↓reduceIte, Int.reduceEq, Nat.reduceBEq, Int.reduceBEq, Nat.reduceAdd, Nat.reduceEqDiff, Nat.reduceLT, Nat.reduceSub]) (by simp only [go_sem, ↓reduceIte, Int.reduceEq, Nat.reduceBEq, Int.reduceBEq, Nat.reduceAdd, Nat.reduceEqDiff, Nat.reduceLT, Nat.reduceSub]) (by simp only [go_sem, ↓reduceIte, Int.reduceEq, Nat.reduceBEq, Int.reduceBEq, Nat.reduceAdd, Nat.reduceEqDiff, Nat.reduceLT, Nat.reduceSub]) rfl)
termination_by x
decreasing_by exact Ex.sub_lt hy
end Go.Am

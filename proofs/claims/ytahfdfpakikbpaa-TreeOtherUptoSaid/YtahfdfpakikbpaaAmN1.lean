/- Part N1 of a proof that runs a program's calls on a small machine whose values bear no addresses: no conditions. -/
import Derived.Test.YtahfdfpakikbpaaAmF1
import Derived.Test.YtahfdfpakikbpaaAmS1
set_option autoImplicit false
set_option linter.unusedSimpArgs false
set_option linter.unusedVariables false
set_option linter.unusedSectionVars false
namespace Go.Am
open Go Go.Proofs

inductive Node where
  | mk (kind n pos : Int) (z : Bool) (l : List Node)
namespace Node
def kind : Node → Int | mk k _ _ _ _ => k
def num : Node → Int | mk _ n _ _ _ => n
def pos : Node → Int | mk _ _ p _ _ => p
def z : Node → Bool | mk _ _ _ z _ => z
def l : Node → List Node | mk _ _ _ _ l => l
def cs : Node → List D
  | mk k n p z l => [.int .i64 k, .int .i64 n, .int .i64 p, .slc (z && l.isEmpty) (l.map cs)]
def ld (x : Node) : A := .d (.slc (x.z && x.l.isEmpty) (x.l.map cs))
def c (x : Node) : List A := [.d (.int .i64 x.kind), .d (.int .i64 x.num), .d (.int .i64 x.pos), x.ld]
def a (x : Node) : A := .agg x.c
/-- how many nodes a walk meets -/
def size : Node → Nat
  | mk k _ _ _ l => 1 + (if k = 0 then (l.map size).sum else 0)
theorem size_eq (x : Node) : x.size = 1 + (if x.kind = 0 then (x.l.map size).sum else 0) := by cases x; rw [size]; rfl
theorem cs_map (x : Node) : x.cs.map A.d = x.c := by cases x; simp [cs, c, ld, kind, num, pos, z, l]
theorem cs_len (x : Node) : x.cs.length = 4 := by cases x; simp [cs]
theorem c_len (x : Node) : x.c.length = 4 := rfl
theorem c_take (x : Node) : x.c.take 4 = x.c := rfl
theorem c_0 (x : Node) : x.c[0]? = some (.d (.int .i64 x.kind)) := rfl
theorem c_1 (x : Node) : x.c[1]? = some (.d (.int .i64 x.num)) := rfl
theorem c_2 (x : Node) : x.c[2]? = some (.d (.int .i64 x.pos)) := rfl
theorem c_3 (x : Node) : x.c[3]? = some x.ld := rfl
theorem len_ld (σ : St) (x : Node) : sliceLen σ x.ld = some x.l.length := by simp [ld, sliceLen]
theorem refs_ld (x : Node) : x.ld.refs = [] := by simp [ld, A.refs]
theorem sub_lt {x y : Node} (h : y ∈ x.l) : SizeOf.sizeOf y < SizeOf.sizeOf x := by
  cases x with
  | mk k n p z l => have := List.sizeOf_lt_of_mem h; simp only [Node.l] at this; simp; omega
theorem index_ld {σ : St} {x y : Node} {i : Nat} {kd : IntKind} (h : x.l[i]? = some y) : indexK σ 4 x.ld (.d (.int kd (i : Int))) = .val (.d (.vptr y.cs 0)) σ [] [] := by
  unfold ld; rw [indexK_d]; exact indexD_nat (by simp [h]) (cs_len y)
theorem c_cell (x : Node) : x.c.all A.isCell = true := by simp [c, ld, A.isCell]
theorem cells_ld (x : Node) : x.ld.cells = some [x.ld] := rfl
theorem isCell_ld (x : Node) : x.ld.isCell = true := rfl
attribute [go_sem] c_len c_take c_0 c_1 c_2 c_3 len_ld refs_ld cs_map c_cell cells_ld isCell_ld
end Node

variable {fz : Nat → Md}
theorem size1_run (hz : fz 53 = .keep) {d : Int} {x : Node} {k : Nat} {v : Int} {σ : St} (hk : σ.get k = .cells [.d (.int .i64 v)]) (hn : k < σ.n) :
    Run (XX fz) (.func 53 [.ptr k 0]) [.d (.int .i64 d), x.a] σ [k] (.d (.bool true)) fun σ' own => σ'.get k = .cells [.d (.int .i64 (IntKind.i64.wrap (v + 1)))] ∧ own = [k] := by
  have hne : k ≠ σ.n := by omega
  refine Run.keep hz fn53 (by simp) ?_
  simp only [Try.f53, Option.getD_some]
  simp only [go_sem, ↓reduceIte, Option.some.injEq, Bool.true_eq_false, Bool.false_eq_true, Int.reduceBEq, Int.reduceBNe, Int.reduceLT, Int.reduceLE, Nat.add_assoc, Nat.reduceAdd, Nat.reducePow, Nat.zero_le, Nat.reduceEqDiff, Nat.reduceLT, Nat.reduceLeDiff, Nat.reduceMul, Nat.reduceSub, Nat.add_left_cancel_iff, Nat.lt_irrefl, Nat.le_refl, Nat.add_eq_left, Nat.left_eq_add, beq_self_eq_true, Node.a, hk, hne]
  exact ⟨[k], Kept.refl.push.write (by simp), rfl⟩

mutual
/-- a walk through a tree: what its visits make of a state -/
def walkP {S : Type} (stp : Int → Node → S → Bool × S) : Node → Int → S → Bool × S
  | .mk k n p z l, d, s =>
    let r := stp d (.mk k n p z l) s
    if r.1 = false then (false, r.2) else if k ≠ 0 then (true, r.2) else walkL stp l (IntKind.i64.wrap (d + 1)) r.2
def walkL {S : Type} (stp : Int → Node → S → Bool × S) : List Node → Int → S → Bool × S
  | [], _, s => (true, s)
  | x :: l, d, s =>
    let r := walkP stp x d s
    if r.1 = false then (false, r.2) else walkL stp l d r.2
end
theorem walkP_eq {S : Type} (stp : Int → Node → S → Bool × S) (x : Node) (d : Int) (s : S) : walkP stp x d s =
    if (stp d x s).1 = false then (false, (stp d x s).2) else if x.kind ≠ 0 then (true, (stp d x s).2) else walkL stp x.l (IntKind.i64.wrap (d + 1)) (stp d x s).2 := by
  cases x; rw [walkP]; rfl

/-- what a visit asks of memory -/
structure Visits (fz : Nat → Md) (S : Type) (vis : A) (stp : Int → Node → S → Bool × S) (G : Int → Node → Prop) (I : Nat → S → St → List Nat → Prop) : Prop where
  stay : ∀ b s σ τ own, I b s σ own → σ.n ≤ τ.n → (∀ k ∈ own, τ.get k = σ.get k) → I b s τ own
  lt : ∀ b s σ own k, I b s σ own → k ∈ own → k < σ.n
  less : ∀ b s σ own, I (b + 1) s σ own → I b s σ own
  vis : ∀ b d x s σ own, G d x → I (b + 1) s σ own → Run (XX fz) vis [.d (.int .i64 d), x.a] σ own (.d (.bool (stp d x s).1)) fun σ' own' => I b (stp d x s).2 σ' own'
  sub : ∀ d x y, G d x → x.kind = 0 → y ∈ x.l → G (IntKind.i64.wrap (d + 1)) y
  len : ∀ d x, G d x → x.l.length < 1000000000

theorem Visits.push {S : Type} {vis : A} {stp : Int → Node → S → Bool × S} {G : Int → Node → Prop} {I : Nat → S → St → List Nat → Prop} (V : Visits fz S vis stp G I) {m : Nat} {s : S} {σ : St} {own : List Nat} {b : Blk} (h : I m s σ own) : I m s (σ.push b) own :=
  V.stay _ _ _ _ _ h (by simp [St.n_push]) fun k hk => St.get_push_ne (V.lt _ _ _ _ _ h hk)
theorem Visits.set {S : Type} {vis : A} {stp : Int → Node → S → Bool × S} {G : Int → Node → Prop} {I : Nat → S → St → List Nat → Prop} (V : Visits fz S vis stp G I) {m : Nat} {s : S} {σ : St} {own : List Nat} {b : Blk} {k : Nat} (h : I m s σ own) (hk : k ∉ own) : I m s (σ.set k b) own :=
  V.stay _ _ _ _ _ h (Nat.le_refl _) fun j hj => St.get_set_ne (by rintro rfl; exact hk hj)
theorem Visits.le {S : Type} {vis : A} {stp : Int → Node → S → Bool × S} {G : Int → Node → Prop} {I : Nat → S → St → List Nat → Prop} (V : Visits fz S vis stp G I) {m n : Nat} {s : S} {σ : St} {own : List Nat} (hn : n ≤ m) (h : I m s σ own) : I n s σ own := by
  induction hn with
  | refl => exact h
  | step _ ih => exact ih (V.less _ _ _ _ h)

set_option maxHeartbeats 1000000 in
theorem walk_run (hz : fz 52 = .keep) {S : Type} {vis : A} {stp : Int → Node → S → Bool × S} {G : Int → Node → Prop} {I : Nat → S → St → List Nat → Prop} (V : Visits fz S vis stp G I)
    (b : Nat) (x : Node) (d : Int) (s : S) (σ : St) (own : List Nat) (hG : G d x) (hI : I (b + x.size) s σ own) : Run (XX fz) (.func 52 []) [x.a, .d (.int .i64 d), vis] σ own (.d (.bool (walkP stp x d s).1)) fun σ' own' => I b (walkP stp x d s).2 σ' own' := by
    have hself : σ.n ∉ own := fun h => by have := V.lt _ _ _ _ _ hI h; omega
    have hsz := x.size_eq
    have hI0 : I (b + (if x.kind = 0 then (x.l.map Node.size).sum else 0) + 1) s σ own := by rw [hsz] at hI; rw [Nat.add_assoc, Nat.add_comm _ 1]; exact hI
    obtain ⟨σ1, T, own1, hc, hK1, hI1⟩ := V.vis _ d x s (σ.push (.cells x.c)) own hG (V.push hI0)
    have hb : σ1.get σ.n = .cells x.c := by
      rw [hK1.same σ.n (by simp [St.n_push]) hself]; exact St.get_push_eq
    have hK : Kept σ own σ1 own1 (low σ.n T) := (Kept.refl (σ := σ) (own := own) |>.push (b := .cells x.c)).call hK1
    generalize hr : walkP stp x d s = r
    rw [walkP_eq] at hr
    refine Run.keep hz fn52 (by simp) ?_
    simp only [Try.f52, Option.getD_some]
    simp only [go_sem, ↓reduceIte, Option.some.injEq, Bool.true_eq_false, Bool.false_eq_true, Int.reduceBEq, Int.reduceBNe, Int.reduceLT, Int.reduceLE, Nat.add_assoc, Nat.reduceAdd, Nat.reducePow, Nat.zero_le, Nat.reduceEqDiff, Nat.reduceLT, Nat.reduceLeDiff, Nat.reduceMul, Nat.reduceSub, Nat.add_left_cancel_iff, Nat.lt_irrefl, Nat.le_refl, Nat.add_eq_left, Nat.left_eq_add, beq_self_eq_true, Node.a]
    refine ⟨_, _, _, hc, ?_⟩
    cases h1 : (stp d x s).1 with
    | false =>
      simp only [go_sem, ↓reduceIte, Option.some.injEq, Bool.true_eq_false, Bool.false_eq_true, Int.reduceBEq, Int.reduceBNe, Int.reduceLT, Int.reduceLE, Nat.add_assoc, Nat.reduceAdd, Nat.reducePow, Nat.zero_le, Nat.reduceEqDiff, Nat.reduceLT, Nat.reduceLeDiff, Nat.reduceMul, Nat.reduceSub, Nat.add_left_cancel_iff, Nat.lt_irrefl, Nat.le_refl, Nat.add_eq_left, Nat.left_eq_add, beq_self_eq_true]
      rw [if_pos h1] at hr; subst hr
      exact ⟨rfl, _, hK, V.le (by omega) hI1⟩
    | true =>
      rw [if_neg (by simp [h1])] at hr
      simp only [go_sem, ↓reduceIte, Option.some.injEq, Bool.true_eq_false, Bool.false_eq_true, Int.reduceBEq, Int.reduceBNe, Int.reduceLT, Int.reduceLE, Nat.add_assoc, Nat.reduceAdd, Nat.reducePow, Nat.zero_le, Nat.reduceEqDiff, Nat.reduceLT, Nat.reduceLeDiff, Nat.reduceMul, Nat.reduceSub, Nat.add_left_cancel_iff, Nat.lt_irrefl, Nat.le_refl, Nat.add_eq_left, Nat.left_eq_add, beq_self_eq_true, hb]
      cases hk : (x.kind != 0) with
      | true =>
        simp only [go_sem, ↓reduceIte, Option.some.injEq, Bool.true_eq_false, Bool.false_eq_true, Int.reduceBEq, Int.reduceBNe, Int.reduceLT, Int.reduceLE, Nat.add_assoc, Nat.reduceAdd, Nat.reducePow, Nat.zero_le, Nat.reduceEqDiff, Nat.reduceLT, Nat.reduceLeDiff, Nat.reduceMul, Nat.reduceSub, Nat.add_left_cancel_iff, Nat.lt_irrefl, Nat.le_refl, Nat.add_eq_left, Nat.left_eq_add, beq_self_eq_true]
        rw [if_pos (by simpa using hk)] at hr; subst hr
        exact ⟨rfl, _, hK, V.le (by omega) hI1⟩
      | false =>
        rw [if_neg (by simpa using hk)] at hr
        rw [if_pos (by simpa using hk)] at hI1
        simp only [go_sem, ↓reduceIte, Option.some.injEq, Bool.true_eq_false, Bool.false_eq_true, Int.reduceBEq, Int.reduceBNe, Int.reduceLT, Int.reduceLE, Nat.add_assoc, Nat.reduceAdd, Nat.reducePow, Nat.zero_le, Nat.reduceEqDiff, Nat.reduceLT, Nat.reduceLeDiff, Nat.reduceMul, Nat.reduceSub, Nat.add_left_cancel_iff, Nat.lt_irrefl, Nat.le_refl, Nat.add_eq_left, Nat.left_eq_add, beq_self_eq_true, hb]
        refine Ev.loop_ind (fun m tm σ' W => ∃ (i : Nat) (s' : S) (own' : List Nat), m = x.l.length - i ∧ i ≤ x.l.length ∧ I (b + ((x.l.drop i).map Node.size).sum) s' σ' own' ∧ Kept σ own σ' own' W ∧
          walkL stp (x.l.drop i) (IntKind.i64.wrap (d + 1)) s' = r ∧ tm.at 1 = .d (.int .i64 d) ∧ tm.at 2 = vis ∧ tm.at 18 = x.ld ∧ tm.at 19 = .d (.int .i64 x.l.length) ∧ tm.at 20 = .d (.int .i64 i)) ?_ _ _ _ _ ⟨0, _, own1, rfl, by omega, by rw [List.drop_zero]; exact hI1, hK, by rw [List.drop_zero]; exact hr, ?_⟩
        · rintro m tm σ' W ⟨i, s', own', rfl, hi, hI', hK', he, t1, t2, t18, t19, t20⟩ ih
          by_cases hl : i < x.l.length
          · have hd : decide ((i : Int) < (x.l.length : Int)) = true := by simpa using hl
            have hget : x.l[i]? = some x.l[i] := by simp [hl]
            have hmem : x.l[i] ∈ x.l := List.getElem_mem hl
            rw [List.drop_eq_getElem_cons hl, walkL] at he
            rw [List.drop_eq_getElem_cons hl, List.map_cons, List.sum_cons, Nat.add_comm (Node.size _), ← Nat.add_assoc] at hI'
            obtain ⟨σ2, T2, own2, hc2, hK2, hI2⟩ := walk_run hz V _ x.l[i] (IntKind.i64.wrap (d + 1)) s' ((σ'.push (.cells [.d (.int .i64 0), .d (.int .i64 0), .d (.int .i64 0), .d (.slc true [])])).set σ'.n (.cells x.l[i].c)) own' (V.sub _ _ _ hG (by simpa using hk) hmem)
              (V.set (V.push hI') fun h => by have := V.lt _ _ _ _ _ hI' h; omega)
            have hK3 : Kept σ own σ2 own2 (W ++ low σ.n [σ'.n] ++ low σ.n T2) := (hK'.push.write (.inr hK'.n)).call hK2
            simp only [go_sem, ↓reduceIte, Option.some.injEq, Bool.true_eq_false, Bool.false_eq_true, Int.reduceBEq, Int.reduceBNe, Int.reduceLT, Int.reduceLE, Nat.add_assoc, Nat.reduceAdd, Nat.reducePow, Nat.zero_le, Nat.reduceEqDiff, Nat.reduceLT, Nat.reduceLeDiff, Nat.reduceMul, Nat.reduceSub, Nat.add_left_cancel_iff, Nat.lt_irrefl, Nat.le_refl, Nat.add_eq_left, Nat.left_eq_add, beq_self_eq_true, t1, t2, t18, t19, t20, hd, Node.index_ld hget]
            refine ⟨_, _, _, hc2, ?_⟩
            cases h2 : (walkP stp x.l[i] (IntKind.i64.wrap (d + 1)) s').1 with
            | false =>
              simp only [go_sem, ↓reduceIte, Option.some.injEq, Bool.true_eq_false, Bool.false_eq_true, Int.reduceBEq, Int.reduceBNe, Int.reduceLT, Int.reduceLE, Nat.add_assoc, Nat.reduceAdd, Nat.reducePow, Nat.zero_le, Nat.reduceEqDiff, Nat.reduceLT, Nat.reduceLeDiff, Nat.reduceMul, Nat.reduceSub, Nat.add_left_cancel_iff, Nat.lt_irrefl, Nat.le_refl, Nat.add_eq_left, Nat.left_eq_add, beq_self_eq_true]
              simp only [h2, if_true] at he
              subst he
              exact ⟨rfl, _, hK3, V.le (by omega) hI2⟩
            | true =>
              simp only [h2, Bool.true_eq_false, if_false] at he
              have hlen := V.len _ x hG
              have hw : IntKind.i64.wrap ((i : Int) + 1) = ((i + 1 : Nat) : Int) := by rw [wrap_small (by omega) (by omega)]; rfl
              simp only [go_sem, ↓reduceIte, Option.some.injEq, Bool.true_eq_false, Bool.false_eq_true, Int.reduceBEq, Int.reduceBNe, Int.reduceLT, Int.reduceLE, Nat.add_assoc, Nat.reduceAdd, Nat.reducePow, Nat.zero_le, Nat.reduceEqDiff, Nat.reduceLT, Nat.reduceLeDiff, Nat.reduceMul, Nat.reduceSub, Nat.add_left_cancel_iff, Nat.lt_irrefl, Nat.le_refl, Nat.add_eq_left, Nat.left_eq_add, beq_self_eq_true, t1, t2, t18, t19, t20, hw]
              exact ih _ _ _ _ (by omega) ⟨i + 1, _, _, rfl, hl, hI2, hK3, he, by simp only [go_sem, ↓reduceIte, Option.some.injEq, Bool.true_eq_false, Bool.false_eq_true, Int.reduceBEq, Int.reduceBNe, Int.reduceLT, Int.reduceLE, Nat.add_assoc, Nat.reduceAdd, Nat.reducePow, Nat.zero_le, Nat.reduceEqDiff, Nat.reduceLT, Nat.reduceLeDiff, Nat.reduceMul, Nat.reduceSub, Nat.add_left_cancel_iff, Nat.lt_irrefl, Nat.le_refl, Nat.add_eq_left, Nat.left_eq_add, beq_self_eq_true, t1], by simp only [go_sem, ↓reduceIte, Option.some.injEq, Bool.true_eq_false, Bool.false_eq_true, Int.reduceBEq, Int.reduceBNe, Int.reduceLT, Int.reduceLE, Nat.add_assoc, Nat.reduceAdd, Nat.reducePow, Nat.zero_le, Nat.reduceEqDiff, Nat.reduceLT, Nat.reduceLeDiff, Nat.reduceMul, Nat.reduceSub, Nat.add_left_cancel_iff, Nat.lt_irrefl, Nat.le_refl, Nat.add_eq_left, Nat.left_eq_add, beq_self_eq_true, t2], by simp only [go_sem, ↓reduceIte, Option.some.injEq, Bool.true_eq_false, Bool.false_eq_true, Int.reduceBEq, Int.reduceBNe, Int.reduceLT, Int.reduceLE, Nat.add_assoc, Nat.reduceAdd, Nat.reducePow, Nat.zero_le, Nat.reduceEqDiff, Nat.reduceLT, Nat.reduceLeDiff, Nat.reduceMul, Nat.reduceSub, Nat.add_left_cancel_iff, Nat.lt_irrefl, Nat.le_refl, Nat.add_eq_left, Nat.left_eq_add, beq_self_eq_true, t18], by simp only [go_sem, ↓reduceIte, Option.some.injEq, Bool.true_eq_false, Bool.false_eq_true, Int.reduceBEq, Int.reduceBNe, Int.reduceLT, Int.reduceLE, Nat.add_assoc, Nat.reduceAdd, Nat.reducePow, Nat.zero_le, Nat.reduceEqDiff, Nat.reduceLT, Nat.reduceLeDiff, Nat.reduceMul, Nat.reduceSub, Nat.add_left_cancel_iff, Nat.lt_irrefl, Nat.le_refl, Nat.add_eq_left, Nat.left_eq_add, beq_self_eq_true, t19], by simp only [go_sem, ↓reduceIte, Option.some.injEq, Bool.true_eq_false, Bool.false_eq_true, Int.reduceBEq, Int.reduceBNe, Int.reduceLT, Int.reduceLE, Nat.add_assoc, Nat.reduceAdd, Nat.reducePow, Nat.zero_le, Nat.reduceEqDiff, Nat.reduceLT, Nat.reduceLeDiff, Nat.reduceMul, Nat.reduceSub, Nat.add_left_cancel_iff, Nat.lt_irrefl, Nat.le_refl, Nat.add_eq_left, Nat.left_eq_add, beq_self_eq_true]⟩
          · have hd : decide ((i : Int) < (x.l.length : Int)) = false := by simpa using hl
            simp only [go_sem, ↓reduceIte, Option.some.injEq, Bool.true_eq_false, Bool.false_eq_true, Int.reduceBEq, Int.reduceBNe, Int.reduceLT, Int.reduceLE, Nat.add_assoc, Nat.reduceAdd, Nat.reducePow, Nat.zero_le, Nat.reduceEqDiff, Nat.reduceLT, Nat.reduceLeDiff, Nat.reduceMul, Nat.reduceSub, Nat.add_left_cancel_iff, Nat.lt_irrefl, Nat.le_refl, Nat.add_eq_left, Nat.left_eq_add, beq_self_eq_true, t1, t2, t18, t19, t20, hd]
            rw [List.drop_eq_nil_of_le (by omega), walkL] at he
            rw [List.drop_eq_nil_of_le (by omega)] at hI'
            subst he
            exact ⟨rfl, _, hK', hI'⟩
        · simp only [go_sem, ↓reduceIte, Option.some.injEq, Bool.true_eq_false, Bool.false_eq_true, Int.reduceBEq, Int.reduceBNe, Int.reduceLT, Int.reduceLE, Nat.add_assoc, Nat.reduceAdd, Nat.reducePow, Nat.zero_le, Nat.reduceEqDiff, Nat.reduceLT, Nat.reduceLeDiff, Nat.reduceMul, Nat.reduceSub, Nat.add_left_cancel_iff, Nat.lt_irrefl, Nat.le_refl, Nat.add_eq_left, Nat.left_eq_add, beq_self_eq_true]; rfl
termination_by x
decreasing_by exact Node.sub_lt hmem
end Go.Am
namespace Go.Am
open Go Go.Proofs
variable {fz : Nat → Md}

namespace Node
/-- how many nodes, all of them -/
def sz : Node → Nat
  | mk _ _ _ _ l => 1 + (l.map sz).sum
theorem sz_eq (x : Node) : x.sz = 1 + (x.l.map sz).sum := by cases x; rw [sz]; rfl
theorem le_sum : ∀ {l : List Node} {y : Node}, y ∈ l → y.sz ≤ (l.map sz).sum
  | x :: l, y, h => by
    rcases List.mem_cons.1 h with rfl | h
    · simp
    · have := le_sum h; simp; omega
theorem len_sum : ∀ {l : List Node}, l.length ≤ (l.map sz).sum
  | [] => by simp
  | x :: l => by have := len_sum (l := l); have := sz_eq x; simp; omega
theorem sz_sub {x y : Node} (h : y ∈ x.l) : y.sz < x.sz := by have := le_sum h; rw [sz_eq x]; omega
theorem len_lt (x : Node) : x.l.length < x.sz := by have := len_sum (l := x.l); rw [sz_eq x]; omega
theorem cs_all (l : List Node) : ∀ c ∈ l.map cs, c.length = 4 := by intro c h; obtain ⟨x, -, rfl⟩ := List.mem_map.1 h; exact cs_len x
end Node
/-- a row of nodes' cells -/
def rowC (l : List Node) : List A := ((l.map Node.cs).flatMap id).map A.d
theorem rowC_len (l : List Node) : (rowC l).length = l.length * 4 := by unfold rowC; rw [List.length_map, flat_len (Node.cs_all l), List.length_map]
theorem rowC_cell (l : List Node) : (rowC l).all A.isCell = true := by unfold rowC; simp [A.isCell]
theorem rowC_at {l : List Node} {i : Nat} {x : Node} (h : l[i]? = some x) : ((rowC l).drop (i * 4)).take 4 = x.c := by
  unfold rowC; rw [← List.map_drop, ← List.map_take, flat_at (c := x.cs) (Node.cs_all l) (by simp [h]), Node.cs_map]

theorem clone_nil (hz : fz 96 = .keep) {σ : St} : CallsTo (XX fz) (.func 96 []) [.d (.slc true [])] σ (.d (.slc true [])) σ [] := by
  refine CallsTo.ofQ fn96 (by simp) ?_
  simp only [Try.f96, Option.getD_some]
  simp only [go_sem, ↓reduceIte, Option.some.injEq, Bool.true_eq_false, Bool.false_eq_true, Int.reduceBEq, Int.reduceBNe, Int.reduceLT, Int.reduceLE, Nat.add_assoc, Nat.reduceAdd, Nat.reducePow, Nat.zero_le, Nat.reduceEqDiff, Nat.reduceLT, Nat.reduceLeDiff, Nat.reduceMul, Nat.reduceSub, Nat.add_left_cancel_iff, Nat.lt_irrefl, Nat.le_refl, Nat.add_eq_left, Nat.left_eq_add, beq_self_eq_true]
  simp only [leaveCall, XX_fz, hz]
theorem clone_row (hz : fz 96 = .keep) {l : List Node} {z : Bool} {σ : St} (h : (z && l.isEmpty) = false) (hl : l.length < 1000000000) :
    CallsTo (XX fz) (.func 96 []) [.d (.slc (z && l.isEmpty) (l.map Node.cs))] σ (if l = [] then .row σ.n 0 0 4 else .row (σ.n + 1) 0 l.length 4)
      (if l = [] then σ.push (.cells []) else ((σ.push (.cells [])).set σ.n .dead).push (.cells (rowC l))) [] := by
  refine CallsTo.ofQ fn96 (by simp) ?_
  simp only [Try.f96, Option.getD_some]
  rw [h]
  simp only [go_sem, ↓reduceIte, Option.some.injEq, Bool.true_eq_false, Bool.false_eq_true, Int.reduceBEq, Int.reduceBNe, Int.reduceLT, Int.reduceLE, Nat.add_assoc, Nat.reduceAdd, Nat.reducePow, Nat.zero_le, Nat.reduceEqDiff, Nat.reduceLT, Nat.reduceLeDiff, Nat.reduceMul, Nat.reduceSub, Nat.add_left_cancel_iff, Nat.lt_irrefl, Nat.le_refl, Nat.add_eq_left, Nat.left_eq_add, beq_self_eq_true]
  have ha := appendA_row (b := 48) (x := .d (.slc false (l.map Node.cs))) (σ := σ.push (.cells [])) (k := σ.n) (off := 0) (len := 0) (es := 4) (n := l.length) (new := rowC l) St.get_push_eq rfl (by simp [sliceLen]) (rowC_len l) (rowC_cell l) (by simp) (by omega) (by omega)
  rw [ha]
  by_cases e : l = []
  · subst e
    simp only [go_sem, ↓reduceIte, Option.some.injEq, Bool.true_eq_false, Bool.false_eq_true, Int.reduceBEq, Int.reduceBNe, Int.reduceLT, Int.reduceLE, Nat.add_assoc, Nat.reduceAdd, Nat.reducePow, Nat.zero_le, Nat.reduceEqDiff, Nat.reduceLT, Nat.reduceLeDiff, Nat.reduceMul, Nat.reduceSub, Nat.add_left_cancel_iff, Nat.lt_irrefl, Nat.le_refl, Nat.add_eq_left, Nat.left_eq_add, beq_self_eq_true, List.isEmpty_nil, List.length_nil]
    simp [leaveCall, hz, XX_fz]
  · have e' : ¬ l.length = 0 := by simpa using e
    simp only [go_sem, ↓reduceIte, Option.some.injEq, Bool.true_eq_false, Bool.false_eq_true, Int.reduceBEq, Int.reduceBNe, Int.reduceLT, Int.reduceLE, Nat.add_assoc, Nat.reduceAdd, Nat.reducePow, Nat.zero_le, Nat.reduceEqDiff, Nat.reduceLT, Nat.reduceLeDiff, Nat.reduceMul, Nat.reduceSub, Nat.add_left_cancel_iff, Nat.lt_irrefl, Nat.le_refl, Nat.add_eq_left, Nat.left_eq_add, beq_self_eq_true, e', e]
    simp [leaveCall, hz, XX_fz, low]
end Go.Am
namespace Go.Am
open Go Go.Proofs
variable {fz : Nat → Md}

theorem own_nil_aux (x : Node) (h : (x.z && x.l.isEmpty) = true) : x.ld = .d (.slc true []) := by
  simp at h; simp [Node.ld, h]

theorem clone_any (hz : fz 96 = .keep) {l : List Node} {z : Bool} {σ : St} (h : (z && l.isEmpty) = false) (hl : l.length < 1000000000) :
    ∃ kr σ', CallsTo (XX fz) (.func 96 []) [.d (.slc (z && l.isEmpty) (l.map Node.cs))] σ (.row kr 0 l.length 4) σ' [] ∧ σ.n ≤ kr ∧ kr < σ'.n ∧ σ'.get kr = .cells (rowC l) ∧ σ.n ≤ σ'.n ∧ ∀ j, j < σ.n → σ'.get j = σ.get j := by
  have hc := clone_row hz (σ := σ) h hl
  by_cases e : l = []
  · subst e
    simp only [if_true] at hc
    exact ⟨_, _, hc, Nat.le_refl _, by simp [St.n_push], St.get_push_eq, by simp [St.n_push], fun j hj => St.get_push_ne hj⟩
  · simp only [e, if_false] at hc
    refine ⟨_, _, hc, by omega, by simp [St.n_push, St.n_set], ?_, by simp [St.n_push, St.n_set]; omega, fun j hj => ?_⟩
    · simp [St.get_push, St.n_set, St.n_push]
    · rw [St.get_push_ne (by simp [St.n_push, St.n_set]; omega), St.get_set_ne (by omega), St.get_push_ne hj]

theorem loadC (x : Node) (a : A) : [.d (.int .i64 x.kind), .d (.int .i64 x.num), .d (.int .i64 x.pos), a][3]? = some a := rfl
theorem own_call (h56 : fz 56 = .ice) (h96 : fz 96 = .keep) (x : Node) (σ : St) (hx : x.sz < 1000000000) : CallsTo (XX fz) (.func 56 []) [x.a] σ x.a σ [] := by
  refine CallsTo.ice0 h56 fn56 (by simp) ?_
  simp only [Try.f56, Option.getD_some]
  simp only [go_sem, ↓reduceIte, Option.some.injEq, Bool.true_eq_false, Bool.false_eq_true, Int.reduceBEq, Int.reduceBNe, Int.reduceLT, Int.reduceLE, Nat.add_assoc, Nat.reduceAdd, Nat.reducePow, Nat.zero_le, Nat.reduceEqDiff, Nat.reduceLT, Nat.reduceLeDiff, Nat.reduceMul, Nat.reduceSub, Nat.add_left_cancel_iff, Nat.lt_irrefl, Nat.le_refl, Nat.add_eq_left, Nat.left_eq_add, beq_self_eq_true, Node.a]
  have hlen := x.len_lt
  cases hz : (x.z && x.l.isEmpty) with
  | true =>
    rw [own_nil_aux x hz]
    refine ⟨_, _, _, clone_nil h96, ?_⟩
    simp only [go_sem, ↓reduceIte, Option.some.injEq, Bool.true_eq_false, Bool.false_eq_true, Int.reduceBEq, Int.reduceBNe, Int.reduceLT, Int.reduceLE, Nat.add_assoc, Nat.reduceAdd, Nat.reducePow, Nat.zero_le, Nat.reduceEqDiff, Nat.reduceLT, Nat.reduceLeDiff, Nat.reduceMul, Nat.reduceSub, Nat.add_left_cancel_iff, Nat.lt_irrefl, Nat.le_refl, Nat.add_eq_left, Nat.left_eq_add, beq_self_eq_true, Node.c, own_nil_aux x hz]
    refine Ev.loop_ind (fun m tm σ' W => m = 0 ∧ W = [] ∧ σ' = ((σ.push (.cells x.c)).push (.cells [.d (.int .i64 0), .d (.int .i64 0), .d (.int .i64 0), .d (.slc true [])])).set σ.n (.cells x.c) ∧ tm.at 1 = .ptr σ.n 0 ∧ tm.at 2 = .ptr (σ.n + 1) 0 ∧ tm.at 10 = .d (.int .i64 0) ∧ tm.at 11 = .d (.int .i64 0)) ?_ 0 _ _ _ ⟨rfl, rfl, ?_, ?_, ?_, ?_, ?_⟩
    · rintro m tm σ' W ⟨-, rfl, rfl, t1, t2, t10, t11⟩ -
      simp only [go_sem, ↓reduceIte, Option.some.injEq, Bool.true_eq_false, Bool.false_eq_true, Int.reduceBEq, Int.reduceBNe, Int.reduceLT, Int.reduceLE, Nat.add_assoc, Nat.reduceAdd, Nat.reducePow, Nat.zero_le, Nat.reduceEqDiff, Nat.reduceLT, Nat.reduceLeDiff, Nat.reduceMul, Nat.reduceSub, Nat.add_left_cancel_iff, Nat.lt_irrefl, Nat.le_refl, Nat.add_eq_left, Nat.left_eq_add, beq_self_eq_true, t1, t2, t10, t11, Int.lt_irrefl]
      simp only [go_sem, ↓reduceIte, Option.some.injEq, Bool.true_eq_false, Bool.false_eq_true, Int.reduceBEq, Int.reduceBNe, Int.reduceLT, Int.reduceLE, Nat.add_assoc, Nat.reduceAdd, Nat.reducePow, Nat.zero_le, Nat.reduceEqDiff, Nat.reduceLT, Nat.reduceLeDiff, Nat.reduceMul, Nat.reduceSub, Nat.add_left_cancel_iff, Nat.lt_irrefl, Nat.le_refl, Nat.add_eq_left, Nat.left_eq_add, beq_self_eq_true, fzDepth, Node.c, own_nil_aux x hz]
    · rw [Node.c, own_nil_aux x hz]
    all_goals first | rfl | (simp only [go_sem, ↓reduceIte, Option.some.injEq, Bool.true_eq_false, Bool.false_eq_true, Int.reduceBEq, Int.reduceBNe, Int.reduceLT, Int.reduceLE, Nat.add_assoc, Nat.reduceAdd, Nat.reducePow, Nat.zero_le, Nat.reduceEqDiff, Nat.reduceLT, Nat.reduceLeDiff, Nat.reduceMul, Nat.reduceSub, Nat.add_left_cancel_iff, Nat.lt_irrefl, Nat.le_refl, Nat.add_eq_left, Nat.left_eq_add, beq_self_eq_true]; done) | (simp only [go_sem, ↓reduceIte, Option.some.injEq, Bool.true_eq_false, Bool.false_eq_true, Int.reduceBEq, Int.reduceBNe, Int.reduceLT, Int.reduceLE, Nat.add_assoc, Nat.reduceAdd, Nat.reducePow, Nat.zero_le, Nat.reduceEqDiff, Nat.reduceLT, Nat.reduceLeDiff, Nat.reduceMul, Nat.reduceSub, Nat.add_left_cancel_iff, Nat.lt_irrefl, Nat.le_refl, Nat.add_eq_left, Nat.left_eq_add, beq_self_eq_true]; rfl)
  | false =>
    obtain ⟨kr, σ1, hc, k1, k2, k3, k4, k5⟩ := clone_any h96 (σ := ((σ.push (.cells x.c)).push (.cells [.d (.int .i64 0), .d (.int .i64 0), .d (.int .i64 0), .d (.slc true [])]))) hz (by omega)
    refine ⟨_, _, _, hc, ?_⟩
    have b0 : σ1.get σ.n = .cells x.c := by rw [k5 _ (by simp [St.n_push]; omega)]; simp [St.get_push, St.n_push]
    have b1 : σ1.get (σ.n + 1) = .cells [.d (.int .i64 0), .d (.int .i64 0), .d (.int .i64 0), .d (.slc true [])] := by rw [k5 _ (by simp [St.n_push])]; simp [St.get_push, St.n_push]
    simp only [St.n_push] at k1 k4
    have n0 : kr ≠ σ.n := by omega
    have n1 : kr ≠ σ.n + 1 := by omega
    simp only [go_sem, ↓reduceIte, Option.some.injEq, Bool.true_eq_false, Bool.false_eq_true, Int.reduceBEq, Int.reduceBNe, Int.reduceLT, Int.reduceLE, Nat.add_assoc, Nat.reduceAdd, Nat.reducePow, Nat.zero_le, Nat.reduceEqDiff, Nat.reduceLT, Nat.reduceLeDiff, Nat.reduceMul, Nat.reduceSub, Nat.add_left_cancel_iff, Nat.lt_irrefl, Nat.le_refl, Nat.add_eq_left, Nat.left_eq_add, beq_self_eq_true, b0, Node.c]
    have hal : ((σ1.set σ.n (.cells [.d (.int .i64 x.kind), .d (.int .i64 x.num), .d (.int .i64 x.pos), .row kr 0 x.l.length 4])).get kr) = .cells (rowC x.l) := by rw [St.get_set_ne n0, k3]
    simp only [go_sem, ↓reduceIte, Option.some.injEq, Bool.true_eq_false, Bool.false_eq_true, Int.reduceBEq, Int.reduceBNe, Int.reduceLT, Int.reduceLE, Nat.add_assoc, Nat.reduceAdd, Nat.reducePow, Nat.zero_le, Nat.reduceEqDiff, Nat.reduceLT, Nat.reduceLeDiff, Nat.reduceMul, Nat.reduceSub, Nat.add_left_cancel_iff, Nat.lt_irrefl, Nat.le_refl, Nat.add_eq_left, Nat.left_eq_add, beq_self_eq_true, n0, k3]
    generalize hσ : σ1.set σ.n (.cells [.d (.int .i64 x.kind), .d (.int .i64 x.num), .d (.int .i64 x.pos), .row kr 0 x.l.length 4]) = σ2
    have c0 : σ2.get σ.n = .cells [.d (.int .i64 x.kind), .d (.int .i64 x.num), .d (.int .i64 x.pos), .row kr 0 x.l.length 4] := by rw [← hσ, St.get_set_eq]
    have c1 : σ2.get (σ.n + 1) = .cells [.d (.int .i64 0), .d (.int .i64 0), .d (.int .i64 0), .d (.slc true [])] := by rw [← hσ, St.get_set_ne (by omega), b1]
    have c2 : σ2.get kr = .cells (rowC x.l) := by rw [← hσ]; exact hal
    refine Ev.loop_ind (fun m tm σ' W => ∃ i : Nat, m = x.l.length - i ∧ i ≤ x.l.length ∧ W = [] ∧ σ' = σ2 ∧ tm.at 1 = .ptr σ.n 0 ∧ tm.at 2 = .ptr (σ.n + 1) 0 ∧ tm.at 10 = .d (.int .i64 x.l.length) ∧ tm.at 11 = .d (.int .i64 i)) ?_ x.l.length _ _ _ ⟨0, rfl, by omega, rfl, rfl, ?_, ?_, ?_, ?_⟩
    · rintro m tm σ' W ⟨i, rfl, hi, rfl, rfl, t1, t2, t10, t11⟩ ih
      by_cases hl : i < x.l.length
      · have hd : decide ((i : Int) < (x.l.length : Int)) = true := by simpa using hl
        have hget : x.l[i]? = some x.l[i] := by simp [hl]
        have hmem : x.l[i] ∈ x.l := List.getElem_mem hl
        have hoc := own_call h56 h96 x.l[i] σ' (by have := Node.sz_sub hmem; omega)
        have hle : i * 4 + 4 ≤ x.l.length * 4 := by omega
        simp only [go_sem, ↓reduceIte, Option.some.injEq, Bool.true_eq_false, Bool.false_eq_true, Int.reduceBEq, Int.reduceBNe, Int.reduceLT, Int.reduceLE, Nat.add_assoc, Nat.reduceAdd, Nat.reducePow, Nat.zero_le, Nat.reduceEqDiff, Nat.reduceLT, Nat.reduceLeDiff, Nat.reduceMul, Nat.reduceSub, Nat.add_left_cancel_iff, Nat.lt_irrefl, Nat.le_refl, Nat.add_eq_left, Nat.left_eq_add, beq_self_eq_true, t1, t2, t10, t11, hd, c0, c2, indexR_nat hl, hle, rowC_at hget, rowC_len]
        refine ⟨_, _, _, hoc, ?_⟩
        have hst : storeC 4 (i * 4) x.l[i].c (rowC x.l) = some (rowC x.l) := by
          unfold storeC; rw [if_pos ⟨rfl, by rw [rowC_len]; exact hle, Node.c_cell _⟩, putAt_same (by rw [Node.c_len]; exact rowC_at hget)]
        simp only [go_sem, ↓reduceIte, Option.some.injEq, Bool.true_eq_false, Bool.false_eq_true, Int.reduceBEq, Int.reduceBNe, Int.reduceLT, Int.reduceLE, Nat.add_assoc, Nat.reduceAdd, Nat.reducePow, Nat.zero_le, Nat.reduceEqDiff, Nat.reduceLT, Nat.reduceLeDiff, Nat.reduceMul, Nat.reduceSub, Nat.add_left_cancel_iff, Nat.lt_irrefl, Nat.le_refl, Nat.add_eq_left, Nat.left_eq_add, beq_self_eq_true, Node.a, t1, t2, t10, t11, hd, c0, c2, indexR_nat hl, hst]
        have hw : IntKind.i64.wrap ((i : Int) + 1) = ((i + 1 : Nat) : Int) := by rw [wrap_small (by omega) (by omega)]; rfl
        refine ⟨drawOk_end _ rfl rfl (by kernel_rfl), ?_⟩
        have hsame : σ'.set kr (.cells (rowC x.l)) = σ' := by rw [← c2, St.set_get]
        rw [hsame, low_cons_ge (by omega), hw]
        exact ih _ _ _ _ (by omega) ⟨i + 1, rfl, hl, rfl, rfl, by simp only [go_sem, ↓reduceIte, Option.some.injEq, Bool.true_eq_false, Bool.false_eq_true, Int.reduceBEq, Int.reduceBNe, Int.reduceLT, Int.reduceLE, Nat.add_assoc, Nat.reduceAdd, Nat.reducePow, Nat.zero_le, Nat.reduceEqDiff, Nat.reduceLT, Nat.reduceLeDiff, Nat.reduceMul, Nat.reduceSub, Nat.add_left_cancel_iff, Nat.lt_irrefl, Nat.le_refl, Nat.add_eq_left, Nat.left_eq_add, beq_self_eq_true, t1], by simp only [go_sem, ↓reduceIte, Option.some.injEq, Bool.true_eq_false, Bool.false_eq_true, Int.reduceBEq, Int.reduceBNe, Int.reduceLT, Int.reduceLE, Nat.add_assoc, Nat.reduceAdd, Nat.reducePow, Nat.zero_le, Nat.reduceEqDiff, Nat.reduceLT, Nat.reduceLeDiff, Nat.reduceMul, Nat.reduceSub, Nat.add_left_cancel_iff, Nat.lt_irrefl, Nat.le_refl, Nat.add_eq_left, Nat.left_eq_add, beq_self_eq_true, t2], by simp only [go_sem, ↓reduceIte, Option.some.injEq, Bool.true_eq_false, Bool.false_eq_true, Int.reduceBEq, Int.reduceBNe, Int.reduceLT, Int.reduceLE, Nat.add_assoc, Nat.reduceAdd, Nat.reducePow, Nat.zero_le, Nat.reduceEqDiff, Nat.reduceLT, Nat.reduceLeDiff, Nat.reduceMul, Nat.reduceSub, Nat.add_left_cancel_iff, Nat.lt_irrefl, Nat.le_refl, Nat.add_eq_left, Nat.left_eq_add, beq_self_eq_true, t10], by simp only [go_sem, ↓reduceIte, Option.some.injEq, Bool.true_eq_false, Bool.false_eq_true, Int.reduceBEq, Int.reduceBNe, Int.reduceLT, Int.reduceLE, Nat.add_assoc, Nat.reduceAdd, Nat.reducePow, Nat.zero_le, Nat.reduceEqDiff, Nat.reduceLT, Nat.reduceLeDiff, Nat.reduceMul, Nat.reduceSub, Nat.add_left_cancel_iff, Nat.lt_irrefl, Nat.le_refl, Nat.add_eq_left, Nat.left_eq_add, beq_self_eq_true]⟩
      · have hd : decide ((i : Int) < (x.l.length : Int)) = false := by simpa using hl
        simp only [go_sem, ↓reduceIte, Option.some.injEq, Bool.true_eq_false, Bool.false_eq_true, Int.reduceBEq, Int.reduceBNe, Int.reduceLT, Int.reduceLE, Nat.add_assoc, Nat.reduceAdd, Nat.reducePow, Nat.zero_le, Nat.reduceEqDiff, Nat.reduceLT, Nat.reduceLeDiff, Nat.reduceMul, Nat.reduceSub, Nat.add_left_cancel_iff, Nat.lt_irrefl, Nat.le_refl, Nat.add_eq_left, Nat.left_eq_add, beq_self_eq_true, t1, t2, t10, t11, hd, c0, c1, fzDepth]
        have hfz : freeze (σ'.set (σ.n + 1) (.cells [.d (.int .i64 x.kind), .d (.int .i64 x.num), .d (.int .i64 x.pos), .row kr 0 x.l.length 4])) σ.n 999999999996 (.row kr 0 x.l.length 4) = some (.slc false (x.l.map Node.cs)) := by
          rw [freeze_row (cs := rowC x.l) (ds := (x.l.map Node.cs).flatMap id) (by omega) (by rw [St.get_set_ne n1, c2]) (by omega) (by rw [rowC_len]; omega) ?_]
          · have := chunks_flat (xs := x.l.map Node.cs) (Node.cs_all x.l)
            rw [List.length_map] at this; rw [this]
          · rw [List.take_of_length_le (by rw [rowC_len]; omega)]
            exact freezeL_map (by rw [flat_len (Node.cs_all x.l), List.length_map]; omega)
        rw [hfz]
        simp only [go_sem, ↓reduceIte, Option.some.injEq, Bool.true_eq_false, Bool.false_eq_true, Int.reduceBEq, Int.reduceBNe, Int.reduceLT, Int.reduceLE, Nat.add_assoc, Nat.reduceAdd, Nat.reducePow, Nat.zero_le, Nat.reduceEqDiff, Nat.reduceLT, Nat.reduceLeDiff, Nat.reduceMul, Nat.reduceSub, Nat.add_left_cancel_iff, Nat.lt_irrefl, Nat.le_refl, Nat.add_eq_left, Nat.left_eq_add, beq_self_eq_true, Node.ld, hz]
    all_goals first | rfl | (simp only [go_sem, ↓reduceIte, Option.some.injEq, Bool.true_eq_false, Bool.false_eq_true, Int.reduceBEq, Int.reduceBNe, Int.reduceLT, Int.reduceLE, Nat.add_assoc, Nat.reduceAdd, Nat.reducePow, Nat.zero_le, Nat.reduceEqDiff, Nat.reduceLT, Nat.reduceLeDiff, Nat.reduceMul, Nat.reduceSub, Nat.add_left_cancel_iff, Nat.lt_irrefl, Nat.le_refl, Nat.add_eq_left, Nat.left_eq_add, beq_self_eq_true]; done) | (simp only [go_sem, ↓reduceIte, Option.some.injEq, Bool.true_eq_false, Bool.false_eq_true, Int.reduceBEq, Int.reduceBNe, Int.reduceLT, Int.reduceLE, Nat.add_assoc, Nat.reduceAdd, Nat.reducePow, Nat.zero_le, Nat.reduceEqDiff, Nat.reduceLT, Nat.reduceLeDiff, Nat.reduceMul, Nat.reduceSub, Nat.add_left_cancel_iff, Nat.lt_irrefl, Nat.le_refl, Nat.add_eq_left, Nat.left_eq_add, beq_self_eq_true]; rfl)termination_by x
decreasing_by exact Node.sub_lt hmem
end Go.Am
namespace Go.Am
open Go Go.Proofs
variable {fz : Nat → Md}

namespace Node
mutual
theorem size_le : ∀ x : Node, x.size ≤ x.sz
  | mk k n p z l => by rw [size, sz]; have := size_leL l; split <;> omega
theorem size_leL : ∀ l : List Node, (l.map size).sum ≤ (l.map sz).sum
  | [] => by simp
  | x :: l => by have := size_le x; have := size_leL l; simp; omega
end
end Node
def cntS : Int → Node → Int → Bool × Int := fun _ _ v => (true, IntKind.i64.wrap (v + 1))
mutual
theorem cnt_P : ∀ (x : Node) (d v : Int), 0 ≤ v → v + x.size < 1000000000000 → walkP cntS x d v = (true, v + x.size)
  | .mk k n p z l, d, v, h0, h1 => by
    rw [walkP]
    rw [Node.size] at h1 ⊢
    have hw : IntKind.i64.wrap (v + 1) = v + 1 := wrap_small (by omega) (by split at h1 <;> omega)
    have e1 : cntS d (.mk k n p z l) v = (true, v + 1) := by unfold cntS; rw [hw]
    simp only [e1]
    rw [if_neg (by simp)]
    by_cases hk : k = 0
    · rw [if_pos hk] at h1 ⊢
      rw [if_neg (by simp [hk])]
      have := cnt_L l (IntKind.i64.wrap (d + 1)) (v + 1) (by omega) (by omega)
      rw [this]; congr 1; omega
    · rw [if_neg hk] at h1 ⊢
      rw [if_pos hk]; congr 1
theorem cnt_L : ∀ (l : List Node) (d v : Int), 0 ≤ v → v + (l.map Node.size).sum < 1000000000000 → walkL cntS l d v = (true, v + (l.map Node.size).sum)
  | [], d, v, _, _ => by simp [walkL]
  | x :: l, d, v, h0, h1 => by
    rw [walkL]
    simp only [List.map_cons, List.sum_cons] at h1 ⊢
    rw [cnt_P x d v h0 (by omega)]
    dsimp only
    rw [if_neg (by simp), cnt_L l d _ (by omega) (by omega)]
    congr 1; omega
end

def Small (x : Node) : Prop := x.sz < 1000000000
theorem size_vis (h53 : fz 53 = .keep) (k : Nat) : Visits fz Int (.func 53 [.ptr k 0]) cntS (fun _ x => Small x) fun _ v σ own => own = [k] ∧ σ.get k = .cells [.d (.int .i64 v)] ∧ k < σ.n where
  stay := by rintro _ v σ τ own ⟨rfl, h1, h2⟩ hn hg; exact ⟨rfl, by rw [hg k (by simp)]; exact h1, by omega⟩
  lt := by rintro _ v σ own j ⟨rfl, h1, h2⟩ hj; simp at hj; omega
  less := fun _ _ _ _ h => h
  vis := by
    rintro _ d x v σ own hx ⟨rfl, h1, h2⟩
    obtain ⟨σ', T, own', hc, hK, hp, rfl⟩ := size1_run h53 (d := d) (x := x) h1 h2
    exact ⟨σ', T, _, hc, hK, rfl, hp, by have := hK.n; omega⟩
  sub := fun _ x y h _ hy => by have := Node.sz_sub hy; unfold Small at *; omega
  len := fun _ x h => by have := x.len_lt; unfold Small at h; omega

theorem size_call (h17 : fz 17 = .cut) (h52 : fz 52 = .keep) (h53 : fz 53 = .keep) (x : Node) (σ : St) (hx : Small x) : CallsTo (XX fz) (.func 17 []) [x.a] σ (.d (.int .i64 x.size)) σ [] := by
  refine CallsTo.cut0 h17 fn17 (by simp) rfl ?_
  simp only [Try.f17, Option.getD_some]
  simp only [go_sem, ↓reduceIte, Option.some.injEq, Bool.true_eq_false, Bool.false_eq_true, Int.reduceBEq, Int.reduceBNe, Int.reduceLT, Int.reduceLE, Nat.add_assoc, Nat.reduceAdd, Nat.reducePow, Nat.zero_le, Nat.reduceEqDiff, Nat.reduceLT, Nat.reduceLeDiff, Nat.reduceMul, Nat.reduceSub, Nat.add_left_cancel_iff, Nat.lt_irrefl, Nat.le_refl, Nat.add_eq_left, Nat.left_eq_add, beq_self_eq_true, Node.a]
  have hs := x.size_le
  obtain ⟨σ1, T, own1, hc, hK, ⟨rfl, hg, hlt⟩⟩ := walk_run h52 (size_vis h53 (σ.n + 1)) 0 x 0 0 (((σ.push (.cells x.c)).push (.cells [.d (.int .i64 0)])).set (σ.n + 1) (.cells [.d (.int .i64 0)])) [σ.n + 1] hx ⟨rfl, St.get_set_eq, by simp [St.n_push, St.n_set]⟩
  refine ⟨_, _, _, hc, ?_⟩
  rw [cnt_P x 0 0 (by omega) (by unfold Small at hx; omega)] at hg
  have hT : low σ.n T = [] := low_all fun k hk => by
    rcases hK.w k hk with h | h
    · simp at h; omega
    · simp [St.n_push, St.n_set] at h; omega
  simp only [go_sem, ↓reduceIte, Option.some.injEq, Bool.true_eq_false, Bool.false_eq_true, Int.reduceBEq, Int.reduceBNe, Int.reduceLT, Int.reduceLE, Nat.add_assoc, Nat.reduceAdd, Nat.reducePow, Nat.zero_le, Nat.reduceEqDiff, Nat.reduceLT, Nat.reduceLeDiff, Nat.reduceMul, Nat.reduceSub, Nat.add_left_cancel_iff, Nat.lt_irrefl, Nat.le_refl, Nat.add_eq_left, Nat.left_eq_add, beq_self_eq_true, hg, hT]
  simp
end Go.Am
namespace Go.Am
open Go Go.Proofs
variable {fz : Nat → Md}

mutual
/-- does a node stand in more than so many? -/
def deepP : Node → Int → Bool
  | .mk _ _ _ _ l, most => if most < 0 then true else deepL l (most - 1)
def deepL : List Node → Int → Bool
  | [], _ => false
  | x :: l, most => deepP x most || deepL l most
end
theorem deepP_eq (x : Node) (most : Int) : deepP x most = if most < 0 then true else deepL x.l (most - 1) := by cases x; rw [deepP]; rfl

theorem wrap_succ {i n : Nat} (h : i < n) (hn : n < 1000000000) : IntKind.i64.wrap ((i : Int) + 1) = ((i + 1 : Nat) : Int) := by rw [wrap_small (by omega) (by omega)]; rfl
theorem dec_lt {i n : Nat} (h : i < n) : decide ((i : Int) < (n : Int)) = true := by simpa using h
theorem dec_ge {i n : Nat} (h : ¬ i < n) : decide ((i : Int) < (n : Int)) = false := by simpa using h

theorem deep_call (h16 : fz 16 = .cut) (x : Node) (most : Int) (σ : St) (hx : Small x) (hm : -2 ≤ most ∧ most < 1000000) : CallsTo (XX fz) (.func 16 []) [x.a, .d (.int .i64 most)] σ (.d (.bool (deepP x most))) σ [] := by
  refine CallsTo.cut0 h16 fn16 (by simp) rfl ?_
  rw [deepP_eq]
  simp only [Try.f16, Option.getD_some]
  simp only [go_sem, ↓reduceIte, Option.some.injEq, Bool.true_eq_false, Bool.false_eq_true, Int.reduceBEq, Int.reduceBNe, Int.reduceLT, Int.reduceLE, Nat.add_assoc, Nat.reduceAdd, Nat.reducePow, Nat.zero_le, Nat.reduceEqDiff, Nat.reduceLT, Nat.reduceLeDiff, Nat.reduceMul, Nat.reduceSub, Nat.add_left_cancel_iff, Nat.lt_irrefl, Nat.le_refl, Nat.add_eq_left, Nat.left_eq_add, beq_self_eq_true, Node.a]
  by_cases hm0 : most < 0
  · simp only [go_sem, ↓reduceIte, Option.some.injEq, Bool.true_eq_false, Bool.false_eq_true, Int.reduceBEq, Int.reduceBNe, Int.reduceLT, Int.reduceLE, Nat.add_assoc, Nat.reduceAdd, Nat.reducePow, Nat.zero_le, Nat.reduceEqDiff, Nat.reduceLT, Nat.reduceLeDiff, Nat.reduceMul, Nat.reduceSub, Nat.add_left_cancel_iff, Nat.lt_irrefl, Nat.le_refl, Nat.add_eq_left, Nat.left_eq_add, beq_self_eq_true, hm0]
  · have hlen := x.len_lt
    simp only [go_sem, ↓reduceIte, Option.some.injEq, Bool.true_eq_false, Bool.false_eq_true, Int.reduceBEq, Int.reduceBNe, Int.reduceLT, Int.reduceLE, Nat.add_assoc, Nat.reduceAdd, Nat.reducePow, Nat.zero_le, Nat.reduceEqDiff, Nat.reduceLT, Nat.reduceLeDiff, Nat.reduceMul, Nat.reduceSub, Nat.add_left_cancel_iff, Nat.lt_irrefl, Nat.le_refl, Nat.add_eq_left, Nat.left_eq_add, beq_self_eq_true, hm0]
    refine Ev.loop_ind (fun m tm σ' W => ∃ i : Nat, m = x.l.length - i ∧ i ≤ x.l.length ∧ W = [] ∧ σ' = σ.push (.cells x.c) ∧ deepL x.l (most - 1) = deepL (x.l.drop i) (most - 1) ∧
      tm.at 1 = .d (.int .i64 most) ∧ tm.at 2 = .ptr σ.n 0 ∧ tm.at 5 = .d (.int .i64 i)) ?_ x.l.length _ _ _ ⟨0, rfl, by omega, rfl, rfl, rfl, ?_, ?_, ?_⟩
    · rintro m tm σ' W ⟨i, rfl, hi, rfl, rfl, he, t1, t2, t5⟩ ih
      by_cases hl : i < x.l.length
      · have hget : x.l[i]? = some x.l[i] := by simp [hl]
        have hmem : x.l[i] ∈ x.l := List.getElem_mem hl
        have hw : IntKind.i64.wrap (most - 1) = most - 1 := wrap_small (by omega) (by omega)
        have hsz := Node.sz_sub hmem
        unfold Small at hx
        simp only [go_sem, ↓reduceIte, Option.some.injEq, Bool.true_eq_false, Bool.false_eq_true, Int.reduceBEq, Int.reduceBNe, Int.reduceLT, Int.reduceLE, Nat.add_assoc, Nat.reduceAdd, Nat.reducePow, Nat.zero_le, Nat.reduceEqDiff, Nat.reduceLT, Nat.reduceLeDiff, Nat.reduceMul, Nat.reduceSub, Nat.add_left_cancel_iff, Nat.lt_irrefl, Nat.le_refl, Nat.add_eq_left, Nat.left_eq_add, beq_self_eq_true, t1, t2, t5, dec_lt hl, Node.index_ld hget, hw]
        refine ⟨_, _, _, deep_call h16 x.l[i] (most - 1) (σ.push (.cells x.c)) (by unfold Small; omega) (by omega), ?_⟩
        rw [List.drop_eq_getElem_cons hl, deepL] at he
        cases hd : deepP x.l[i] (most - 1) with
        | true =>
          simp only [go_sem, ↓reduceIte, Option.some.injEq, Bool.true_eq_false, Bool.false_eq_true, Int.reduceBEq, Int.reduceBNe, Int.reduceLT, Int.reduceLE, Nat.add_assoc, Nat.reduceAdd, Nat.reducePow, Nat.zero_le, Nat.reduceEqDiff, Nat.reduceLT, Nat.reduceLeDiff, Nat.reduceMul, Nat.reduceSub, Nat.add_left_cancel_iff, Nat.lt_irrefl, Nat.le_refl, Nat.add_eq_left, Nat.left_eq_add, beq_self_eq_true]
          rw [he, hd]; rfl
        | false =>
          simp only [go_sem, ↓reduceIte, Option.some.injEq, Bool.true_eq_false, Bool.false_eq_true, Int.reduceBEq, Int.reduceBNe, Int.reduceLT, Int.reduceLE, Nat.add_assoc, Nat.reduceAdd, Nat.reducePow, Nat.zero_le, Nat.reduceEqDiff, Nat.reduceLT, Nat.reduceLeDiff, Nat.reduceMul, Nat.reduceSub, Nat.add_left_cancel_iff, Nat.lt_irrefl, Nat.le_refl, Nat.add_eq_left, Nat.left_eq_add, beq_self_eq_true, t1, t2, t5, wrap_succ hl (by omega)]
          exact ih _ _ _ _ (by omega) ⟨i + 1, rfl, hl, rfl, rfl, by rw [he, hd]; rfl, by simp only [go_sem, ↓reduceIte, Option.some.injEq, Bool.true_eq_false, Bool.false_eq_true, Int.reduceBEq, Int.reduceBNe, Int.reduceLT, Int.reduceLE, Nat.add_assoc, Nat.reduceAdd, Nat.reducePow, Nat.zero_le, Nat.reduceEqDiff, Nat.reduceLT, Nat.reduceLeDiff, Nat.reduceMul, Nat.reduceSub, Nat.add_left_cancel_iff, Nat.lt_irrefl, Nat.le_refl, Nat.add_eq_left, Nat.left_eq_add, beq_self_eq_true, t1], by simp only [go_sem, ↓reduceIte, Option.some.injEq, Bool.true_eq_false, Bool.false_eq_true, Int.reduceBEq, Int.reduceBNe, Int.reduceLT, Int.reduceLE, Nat.add_assoc, Nat.reduceAdd, Nat.reducePow, Nat.zero_le, Nat.reduceEqDiff, Nat.reduceLT, Nat.reduceLeDiff, Nat.reduceMul, Nat.reduceSub, Nat.add_left_cancel_iff, Nat.lt_irrefl, Nat.le_refl, Nat.add_eq_left, Nat.left_eq_add, beq_self_eq_true, t2], by simp only [go_sem, ↓reduceIte, Option.some.injEq, Bool.true_eq_false, Bool.false_eq_true, Int.reduceBEq, Int.reduceBNe, Int.reduceLT, Int.reduceLE, Nat.add_assoc, Nat.reduceAdd, Nat.reducePow, Nat.zero_le, Nat.reduceEqDiff, Nat.reduceLT, Nat.reduceLeDiff, Nat.reduceMul, Nat.reduceSub, Nat.add_left_cancel_iff, Nat.lt_irrefl, Nat.le_refl, Nat.add_eq_left, Nat.left_eq_add, beq_self_eq_true]⟩
      · simp only [go_sem, ↓reduceIte, Option.some.injEq, Bool.true_eq_false, Bool.false_eq_true, Int.reduceBEq, Int.reduceBNe, Int.reduceLT, Int.reduceLE, Nat.add_assoc, Nat.reduceAdd, Nat.reducePow, Nat.zero_le, Nat.reduceEqDiff, Nat.reduceLT, Nat.reduceLeDiff, Nat.reduceMul, Nat.reduceSub, Nat.add_left_cancel_iff, Nat.lt_irrefl, Nat.le_refl, Nat.add_eq_left, Nat.left_eq_add, beq_self_eq_true, t1, t2, t5, dec_ge hl]
        rw [he, List.drop_eq_nil_of_le (by omega)]; rfl
    all_goals first | rfl | (simp only [go_sem, ↓reduceIte, Option.some.injEq, Bool.true_eq_false, Bool.false_eq_true, Int.reduceBEq, Int.reduceBNe, Int.reduceLT, Int.reduceLE, Nat.add_assoc, Nat.reduceAdd, Nat.reducePow, Nat.zero_le, Nat.reduceEqDiff, Nat.reduceLT, Nat.reduceLeDiff, Nat.reduceMul, Nat.reduceSub, Nat.add_left_cancel_iff, Nat.lt_irrefl, Nat.le_refl, Nat.add_eq_left, Nat.left_eq_add, beq_self_eq_true]; done) | (simp only [go_sem, ↓reduceIte, Option.some.injEq, Bool.true_eq_false, Bool.false_eq_true, Int.reduceBEq, Int.reduceBNe, Int.reduceLT, Int.reduceLE, Nat.add_assoc, Nat.reduceAdd, Nat.reducePow, Nat.zero_le, Nat.reduceEqDiff, Nat.reduceLT, Nat.reduceLeDiff, Nat.reduceMul, Nat.reduceSub, Nat.add_left_cancel_iff, Nat.lt_irrefl, Nat.le_refl, Nat.add_eq_left, Nat.left_eq_add, beq_self_eq_true]; rfl)
termination_by x
decreasing_by exact Node.sub_lt hmem

/-- a list of numbers -/
def intsD (l : List Int) : List (List D) := l.map fun x => [.int .i64 x]
theorem intsD_all (l : List Int) : ∀ x ∈ intsD l, x.length = 1 := by intro x h; obtain ⟨y, -, rfl⟩ := List.mem_map.1 h; rfl
theorem intsD_len (l : List Int) : (intsD l).length = l.length := by simp [intsD]
theorem intsD_flat (l : List Int) : ((intsD l).flatMap id) = l.map fun x => .int .i64 x := by induction l with
  | nil => rfl
  | cons x l ih => simp [intsD] at ih ⊢; exact ih
end Go.Am

/- Part U1 of a proof that runs a program's calls on a small machine whose values bear no addresses: no conditions. -/
import Derived.Test.YtbppacknigeiaaaDoorAmR1
set_option autoImplicit false
set_option linter.unusedSimpArgs false
set_option linter.unusedVariables false
set_option linter.unusedSectionVars false
namespace Go.Am
open Go Go.Proofs
variable {fz : Nat → Md}
mutual
def deepE : Ex → Int → Bool
  | .mk _ _ _ l, m => if m = 0 then true else deepL l (IntKind.i64.wrap (m - 1))
def deepL : List Ex → Int → Bool
  | [], _ => false
  | x :: l, m => deepE x m || deepL l m
end
theorem deepE_eq (x : Ex) (m : Int) : deepE x m = if m = 0 then true else deepL x.l (IntKind.i64.wrap (m - 1)) := by cases x; rw [deepE]; rfl
set_option maxHeartbeats 1000000 in
theorem deep_call (h74 : fz 35 = .cut) (x : Ex) (m : Int) (σ : St) (hx : SmallE x) : CallsTo (XX fz) (.func 35 []) [x.a, .d (.int .i64 m)] σ (.d (.bool (deepE x m))) σ [] := by
  refine CallsTo.cut0 h74 fn35 (by simp) rfl ?_
  rw [deepE_eq]
  simp only [Tryd.f35, Option.getD_some]
  have hlen := hx.len
  simp only [go_sem, ↓reduceIte, Int.reduceEq, Nat.reduceBEq, Int.reduceBEq, Int.reduceBNe, Int.reduceLT, Int.reduceLE, Nat.reduceAdd, Nat.reducePow, Nat.reduceEqDiff, Nat.reduceLT, Nat.reduceLeDiff, Nat.reduceMul, Nat.reduceSub, Ex.a]
  by_cases h0 : m = 0
  · have e0 : (m == 0) = true := by simpa using h0
    simp only [go_sem, ↓reduceIte, Int.reduceEq, Nat.reduceBEq, Int.reduceBEq, Int.reduceBNe, Int.reduceLT, Int.reduceLE, Nat.reduceAdd, Nat.reducePow, Nat.reduceEqDiff, Nat.reduceLT, Nat.reduceLeDiff, Nat.reduceMul, Nat.reduceSub, e0, if_pos h0]
  · have e0 : (m == 0) = false := by simpa using h0
    rw [if_neg h0]
    simp only [go_sem, ↓reduceIte, Int.reduceEq, Nat.reduceBEq, Int.reduceBEq, Int.reduceBNe, Int.reduceLT, Int.reduceLE, Nat.reduceAdd, Nat.reducePow, Nat.reduceEqDiff, Nat.reduceLT, Nat.reduceLeDiff, Nat.reduceMul, Nat.reduceSub, e0]
    refine Ev.loop_ind (fun k tm τ W => ∃ i : Nat, k = x.l.length - i ∧ i ≤ x.l.length ∧ W = [] ∧ τ = σ.push (.cells x.c) ∧ deepL (x.l.drop i) (IntKind.i64.wrap (m - 1)) = deepL x.l (IntKind.i64.wrap (m - 1)) ∧
        tm.at 1 = .d (.int .i64 m) ∧ tm.at 2 = .ptr σ.n 0 ∧ tm.at 4 = .d (.bool false) ∧ tm.at 5 = .d (.int .i64 i)) ?_ x.l.length _ _ _ ⟨0, rfl, by omega, rfl, rfl, rfl, ?_, ?_, ?_, ?_⟩
    · rintro k tm τ W ⟨i, rfl, hi, rfl, rfl, he, t1, t2, t4, t5⟩ ih
      by_cases hl : i < x.l.length
      · have hget : x.l[i]? = some x.l[i] := by simp [hl]
        have hmem : x.l[i] ∈ x.l := List.getElem_mem hl
        simp only [go_sem, ↓reduceIte, Int.reduceEq, Nat.reduceBEq, Int.reduceBEq, Int.reduceBNe, Int.reduceLT, Int.reduceLE, Nat.reduceAdd, Nat.reducePow, Nat.reduceEqDiff, Nat.reduceLT, Nat.reduceLeDiff, Nat.reduceMul, Nat.reduceSub, t1, t2, t4, t5, dec_lt' hl, Ex.index_ld hget]
        refine ⟨_, _, _, deep_call h74 x.l[i] _ _ (hx.sub hmem), ?_⟩
        rw [List.drop_eq_getElem_cons hl, deepL] at he
        cases hd : deepE x.l[i] (IntKind.i64.wrap (m - 1)) with
        | true =>
          rw [hd, Bool.true_or] at he
          simp only [go_sem, ↓reduceIte, Int.reduceEq, Nat.reduceBEq, Int.reduceBEq, Int.reduceBNe, Int.reduceLT, Int.reduceLE, Nat.reduceAdd, Nat.reducePow, Nat.reduceEqDiff, Nat.reduceLT, Nat.reduceLeDiff, Nat.reduceMul, Nat.reduceSub, t1, t2, t4, t5, ← he]
        | false =>
          rw [hd, Bool.false_or] at he
          simp only [go_sem, ↓reduceIte, Int.reduceEq, Nat.reduceBEq, Int.reduceBEq, Int.reduceBNe, Int.reduceLT, Int.reduceLE, Nat.reduceAdd, Nat.reducePow, Nat.reduceEqDiff, Nat.reduceLT, Nat.reduceLeDiff, Nat.reduceMul, Nat.reduceSub, t1, t2, t4, t5, wrap_succ' hl hlen]
          exact ih _ _ _ _ (by omega) ⟨i + 1, rfl, hl, rfl, rfl, he, by simp only [go_sem, ↓reduceIte, Int.reduceEq, Nat.reduceBEq, Int.reduceBEq, Int.reduceBNe, Int.reduceLT, Int.reduceLE, Nat.reduceAdd, Nat.reducePow, Nat.reduceEqDiff, Nat.reduceLT, Nat.reduceLeDiff, Nat.reduceMul, Nat.reduceSub, t1], by simp only [go_sem, ↓reduceIte, Int.reduceEq, Nat.reduceBEq, Int.reduceBEq, Int.reduceBNe, Int.reduceLT, Int.reduceLE, Nat.reduceAdd, Nat.reducePow, Nat.reduceEqDiff, Nat.reduceLT, Nat.reduceLeDiff, Nat.reduceMul, Nat.reduceSub, t2], by simp only [go_sem, ↓reduceIte, Int.reduceEq, Nat.reduceBEq, Int.reduceBEq, Int.reduceBNe, Int.reduceLT, Int.reduceLE, Nat.reduceAdd, Nat.reducePow, Nat.reduceEqDiff, Nat.reduceLT, Nat.reduceLeDiff, Nat.reduceMul, Nat.reduceSub, t4], by simp only [go_sem, ↓reduceIte, Int.reduceEq, Nat.reduceBEq, Int.reduceBEq, Int.reduceBNe, Int.reduceLT, Int.reduceLE, Nat.reduceAdd, Nat.reducePow, Nat.reduceEqDiff, Nat.reduceLT, Nat.reduceLeDiff, Nat.reduceMul, Nat.reduceSub]⟩
      · simp only [go_sem, ↓reduceIte, Int.reduceEq, Nat.reduceBEq, Int.reduceBEq, Int.reduceBNe, Int.reduceLT, Int.reduceLE, Nat.reduceAdd, Nat.reducePow, Nat.reduceEqDiff, Nat.reduceLT, Nat.reduceLeDiff, Nat.reduceMul, Nat.reduceSub, t1, t2, t4, t5, dec_ge' hl]
        rw [List.drop_eq_nil_of_le (by omega), deepL] at he
        rw [← he]
    all_goals first | rfl | (simp only [go_sem, ↓reduceIte, Int.reduceEq, Nat.reduceBEq, Int.reduceBEq, Int.reduceBNe, Int.reduceLT, Int.reduceLE, Nat.reduceAdd, Nat.reducePow, Nat.reduceEqDiff, Nat.reduceLT, Nat.reduceLeDiff, Nat.reduceMul, Nat.reduceSub]; done) | (simp only [go_sem, ↓reduceIte, Int.reduceEq, Nat.reduceBEq, Int.reduceBEq, Int.reduceBNe, Int.reduceLT, Int.reduceLE, Nat.reduceAdd, Nat.reducePow, Nat.reduceEqDiff, Nat.reduceLT, Nat.reduceLeDiff, Nat.reduceMul, Nat.reduceSub]; rfl)
termination_by x
decreasing_by exact Ex.sub_lt hmem
def deepG (g : Gr) : Bool := g.rules.any fun r => deepE r.body 1000
set_option maxHeartbeats 1000000 in
theorem deepG_call (h34 : fz 10 = .cut) (h74 : fz 35 = .cut) (g : Gr) (σ : St) (hg : SmallG g) (hL : g.rules.length < 1000000000) : CallsTo (XX fz) (.func 10 []) [g.a] σ (.d (.bool (deepG g))) σ [] := by
  refine CallsTo.cut0 h34 fn10 (by simp) rfl ?_
  simp only [Tryd.f10, Option.getD_some]
  simp only [go_sem, ↓reduceIte, Int.reduceEq, Nat.reduceBEq, Int.reduceBEq, Int.reduceBNe, Int.reduceLT, Int.reduceLE, Nat.reduceAdd, Nat.reducePow, Nat.reduceEqDiff, Nat.reduceLT, Nat.reduceLeDiff, Nat.reduceMul, Nat.reduceSub, Gr.a]
  unfold deepG
  refine Ev.loop_ind (fun k tm τ W => ∃ i : Nat, k = g.rules.length - i ∧ i ≤ g.rules.length ∧ W = [] ∧ τ = σ.push (.cells g.c) ∧ ((g.rules.drop i).any fun r => deepE r.body 1000) = (g.rules.any fun r => deepE r.body 1000) ∧
      tm.at 1 = .ptr σ.n 0 ∧ tm.at 2 = .d (.bool false) ∧ tm.at 3 = .d (.int .i64 i)) ?_ g.rules.length _ _ _ ⟨0, rfl, by omega, rfl, rfl, rfl, ?_, ?_, ?_⟩
  · rintro k tm τ W ⟨i, rfl, hi, rfl, rfl, he, t1, t2, t3⟩ ih
    by_cases hl : i < g.rules.length
    · have hget : g.rules[i]? = some g.rules[i] := by simp [hl]
      have hmem : g.rules[i] ∈ g.rules := List.getElem_mem hl
      simp only [go_sem, ↓reduceIte, Int.reduceEq, Nat.reduceBEq, Int.reduceBEq, Int.reduceBNe, Int.reduceLT, Int.reduceLE, Nat.reduceAdd, Nat.reducePow, Nat.reduceEqDiff, Nat.reduceLT, Nat.reduceLeDiff, Nat.reduceMul, Nat.reduceSub, t1, t2, t3, dec_lt' hl, Gr.index_rd hget]
      refine ⟨_, _, _, deep_call h74 g.rules[i].body _ _ (hg _ hmem), ?_⟩
      rw [List.drop_eq_getElem_cons hl, List.any_cons] at he
      cases hd : deepE g.rules[i].body 1000 with
      | true =>
        rw [hd, Bool.true_or] at he
        simp only [go_sem, ↓reduceIte, Int.reduceEq, Nat.reduceBEq, Int.reduceBEq, Int.reduceBNe, Int.reduceLT, Int.reduceLE, Nat.reduceAdd, Nat.reducePow, Nat.reduceEqDiff, Nat.reduceLT, Nat.reduceLeDiff, Nat.reduceMul, Nat.reduceSub, t1, t2, t3, ← he]
      | false =>
        rw [hd, Bool.false_or] at he
        simp only [go_sem, ↓reduceIte, Int.reduceEq, Nat.reduceBEq, Int.reduceBEq, Int.reduceBNe, Int.reduceLT, Int.reduceLE, Nat.reduceAdd, Nat.reducePow, Nat.reduceEqDiff, Nat.reduceLT, Nat.reduceLeDiff, Nat.reduceMul, Nat.reduceSub, t1, t2, t3, wrap_succ' hl hL]
        exact ih _ _ _ _ (by omega) ⟨i + 1, rfl, hl, rfl, rfl, he, by simp only [go_sem, ↓reduceIte, Int.reduceEq, Nat.reduceBEq, Int.reduceBEq, Int.reduceBNe, Int.reduceLT, Int.reduceLE, Nat.reduceAdd, Nat.reducePow, Nat.reduceEqDiff, Nat.reduceLT, Nat.reduceLeDiff, Nat.reduceMul, Nat.reduceSub, t1], by simp only [go_sem, ↓reduceIte, Int.reduceEq, Nat.reduceBEq, Int.reduceBEq, Int.reduceBNe, Int.reduceLT, Int.reduceLE, Nat.reduceAdd, Nat.reducePow, Nat.reduceEqDiff, Nat.reduceLT, Nat.reduceLeDiff, Nat.reduceMul, Nat.reduceSub, t2], by simp only [go_sem, ↓reduceIte, Int.reduceEq, Nat.reduceBEq, Int.reduceBEq, Int.reduceBNe, Int.reduceLT, Int.reduceLE, Nat.reduceAdd, Nat.reducePow, Nat.reduceEqDiff, Nat.reduceLT, Nat.reduceLeDiff, Nat.reduceMul, Nat.reduceSub]⟩
    · simp only [go_sem, ↓reduceIte, Int.reduceEq, Nat.reduceBEq, Int.reduceBEq, Int.reduceBNe, Int.reduceLT, Int.reduceLE, Nat.reduceAdd, Nat.reducePow, Nat.reduceEqDiff, Nat.reduceLT, Nat.reduceLeDiff, Nat.reduceMul, Nat.reduceSub, t1, t2, t3, dec_ge' hl]
      rw [List.drop_eq_nil_of_le (by omega), List.any_nil] at he
      rw [← he]
  all_goals first | rfl | (simp only [go_sem, ↓reduceIte, Int.reduceEq, Nat.reduceBEq, Int.reduceBEq, Int.reduceBNe, Int.reduceLT, Int.reduceLE, Nat.reduceAdd, Nat.reducePow, Nat.reduceEqDiff, Nat.reduceLT, Nat.reduceLeDiff, Nat.reduceMul, Nat.reduceSub]; done) | (simp only [go_sem, ↓reduceIte, Int.reduceEq, Nat.reduceBEq, Int.reduceBEq, Int.reduceBNe, Int.reduceLT, Int.reduceLE, Nat.reduceAdd, Nat.reducePow, Nat.reduceEqDiff, Nat.reduceLT, Nat.reduceLeDiff, Nat.reduceMul, Nat.reduceSub]; rfl)
mutual
def Ex.cp : Ex → Ex
  | .mk k n _ l => .mk k n true (cpL l)
def Ex.cpL : List Ex → List Ex
  | [] => []
  | x :: l => x.cp :: cpL l
end
theorem cpL_map (l : List Ex) : Ex.cpL l = l.map Ex.cp := by
  induction l with
  | nil => rfl
  | cons x l ih => rw [Ex.cpL, ih]; rfl
theorem cp_eq (x : Ex) : x.cp = .mk x.kind x.num true (x.l.map Ex.cp) := by cases x; rw [Ex.cp, cpL_map]; rfl
def rowE (l : List Ex) : List (List D) := l.map Ex.cs
theorem rowE_len (l : List Ex) : (rowE l).length = l.length := by simp [rowE]
theorem app_ex {es b : Nat} {τ : St} {a : A} {l : List (List D)} {bs : List Nat} {j : Nat} {x : List D} (hes : x.length = es) (hb : b ≤ 64) (r : RowN es τ a l bs) (hj : τ.get j = .cells (x.map A.d)) (hl : l.length < 2000000000) :
    ∃ a' τ' T bs', appendA es b τ a (.row j 0 1 es) = .val a' τ' T [] ∧ RowN es τ' a' (l ++ [x]) bs' ∧ Kept τ bs τ' bs' T ∧ a'.cells = some [a'] ∧ a'.isCell = true := by
  obtain ⟨a', τ', T, bs', h1, h2, h3⟩ := r.app (b := b) (x := .row j 0 1 es) (ys := [x]) (by rw [sliceCells_row hj (by simp [hes])]; simp; exact List.take_of_length_le (by simp [hes])) (by rw [sliceLen_row, hj]; rfl) (by simpa using hes) (by have := Nat.mul_le_mul (show l.length + [x].length ≤ 2000000001 by simp; omega) hb; omega) (by simp; omega)
  exact ⟨a', τ', T, bs', h1, h2, h3, h2.1.cells, h2.1.cell⟩
theorem fzD0 : (0 < fzDepth) = True := by unfold fzDepth; simp
theorem fzD1 : (0 < fzDepth - 1) = True := by unfold fzDepth; simp
theorem fzD2 : (0 < fzDepth - 1 - 1) = True := by unfold fzDepth; simp
theorem Ex.put0 (x : Ex) : putAt [A.d (D.int IntKind.i64 0), A.d (D.int IntKind.i64 0), A.d (D.slc true [])] 0 x.c = x.c := rfl
set_option maxHeartbeats 2000000 in
theorem cp_call (h87 : fz 36 = .ice) (x : Ex) (σ : St) (hx : SmallE x) : CallsTo (XX fz) (.func 36 []) [x.a] σ x.cp.a σ [] := by
  refine CallsTo.ice0 h87 fn36 (by simp) ?_
  simp only [Tryd.f36, Option.getD_some]
  have hlen := hx.len
  simp only [go_sem, ↓reduceIte, Int.reduceEq, Nat.reduceBEq, Int.reduceBEq, Int.reduceBNe, Int.reduceLT, Int.reduceLE, Nat.reduceAdd, Nat.reducePow, Nat.reduceEqDiff, Nat.reduceLT, Nat.reduceLeDiff, Nat.reduceMul, Nat.reduceSub, Ex.a]
  refine Ev.loop_ind (fun k tm τ W => ∃ (i : Nat) (a : A) (bs : List Nat), k = x.l.length - i ∧ i ≤ x.l.length ∧ W = [] ∧ σ.n + 3 ≤ τ.n ∧ τ.get σ.n = .cells x.c ∧ (∃ cs, τ.get (σ.n + 1) = .cells cs ∧ cs.length = 3) ∧ τ.get (σ.n + 2) = .cells [.d (.int .i64 x.kind), .d (.int .i64 x.num), a] ∧ RowN 3 τ a (rowE ((x.l.take i).map Ex.cp)) bs ∧ (∀ k ∈ bs, σ.n + 3 ≤ k) ∧
      tm.at 1 = .ptr σ.n 0 ∧ tm.at 2 = .ptr (σ.n + 1) 0 ∧ tm.at 3 = .ptr (σ.n + 2) 0 ∧ tm.at 4 = .d (.int .i64 i)) ?_ x.l.length _ _ _ ⟨0, .d (.slc true []), [], rfl, by omega, rfl, ?_, ?_, ?_, ?_, RowN.nil, (by simp), ?_, ?_, ?_, ?_⟩
  · rintro k tm τ W ⟨i, a, bs, rfl, hi, rfl, hn, g0, ⟨cs1, g1, g1l⟩, g2, hR, hbs, t1, t2, t3, t4⟩ ih
    by_cases hl : i < x.l.length
    · have hget : x.l[i]? = some x.l[i] := by simp [hl]
      have hmem : x.l[i] ∈ x.l := List.getElem_mem hl
      simp only [go_sem, ↓reduceIte, Int.reduceEq, Nat.reduceBEq, Int.reduceBEq, Int.reduceBNe, Int.reduceLT, Int.reduceLE, Nat.reduceAdd, Nat.reducePow, Nat.reduceEqDiff, Nat.reduceLT, Nat.reduceLeDiff, Nat.reduceMul, Nat.reduceSub, t1, t2, t3, t4, g0, g2, dec_lt' hl, Ex.index_ld hget]
      refine ⟨_, _, _, cp_call h87 x.l[i] _ (hx.sub hmem), ?_⟩
      have hR1 : RowN 3 (τ.push (.cells x.l[i].cp.c)) a (rowE ((x.l.take i).map Ex.cp)) bs := hR.stay (by simp only [St.n_push]; omega) fun k hk => St.get_push_ne (hR.1.lt hk)
      obtain ⟨a', τ', T, bs', happ, hR', hK, hc1, hc2⟩ := app_ex (b := 40) (x := x.l[i].cp.cs) (j := τ.n) (Ex.cs_len _) (by omega) hR1 (by rw [St.get_push_eq, Ex.cs_map]) (by rw [rowE_len, List.length_map, List.length_take]; omega)
      have hT : low σ.n T = [] := low_all fun k hk => by
        rcases hK.w k hk with h | h
        · have := hbs k h; omega
        · simp only [St.n_push] at h; omega
      have hn' := hK.n
      simp only [St.n_push] at hn'
      have k0 : τ'.get σ.n = .cells x.c := by rw [hK.same σ.n (by simp only [St.n_push]; omega) (fun h => by have := hbs _ h; omega), St.get_push_ne (by omega)]; exact g0
      have k1 : τ'.get (σ.n + 1) = .cells cs1 := by rw [hK.same (σ.n + 1) (by simp only [St.n_push]; omega) (fun h => by have := hbs _ h; omega), St.get_push_ne (by omega)]; exact g1
      have k2 : τ'.get (σ.n + 2) = .cells [.d (.int .i64 x.kind), .d (.int .i64 x.num), a] := by rw [hK.same (σ.n + 2) (by simp only [St.n_push]; omega) (fun h => by have := hbs _ h; omega), St.get_push_ne (by omega)]; exact g2
      simp only [go_sem, ↓reduceIte, Int.reduceEq, Nat.reduceBEq, Int.reduceBEq, Int.reduceBNe, Int.reduceLT, Int.reduceLE, Nat.reduceAdd, Nat.reducePow, Nat.reduceEqDiff, Nat.reduceLT, Nat.reduceLeDiff, Nat.reduceMul, Nat.reduceSub, Ex.a, Ex.put0, happ, hc1, hc2, t1, t2, t3, k2]
      refine ⟨drawOk_rel [7, 9, 11] [(7, 0), (7, 1)] rfl (by kernel_rfl) rfl (by simp [meets]), ?_⟩
      simp only [go_sem, ↓reduceIte, Int.reduceEq, Nat.reduceBEq, Int.reduceBEq, Int.reduceBNe, Int.reduceLT, Int.reduceLE, Nat.reduceAdd, Nat.reducePow, Nat.reduceEqDiff, Nat.reduceLT, Nat.reduceLeDiff, Nat.reduceMul, Nat.reduceSub, hT, t4, wrap_succ' hl hlen]
      refine ih _ _ _ _ (by omega) ⟨i + 1, a', bs', rfl, hl, rfl, by simp only [St.n_set]; omega, ?_, ⟨cs1, ?_, g1l⟩, ?_, ?_, fun k hk => ?_, by simp only [go_sem, ↓reduceIte, Int.reduceEq, Nat.reduceBEq, Int.reduceBEq, Int.reduceBNe, Int.reduceLT, Int.reduceLE, Nat.reduceAdd, Nat.reducePow, Nat.reduceEqDiff, Nat.reduceLT, Nat.reduceLeDiff, Nat.reduceMul, Nat.reduceSub, t1], by simp only [go_sem, ↓reduceIte, Int.reduceEq, Nat.reduceBEq, Int.reduceBEq, Int.reduceBNe, Int.reduceLT, Int.reduceLE, Nat.reduceAdd, Nat.reducePow, Nat.reduceEqDiff, Nat.reduceLT, Nat.reduceLeDiff, Nat.reduceMul, Nat.reduceSub, t2], by simp only [go_sem, ↓reduceIte, Int.reduceEq, Nat.reduceBEq, Int.reduceBEq, Int.reduceBNe, Int.reduceLT, Int.reduceLE, Nat.reduceAdd, Nat.reducePow, Nat.reduceEqDiff, Nat.reduceLT, Nat.reduceLeDiff, Nat.reduceMul, Nat.reduceSub, t3], by simp only [go_sem, ↓reduceIte, Int.reduceEq, Nat.reduceBEq, Int.reduceBEq, Int.reduceBNe, Int.reduceLT, Int.reduceLE, Nat.reduceAdd, Nat.reducePow, Nat.reduceEqDiff, Nat.reduceLT, Nat.reduceLeDiff, Nat.reduceMul, Nat.reduceSub]⟩
      · rw [St.get_set_ne (by omega)]; exact k0
      · rw [St.get_set_ne (by omega)]; exact k1
      · rw [St.get_set_eq]
      · rw [List.take_succ_eq_append_getElem hl, List.map_append]
        have : rowE (List.map Ex.cp (List.take i x.l) ++ List.map Ex.cp [x.l[i]]) = rowE (List.map Ex.cp (List.take i x.l)) ++ [x.l[i].cp.cs] := by simp [rowE]
        rw [this]
        refine hR'.stay (Nat.le_refl _) fun k hk => St.get_set_ne ?_
        rcases hK.o k hk with h | h
        · have := hbs k h; omega
        · simp only [St.n_push] at h; omega
      · rcases hK.o k hk with h | h
        · exact hbs k h
        · simp only [St.n_push] at h; omega
    · have hcell := hR.1.cell
      have hd : List.drop 3 cs1 = [] := List.drop_eq_nil_of_le (by omega)
      rw [List.take_of_length_le (by omega)] at hR
      have hf := hR.freeze (lo := σ.n) (n := fzDepth - 3) (fun k hk => by have := hbs k hk; omega) (by rw [rowE_len, List.length_map]; unfold fzDepth; omega)
      have hR2 : RowN 3 (τ.set (σ.n + 1) (.cells [.d (.int .i64 x.kind), .d (.int .i64 x.num), a])) a (rowE (x.l.map Ex.cp)) bs := hR.stay (Nat.le_refl _) fun k hk => St.get_set_ne (by have := hbs k hk; omega)
      have hf2 := hR2.freeze (lo := σ.n) (n := fzDepth - 1 - 1 - 1) (fun k hk => by have := hbs k hk; omega) (by rw [rowE_len, List.length_map]; unfold fzDepth; omega)
      simp only [go_sem, ↓reduceIte, Int.reduceEq, Nat.reduceBEq, Int.reduceBEq, Int.reduceBNe, Int.reduceLT, Int.reduceLE, Nat.reduceAdd, Nat.reducePow, Nat.reduceEqDiff, Nat.reduceLT, Nat.reduceLeDiff, Nat.reduceMul, Nat.reduceSub, t1, t2, t3, t4, g0, g1, g2, g1l, dec_ge' hl, hcell, hd, hf2, fzD0, fzD1, fzD2]
      rw [cp_eq]
      cases hl0 : x.l <;> simp [aggO, consD, Ex.c, Ex.ld, Ex.kind, Ex.num, Ex.z, Ex.l, rowE]
  · simp only [St.n_push, St.n_set]; omega
  · simp [St.get_set, St.get_push, St.n_push, St.n_set]; intro h; omega
  · exact ⟨_, by simp [St.get_set, St.get_push, St.n_push, St.n_set]; rfl, rfl⟩
  · simp [St.get_set, St.get_push, St.n_push, St.n_set]
  all_goals first | rfl | (simp only [go_sem, ↓reduceIte, Int.reduceEq, Nat.reduceBEq, Int.reduceBEq, Int.reduceBNe, Int.reduceLT, Int.reduceLE, Nat.reduceAdd, Nat.reducePow, Nat.reduceEqDiff, Nat.reduceLT, Nat.reduceLeDiff, Nat.reduceMul, Nat.reduceSub]; done) | (simp only [go_sem, ↓reduceIte, Int.reduceEq, Nat.reduceBEq, Int.reduceBEq, Int.reduceBNe, Int.reduceLT, Int.reduceLE, Nat.reduceAdd, Nat.reducePow, Nat.reduceEqDiff, Nat.reduceLT, Nat.reduceLeDiff, Nat.reduceMul, Nat.reduceSub]; rfl)
termination_by x
decreasing_by exact Ex.sub_lt hmem
def Ru.cp (r : Ru) : Ru := ⟨r.name, r.body.cp⟩
def Gr.cp (g : Gr) : Gr := ⟨g.tokens, true, g.rules.map Ru.cp⟩
def rowR (l : List Ru) : List (List D) := l.map Ru.cs
theorem rowR_len (l : List Ru) : (rowR l).length = l.length := by simp [rowR]
theorem Ru.c_name (r : Ru) : r.c[0]? = some (.d (.str r.name)) := rfl
theorem Ru.put1 (r : ByteArray) (x : Ex) : putAt [A.d (D.str r), A.d (D.int IntKind.i64 0), A.d (D.int IntKind.i64 0), A.d (D.slc true [])] 1 x.c = Ru.c ⟨r, x⟩ := rfl
theorem Ru.put0 (r : Ru) : putAt [A.d (D.str ⟨#[]⟩), A.d (D.int IntKind.i64 0), A.d (D.int IntKind.i64 0), A.d (D.slc true [])] 0 r.c = r.c := rfl
set_option maxHeartbeats 2000000 in
theorem cpG_call (h43 : fz 12 = .ice) (h87 : fz 36 = .ice) (g : Gr) (σ : St) (hg : SmallG g) (hL : g.rules.length < 1000000000) : CallsTo (XX fz) (.func 12 []) [g.a] σ g.cp.a σ [] := by
  refine CallsTo.ice0 h43 fn12 (by simp) ?_
  simp only [Tryd.f12, Option.getD_some]
  simp only [go_sem, ↓reduceIte, Int.reduceEq, Nat.reduceBEq, Int.reduceBEq, Int.reduceBNe, Int.reduceLT, Int.reduceLE, Nat.reduceAdd, Nat.reducePow, Nat.reduceEqDiff, Nat.reduceLT, Nat.reduceLeDiff, Nat.reduceMul, Nat.reduceSub, Gr.a]
  refine Ev.loop_ind (fun k tm τ W => ∃ (i : Nat) (a : A) (bs : List Nat), k = g.rules.length - i ∧ i ≤ g.rules.length ∧ W = [] ∧ σ.n + 3 ≤ τ.n ∧ τ.get σ.n = .cells g.c ∧ (∃ cs, τ.get (σ.n + 1) = .cells cs ∧ cs.length = 2) ∧ τ.get (σ.n + 2) = .cells [.d (.int .i64 g.tokens), a] ∧ RowN 4 τ a (rowR ((g.rules.take i).map Ru.cp)) bs ∧ (∀ k ∈ bs, σ.n + 3 ≤ k) ∧
      tm.at 1 = .ptr σ.n 0 ∧ tm.at 2 = .ptr (σ.n + 1) 0 ∧ tm.at 3 = .ptr (σ.n + 2) 0 ∧ tm.at 4 = .d (.int .i64 i)) ?_ g.rules.length _ _ _ ⟨0, .d (.slc true []), [], rfl, by omega, rfl, ?_, ?_, ?_, ?_, RowN.nil, (by simp), ?_, ?_, ?_, ?_⟩
  · rintro k tm τ W ⟨i, a, bs, rfl, hi, rfl, hn, g0, ⟨cs1, g1, g1l⟩, g2, hR, hbs, t1, t2, t3, t4⟩ ih
    by_cases hl : i < g.rules.length
    · have hget : g.rules[i]? = some g.rules[i] := by simp [hl]
      have hmem : g.rules[i] ∈ g.rules := List.getElem_mem hl
      simp only [go_sem, ↓reduceIte, Int.reduceEq, Nat.reduceBEq, Int.reduceBEq, Int.reduceBNe, Int.reduceLT, Int.reduceLE, Nat.reduceAdd, Nat.reducePow, Nat.reduceEqDiff, Nat.reduceLT, Nat.reduceLeDiff, Nat.reduceMul, Nat.reduceSub, t1, t2, t3, t4, g0, g2, dec_lt' hl, Gr.index_rd hget, Ru.c_name]
      refine ⟨_, _, _, cp_call h87 g.rules[i].body _ (hg _ hmem), ?_⟩
      have hR1 : RowN 4 (τ.push (.cells (Ru.cp g.rules[i]).c)) a (rowR ((g.rules.take i).map Ru.cp)) bs := hR.stay (by simp only [St.n_push]; omega) fun k hk => St.get_push_ne (hR.1.lt hk)
      obtain ⟨a', τ', T, bs', happ, hR', hK, hc1, hc2⟩ := app_ex (b := 56) (x := (Ru.cp g.rules[i]).cs) (j := τ.n) (Ru.cs_len _) (by omega) hR1 (by rw [St.get_push_eq, Ru.cs_map]) (by rw [rowR_len, List.length_map, List.length_take]; omega)
      have hT : low σ.n T = [] := low_all fun k hk => by
        rcases hK.w k hk with h | h
        · have := hbs k h; omega
        · simp only [St.n_push] at h; omega
      have hn' := hK.n
      simp only [St.n_push] at hn'
      have hold : ∀ j, j < σ.n + 3 → τ'.get j = τ.get j := fun j hj => by rw [hK.same j (by simp only [St.n_push]; omega) (fun h => by have := hbs _ h; omega), St.get_push_ne (by omega)]
      have k0 := (hold σ.n (by omega)).trans g0
      have k1 := (hold (σ.n + 1) (by omega)).trans g1
      have k2 := (hold (σ.n + 2) (by omega)).trans g2
      rw [Ru.cp] at happ hR' 
      simp only [go_sem, ↓reduceIte, Int.reduceEq, Nat.reduceBEq, Int.reduceBEq, Int.reduceBNe, Int.reduceLT, Int.reduceLE, Nat.reduceAdd, Nat.reducePow, Nat.reduceEqDiff, Nat.reduceLT, Nat.reduceLeDiff, Nat.reduceMul, Nat.reduceSub, Ex.a, Ru.put1, Ru.put0, happ, hc1, hc2, t1, t2, t3, t4, k2]
      refine ⟨drawOk_rel [14, 17, 19] [(14, 0), (14, 1), (14, 2), (14, 3), (14, 4), (14, 5), (14, 6), (14, 7)] rfl (by kernel_rfl) rfl (by simp [meets]), ?_⟩
      simp only [go_sem, ↓reduceIte, Int.reduceEq, Nat.reduceBEq, Int.reduceBEq, Int.reduceBNe, Int.reduceLT, Int.reduceLE, Nat.reduceAdd, Nat.reducePow, Nat.reduceEqDiff, Nat.reduceLT, Nat.reduceLeDiff, Nat.reduceMul, Nat.reduceSub, hT, t4, wrap_succ' hl hL]
      refine ih _ _ _ _ (by omega) ⟨i + 1, a', bs', rfl, hl, rfl, by simp only [St.n_set]; omega, ?_, ⟨cs1, ?_, g1l⟩, ?_, ?_, fun k hk => ?_, by simp only [go_sem, ↓reduceIte, Int.reduceEq, Nat.reduceBEq, Int.reduceBEq, Int.reduceBNe, Int.reduceLT, Int.reduceLE, Nat.reduceAdd, Nat.reducePow, Nat.reduceEqDiff, Nat.reduceLT, Nat.reduceLeDiff, Nat.reduceMul, Nat.reduceSub, t1], by simp only [go_sem, ↓reduceIte, Int.reduceEq, Nat.reduceBEq, Int.reduceBEq, Int.reduceBNe, Int.reduceLT, Int.reduceLE, Nat.reduceAdd, Nat.reducePow, Nat.reduceEqDiff, Nat.reduceLT, Nat.reduceLeDiff, Nat.reduceMul, Nat.reduceSub, t2], by simp only [go_sem, ↓reduceIte, Int.reduceEq, Nat.reduceBEq, Int.reduceBEq, Int.reduceBNe, Int.reduceLT, Int.reduceLE, Nat.reduceAdd, Nat.reducePow, Nat.reduceEqDiff, Nat.reduceLT, Nat.reduceLeDiff, Nat.reduceMul, Nat.reduceSub, t3], by simp only [go_sem, ↓reduceIte, Int.reduceEq, Nat.reduceBEq, Int.reduceBEq, Int.reduceBNe, Int.reduceLT, Int.reduceLE, Nat.reduceAdd, Nat.reducePow, Nat.reduceEqDiff, Nat.reduceLT, Nat.reduceLeDiff, Nat.reduceMul, Nat.reduceSub]⟩
      · rw [St.get_set_ne (by omega)]; exact k0
      · rw [St.get_set_ne (by omega)]; exact k1
      · rw [St.get_set_eq]
      · rw [List.take_succ_eq_append_getElem hl, List.map_append]
        have : rowR (List.map Ru.cp (List.take i g.rules) ++ List.map Ru.cp [g.rules[i]]) = rowR (List.map Ru.cp (List.take i g.rules)) ++ [Ru.cs ⟨g.rules[i].name, g.rules[i].body.cp⟩] := by simp [rowR, Ru.cp]
        rw [this]
        refine hR'.stay (Nat.le_refl _) fun k hk => St.get_set_ne ?_
        rcases hK.o k hk with h | h
        · have := hbs k h; omega
        · simp only [St.n_push] at h; omega
      · rcases hK.o k hk with h | h
        · exact hbs k h
        · simp only [St.n_push] at h; omega
    · have hcell := hR.1.cell
      have hd : List.drop 2 cs1 = [] := List.drop_eq_nil_of_le (by omega)
      rw [List.take_of_length_le (by omega)] at hR
      have hR2 : RowN 4 (τ.set (σ.n + 1) (.cells [.d (.int .i64 g.tokens), a])) a (rowR (g.rules.map Ru.cp)) bs := hR.stay (Nat.le_refl _) fun k hk => St.get_set_ne (by have := hbs k hk; omega)
      have hf2 := hR2.freeze (lo := σ.n) (n := fzDepth - 1 - 1) (fun k hk => by have := hbs k hk; omega) (by rw [rowR_len, List.length_map]; unfold fzDepth; omega)
      simp only [go_sem, ↓reduceIte, Int.reduceEq, Nat.reduceBEq, Int.reduceBEq, Int.reduceBNe, Int.reduceLT, Int.reduceLE, Nat.reduceAdd, Nat.reducePow, Nat.reduceEqDiff, Nat.reduceLT, Nat.reduceLeDiff, Nat.reduceMul, Nat.reduceSub, t1, t2, t3, t4, g0, g1, g2, g1l, dec_ge' hl, hcell, hd, hf2, fzD0, fzD1, fzD2]
      cases hl0 : g.rules <;> simp [aggO, consD, Gr.cp, Gr.c, Gr.rd, hl0, rowR]
  · simp only [St.n_push, St.n_set]; omega
  · simp [St.get_set, St.get_push, St.n_push, St.n_set]; intro h; omega
  · exact ⟨_, by simp [St.get_set, St.get_push, St.n_push, St.n_set]; rfl, rfl⟩
  · simp [St.get_set, St.get_push, St.n_push, St.n_set]
  all_goals first | rfl | (simp only [go_sem, ↓reduceIte, Int.reduceEq, Nat.reduceBEq, Int.reduceBEq, Int.reduceBNe, Int.reduceLT, Int.reduceLE, Nat.reduceAdd, Nat.reducePow, Nat.reduceEqDiff, Nat.reduceLT, Nat.reduceLeDiff, Nat.reduceMul, Nat.reduceSub]; done) | (simp only [go_sem, ↓reduceIte, Int.reduceEq, Nat.reduceBEq, Int.reduceBEq, Int.reduceBNe, Int.reduceLT, Int.reduceLE, Nat.reduceAdd, Nat.reducePow, Nat.reduceEqDiff, Nat.reduceLT, Nat.reduceLeDiff, Nat.reduceMul, Nat.reduceSub]; rfl)
end Go.Am
namespace Go.Am
open Go Go.Proofs
variable {fz : Nat → Md}
structure ChkOk (g : Gr) : Prop where
  pos : 0 < g.rules.length
  le : g.rules.length ≤ 32
  tok1 : 1 ≤ g.tokens
  tok : g.tokens ≤ 64
  size : ¬ sizesL g.bodies 512 < 0
  ok : ∀ y ∈ g.bodies, okE g.tokens g.rules.length y
  some : ∀ b ∈ g.some, b = true
  vain : ∀ y ∈ g.bodies, vainE (qOf g.null) y = false
  left : leftL g.bodies (qOf g.null) 0 g.bodies = false
theorem bodies_len (g : Gr) : g.bodies.length = g.rules.length := by rw [Gr.bodies, List.length_map]
theorem chk_iff {g : Gr} : checkP g = 0 ↔ ChkOk g := by
  constructor
  · intro h
    unfold checkP at h
    split at h
    · omega
    rename_i h1
    split at h
    · omega
    rename_i h2
    split at h
    · omega
    rename_i h3
    split at h
    · omega
    rename_i h4
    have h4' : g.bodies.all (rightE g.tokens g.rules.length) = true := by simpa using h4
    rw [List.all_eq_true] at h4'
    unfold check2P at h
    split at h
    · omega
    rename_i h5
    split at h
    · omega
    rename_i h6
    simp only [Bool.or_eq_true, not_or, List.any_eq_true, not_exists, not_and, beq_iff_eq, Bool.not_eq_true] at h5
    refine ⟨?_, by simp at h1; omega, by simp at h3; omega, by simp at h1; omega, h2, h4', fun b hb => ?_, fun y hy => ?_, by simpa using h6⟩
    · cases e : g.rules with
      | nil => simp [e] at h3
      | cons a r => simp
    · cases b with
      | true => rfl
      | false => exact absurd rfl (h5.1 false hb)
    · obtain ⟨r, hr, rfl⟩ := List.mem_map.1 hy
      exact h5.2 r hr
  · rintro ⟨a1, a2, a3, a4, a5, a6, a7, a8, a9⟩
    unfold checkP
    rw [if_neg (by simp; omega), if_neg a5, if_neg (by simp; exact ⟨(by intro e; simp [e] at a1), by omega⟩), if_neg (by
      rw [Bool.not_eq_false, List.all_eq_true]; exact a6)]
    unfold check2P
    rw [if_neg (by
      simp only [Bool.or_eq_true, not_or, List.any_eq_true, not_exists, not_and, beq_iff_eq, Bool.not_eq_true]
      exact ⟨fun b hb e => (by rw [a7 b hb] at e; cases e), fun r hr => a8 _ (List.mem_map.2 ⟨r, hr, rfl⟩)⟩), if_neg (by rw [a9]; simp)]
theorem pass_inv {tok : Bool} {P : List Bool → Prop} : ∀ (l : List Ex) (i : Nat) (out : List Bool) (more : Bool), i + l.length ≤ out.length → P out → (∀ (out : List Bool) (k : Nat) (x : Ex), l[k]? = some x → i + k < out.length → P out → canE tok (qOf out) x = true → P (out.set (i + k) true)) → P (growPass tok l i out more).1
  | [], _, out, _, _, h, _ => h
  | x :: l, i, out, more, hl, h, hs => by
    rw [growPass]
    simp only [List.length_cons] at hl
    split
    · rename_i hc
      rw [Bool.and_eq_true] at hc
      refine pass_inv l (i + 1) _ _ (by simp; omega) (hs out 0 x rfl (by omega) h hc.2) fun out k y hk hlt hp hy => ?_
      have := hs out (k + 1) y (by simpa using hk) (by omega) hp hy
      rwa [show i + (k + 1) = i + 1 + k by omega] at this
    · refine pass_inv l (i + 1) _ _ (by omega) h fun out k y hk hlt hp hy => ?_
      have := hs out (k + 1) y (by simpa using hk) (by omega) hp hy
      rwa [show i + (k + 1) = i + 1 + k by omega] at this
theorem growF_inv {tok : Bool} {l : List Ex} {P : List Bool → Prop} (hs : ∀ (out : List Bool) (k : Nat) (x : Ex), l[k]? = some x → k < out.length → P out → canE tok (qOf out) x = true → P (out.set k true)) : ∀ (n : Nat) (out : List Bool), l.length ≤ out.length → P out → P (growF tok l n out)
  | 0, out, _, h => h
  | n + 1, out, hl, h => by
    have h1 : P (growPass tok l 0 out false).1 := pass_inv l 0 out false (by omega) h fun out k x hk hlt hp hx => by
      rw [Nat.zero_add] at hlt ⊢; exact hs out k x hk hlt hp hx
    rw [growF]
    split
    · exact growF_inv hs n _ (by rw [pass_len]; exact hl) h1
    · exact h1
theorem growsP_inv {tok : Bool} {l : List Ex} {P : List Bool → Prop} (h0 : P (List.replicate l.length false)) (hs : ∀ (out : List Bool) (k : Nat) (x : Ex), l[k]? = some x → k < out.length → P out → canE tok (qOf out) x = true → P (out.set k true)) : P (growsP tok l) :=
  growF_inv hs _ _ (by simp) h0
end Go.Am

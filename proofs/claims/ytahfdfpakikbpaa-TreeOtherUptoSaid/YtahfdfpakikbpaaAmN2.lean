/- Part N2 of a proof that runs a program's calls on a small machine whose values bear no addresses: no conditions. -/
import Derived.Test.YtahfdfpakikbpaaAmN1
set_option autoImplicit false
set_option linter.unusedSimpArgs false
set_option linter.unusedVariables false
set_option linter.unusedSectionVars false
namespace Go.Am
open Go Go.Proofs
variable {fz : Nat → Md}

theorem Small.sub {x y : Node} (h : Small x) (hy : y ∈ x.l) : Small y := by have := Node.sz_sub hy; unfold Small at *; omega
theorem Small.len {x : Node} (h : Small x) : x.l.length < 1000000000 := by have := x.len_lt; unfold Small at h; omega

def rowD (l : List Node) : List (List D) := l.map Node.cs
theorem rowD_flat (l : List Node) : ((rowD l).flatMap id).map A.d = rowC l := rfl
/-- which nodes are the rule's -/
def findS (r : Int) : Int → Node → List Node → Bool × List Node := fun _ x s => (true, if x.kind = 0 ∧ x.num = r then s ++ [x] else s)

def FindI (kr kc : Nat) (r : Int) (b : Nat) (s : List Node) (σ : St) (own : List Nat) : Prop :=
  s.length + b < 2000000000 ∧ ∃ a bs, own = kc :: kr :: bs ∧ σ.get kc = .cells [a] ∧ σ.get kr = .cells [.d (.int .i64 r)] ∧ kc < σ.n ∧ kr < σ.n ∧ kc ≠ kr ∧ RowN 4 σ a (rowD s) bs ∧ kc ∉ bs ∧ kr ∉ bs

theorem find_vis (h57 : fz 57 = .keep) (h56 : fz 56 = .ice) (h96 : fz 96 = .keep) (kr kc : Nat) (r : Int) : Visits fz (List Node) (.func 57 [.ptr kr 0, .ptr kc 0]) (findS r) (fun _ x => Small x) (FindI kr kc r) where
  stay := by
    rintro b s σ τ own ⟨hb, a, bs, rfl, h1, h2, h3, h4, h5, h6, h7, h8⟩ hn hg
    exact ⟨hb, a, bs, rfl, by rw [hg kc (by simp)]; exact h1, by rw [hg kr (by simp)]; exact h2, by omega, by omega, h5, h6.stay hn fun k hk => hg k (by simp [hk]), h7, h8⟩
  lt := by
    rintro b s σ own k ⟨hb, a, bs, rfl, h1, h2, h3, h4, h5, h6, h7, h8⟩ hk
    simp at hk
    rcases hk with rfl | rfl | hk
    · exact h3
    · exact h4
    · exact h6.1.lt hk
  less := by rintro b s σ own ⟨hb, h⟩; exact ⟨by omega, h⟩
  sub := fun _ x y h _ hy => h.sub hy
  len := fun _ x h => h.len
  vis := by
    rintro b d x s σ own hx ⟨hb, a, bs, rfl, h1, h2, h3, h4, h5, h6, h7, h8⟩
    refine Run.keep h57 fn57 (by simp) ?_
    simp only [Try.f57, Option.getD_some]
    have hn3 : kc ≠ σ.n := by omega
    have hn4 : kr ≠ σ.n := by omega
    simp only [go_sem, ↓reduceIte, Option.some.injEq, Bool.true_eq_false, Bool.false_eq_true, Int.reduceBEq, Int.reduceBNe, Int.reduceLT, Int.reduceLE, Nat.add_assoc, Nat.reduceAdd, Nat.reducePow, Nat.zero_le, Nat.reduceEqDiff, Nat.reduceLT, Nat.reduceLeDiff, Nat.reduceMul, Nat.reduceSub, Nat.add_left_cancel_iff, Nat.lt_irrefl, Nat.le_refl, Nat.add_eq_left, Nat.left_eq_add, beq_self_eq_true, Node.a]
    cases hk : (x.kind == 0) with
    | false =>
      simp only [go_sem, ↓reduceIte, Option.some.injEq, Bool.true_eq_false, Bool.false_eq_true, Int.reduceBEq, Int.reduceBNe, Int.reduceLT, Int.reduceLE, Nat.add_assoc, Nat.reduceAdd, Nat.reducePow, Nat.zero_le, Nat.reduceEqDiff, Nat.reduceLT, Nat.reduceLeDiff, Nat.reduceMul, Nat.reduceSub, Nat.add_left_cancel_iff, Nat.lt_irrefl, Nat.le_refl, Nat.add_eq_left, Nat.left_eq_add, beq_self_eq_true, hk]
      have : ¬ (x.kind = 0 ∧ x.num = r) := by simp at hk; simp [hk]
      simp only [findS, this, if_false, true_and]
      exact ⟨_, Kept.refl.push, by omega, a, bs, rfl, by rw [St.get_push_ne h3]; exact h1, by rw [St.get_push_ne h4]; exact h2, by simp [St.n_push]; omega, by simp [St.n_push]; omega, h5, h6.stay (by simp [St.n_push]) fun k hk => St.get_push_ne (h6.1.lt hk), h7, h8⟩
    | true =>
      simp only [go_sem, ↓reduceIte, Option.some.injEq, Bool.true_eq_false, Bool.false_eq_true, Int.reduceBEq, Int.reduceBNe, Int.reduceLT, Int.reduceLE, Nat.add_assoc, Nat.reduceAdd, Nat.reducePow, Nat.zero_le, Nat.reduceEqDiff, Nat.reduceLT, Nat.reduceLeDiff, Nat.reduceMul, Nat.reduceSub, Nat.add_left_cancel_iff, Nat.lt_irrefl, Nat.le_refl, Nat.add_eq_left, Nat.left_eq_add, beq_self_eq_true, hk, hn4, h2]
      cases hr : (x.num == r) with
      | false =>
        simp only [go_sem, ↓reduceIte, Option.some.injEq, Bool.true_eq_false, Bool.false_eq_true, Int.reduceBEq, Int.reduceBNe, Int.reduceLT, Int.reduceLE, Nat.add_assoc, Nat.reduceAdd, Nat.reducePow, Nat.zero_le, Nat.reduceEqDiff, Nat.reduceLT, Nat.reduceLeDiff, Nat.reduceMul, Nat.reduceSub, Nat.add_left_cancel_iff, Nat.lt_irrefl, Nat.le_refl, Nat.add_eq_left, Nat.left_eq_add, beq_self_eq_true, hr]
        have : ¬ (x.kind = 0 ∧ x.num = r) := by simp at hr; simp [hr]
        simp only [findS, this, if_false, true_and]
        exact ⟨_, Kept.refl.push, by omega, a, bs, rfl, by rw [St.get_push_ne h3]; exact h1, by rw [St.get_push_ne h4]; exact h2, by simp [St.n_push]; omega, by simp [St.n_push]; omega, h5, h6.stay (by simp [St.n_push]) fun k hk => St.get_push_ne (h6.1.lt hk), h7, h8⟩
      | true =>
        simp only [go_sem, ↓reduceIte, Option.some.injEq, Bool.true_eq_false, Bool.false_eq_true, Int.reduceBEq, Int.reduceBNe, Int.reduceLT, Int.reduceLE, Nat.add_assoc, Nat.reduceAdd, Nat.reducePow, Nat.zero_le, Nat.reduceEqDiff, Nat.reduceLT, Nat.reduceLeDiff, Nat.reduceMul, Nat.reduceSub, Nat.add_left_cancel_iff, Nat.lt_irrefl, Nat.le_refl, Nat.add_eq_left, Nat.left_eq_add, beq_self_eq_true, hr, hn3, h1]
        have hyes : x.kind = 0 ∧ x.num = r := ⟨by simpa using hk, by simpa using hr⟩
        simp only [findS, hyes, and_self, if_true, true_and]
        have h6' : RowN 4 (σ.push (.cells x.c)) a (rowD s) bs := h6.stay (by simp [St.n_push]) fun k hk => St.get_push_ne (h6.1.lt hk)
        refine ⟨_, _, _, own_call h56 h96 x _ hx, ?_⟩
        have hz : sliceCells ((σ.push (.cells x.c)).push (.cells [.d (.int .i64 0), .d (.int .i64 0), .d (.int .i64 0), .d (.slc true [])])) (.row (σ.n + 1) 0 1 4) = some (([[D.int .i64 0, .int .i64 0, .int .i64 0, .slc true []]].flatMap id).map A.d) := by
          rw [sliceCells_row (cs := [.d (.int .i64 0), .d (.int .i64 0), .d (.int .i64 0), .d (.slc true [])]) (St.get_push_eq' (by simp [St.n_push])) (by simp)]; rfl
        obtain ⟨a', σ', T, bs', happ, hR, hK⟩ := (h6'.stay (τ := (σ.push (.cells x.c)).push (.cells [.d (.int .i64 0), .d (.int .i64 0), .d (.int .i64 0), .d (.slc true [])])) (by simp [St.n_push]) fun k hk => St.get_push_ne (h6'.1.lt hk)).app (b := 48) hz
          (by rw [sliceLen_row, St.get_push_eq' (by simp [St.n_push])]; rfl) (by simp) (by simp [rowD]; omega) (by simp [rowD]; omega)
        simp only [go_sem, ↓reduceIte, Option.some.injEq, Bool.true_eq_false, Bool.false_eq_true, Int.reduceBEq, Int.reduceBNe, Int.reduceLT, Int.reduceLE, Nat.add_assoc, Nat.reduceAdd, Nat.reducePow, Nat.zero_le, Nat.reduceEqDiff, Nat.reduceLT, Nat.reduceLeDiff, Nat.reduceMul, Nat.reduceSub, Nat.add_left_cancel_iff, Nat.lt_irrefl, Nat.le_refl, Nat.add_eq_left, Nat.left_eq_add, beq_self_eq_true, h6'.1.len, happ]
        obtain ⟨k', rfl, ha', hlt', hg', hidx⟩ := hR.1.last
        have e1 : σ'.get kc = .cells [a] := by rw [hK.same kc (by simp [St.n_push]; omega) h7, St.get_push_ne (by simp [St.n_push]; omega), St.get_push_ne h3, h1]
        have e2 : σ'.get kr = .cells [.d (.int .i64 r)] := by rw [hK.same kr (by simp [St.n_push]; omega) h8, St.get_push_ne (by simp [St.n_push]; omega), St.get_push_ne h4, h2]
        have hn' := hK.n
        simp only [St.n_push] at hn'
        have ho := hK.o k' (by simp)
        simp only [St.n_push] at ho
        have kne : kc ≠ k' := by rintro rfl; rcases ho with h | h; exact h7 h; omega
        have kne2 : kr ≠ k' := by rintro rfl; rcases ho with h | h; exact h8 h; omega
        have hput := putAt_end (es := 4) (xs := rowD s) (z := [D.int .i64 0, .int .i64 0, .int .i64 0, .slc true []]) (x := x.cs) (Node.cs_all s) rfl x.cs_len
        rw [Node.cs_map] at hput
        have hR2 := hR.put (x := x.cs) rfl x.cs_len
        have hcell : a'.isCell = true := by rw [ha']; rfl
        have hcells : a'.cells = some [a'] := by rw [ha']; rfl
        simp only [go_sem, ↓reduceIte, Option.some.injEq, Bool.true_eq_false, Bool.false_eq_true, Int.reduceBEq, Int.reduceBNe, Int.reduceLT, Int.reduceLE, Nat.add_assoc, Nat.reduceAdd, Nat.reducePow, Nat.zero_le, Nat.reduceEqDiff, Nat.reduceLT, Nat.reduceLeDiff, Nat.reduceMul, Nat.reduceSub, Nat.add_left_cancel_iff, Nat.lt_irrefl, Nat.le_refl, Nat.add_eq_left, Nat.left_eq_add, beq_self_eq_true, Node.a, hidx, hg', hput, kne, e1, hcell, hcells]
        refine ⟨?_, ?_⟩
        · refine drawOk_rel [5, 7, 8] [(7, 8), (8, 6), (8, 7)] ?_ ?_ ?_ ?_
          · rfl
          · kernel_rfl
          · kernel_rfl
          · simp [meets, kne, Ne.symm kne]
        · refine ⟨[kc, kr, k'], ?_, by simp; omega, a', [k'], rfl, St.get_set_eq, ?_, ?_, ?_, h5, ?_, by simpa using kne, by simpa using kne2⟩
          · have K0 : Kept σ (kc :: kr :: bs) ((σ.push (.cells x.c)).push (.cells [.d (.int .i64 0), .d (.int .i64 0), .d (.int .i64 0), .d (.slc true [])])) bs [] := (Kept.refl.push.push).owns fun k hk => .inl (by simp [hk])
            have K1 := K0.call hK
            have hk' : k' ∈ (kc :: kr :: bs) ∨ σ.n ≤ k' := ho.imp (fun h => by simp [h]) (fun h => by omega)
            have K2 := (K1.write (k := k') (b := .cells (((rowD s ++ [x.cs]).flatMap id).map A.d)) hk').write (k := kc) (b := .cells [a']) (.inl (by simp))
            exact K2.owns fun k hk => by
              simp at hk; rcases hk with rfl | rfl | rfl
              · exact .inl (by simp)
              · exact .inl (by simp)
              · exact hk'
          · rw [St.get_set_ne (Ne.symm h5), St.get_set_ne kne2]; exact e2
          · simp [St.n_set]; omega
          · simp [St.n_set]; omega
          · have := hR2.stay (τ := (σ'.set k' (.cells (((rowD s ++ [x.cs]).flatMap id).map A.d))).set kc (.cells [a'])) (by simp [St.n_set]) fun k hk => by
              simp at hk; subst hk; rw [St.get_set_ne (Ne.symm kne)]
            simpa [rowD] using this
mutual
/-- the nodes of a rule -/
def findP (r : Int) : Node → List Node
  | .mk k n p z l => (if k = 0 ∧ n = r then [Node.mk k n p z l] else []) ++ (if k = 0 then findL r l else [])
def findL (r : Int) : List Node → List Node
  | [] => []
  | x :: l => findP r x ++ findL r l
end
mutual
theorem find_P (r : Int) : ∀ (x : Node) (d : Int) (s : List Node), walkP (findS r) x d s = (true, s ++ findP r x)
  | .mk k n p z l, d, s => by
    have e1 : findS r d (.mk k n p z l) s = (true, if k = 0 ∧ n = r then s ++ [Node.mk k n p z l] else s) := rfl
    rw [walkP, findP]
    simp only [e1]
    rw [if_neg (by simp)]
    by_cases hk : k = 0
    · rw [if_neg (by simp [hk]), find_L r l, if_pos hk]
      congr 1
      by_cases h : k = 0 ∧ n = r
      · rw [if_pos h, if_pos h]; simp
      · rw [if_neg h, if_neg h]; simp
    · have h : ¬ (k = 0 ∧ n = r) := fun h => hk h.1
      rw [if_pos hk, if_neg h, if_neg h, if_neg hk]; simp
theorem find_L (r : Int) : ∀ (l : List Node) (d : Int) (s : List Node), walkL (findS r) l d s = (true, s ++ findL r l)
  | [], d, s => by simp [walkL, findL]
  | x :: l, d, s => by
    rw [walkL, find_P r x, findL]
    dsimp only
    rw [if_neg (by simp), find_L r l]; simp
end
theorem find_call (h21 : fz 21 = .ice) (h52 : fz 52 = .keep) (h57 : fz 57 = .keep) (h56 : fz 56 = .ice) (h96 : fz 96 = .keep) (x : Node) (r : Int) (σ : St) (hx : Small x) :
    CallsTo (XX fz) (.func 21 []) [x.a, .d (.int .i64 r)] σ (.d (.slc (rowD (findP r x)).isEmpty (rowD (findP r x)))) σ [] := by
  refine CallsTo.ice0 h21 fn21 (by simp) ?_
  simp only [Try.f21, Option.getD_some]
  simp only [go_sem, ↓reduceIte, Option.some.injEq, Bool.true_eq_false, Bool.false_eq_true, Int.reduceBEq, Int.reduceBNe, Int.reduceLT, Int.reduceLE, Nat.add_assoc, Nat.reduceAdd, Nat.reducePow, Nat.zero_le, Nat.reduceEqDiff, Nat.reduceLT, Nat.reduceLeDiff, Nat.reduceMul, Nat.reduceSub, Nat.add_left_cancel_iff, Nat.lt_irrefl, Nat.le_refl, Nat.add_eq_left, Nat.left_eq_add, beq_self_eq_true, Node.a]
  have hs := x.size_le
  have hsm : x.size < 1000000000 := by unfold Small at hx; omega
  obtain ⟨σ1, T, own1, hc, hK, hlen, a, bs, rfl, hg, -, h3, -, -, hR, -, -⟩ := walk_run h52 (find_vis h57 h56 h96 (σ.n + 1) (σ.n + 1 + 1) r) 0 x 0 [] (((σ.push (.cells x.c)).push (.cells [.d (.int .i64 r)])).push (.cells [.d (.slc true [])])) [σ.n + 1 + 1, σ.n + 1] hx
    ⟨by simp; omega, .d (.slc true []), [], rfl, St.get_push_eq' (by simp [St.n_push]), by rw [St.get_push_ne (by simp [St.n_push])]; exact St.get_push_eq' (by simp [St.n_push]), by simp [St.n_push], by simp [St.n_push], by omega, RowN.nil, by simp, by simp⟩
  rw [find_P] at hR hlen
  have hlo : ∀ k ∈ bs, σ.n ≤ k := fun k hk => by
    rcases hK.o k (by simp [hk]) with h | h
    · simp at h; omega
    · simp [St.n_push] at h; omega
  have hT : low σ.n T = [] := low_all fun k hk => by
    rcases hK.w k hk with h | h
    · simp at h; omega
    · simp [St.n_push] at h; omega
  refine ⟨_, _, _, hc, ?_⟩
  simp only [go_sem, ↓reduceIte, Option.some.injEq, Bool.true_eq_false, Bool.false_eq_true, Int.reduceBEq, Int.reduceBNe, Int.reduceLT, Int.reduceLE, Nat.add_assoc, Nat.reduceAdd, Nat.reducePow, Nat.zero_le, Nat.reduceEqDiff, Nat.reduceLT, Nat.reduceLeDiff, Nat.reduceMul, Nat.reduceSub, Nat.add_left_cancel_iff, Nat.lt_irrefl, Nat.le_refl, Nat.add_eq_left, Nat.left_eq_add, beq_self_eq_true, hg, hT]
  simp only [List.nil_append] at hR hlen
  have hf := hR.freeze (lo := σ.n) (n := fzDepth) hlo (by simp [rowD, fzDepth] at hlen ⊢; omega)
  rcases hR.1.2 with ⟨e, rfl, rfl⟩ | ⟨k, rfl, -⟩
  · simp only [go_sem, ↓reduceIte, Option.some.injEq, Bool.true_eq_false, Bool.false_eq_true, Int.reduceBEq, Int.reduceBNe, Int.reduceLT, Int.reduceLE, Nat.add_assoc, Nat.reduceAdd, Nat.reducePow, Nat.zero_le, Nat.reduceEqDiff, Nat.reduceLT, Nat.reduceLeDiff, Nat.reduceMul, Nat.reduceSub, Nat.add_left_cancel_iff, Nat.lt_irrefl, Nat.le_refl, Nat.add_eq_left, Nat.left_eq_add, beq_self_eq_true]; rw [e]; rfl
  · simp only [go_sem, ↓reduceIte, Option.some.injEq, Bool.true_eq_false, Bool.false_eq_true, Int.reduceBEq, Int.reduceBNe, Int.reduceLT, Int.reduceLE, Nat.add_assoc, Nat.reduceAdd, Nat.reducePow, Nat.zero_le, Nat.reduceEqDiff, Nat.reduceLT, Nat.reduceLeDiff, Nat.reduceMul, Nat.reduceSub, Nat.add_left_cancel_iff, Nat.lt_irrefl, Nat.le_refl, Nat.add_eq_left, Nat.left_eq_add, beq_self_eq_true, hf]
end Go.Am
namespace Go.Am
open Go Go.Proofs
variable {fz : Nat → Md}

theorem intsD_get {l : List Int} {i : Nat} (h : i < l.length) : (intsD l)[i]? = some [.int .i64 l[i]] := by simp [intsD, h]

theorem has_call (h20 : fz 20 = .cut) (l : List Int) (a : A) (n : Int) (σ : St) (ha : SlV 1 σ a (intsD l)) (hl : l.length < 1000000000) : CallsTo (XX fz) (.func 20 []) [a, .d (.int .i64 n)] σ (.d (.bool (l.contains n))) σ [] := by
  refine CallsTo.cut0 h20 fn20 (by simp) rfl ?_
  simp only [Try.f20, Option.getD_some]
  simp only [go_sem, ↓reduceIte, Option.some.injEq, Bool.true_eq_false, Bool.false_eq_true, Int.reduceBEq, Int.reduceBNe, Int.reduceLT, Int.reduceLE, Nat.add_assoc, Nat.reduceAdd, Nat.reducePow, Nat.zero_le, Nat.reduceEqDiff, Nat.reduceLT, Nat.reduceLeDiff, Nat.reduceMul, Nat.reduceSub, Nat.add_left_cancel_iff, Nat.lt_irrefl, Nat.le_refl, Nat.add_eq_left, Nat.left_eq_add, beq_self_eq_true]
  refine Ev.loop_ind (fun m tm σ' W => ∃ i : Nat, m = l.length - i ∧ i ≤ l.length ∧ W = [] ∧ σ' = σ ∧ l.contains n = (l.drop i).contains n ∧
      tm.at 0 = a ∧ tm.at 1 = .d (.int .i64 n) ∧ tm.at 5 = .d (.int .i64 i)) ?_ l.length _ _ _ ⟨0, rfl, by omega, rfl, rfl, rfl, ?_, ?_, ?_⟩
  · rintro m tm σ' W ⟨i, rfl, hi, rfl, rfl, he, t0, t1, t5⟩ ih
    by_cases hlt : i < l.length
    · obtain ⟨p, R, hix, hld⟩ := ha.idx .i64 i _ (intsD_get hlt)
      obtain ⟨R', hld⟩ := hld (.int .i64) 8 (some [.d (.int .i64 0)]) (.d (.int .i64 0))
      simp only [go_sem, ↓reduceIte, Option.some.injEq, Bool.true_eq_false, Bool.false_eq_true, Int.reduceBEq, Int.reduceBNe, Int.reduceLT, Int.reduceLE, Nat.add_assoc, Nat.reduceAdd, Nat.reducePow, Nat.zero_le, Nat.reduceEqDiff, Nat.reduceLT, Nat.reduceLeDiff, Nat.reduceMul, Nat.reduceSub, Nat.add_left_cancel_iff, Nat.lt_irrefl, Nat.le_refl, Nat.add_eq_left, Nat.left_eq_add, beq_self_eq_true, t0, t1, t5, ha.len, intsD_len, dec_lt hlt, hix, hld]
      rw [List.drop_eq_getElem_cons hlt, List.contains_cons] at he
      cases hd : (l[i] == n) with
      | true =>
        have : (n == l[i]) = true := beq_iff_eq.2 (beq_iff_eq.1 hd).symm
        simp only [go_sem, ↓reduceIte, Option.some.injEq, Bool.true_eq_false, Bool.false_eq_true, Int.reduceBEq, Int.reduceBNe, Int.reduceLT, Int.reduceLE, Nat.add_assoc, Nat.reduceAdd, Nat.reducePow, Nat.zero_le, Nat.reduceEqDiff, Nat.reduceLT, Nat.reduceLeDiff, Nat.reduceMul, Nat.reduceSub, Nat.add_left_cancel_iff, Nat.lt_irrefl, Nat.le_refl, Nat.add_eq_left, Nat.left_eq_add, beq_self_eq_true]
        rw [he, this]; rfl
      | false =>
        have : (n == l[i]) = false := beq_eq_false_iff_ne.2 (Ne.symm (beq_eq_false_iff_ne.1 hd))
        simp only [go_sem, ↓reduceIte, Option.some.injEq, Bool.true_eq_false, Bool.false_eq_true, Int.reduceBEq, Int.reduceBNe, Int.reduceLT, Int.reduceLE, Nat.add_assoc, Nat.reduceAdd, Nat.reducePow, Nat.zero_le, Nat.reduceEqDiff, Nat.reduceLT, Nat.reduceLeDiff, Nat.reduceMul, Nat.reduceSub, Nat.add_left_cancel_iff, Nat.lt_irrefl, Nat.le_refl, Nat.add_eq_left, Nat.left_eq_add, beq_self_eq_true, t0, t1, t5, wrap_succ hlt hl]
        exact ih _ _ _ _ (by omega) ⟨i + 1, rfl, hlt, rfl, rfl, by rw [he, this]; rfl, by simp only [go_sem, ↓reduceIte, Option.some.injEq, Bool.true_eq_false, Bool.false_eq_true, Int.reduceBEq, Int.reduceBNe, Int.reduceLT, Int.reduceLE, Nat.add_assoc, Nat.reduceAdd, Nat.reducePow, Nat.zero_le, Nat.reduceEqDiff, Nat.reduceLT, Nat.reduceLeDiff, Nat.reduceMul, Nat.reduceSub, Nat.add_left_cancel_iff, Nat.lt_irrefl, Nat.le_refl, Nat.add_eq_left, Nat.left_eq_add, beq_self_eq_true, t0], by simp only [go_sem, ↓reduceIte, Option.some.injEq, Bool.true_eq_false, Bool.false_eq_true, Int.reduceBEq, Int.reduceBNe, Int.reduceLT, Int.reduceLE, Nat.add_assoc, Nat.reduceAdd, Nat.reducePow, Nat.zero_le, Nat.reduceEqDiff, Nat.reduceLT, Nat.reduceLeDiff, Nat.reduceMul, Nat.reduceSub, Nat.add_left_cancel_iff, Nat.lt_irrefl, Nat.le_refl, Nat.add_eq_left, Nat.left_eq_add, beq_self_eq_true, t1], by simp only [go_sem, ↓reduceIte, Option.some.injEq, Bool.true_eq_false, Bool.false_eq_true, Int.reduceBEq, Int.reduceBNe, Int.reduceLT, Int.reduceLE, Nat.add_assoc, Nat.reduceAdd, Nat.reducePow, Nat.zero_le, Nat.reduceEqDiff, Nat.reduceLT, Nat.reduceLeDiff, Nat.reduceMul, Nat.reduceSub, Nat.add_left_cancel_iff, Nat.lt_irrefl, Nat.le_refl, Nat.add_eq_left, Nat.left_eq_add, beq_self_eq_true]⟩
    · simp only [go_sem, ↓reduceIte, Option.some.injEq, Bool.true_eq_false, Bool.false_eq_true, Int.reduceBEq, Int.reduceBNe, Int.reduceLT, Int.reduceLE, Nat.add_assoc, Nat.reduceAdd, Nat.reducePow, Nat.zero_le, Nat.reduceEqDiff, Nat.reduceLT, Nat.reduceLeDiff, Nat.reduceMul, Nat.reduceSub, Nat.add_left_cancel_iff, Nat.lt_irrefl, Nat.le_refl, Nat.add_eq_left, Nat.left_eq_add, beq_self_eq_true, t0, t1, t5, ha.len, intsD_len, dec_ge hlt]
      rw [he, List.drop_eq_nil_of_le (by omega)]; rfl
  all_goals first | rfl | (simp only [go_sem, ↓reduceIte, Option.some.injEq, Bool.true_eq_false, Bool.false_eq_true, Int.reduceBEq, Int.reduceBNe, Int.reduceLT, Int.reduceLE, Nat.add_assoc, Nat.reduceAdd, Nat.reducePow, Nat.zero_le, Nat.reduceEqDiff, Nat.reduceLT, Nat.reduceLeDiff, Nat.reduceMul, Nat.reduceSub, Nat.add_left_cancel_iff, Nat.lt_irrefl, Nat.le_refl, Nat.add_eq_left, Nat.left_eq_add, beq_self_eq_true]; done) | (simp only [go_sem, ↓reduceIte, Option.some.injEq, Bool.true_eq_false, Bool.false_eq_true, Int.reduceBEq, Int.reduceBNe, Int.reduceLT, Int.reduceLE, Nat.add_assoc, Nat.reduceAdd, Nat.reducePow, Nat.zero_le, Nat.reduceEqDiff, Nat.reduceLT, Nat.reduceLeDiff, Nat.reduceMul, Nat.reduceSub, Nat.add_left_cancel_iff, Nat.lt_irrefl, Nat.le_refl, Nat.add_eq_left, Nat.left_eq_add, beq_self_eq_true]; rfl)

mutual
/-- the nodes of rules of a tree -/
def allP : Node → List Node
  | .mk k n p z l => if k = 0 then .mk k n p z l :: allL l else []
def allL : List Node → List Node
  | [] => []
  | x :: l => allP x ++ allL l
end
theorem allP_eq (x : Node) : allP x = if x.kind = 0 then x :: allL x.l else [] := by cases x; rw [allP]; rfl
mutual
theorem all_len : ∀ x : Node, (allP x).length ≤ x.sz
  | .mk k n p z l => by rw [allP, Node.sz]; have := all_lenL l; split <;> simp <;> omega
theorem all_lenL : ∀ l : List Node, (allL l).length ≤ (l.map Node.sz).sum
  | [] => by simp [allL]
  | x :: l => by rw [allL]; have := all_len x; have := all_lenL l; simp; omega
end
theorem allL_append (l m : List Node) : allL (l ++ m) = allL l ++ allL m := by
  induction l with
  | nil => rfl
  | cons x l ih => simp [allL, ih]
theorem rowD_app (l m : List Node) : rowD l ++ rowD m = rowD (l ++ m) := by simp [rowD]

theorem all_call (h19 : fz 19 = .ice) (x : Node) (σ : St) (hx : Small x) : CallsTo (XX fz) (.func 19 []) [x.a] σ (.d (.slc (rowD (allP x)).isEmpty (rowD (allP x)))) σ [] := by
  refine CallsTo.ice0 h19 fn19 (by simp) ?_
  rw [allP_eq]
  simp only [Try.f19, Option.getD_some]
  simp only [go_sem, ↓reduceIte, Option.some.injEq, Bool.true_eq_false, Bool.false_eq_true, Int.reduceBEq, Int.reduceBNe, Int.reduceLT, Int.reduceLE, Nat.add_assoc, Nat.reduceAdd, Nat.reducePow, Nat.zero_le, Nat.reduceEqDiff, Nat.reduceLT, Nat.reduceLeDiff, Nat.reduceMul, Nat.reduceSub, Nat.add_left_cancel_iff, Nat.lt_irrefl, Nat.le_refl, Nat.add_eq_left, Nat.left_eq_add, beq_self_eq_true, Node.a]
  have hsz := x.sz_eq
  unfold Small at hx
  cases hk : (x.kind != 0) with
  | true =>
    have : ¬ x.kind = 0 := by simpa using hk
    simp only [go_sem, ↓reduceIte, Option.some.injEq, Bool.true_eq_false, Bool.false_eq_true, Int.reduceBEq, Int.reduceBNe, Int.reduceLT, Int.reduceLE, Nat.add_assoc, Nat.reduceAdd, Nat.reducePow, Nat.zero_le, Nat.reduceEqDiff, Nat.reduceLT, Nat.reduceLeDiff, Nat.reduceMul, Nat.reduceSub, Nat.add_left_cancel_iff, Nat.lt_irrefl, Nat.le_refl, Nat.add_eq_left, Nat.left_eq_add, beq_self_eq_true, this]; rfl
  | false =>
    have : x.kind = 0 := by simpa using hk
    simp only [go_sem, ↓reduceIte, Option.some.injEq, Bool.true_eq_false, Bool.false_eq_true, Int.reduceBEq, Int.reduceBNe, Int.reduceLT, Int.reduceLE, Nat.add_assoc, Nat.reduceAdd, Nat.reducePow, Nat.zero_le, Nat.reduceEqDiff, Nat.reduceLT, Nat.reduceLeDiff, Nat.reduceMul, Nat.reduceSub, Nat.add_left_cancel_iff, Nat.lt_irrefl, Nat.le_refl, Nat.add_eq_left, Nat.left_eq_add, beq_self_eq_true, this]
    have hzero : (putAt [A.d (D.int IntKind.i64 0), A.d (D.int IntKind.i64 0), A.d (D.int IntKind.i64 0), A.d (D.slc true [])] 0 x.c) = x.c := rfl
    simp only [go_sem, ↓reduceIte, Option.some.injEq, Bool.true_eq_false, Bool.false_eq_true, Int.reduceBEq, Int.reduceBNe, Int.reduceLT, Int.reduceLE, Nat.add_assoc, Nat.reduceAdd, Nat.reducePow, Nat.zero_le, Nat.reduceEqDiff, Nat.reduceLT, Nat.reduceLeDiff, Nat.reduceMul, Nat.reduceSub, Nat.add_left_cancel_iff, Nat.lt_irrefl, Nat.le_refl, Nat.add_eq_left, Nat.left_eq_add, beq_self_eq_true, hzero]
    have hlen : (x :: allL x.l).length < 1000000000 := by have := all_lenL x.l; simp; omega
    have hll := x.len_lt
    refine Ev.loop_ind (fun m tm σ' W => ∃ (i : Nat) (a : A) (acc : List Node) (bs : List Nat), m = x.l.length - i ∧ i ≤ x.l.length ∧ W = [] ∧ σ.n + 1 ≤ σ'.n ∧ σ'.get σ.n = .cells x.c ∧ RowN 4 σ' a (rowD acc) bs ∧ (∀ k ∈ bs, σ.n < k) ∧ acc ≠ [] ∧
      acc ++ allL (x.l.drop i) = x :: allL x.l ∧ tm.at 1 = .ptr σ.n 0 ∧ tm.at 3 = a ∧ tm.at 4 = .d (.int .i64 i)) ?_ x.l.length _ _ _ ⟨0, .row (σ.n + 1) 0 1 4, [x], [σ.n + 1], rfl, by omega, rfl, ?_, ?_, ?_, ?_, by simp, by simp, ?_, ?_, ?_⟩
    · rintro m tm σ' W ⟨i, a, acc, bs, rfl, hi, rfl, hn, hg, hR, hbs, hne, he, t1, t3, t4⟩ ih
      by_cases hl : i < x.l.length
      · have hget : x.l[i]? = some x.l[i] := by simp [hl]
        have hmem : x.l[i] ∈ x.l := List.getElem_mem hl
        rw [List.drop_eq_getElem_cons hl, allL, ← List.append_assoc] at he
        have hl2 : acc.length + (allP x.l[i]).length ≤ (x :: allL x.l).length := by rw [← he]; simp
        simp only [go_sem, ↓reduceIte, Option.some.injEq, Bool.true_eq_false, Bool.false_eq_true, Int.reduceBEq, Int.reduceBNe, Int.reduceLT, Int.reduceLE, Nat.add_assoc, Nat.reduceAdd, Nat.reducePow, Nat.zero_le, Nat.reduceEqDiff, Nat.reduceLT, Nat.reduceLeDiff, Nat.reduceMul, Nat.reduceSub, Nat.add_left_cancel_iff, Nat.lt_irrefl, Nat.le_refl, Nat.add_eq_left, Nat.left_eq_add, beq_self_eq_true, t1, t3, t4, hg, dec_lt hl, Node.index_ld hget]
        refine ⟨_, _, _, all_call h19 x.l[i] σ' (Small.sub (x := x) hx hmem), ?_⟩
        obtain ⟨a', σ'', T, bs', happ, hR', hK⟩ := hR.app (b := 48) (x := .d (.slc (rowD (allP x.l[i])).isEmpty (rowD (allP x.l[i])))) rfl rfl (Node.cs_all _) (by simp [rowD]; omega) (by simp [rowD]; omega)
        have hT : low σ.n T = [] := low_all fun k hk => by
          rcases hK.w k hk with h | h
          · have := hbs k h; omega
          · omega
        rw [rowD_app] at hR'
        simp only [go_sem, ↓reduceIte, Option.some.injEq, Bool.true_eq_false, Bool.false_eq_true, Int.reduceBEq, Int.reduceBNe, Int.reduceLT, Int.reduceLE, Nat.add_assoc, Nat.reduceAdd, Nat.reducePow, Nat.zero_le, Nat.reduceEqDiff, Nat.reduceLT, Nat.reduceLeDiff, Nat.reduceMul, Nat.reduceSub, Nat.add_left_cancel_iff, Nat.lt_irrefl, Nat.le_refl, Nat.add_eq_left, Nat.left_eq_add, beq_self_eq_true, t1, t3, t4, happ, hT, wrap_succ hl (by omega)]
        refine ih _ _ _ _ (by omega) ⟨i + 1, a', acc ++ allP x.l[i], bs', rfl, hl, rfl, by have := hK.n; omega, ?_, hR', fun k hk => ?_, by simp [hne], he, by simp only [go_sem, ↓reduceIte, Option.some.injEq, Bool.true_eq_false, Bool.false_eq_true, Int.reduceBEq, Int.reduceBNe, Int.reduceLT, Int.reduceLE, Nat.add_assoc, Nat.reduceAdd, Nat.reducePow, Nat.zero_le, Nat.reduceEqDiff, Nat.reduceLT, Nat.reduceLeDiff, Nat.reduceMul, Nat.reduceSub, Nat.add_left_cancel_iff, Nat.lt_irrefl, Nat.le_refl, Nat.add_eq_left, Nat.left_eq_add, beq_self_eq_true, t1], by simp only [go_sem, ↓reduceIte, Option.some.injEq, Bool.true_eq_false, Bool.false_eq_true, Int.reduceBEq, Int.reduceBNe, Int.reduceLT, Int.reduceLE, Nat.add_assoc, Nat.reduceAdd, Nat.reducePow, Nat.zero_le, Nat.reduceEqDiff, Nat.reduceLT, Nat.reduceLeDiff, Nat.reduceMul, Nat.reduceSub, Nat.add_left_cancel_iff, Nat.lt_irrefl, Nat.le_refl, Nat.add_eq_left, Nat.left_eq_add, beq_self_eq_true], by simp only [go_sem, ↓reduceIte, Option.some.injEq, Bool.true_eq_false, Bool.false_eq_true, Int.reduceBEq, Int.reduceBNe, Int.reduceLT, Int.reduceLE, Nat.add_assoc, Nat.reduceAdd, Nat.reducePow, Nat.zero_le, Nat.reduceEqDiff, Nat.reduceLT, Nat.reduceLeDiff, Nat.reduceMul, Nat.reduceSub, Nat.add_left_cancel_iff, Nat.lt_irrefl, Nat.le_refl, Nat.add_eq_left, Nat.left_eq_add, beq_self_eq_true]⟩
        · rw [hK.same σ.n (by omega) (fun h => by have := hbs _ h; omega), hg]
        · rcases hK.o k hk with h | h
          · exact hbs k h
          · omega
      · rw [List.drop_eq_nil_of_le (by omega), allL, List.append_nil] at he
        simp only [go_sem, ↓reduceIte, Option.some.injEq, Bool.true_eq_false, Bool.false_eq_true, Int.reduceBEq, Int.reduceBNe, Int.reduceLT, Int.reduceLE, Nat.add_assoc, Nat.reduceAdd, Nat.reducePow, Nat.zero_le, Nat.reduceEqDiff, Nat.reduceLT, Nat.reduceLeDiff, Nat.reduceMul, Nat.reduceSub, Nat.add_left_cancel_iff, Nat.lt_irrefl, Nat.le_refl, Nat.add_eq_left, Nat.left_eq_add, beq_self_eq_true, t1, t3, t4, hg, dec_ge hl]
        rw [← he]
        have hf := hR.freeze (lo := σ.n) (n := fzDepth) (fun k hk => by have := hbs k hk; omega) (by rw [← he] at hlen; simp [rowD, fzDepth] at hlen ⊢; omega)
        rcases hR.1.2 with ⟨e, -, -⟩ | ⟨k, rfl, -⟩
        · simp [rowD] at e; exact absurd e hne
        · simp only [go_sem, ↓reduceIte, Option.some.injEq, Bool.true_eq_false, Bool.false_eq_true, Int.reduceBEq, Int.reduceBNe, Int.reduceLT, Int.reduceLE, Nat.add_assoc, Nat.reduceAdd, Nat.reducePow, Nat.zero_le, Nat.reduceEqDiff, Nat.reduceLT, Nat.reduceLeDiff, Nat.reduceMul, Nat.reduceSub, Nat.add_left_cancel_iff, Nat.lt_irrefl, Nat.le_refl, Nat.add_eq_left, Nat.left_eq_add, beq_self_eq_true, hf]
    · simp [St.n_push]
    · rw [St.get_push_ne (by simp [St.n_push]), St.get_push_eq]
    · refine ⟨⟨Node.cs_all _, .inr ⟨_, rfl, ?_, by simp [St.n_push], rfl⟩⟩, by simp [rowD]⟩
      rw [St.get_push_eq' (by simp [St.n_push])]; simp [rowD, Node.cs_map]
    · simp
    all_goals first | rfl | (simp only [go_sem, ↓reduceIte, Option.some.injEq, Bool.true_eq_false, Bool.false_eq_true, Int.reduceBEq, Int.reduceBNe, Int.reduceLT, Int.reduceLE, Nat.add_assoc, Nat.reduceAdd, Nat.reducePow, Nat.zero_le, Nat.reduceEqDiff, Nat.reduceLT, Nat.reduceLeDiff, Nat.reduceMul, Nat.reduceSub, Nat.add_left_cancel_iff, Nat.lt_irrefl, Nat.le_refl, Nat.add_eq_left, Nat.left_eq_add, beq_self_eq_true]; done) | (simp only [go_sem, ↓reduceIte, Option.some.injEq, Bool.true_eq_false, Bool.false_eq_true, Int.reduceBEq, Int.reduceBNe, Int.reduceLT, Int.reduceLE, Nat.add_assoc, Nat.reduceAdd, Nat.reducePow, Nat.zero_le, Nat.reduceEqDiff, Nat.reduceLT, Nat.reduceLeDiff, Nat.reduceMul, Nat.reduceSub, Nat.add_left_cancel_iff, Nat.lt_irrefl, Nat.le_refl, Nat.add_eq_left, Nat.left_eq_add, beq_self_eq_true]; rfl)
termination_by x
decreasing_by exact Node.sub_lt hmem
end Go.Am
namespace Go.Am
open Go Go.Proofs
variable {fz : Nat → Md}

theorem leaves_call (h18 : fz 18 = .keep) (x : Node) (σ : St) : CallsTo (XX fz) (.func 18 []) [x.a] σ (.func 54 [.ptr σ.n 0]) (σ.push (.cells x.c)) [] := by
  refine CallsTo.ofQ fn18 (by simp) ?_
  simp only [Try.f18, Option.getD_some]
  simp only [go_sem, ↓reduceIte, Option.some.injEq, Bool.true_eq_false, Bool.false_eq_true, Int.reduceBEq, Int.reduceBNe, Int.reduceLT, Int.reduceLE, Nat.add_assoc, Nat.reduceAdd, Nat.reducePow, Nat.zero_le, Nat.reduceEqDiff, Nat.reduceLT, Nat.reduceLeDiff, Nat.reduceMul, Nat.reduceSub, Nat.add_left_cancel_iff, Nat.lt_irrefl, Nat.le_refl, Nat.add_eq_left, Nat.left_eq_add, beq_self_eq_true, Node.a]
  simp only [leaveCall, XX_fz, h18]

def leafS {S : Type} (stp : Int → Node → S → Bool × S) : Int → Node → S → Bool × S := fun d x s => if x.kind = 0 then (true, s) else stp d x s

/-- what a round of a loop over leaves asks of memory -/
structure Rounds (fz : Nat → Md) (S : Type) (kl : Nat) (stp : Int → Node → S → Bool × S) (G : Int → Node → Prop) (I : Nat → S → St → List Nat → Prop) : Prop where
  stay : ∀ b s σ τ own, I b s σ own → σ.n ≤ τ.n → (∀ k ∈ own, τ.get k = σ.get k) → I b s τ own
  lt : ∀ b s σ own k, I b s σ own → k ∈ own → k < σ.n
  less : ∀ b s σ own, I (b + 1) s σ own → I b s σ own
  round : ∀ b d x s σ own, G d x → x.kind ≠ 0 → I (b + 1) s σ own → Run (XX fz) (.yld kl) [.d (.int .i64 d), x.a] σ own (.d (.bool (stp d x s).1)) fun σ' own' => I b (stp d x s).2 σ' own'
  sub : ∀ d x y, G d x → x.kind = 0 → y ∈ x.l → G (IntKind.i64.wrap (d + 1)) y
  small : ∀ d x, G d x → Small x
theorem Rounds.push {S : Type} {kl : Nat} {stp : Int → Node → S → Bool × S} {G : Int → Node → Prop} {I : Nat → S → St → List Nat → Prop} (V : Rounds fz S kl stp G I) {m : Nat} {s : S} {σ : St} {own : List Nat} {b : Blk} (h : I m s σ own) : I m s (σ.push b) own :=
  V.stay _ _ _ _ _ h (by simp [St.n_push]) fun k hk => St.get_push_ne (V.lt _ _ _ _ _ h hk)

theorem leaf_vis (h55 : fz 55 = .keep) (h56 : fz 56 = .ice) (h96 : fz 96 = .keep) {S : Type} {kl kb : Nat} {stp : Int → Node → S → Bool × S} {G : Int → Node → Prop} {I : Nat → S → St → List Nat → Prop} (V : Rounds fz S kl stp G I) :
    Visits fz S (.func 55 [.ptr kb 0]) (leafS stp) G fun b s σ own => ∃ own0, own = kb :: own0 ∧ I b s σ own0 ∧ σ.get kb = .cells [.yld kl] ∧ kb < σ.n ∧ kb ∉ own0 where
  stay := by
    rintro b s σ τ own ⟨own0, rfl, h1, h2, h3, h4⟩ hn hg
    exact ⟨own0, rfl, V.stay _ _ _ _ _ h1 hn fun k hk => hg k (by simp [hk]), by rw [hg kb (by simp)]; exact h2, by omega, h4⟩
  lt := by
    rintro b s σ own k ⟨own0, rfl, h1, h2, h3, h4⟩ hk
    rcases List.mem_cons.1 hk with rfl | hk
    · exact h3
    · exact V.lt _ _ _ _ _ h1 hk
  less := by rintro b s σ own ⟨own0, h, h1, h2⟩; exact ⟨own0, h, V.less _ _ _ _ h1, h2⟩
  sub := V.sub
  len := fun d x h => (V.small d x h).len
  vis := by
    rintro b d x s σ own hG ⟨own0, rfl, h1, h2, h3, h4⟩
    refine Run.keep h55 fn55 (by simp) ?_
    simp only [Try.f55, Option.getD_some]
    simp only [go_sem, ↓reduceIte, Option.some.injEq, Bool.true_eq_false, Bool.false_eq_true, Int.reduceBEq, Int.reduceBNe, Int.reduceLT, Int.reduceLE, Nat.add_assoc, Nat.reduceAdd, Nat.reducePow, Nat.zero_le, Nat.reduceEqDiff, Nat.reduceLT, Nat.reduceLeDiff, Nat.reduceMul, Nat.reduceSub, Nat.add_left_cancel_iff, Nat.lt_irrefl, Nat.le_refl, Nat.add_eq_left, Nat.left_eq_add, beq_self_eq_true, Node.a]
    cases hk : (x.kind == 0) with
    | true =>
      have hk' : x.kind = 0 := by simpa using hk
      simp only [go_sem, ↓reduceIte, Option.some.injEq, Bool.true_eq_false, Bool.false_eq_true, Int.reduceBEq, Int.reduceBNe, Int.reduceLT, Int.reduceLE, Nat.add_assoc, Nat.reduceAdd, Nat.reducePow, Nat.zero_le, Nat.reduceEqDiff, Nat.reduceLT, Nat.reduceLeDiff, Nat.reduceMul, Nat.reduceSub, Nat.add_left_cancel_iff, Nat.lt_irrefl, Nat.le_refl, Nat.add_eq_left, Nat.left_eq_add, beq_self_eq_true, hk, leafS, hk']
      exact ⟨drawOk_quiet rfl, _, Kept.refl.push, own0, rfl, V.push (V.less _ _ _ _ h1), by rw [if_neg (by omega)]; exact h2, by omega, h4⟩
    | false =>
      have hk' : ¬ x.kind = 0 := by simpa using hk
      have hne : kb ≠ σ.n := by omega
      simp only [go_sem, ↓reduceIte, Option.some.injEq, Bool.true_eq_false, Bool.false_eq_true, Int.reduceBEq, Int.reduceBNe, Int.reduceLT, Int.reduceLE, Nat.add_assoc, Nat.reduceAdd, Nat.reducePow, Nat.zero_le, Nat.reduceEqDiff, Nat.reduceLT, Nat.reduceLeDiff, Nat.reduceMul, Nat.reduceSub, Nat.add_left_cancel_iff, Nat.lt_irrefl, Nat.le_refl, Nat.add_eq_left, Nat.left_eq_add, beq_self_eq_true, hk, hne, h2]
      refine ⟨_, _, _, own_call h56 h96 x _ (V.small d x hG), ?_⟩
      obtain ⟨σ1, T, own1, hc, hK, hI⟩ := V.round b d x s (σ.push (.cells x.c)) own0 hG hk' (V.push h1)
      refine ⟨_, _, _, hc, ?_⟩
      simp only [leafS, hk', if_false, true_and]
      refine ⟨drawOk_rel [8] [] rfl (by kernel_rfl) rfl (by simp), kb :: own1, ?_, own1, rfl, hI, ?_, ?_, ?_⟩
      · exact ((Kept.refl (σ := σ) (own := kb :: own0)).push (b := .cells x.c) |>.owns (own2 := own0) (fun k hk => .inl (by simp [hk]))).call hK |>.owns fun k hk => by
          rcases List.mem_cons.1 hk with rfl | hk
          · exact .inl (by simp)
          · rcases hK.o k hk with h | h
            · exact .inl (by simp [h])
            · simp [St.n_push] at h; exact .inr (by omega)
      · rw [hK.same kb (by simp [St.n_push]; omega) h4, St.get_push_ne h3]; exact h2
      · have := hK.n; simp [St.n_push] at this; omega
      · intro h
        rcases hK.o kb h with h | h
        · exact h4 h
        · simp [St.n_push] at h; omega

/-- a loop over a tree's leaves -/
theorem leaves_run (h54 : fz 54 = .keep) (h52 : fz 52 = .keep) (h55 : fz 55 = .keep) (h56 : fz 56 = .ice) (h96 : fz 96 = .keep) {S : Type} {kl kx : Nat} {stp : Int → Node → S → Bool × S} {G : Int → Node → Prop} {I : Nat → S → St → List Nat → Prop}
    (V : Rounds fz S kl stp G I) (b : Nat) (x : Node) (s : S) (σ : St) (own : List Nat) (hG : G 0 x) (hI : I (b + x.size) s σ own) (hx : σ.get kx = .cells x.c) (hlt : kx < σ.n) :
    Run (XX fz) (.func 54 [.ptr kx 0]) [.yld kl] σ own (.tup []) fun σ' own' => I b (walkP (leafS stp) x 0 s).2 σ' own' := by
  refine Run.keep h54 fn54 (by simp) ?_
  simp only [Try.f54, Option.getD_some]
  have hne : kx ≠ σ.n := by omega
  simp only [go_sem, ↓reduceIte, Option.some.injEq, Bool.true_eq_false, Bool.false_eq_true, Int.reduceBEq, Int.reduceBNe, Int.reduceLT, Int.reduceLE, Nat.add_assoc, Nat.reduceAdd, Nat.reducePow, Nat.zero_le, Nat.reduceEqDiff, Nat.reduceLT, Nat.reduceLeDiff, Nat.reduceMul, Nat.reduceSub, Nat.add_left_cancel_iff, Nat.lt_irrefl, Nat.le_refl, Nat.add_eq_left, Nat.left_eq_add, beq_self_eq_true, Node.a, hne, hx]
  obtain ⟨σ1, T, own1, hc, hK, own0, rfl, hI1, -, -, -⟩ := walk_run h52 (leaf_vis h55 h56 h96 V (kb := σ.n)) b x 0 s (σ.push (.cells [.yld kl])) (σ.n :: own) hG
    ⟨own, rfl, V.push hI, St.get_push_eq, by simp [St.n_push], fun h => by have := V.lt _ _ _ _ _ hI h; omega⟩
  refine ⟨_, _, _, hc, ?_⟩
  refine ⟨own0, ?_, hI1⟩
  exact (((Kept.refl (σ := σ) (own := own)).push (b := .cells [.yld kl])).owns (own2 := σ.n :: own) (fun k hk => by
    rcases List.mem_cons.1 hk with rfl | hk
    · exact .inr (Nat.le_refl _)
    · exact .inl hk)).call hK |>.owns fun k hk => by
      rcases hK.o k (by simp [hk]) with h | h
      · rcases List.mem_cons.1 h with rfl | h
        · exact .inr (Nat.le_refl _)
        · exact .inl h
      · simp [St.n_push] at h; exact .inr (by omega)
end Go.Am
namespace Go.Am
open Go Go.Proofs
variable {fz : Nat → Md}

theorem app_int {τ : St} {a : A} {l : List Int} {bs : List Nat} {j : Nat} {x : Int} (r : RowN 1 τ a (intsD l) bs) (hj : τ.get j = .cells [.d (.int .i64 x)]) (hl : l.length < 2000000000) :
    ∃ a' τ' T bs', appendA 1 8 τ a (.row j 0 1 1) = .val a' τ' T [] ∧ RowN 1 τ' a' (intsD (l ++ [x])) bs' ∧ Kept τ bs τ' bs' T ∧ a'.cells = some [a'] ∧ a'.isCell = true := by
  obtain ⟨a', τ', T, bs', h1, h2, h3⟩ := r.app (b := 8) (x := .row j 0 1 1) (ys := [[.int .i64 x]]) (by rw [sliceCells_row hj (by simp)]; rfl) (by rw [sliceLen_row, hj]; rfl) (by simp) (by simp [intsD]; omega) (by simp [intsD]; omega)
  have h2' : RowN 1 τ' a' (intsD (l ++ [x])) bs' := by simpa [intsD] using h2
  exact ⟨a', τ', T, bs', h1, h2', h3, h2'.1.cells, h2'.1.cell⟩

/-- the loop over leaves in Kinds -/
noncomputable def kindsR : Array Nat × Code × Code := ((rangesOf (Try.f22.body.getD .skip))[0]?).getD default
noncomputable def kindsL (tm : Tm) : ALoop := ⟨22, 40, tm, kindsR.1, kindsR.2.1, kindsR.2.2, .ready, none⟩
def kindS : Int → Node → List Int × List Int → Bool × (List Int × List Int) := fun _ x s =>
  (true, (if x.kind = 1 ∨ x.kind = 3 then s.1 ++ [x.num] else s.1, if x.kind = 1 ∨ x.kind = 2 then s.2 ++ [x.num] else s.2))

structure KI (kl k2 k3 : Nat) (L : ALoop) (b : Nat) (s : List Int × List Int) (σ : St) (own : List Nat) : Prop where
  len : s.1.length + b < 2000000000 ∧ s.2.length + b < 2000000000
  ex : ∃ a1 a2 bs1 bs2, own = kl :: k2 :: k3 :: (bs1 ++ bs2) ∧ σ.get kl = .loop L ∧ σ.get k2 = .cells [a1] ∧ σ.get k3 = .cells [a2] ∧ kl < σ.n ∧ k2 < σ.n ∧ k3 < σ.n ∧
    RowN 1 σ a1 (intsD s.1) bs1 ∧ RowN 1 σ a2 (intsD s.2) bs2 ∧ (∀ k ∈ bs1 ++ bs2, k ≠ kl ∧ k ≠ k2 ∧ k ≠ k3) ∧ ∀ k ∈ bs1, k ∉ bs2

set_option maxHeartbeats 1000000 in
theorem kinds_vis {kl k2 k3 : Nat} {tm : Tm} (h2 : tm.at 2 = .ptr k2 0) (h3 : tm.at 3 = .ptr k3 0) (n1 : kl ≠ k2) (n2 : kl ≠ k3) (n3 : k2 ≠ k3) :
    Rounds fz (List Int × List Int) kl kindS (fun _ x => Small x) (KI kl k2 k3 (kindsL tm)) where
  stay := by
    rintro b s σ τ own ⟨hl, a1, a2, bs1, bs2, rfl, g1, g2, g3, l1, l2, l3, r1, r2, hd, hdd⟩ hn hg
    exact ⟨hl, a1, a2, bs1, bs2, rfl, by rw [hg kl (by simp)]; exact g1, by rw [hg k2 (by simp)]; exact g2, by rw [hg k3 (by simp)]; exact g3, by omega, by omega, by omega,
      r1.stay hn fun k hk => hg k (by simp [hk]), r2.stay hn fun k hk => hg k (by simp [hk]), hd, hdd⟩
  lt := by
    rintro b s σ own k ⟨hl, a1, a2, bs1, bs2, rfl, g1, g2, g3, l1, l2, l3, r1, r2, hd, hdd⟩ hk
    simp at hk
    rcases hk with rfl | rfl | rfl | hk | hk
    · exact l1
    · exact l2
    · exact l3
    · exact r1.1.lt hk
    · exact r2.1.lt hk
  less := by rintro b s σ own ⟨hl, h⟩; exact ⟨by omega, h⟩
  sub := fun _ x y h _ hy => h.sub hy
  small := fun _ x h => h
  round := by
    rintro b d x s σ own hx - ⟨hl, a1, a2, bs1, bs2, rfl, g1, g2, g3, l1, l2, l3, r1, r2, hd, hdd⟩
    refine Run.yld g1 ⟨rfl, by kernel_rfl⟩ ?_
    have m1 : kl ≠ σ.n := by omega
    have m2 : k2 ≠ σ.n := by omega
    have m3 : k3 ≠ σ.n := by omega
    have w1 : (kindsL tm).fn = 22 := rfl
    have w2 : (kindsL tm).nt = 40 := rfl
    have w3 : (kindsL tm).tm = tm := rfl
    have w4 : (kindsL tm).params = #[8, 9] := rfl
    have w5 : (kindsL tm).assign = kindsR.2.1 := rfl
    have w6 : (kindsL tm).body = kindsR.2.2 := rfl
    have w7 : (kindsL tm).st = .ready := rfl
    simp only [w1, w2, w3, w4, w5, w6, kindsR, Try.f22, rangesOf, Option.getD_some, List.append_nil, List.nil_append, List.getElem?_cons_zero, List.cons_append]
    simp only [go_sem, ↓reduceIte, Option.some.injEq, Bool.true_eq_false, Bool.false_eq_true, Int.reduceBEq, Int.reduceBNe, Int.reduceLT, Int.reduceLE, Nat.add_assoc, Nat.reduceAdd, Nat.reducePow, Nat.zero_le, Nat.reduceEqDiff, Nat.reduceLT, Nat.reduceLeDiff, Nat.reduceMul, Nat.reduceSub, Nat.add_left_cancel_iff, Nat.lt_irrefl, Nat.le_refl, Nat.add_eq_left, Nat.left_eq_add, beq_self_eq_true, Node.a, n1, n2, n3, g1, g2, g3, h2, h3, w7, m1, m2, m3, Ne.symm m1, Ne.symm m2, Ne.symm m3, Ne.symm n1, Ne.symm n2, Ne.symm n3]
    by_cases c1 : x.kind = 1
    · simp only [go_sem, ↓reduceIte, Option.some.injEq, Bool.true_eq_false, Bool.false_eq_true, Int.reduceBEq, Int.reduceBNe, Int.reduceLT, Int.reduceLE, Nat.add_assoc, Nat.reduceAdd, Nat.reducePow, Nat.zero_le, Nat.reduceEqDiff, Nat.reduceLT, Nat.reduceLeDiff, Nat.reduceMul, Nat.reduceSub, Nat.add_left_cancel_iff, Nat.lt_irrefl, Nat.le_refl, Nat.add_eq_left, Nat.left_eq_add, beq_self_eq_true, c1, n1, n2, n3, g1, g2, g3, h2, h3, w7, m1, m2, m3, Ne.symm m1, Ne.symm m2, Ne.symm m3, Ne.symm n1, Ne.symm n2, Ne.symm n3]
      generalize hτ0 : (((σ.push (.cells [.d (.int .i64 0), .d (.int .i64 0), .d (.int .i64 0), .d (.slc true [])])).set σ.n (.cells x.c)).set kl (.loop { kindsL tm with st := .busy })).push (.cells [.d (.int .i64 x.num)]) = τ0
      have K0 : Kept σ (kl :: k2 :: k3 :: (bs1 ++ bs2)) τ0 bs1 ([] ++ low σ.n [kl]) := by
        rw [← hτ0]
        exact ((((Kept.refl.push).set (.inr (Nat.le_refl _))).write (.inl (by simp))).push).owns fun k hk => .inl (by simp [hk])
      have e0 : τ0.n = σ.n + 2 := by rw [← hτ0]; simp [St.n_push, St.n_set]
      have q1 : τ0.get (σ.n + 1) = .cells [.d (.int .i64 x.num)] := by rw [← hτ0]; exact St.get_push_eq' (by simp [St.n_push, St.n_set])
      have q2 : τ0.get σ.n = .cells x.c := by rw [← hτ0, St.get_push_ne (by simp [St.n_push, St.n_set]), St.get_set_ne (Ne.symm m1), St.get_set_eq]
      have q3 : ∀ k, k < σ.n → k ≠ kl → τ0.get k = σ.get k := fun k hk hne => by
        rw [← hτ0, St.get_push_ne (by simp [St.n_push, St.n_set]; omega), St.get_set_ne hne, St.get_set_ne (by omega), St.get_push_ne hk]
      have q4 : τ0.get kl = .loop { kindsL tm with st := .busy } := by rw [← hτ0, St.get_push_ne (by simp [St.n_push, St.n_set]; omega), St.get_set_eq]
      have r1' : RowN 1 τ0 a1 (intsD s.1) bs1 := r1.stay (by omega) fun k hk => q3 k (r1.1.lt hk) (hd k (by simp [hk])).1
      have r2' : RowN 1 τ0 a2 (intsD s.2) bs2 := r2.stay (by omega) fun k hk => q3 k (r2.1.lt hk) (hd k (by simp [hk])).1
      obtain ⟨a1', τ1, T1, bs1', happ1, R1, KT1, cc1, ci1⟩ := app_int r1' q1 (by omega)
      have nb1 : ∀ k, k < τ0.n → (∀ j ∈ bs1, k ≠ j) → τ1.get k = τ0.get k := fun k hk hj => KT1.same k hk fun h => hj k h rfl
      have p0 : τ1.get σ.n = .cells x.c := by rw [nb1 _ (by omega) (fun j hj => by have := r1.1.lt hj; omega), q2]
      have p3 : τ1.get k3 = .cells [a2] := by rw [nb1 _ (by omega) (fun j hj => Ne.symm (hd j (by simp [hj])).2.2), q3 _ l3 (Ne.symm n2), g3]
      have p2 : τ1.get k2 = .cells [a1] := by rw [nb1 _ (by omega) (fun j hj => Ne.symm (hd j (by simp [hj])).2.1), q3 _ l2 (Ne.symm n1), g2]
      have p1 : τ1.get kl = .loop { kindsL tm with st := .busy } := by rw [nb1 _ (by omega) (fun j hj => Ne.symm (hd j (by simp [hj])).1), q4]
      have en1 := KT1.n
      have r2'' : RowN 1 τ1 a2 (intsD s.2) bs2 := r2'.stay KT1.n fun k hk => nb1 k (r2'.1.lt hk) fun j hj h => hdd j hj (h ▸ hk)
      obtain ⟨a2', τ2, T2, bs2', happ2, R2, KT2, cc2, ci2⟩ := app_int (j := τ1.n) (x := x.num) (r2''.stay (τ := τ1.push (.cells [.d (.int .i64 x.num)])) (by simp [St.n_push]) fun k hk => St.get_push_ne (r2''.1.lt hk)) St.get_push_eq (by omega)
      have nb2 : ∀ k, k < τ1.n → (∀ j ∈ bs2, k ≠ j) → τ2.get k = τ1.get k := fun k hk hj => by
        rw [KT2.same k (by simp [St.n_push]; omega) fun h => hj k h rfl, St.get_push_ne hk]
      have s3 : τ2.get k3 = .cells [a2] := by rw [nb2 _ (by omega) (fun j hj => Ne.symm (hd j (by simp [hj])).2.2), p3]
      have s2 : τ2.get k2 = .cells [a1] := by rw [nb2 _ (by omega) (fun j hj => Ne.symm (hd j (by simp [hj])).2.1), p2]
      have s1 : τ2.get kl = .loop { kindsL tm with st := .busy } := by rw [nb2 _ (by omega) (fun j hj => Ne.symm (hd j (by simp [hj])).1), p1]
      have en2 := KT2.n
      simp only [St.n_push] at en2
      simp only [go_sem, ↓reduceIte, Option.some.injEq, Bool.true_eq_false, Bool.false_eq_true, Int.reduceBEq, Int.reduceBNe, Int.reduceLT, Int.reduceLE, Nat.add_assoc, Nat.reduceAdd, Nat.reducePow, Nat.zero_le, Nat.reduceEqDiff, Nat.reduceLT, Nat.reduceLeDiff, Nat.reduceMul, Nat.reduceSub, Nat.add_left_cancel_iff, Nat.lt_irrefl, Nat.le_refl, Nat.add_eq_left, Nat.left_eq_add, beq_self_eq_true, happ1, happ2, h2, h3, p0, p3, m1, m2, m3, cc1, ci1, cc2, ci2, s2, s3, s1, n1, n2, n3, Ne.symm n1, Ne.symm n2, Ne.symm n3]
      have o1 : ∀ k ∈ bs1', k ∈ bs1 ∨ σ.n ≤ k := fun k hk => (KT1.o k hk).imp id fun h => by omega
      have o2 : ∀ k ∈ bs2', k ∈ bs2 ∨ τ1.n ≤ k := fun k hk => (KT2.o k hk).imp id fun h => by simp [St.n_push] at h; omega
      have x1 : ∀ k ∈ bs1', k ≠ kl ∧ k ≠ k2 ∧ k ≠ k3 := fun k hk => (o1 k hk).elim (fun h => hd k (by simp [h])) fun h => by omega
      have x2 : ∀ k ∈ bs2', k ≠ kl ∧ k ≠ k2 ∧ k ≠ k3 := fun k hk => (o2 k hk).elim (fun h => hd k (by simp [h])) fun h => by omega
      have x3 : ∀ k ∈ bs1', k ∉ bs2' := fun k hk hk2 => by
        have hlt := R1.1.lt hk
        rcases o2 k hk2 with h | h
        · rcases KT1.o k hk with h' | h'
          · exact hdd k h' h
          · have := r2.1.lt h; omega
        · omega
      have K1 : Kept σ (kl :: k2 :: k3 :: (bs1 ++ bs2)) τ1 bs2 ([] ++ low σ.n [kl] ++ low σ.n T1) := (K0.call KT1).owns fun k hk => .inl (by simp [hk])
      have K2 := (((((K1.push (b := .cells [.d (.int .i64 x.num)])).call KT2).write (k := k2) (b := .cells [a1']) (.inl (by simp))).write (k := k3) (b := .cells [a2']) (.inl (by simp))).raw (k := kl) (b := .loop (kindsL tm)) (.inl (by simp)))
      have hdr : ∀ k ∈ T1, k ≠ k3 ∧ k ≠ σ.n := fun k hk => (KT1.w k hk).elim (fun h => ⟨(hd k (by simp [h])).2.2, by have := r1.1.lt h; omega⟩) fun h => by omega
      refine ⟨drawOk_rel [4, 9, 10, 11] [(4, 5), (4, 6), (4, 7), (4, 8)] rfl (by kernel_rfl) rfl ?_, _, rfl, rfl, kl :: k2 :: k3 :: (bs1' ++ bs2'), K2.owns fun k hk => ?_, by simp [kindS, c1]; omega, a1', a2', bs1', bs2', rfl, ?_, ?_, ?_, ?_, ?_, ?_, ?_, ?_, ?_, x3⟩
      · have h4 : meets T1 [k3] = false := by
          unfold meets; rw [List.any_eq_false]; intro k hk; simp [(hdr k hk).1]
        have h5 : meets T1 [σ.n] = false := by
          unfold meets; rw [List.any_eq_false]; intro k hk; simp [(hdr k hk).2]
        have h6 : meets T1 [] = false := by unfold meets; simp
        simp [h4, h5, h6]
      · simp at hk
        rcases hk with rfl | rfl | rfl | hk | hk
        · exact .inl (by simp)
        · exact .inl (by simp)
        · exact .inl (by simp)
        · exact (o1 k hk).imp (fun h => by simp [h]) id
        · exact (o2 k hk).imp (fun h => by simp [h]) fun h => by omega
      · exact St.get_set_eq
      · rw [St.get_set_ne (Ne.symm n1), St.get_set_ne n3, St.get_set_eq]
      · rw [St.get_set_ne (Ne.symm n2), St.get_set_eq]
      · simp [St.n_set]; omega
      · simp [St.n_set]; omega
      · simp [St.n_set]; omega
      · simp only [kindS, c1]
        refine R1.stay (by simp [St.n_set]; omega) fun k hk => ?_
        obtain ⟨y1, y2, y3⟩ := x1 k hk
        rw [St.get_set_ne y1, St.get_set_ne y3, St.get_set_ne y2]
        exact nb2 k (R1.1.lt hk) fun j hj e => by
          subst e
          rcases KT1.o k hk with h' | h'
          · exact hdd k h' hj
          · have := r2.1.lt hj; omega
      · simp only [kindS, c1]
        refine R2.stay (by simp [St.n_set]) fun k hk => ?_
        obtain ⟨y1, y2, y3⟩ := x2 k hk
        rw [St.get_set_ne y1, St.get_set_ne y3, St.get_set_ne y2]
      · intro k hk
        rcases List.mem_append.1 hk with h | h
        · exact x1 k h
        · exact x2 k h
    · have c1' : (x.kind == 1) = false := by simpa using c1
      by_cases c3 : x.kind = 3
      · simp only [go_sem, ↓reduceIte, Option.some.injEq, Bool.true_eq_false, Bool.false_eq_true, Int.reduceBEq, Int.reduceBNe, Int.reduceLT, Int.reduceLE, Nat.add_assoc, Nat.reduceAdd, Nat.reducePow, Nat.zero_le, Nat.reduceEqDiff, Nat.reduceLT, Nat.reduceLeDiff, Nat.reduceMul, Nat.reduceSub, Nat.add_left_cancel_iff, Nat.lt_irrefl, Nat.le_refl, Nat.add_eq_left, Nat.left_eq_add, beq_self_eq_true, c3, n1, n2, n3, g1, g2, g3, h2, h3, w7, m1, m2, m3, Ne.symm m1, Ne.symm m2, Ne.symm m3, Ne.symm n1, Ne.symm n2, Ne.symm n3]
        generalize hτ0 : (((σ.push (.cells [.d (.int .i64 0), .d (.int .i64 0), .d (.int .i64 0), .d (.slc true [])])).set σ.n (.cells x.c)).set kl (.loop { kindsL tm with st := .busy })).push (.cells [.d (.int .i64 x.num)]) = τ0
        have K0 : Kept σ (kl :: k2 :: k3 :: (bs1 ++ bs2)) τ0 bs1 ([] ++ low σ.n [kl]) := by
          rw [← hτ0]
          exact ((((Kept.refl.push).set (.inr (Nat.le_refl _))).write (.inl (by simp))).push).owns fun k hk => .inl (by simp [hk])
        have e0 : τ0.n = σ.n + 2 := by rw [← hτ0]; simp [St.n_push, St.n_set]
        have q1 : τ0.get (σ.n + 1) = .cells [.d (.int .i64 x.num)] := by rw [← hτ0]; exact St.get_push_eq' (by simp [St.n_push, St.n_set])
        have q3 : ∀ k, k < σ.n → k ≠ kl → τ0.get k = σ.get k := fun k hk hne => by
          rw [← hτ0, St.get_push_ne (by simp [St.n_push, St.n_set]; omega), St.get_set_ne hne, St.get_set_ne (by omega), St.get_push_ne hk]
        have q4 : τ0.get kl = .loop { kindsL tm with st := .busy } := by rw [← hτ0, St.get_push_ne (by simp [St.n_push, St.n_set]; omega), St.get_set_eq]
        have r1' : RowN 1 τ0 a1 (intsD s.1) bs1 := r1.stay (by omega) fun k hk => q3 k (r1.1.lt hk) (hd k (by simp [hk])).1
        have r2' : RowN 1 τ0 a2 (intsD s.2) bs2 := r2.stay (by omega) fun k hk => q3 k (r2.1.lt hk) (hd k (by simp [hk])).1
        obtain ⟨b1, τ1, T1, bsN, happ1, R1, KT1, cc1, ci1⟩ := app_int r1' q1 (by omega)
        have nb1 : ∀ k, k < τ0.n → (∀ j ∈ bs1, k ≠ j) → τ1.get k = τ0.get k := fun k hk hj => KT1.same k hk fun h => hj k h rfl
        have p3 : τ1.get k3 = .cells [a2] := by rw [nb1 _ (by omega) (fun j hj => Ne.symm (hd j (by simp [hj])).2.2), q3 _ l3 (Ne.symm n2), g3]
        have p2 : τ1.get k2 = .cells [a1] := by rw [nb1 _ (by omega) (fun j hj => Ne.symm (hd j (by simp [hj])).2.1), q3 _ l2 (Ne.symm n1), g2]
        have p1 : τ1.get kl = .loop { kindsL tm with st := .busy } := by rw [nb1 _ (by omega) (fun j hj => Ne.symm (hd j (by simp [hj])).1), q4]
        have en1 := KT1.n
        simp only [go_sem, ↓reduceIte, Option.some.injEq, Bool.true_eq_false, Bool.false_eq_true, Int.reduceBEq, Int.reduceBNe, Int.reduceLT, Int.reduceLE, Nat.add_assoc, Nat.reduceAdd, Nat.reducePow, Nat.zero_le, Nat.reduceEqDiff, Nat.reduceLT, Nat.reduceLeDiff, Nat.reduceMul, Nat.reduceSub, Nat.add_left_cancel_iff, Nat.lt_irrefl, Nat.le_refl, Nat.add_eq_left, Nat.left_eq_add, beq_self_eq_true, happ1, h2, h3, m1, m2, m3, cc1, ci1, p2, p3, p1, n1, n2, n3, Ne.symm n1, Ne.symm n2, Ne.symm n3]
        have o1 : ∀ k ∈ bsN, k ∈ bs1 ∨ σ.n ≤ k := fun k hk => (KT1.o k hk).imp id fun h => by omega
        have x1 : ∀ k ∈ bsN, k ≠ kl ∧ k ≠ k2 ∧ k ≠ k3 := fun k hk => (o1 k hk).elim (fun h => hd k (by simp [h])) fun h => by omega
        have K2 := (((K0.call KT1).write (k := k2) (b := .cells [b1]) (.inl (by simp))).raw (k := kl) (b := .loop (kindsL tm)) (.inl (by simp)))
        have RO := r2'.stay (τ := (τ1.set k2 (.cells [b1])).set kl (.loop (kindsL tm))) (by simp [St.n_set]; omega) fun k hk => by
          obtain ⟨y1, y2, y3⟩ := hd k (by simp [hk])
          rw [St.get_set_ne y1, St.get_set_ne y2]
          exact nb1 k (r2'.1.lt hk) fun j hj e => by subst e; exact hdd k hj hk
        have RN := R1.stay (τ := (τ1.set k2 (.cells [b1])).set kl (.loop (kindsL tm))) (by simp [St.n_set]) fun k hk => by
          obtain ⟨y1, y2, y3⟩ := x1 k hk
          rw [St.get_set_ne y1, St.get_set_ne y2]
        have x3 : ∀ k ∈ bsN, k ∉ bs2 := fun k hk hk2 => by
          rcases KT1.o k hk with h | h
          · exact hdd k h hk2
          · have := r2.1.lt hk2; omega
        refine ⟨_, rfl, rfl, kl :: k2 :: k3 :: (bsN ++ bs2), K2.owns fun k hk => ?_, by simp [kindS, c3]; omega, b1, a2, bsN, bs2, rfl, St.get_set_eq, ?_, ?_, ?_, ?_, ?_, ?_, ?_, ?_, ?_⟩
        · simp at hk
          rcases hk with rfl | rfl | rfl | hk | hk
          · exact .inl (by simp)
          · exact .inl (by simp)
          · exact .inl (by simp)
          · exact (o1 k hk).imp (fun h => by simp [h]) id
          · exact .inl (by simp [hk])
        · rw [St.get_set_ne (Ne.symm n1), St.get_set_eq]
        · rw [St.get_set_ne (Ne.symm n2), St.get_set_ne (Ne.symm n3), p3]
        · simp [St.n_set]; omega
        · simp [St.n_set]; omega
        · simp [St.n_set]; omega
        · rw [show (kindS d x s).2.1 = s.1 ++ [x.num] by simp [kindS, c3]]; exact RN
        · rw [show (kindS d x s).2.2 = s.2 by simp [kindS, c3]]; exact RO
        · intro k hk
          rcases List.mem_append.1 hk with h | h
          · exact x1 k h
          · exact hd k (by simp [h])
        · exact x3
      · have c3' : (x.kind == 3) = false := by simpa using c3
        by_cases c2 : x.kind = 2
        · simp only [go_sem, ↓reduceIte, Option.some.injEq, Bool.true_eq_false, Bool.false_eq_true, Int.reduceBEq, Int.reduceBNe, Int.reduceLT, Int.reduceLE, Nat.add_assoc, Nat.reduceAdd, Nat.reducePow, Nat.zero_le, Nat.reduceEqDiff, Nat.reduceLT, Nat.reduceLeDiff, Nat.reduceMul, Nat.reduceSub, Nat.add_left_cancel_iff, Nat.lt_irrefl, Nat.le_refl, Nat.add_eq_left, Nat.left_eq_add, beq_self_eq_true, c2, n1, n2, n3, g1, g2, g3, h2, h3, w7, m1, m2, m3, Ne.symm m1, Ne.symm m2, Ne.symm m3, Ne.symm n1, Ne.symm n2, Ne.symm n3]
          generalize hτ0 : (((σ.push (.cells [.d (.int .i64 0), .d (.int .i64 0), .d (.int .i64 0), .d (.slc true [])])).set σ.n (.cells x.c)).set kl (.loop { kindsL tm with st := .busy })).push (.cells [.d (.int .i64 x.num)]) = τ0
          have K0 : Kept σ (kl :: k2 :: k3 :: (bs1 ++ bs2)) τ0 bs2 ([] ++ low σ.n [kl]) := by
            rw [← hτ0]
            exact ((((Kept.refl.push).set (.inr (Nat.le_refl _))).write (.inl (by simp))).push).owns fun k hk => .inl (by simp [hk])
          have e0 : τ0.n = σ.n + 2 := by rw [← hτ0]; simp [St.n_push, St.n_set]
          have q1 : τ0.get (σ.n + 1) = .cells [.d (.int .i64 x.num)] := by rw [← hτ0]; exact St.get_push_eq' (by simp [St.n_push, St.n_set])
          have q3 : ∀ k, k < σ.n → k ≠ kl → τ0.get k = σ.get k := fun k hk hne => by
            rw [← hτ0, St.get_push_ne (by simp [St.n_push, St.n_set]; omega), St.get_set_ne hne, St.get_set_ne (by omega), St.get_push_ne hk]
          have q4 : τ0.get kl = .loop { kindsL tm with st := .busy } := by rw [← hτ0, St.get_push_ne (by simp [St.n_push, St.n_set]; omega), St.get_set_eq]
          have r1' : RowN 1 τ0 a1 (intsD s.1) bs1 := r1.stay (by omega) fun k hk => q3 k (r1.1.lt hk) (hd k (by simp [hk])).1
          have r2' : RowN 1 τ0 a2 (intsD s.2) bs2 := r2.stay (by omega) fun k hk => q3 k (r2.1.lt hk) (hd k (by simp [hk])).1
          obtain ⟨b1, τ1, T1, bsN, happ1, R1, KT1, cc1, ci1⟩ := app_int r2' q1 (by omega)
          have nb1 : ∀ k, k < τ0.n → (∀ j ∈ bs2, k ≠ j) → τ1.get k = τ0.get k := fun k hk hj => KT1.same k hk fun h => hj k h rfl
          have p3 : τ1.get k3 = .cells [a2] := by rw [nb1 _ (by omega) (fun j hj => Ne.symm (hd j (by simp [hj])).2.2), q3 _ l3 (Ne.symm n2), g3]
          have p2 : τ1.get k2 = .cells [a1] := by rw [nb1 _ (by omega) (fun j hj => Ne.symm (hd j (by simp [hj])).2.1), q3 _ l2 (Ne.symm n1), g2]
          have p1 : τ1.get kl = .loop { kindsL tm with st := .busy } := by rw [nb1 _ (by omega) (fun j hj => Ne.symm (hd j (by simp [hj])).1), q4]
          have en1 := KT1.n
          simp only [go_sem, ↓reduceIte, Option.some.injEq, Bool.true_eq_false, Bool.false_eq_true, Int.reduceBEq, Int.reduceBNe, Int.reduceLT, Int.reduceLE, Nat.add_assoc, Nat.reduceAdd, Nat.reducePow, Nat.zero_le, Nat.reduceEqDiff, Nat.reduceLT, Nat.reduceLeDiff, Nat.reduceMul, Nat.reduceSub, Nat.add_left_cancel_iff, Nat.lt_irrefl, Nat.le_refl, Nat.add_eq_left, Nat.left_eq_add, beq_self_eq_true, happ1, h2, h3, m1, m2, m3, cc1, ci1, p2, p3, p1, n1, n2, n3, Ne.symm n1, Ne.symm n2, Ne.symm n3]
          have o1 : ∀ k ∈ bsN, k ∈ bs2 ∨ σ.n ≤ k := fun k hk => (KT1.o k hk).imp id fun h => by omega
          have x1 : ∀ k ∈ bsN, k ≠ kl ∧ k ≠ k2 ∧ k ≠ k3 := fun k hk => (o1 k hk).elim (fun h => hd k (by simp [h])) fun h => by omega
          have K2 := (((K0.call KT1).write (k := k3) (b := .cells [b1]) (.inl (by simp))).raw (k := kl) (b := .loop (kindsL tm)) (.inl (by simp)))
          have RO := r1'.stay (τ := (τ1.set k3 (.cells [b1])).set kl (.loop (kindsL tm))) (by simp [St.n_set]; omega) fun k hk => by
            obtain ⟨y1, y2, y3⟩ := hd k (by simp [hk])
            rw [St.get_set_ne y1, St.get_set_ne y3]
            exact nb1 k (r1'.1.lt hk) fun j hj e => by subst e; exact hdd k hk hj
          have RN := R1.stay (τ := (τ1.set k3 (.cells [b1])).set kl (.loop (kindsL tm))) (by simp [St.n_set]) fun k hk => by
            obtain ⟨y1, y2, y3⟩ := x1 k hk
            rw [St.get_set_ne y1, St.get_set_ne y3]
          have x3 : ∀ k ∈ bsN, k ∉ bs1 := fun k hk hk2 => by
            rcases KT1.o k hk with h | h
            · exact hdd k hk2 h
            · have := r1.1.lt hk2; omega
          refine ⟨_, rfl, rfl, kl :: k2 :: k3 :: (bs1 ++ bsN), K2.owns fun k hk => ?_, by simp [kindS, c2]; omega, a1, b1, bs1, bsN, rfl, St.get_set_eq, ?_, ?_, ?_, ?_, ?_, ?_, ?_, ?_, ?_⟩
          · simp at hk
            rcases hk with rfl | rfl | rfl | hk | hk
            · exact .inl (by simp)
            · exact .inl (by simp)
            · exact .inl (by simp)
            · exact .inl (by simp [hk])
            · exact (o1 k hk).imp (fun h => by simp [h]) id
          · rw [St.get_set_ne (Ne.symm n1), St.get_set_ne n3, p2]
          · rw [St.get_set_ne (Ne.symm n2), St.get_set_eq]
          · simp [St.n_set]; omega
          · simp [St.n_set]; omega
          · simp [St.n_set]; omega
          · rw [show (kindS d x s).2.1 = s.1 by simp [kindS, c2]]; exact RO
          · rw [show (kindS d x s).2.2 = s.2 ++ [x.num] by simp [kindS, c2]]; exact RN
          · intro k hk
            rcases List.mem_append.1 hk with h | h
            · exact hd k (by simp [h])
            · exact x1 k h
          · exact fun k hk hk2 => x3 k hk2 hk
        · have c2' : (x.kind == 2) = false := by simpa using c2
          simp only [go_sem, ↓reduceIte, Option.some.injEq, Bool.true_eq_false, Bool.false_eq_true, Int.reduceBEq, Int.reduceBNe, Int.reduceLT, Int.reduceLE, Nat.add_assoc, Nat.reduceAdd, Nat.reducePow, Nat.zero_le, Nat.reduceEqDiff, Nat.reduceLT, Nat.reduceLeDiff, Nat.reduceMul, Nat.reduceSub, Nat.add_left_cancel_iff, Nat.lt_irrefl, Nat.le_refl, Nat.add_eq_left, Nat.left_eq_add, beq_self_eq_true, c1', c2', c3', n1, n2, n3, g1, g2, g3, h2, h3, w7, m1, m2, m3, Ne.symm m1, Ne.symm m2, Ne.symm m3, Ne.symm n1, Ne.symm n2, Ne.symm n3]
          have K2 : Kept σ (kl :: k2 :: k3 :: (bs1 ++ bs2)) ((((σ.push (.cells [.d (.int .i64 0), .d (.int .i64 0), .d (.int .i64 0), .d (.slc true [])])).set σ.n (.cells x.c)).set kl (.loop { kindsL tm with st := .busy })).set kl (.loop (kindsL tm))) _ _ :=
            ((((Kept.refl.push).set (.inr (Nat.le_refl _))).write (.inl (by simp))).raw (k := kl) (b := .loop (kindsL tm)) (.inl (by simp)))
          have q3 : ∀ k, k < σ.n → k ≠ kl → ((((σ.push (.cells [.d (.int .i64 0), .d (.int .i64 0), .d (.int .i64 0), .d (.slc true [])])).set σ.n (.cells x.c)).set kl (.loop { kindsL tm with st := .busy })).set kl (.loop (kindsL tm))).get k = σ.get k := fun k hk hne => by
            rw [St.get_set_ne hne, St.get_set_ne hne, St.get_set_ne (by omega), St.get_push_ne hk]
          refine ⟨_, rfl, rfl, _, K2, by simp [kindS, c1, c2, c3]; omega, a1, a2, bs1, bs2, rfl, St.get_set_eq, (q3 k2 l2 (Ne.symm n1)).trans g2, (q3 k3 l3 (Ne.symm n2)).trans g3, by simp [St.n_set, St.n_push]; omega, by simp [St.n_set, St.n_push]; omega, by simp [St.n_set, St.n_push]; omega, ?_, ?_, hd, hdd⟩
          · have := r1.stay (τ := ((((σ.push (.cells [.d (.int .i64 0), .d (.int .i64 0), .d (.int .i64 0), .d (.slc true [])])).set σ.n (.cells x.c)).set kl (.loop { kindsL tm with st := .busy })).set kl (.loop (kindsL tm)))) (by simp [St.n_set, St.n_push]) fun k hk => q3 k (r1.1.lt hk) (hd k (by simp [hk])).1
            rw [show (kindS d x s).2.1 = s.1 by simp [kindS, c1, c3]]; exact this
          · have := r2.stay (τ := ((((σ.push (.cells [.d (.int .i64 0), .d (.int .i64 0), .d (.int .i64 0), .d (.slc true [])])).set σ.n (.cells x.c)).set kl (.loop { kindsL tm with st := .busy })).set kl (.loop (kindsL tm)))) (by simp [St.n_set, St.n_push]) fun k hk => q3 k (r2.1.lt hk) (hd k (by simp [hk])).1
            rw [show (kindS d x s).2.2 = s.2 by simp [kindS, c1, c2]]; exact this
/-- what Kinds makes of a tree -/
def kindsP (x : Node) : List Int × List Int := (walkP (leafS kindS) x 0 ([], [])).2

theorem kinds_call (h22 : fz 22 = .ice) (h18 : fz 18 = .keep) (h54 : fz 54 = .keep) (h52 : fz 52 = .keep) (h55 : fz 55 = .keep) (h56 : fz 56 = .ice) (h96 : fz 96 = .keep) (x : Node) (σ : St) (hx : Small x) :
    CallsTo (XX fz) (.func 22 []) [x.a] σ (.tup [.d (.slc (intsD (kindsP x).1).isEmpty (intsD (kindsP x).1)), .d (.slc (intsD (kindsP x).2).isEmpty (intsD (kindsP x).2))]) σ [] := by
  refine CallsTo.ice0 h22 fn22 (by simp) ?_
  simp only [Try.f22, Option.getD_some]
  simp only [go_sem, ↓reduceIte, Option.some.injEq, Bool.true_eq_false, Bool.false_eq_true, Int.reduceBEq, Int.reduceBNe, Int.reduceLT, Int.reduceLE, Nat.add_assoc, Nat.reduceAdd, Nat.reducePow, Nat.zero_le, Nat.reduceEqDiff, Nat.reduceLT, Nat.reduceLeDiff, Nat.reduceMul, Nat.reduceSub, Nat.add_left_cancel_iff, Nat.lt_irrefl, Nat.le_refl, Nat.add_eq_left, Nat.left_eq_add, beq_self_eq_true, Node.a]
  refine ⟨_, _, _, leaves_call h18 x _, ?_⟩
  simp only [go_sem, ↓reduceIte, Option.some.injEq, Bool.true_eq_false, Bool.false_eq_true, Int.reduceBEq, Int.reduceBNe, Int.reduceLT, Int.reduceLE, Nat.add_assoc, Nat.reduceAdd, Nat.reducePow, Nat.zero_le, Nat.reduceEqDiff, Nat.reduceLT, Nat.reduceLeDiff, Nat.reduceMul, Nat.reduceSub, Nat.add_left_cancel_iff, Nat.lt_irrefl, Nat.le_refl, Nat.add_eq_left, Nat.left_eq_add, beq_self_eq_true, Node.a]
  have hs := x.size_le
  have hsm : x.size < 1000000000 := by unfold Small at hx; omega
  generalize hσ : (((σ.push (.cells x.c)).push (.cells [.d (.slc true [])])).push (.cells [.d (.slc true [])])).push (.cells x.c) = σ0
  have e0 : σ0.n = σ.n + 4 := by rw [← hσ]; simp [St.n_push]
  have b2 : σ0.get (σ.n + 1) = .cells [.d (.slc true [])] := by
    rw [← hσ, St.get_push_ne (by simp [St.n_push]), St.get_push_ne (by simp [St.n_push])]; exact St.get_push_eq' (by simp [St.n_push])
  have b3 : σ0.get (σ.n + 2) = .cells [.d (.slc true [])] := by rw [← hσ, St.get_push_ne (by simp [St.n_push])]; exact St.get_push_eq' (by simp [St.n_push])
  have b4 : σ0.get (σ.n + 3) = .cells x.c := by rw [← hσ]; exact St.get_push_eq' (by simp [St.n_push])
  generalize htm : ((((((FT.nil.set 0 (A.agg x.c)).set 1 (A.ptr σ.n 0)).set 2 (A.ptr (σ.n + 1) 0)).set 3 (A.ptr (σ.n + 2) 0)).set 6 (A.agg x.c)).set 7 (A.func 54 [A.ptr (σ.n + 3) 0]) : Tm) = tm
  have t2 : Tm.at tm 2 = .ptr (σ.n + 1) 0 := by rw [← htm]; simp only [go_sem, ↓reduceIte, Option.some.injEq, Bool.true_eq_false, Bool.false_eq_true, Int.reduceBEq, Int.reduceBNe, Int.reduceLT, Int.reduceLE, Nat.add_assoc, Nat.reduceAdd, Nat.reducePow, Nat.zero_le, Nat.reduceEqDiff, Nat.reduceLT, Nat.reduceLeDiff, Nat.reduceMul, Nat.reduceSub, Nat.add_left_cancel_iff, Nat.lt_irrefl, Nat.le_refl, Nat.add_eq_left, Nat.left_eq_add, beq_self_eq_true]
  have t3 : Tm.at tm 3 = .ptr (σ.n + 2) 0 := by rw [← htm]; simp only [go_sem, ↓reduceIte, Option.some.injEq, Bool.true_eq_false, Bool.false_eq_true, Int.reduceBEq, Int.reduceBNe, Int.reduceLT, Int.reduceLE, Nat.add_assoc, Nat.reduceAdd, Nat.reducePow, Nat.zero_le, Nat.reduceEqDiff, Nat.reduceLT, Nat.reduceLeDiff, Nat.reduceMul, Nat.reduceSub, Nat.add_left_cancel_iff, Nat.lt_irrefl, Nat.le_refl, Nat.add_eq_left, Nat.left_eq_add, beq_self_eq_true]
  have t7 : Tm.at tm 7 = .func 54 [.ptr (σ.n + 3) 0] := by rw [← htm]; simp only [go_sem, ↓reduceIte, Option.some.injEq, Bool.true_eq_false, Bool.false_eq_true, Int.reduceBEq, Int.reduceBNe, Int.reduceLT, Int.reduceLE, Nat.add_assoc, Nat.reduceAdd, Nat.reducePow, Nat.zero_le, Nat.reduceEqDiff, Nat.reduceLT, Nat.reduceLeDiff, Nat.reduceMul, Nat.reduceSub, Nat.add_left_cancel_iff, Nat.lt_irrefl, Nat.le_refl, Nat.add_eq_left, Nat.left_eq_add, beq_self_eq_true]
  obtain ⟨σ1, T, own1, hc, hK, hlen, a1, a2, bs1, bs2, rfl, g1, g2, g3, l1, l2, l3, r1, r2, hd, hdd⟩ := leaves_run h54 h52 h55 h56 h96 (kinds_vis (fz := fz) (kl := σ0.n) (k2 := σ.n + 1) (k3 := σ.n + 2) t2 t3 (by omega) (by omega) (by omega)) 0 x ([], []) (σ0.push (.loop (kindsL tm))) [σ0.n, σ.n + 1, σ.n + 2] hx
    ⟨by simp; omega, .d (.slc true []), .d (.slc true []), [], [], rfl, St.get_push_eq, by rw [St.get_push_ne (by omega)]; exact b2, by rw [St.get_push_ne (by omega)]; exact b3, by simp [St.n_push], by simp [St.n_push]; omega, by simp [St.n_push]; omega, RowN.nil, RowN.nil, by simp, by simp⟩
    (kx := σ.n + 3) (by rw [St.get_push_ne (by omega)]; exact b4) (by simp [St.n_push]; omega)
  refine Ev.range (r := .tup []) (σ2 := σ1) (T := T) (L := kindsL tm) rfl ?_ g1 (by intro h; cases h) ?_
  · rw [show ev tm (.tmp 7) = Tm.at tm 7 from rfl, t7]; exact hc
  have hT : low σ.n T = [] := low_all fun k hk => by
    rcases hK.w k hk with h | h
    · simp at h; omega
    · simp [St.n_push] at h; omega
  have hlo : ∀ k ∈ bs1 ++ bs2, σ.n + 3 ≤ k := fun k hk => by
    rcases hK.o k (by simpa using .inr (.inr (.inr (List.mem_append.1 hk)))) with h | h
    · obtain ⟨d1, d2, d3⟩ := hd k hk
      simp at h; omega
    · simp [St.n_push] at h; omega
  have hn := hK.n
  simp only [St.n_push] at hn
  have m1 : σ.n + 1 ≠ σ0.n := by omega
  have m2 : σ.n + 2 ≠ σ0.n := by omega
  rw [hT]
  rw [show ((kindsL tm).pending.map Item.code).toList = [] from rfl]
  have cc1 := r1.1.cells
  have cc2 := r2.1.cells
  have ci1 := r1.1.cell
  have ci2 := r2.1.cell
  simp only [go_sem, ↓reduceIte, Option.some.injEq, Bool.true_eq_false, Bool.false_eq_true, Int.reduceBEq, Int.reduceBNe, Int.reduceLT, Int.reduceLE, Nat.add_assoc, Nat.reduceAdd, Nat.reducePow, Nat.zero_le, Nat.reduceEqDiff, Nat.reduceLT, Nat.reduceLeDiff, Nat.reduceMul, Nat.reduceSub, Nat.add_left_cancel_iff, Nat.lt_irrefl, Nat.le_refl, Nat.add_eq_left, Nat.left_eq_add, beq_self_eq_true, t2, t3, g2, g3, m1, m2, cc1, cc2, ci1, ci2]
  refine ⟨drawOk_rel [2, 3] [(2, 1)] rfl (by kernel_rfl) rfl (by simp [meets]), ?_⟩
  have f1 := r1.stay (τ := (((σ1.set σ0.n .dead).set (σ.n + 1) (.cells [a1])).set (σ.n + 2) (.cells [a2]))) (by simp [St.n_set]) fun k hk => by
    have := hlo k (by simp [hk]); have := hd k (by simp [hk])
    rw [St.get_set_ne (by omega), St.get_set_ne (by omega), St.get_set_ne this.1]
  have f2 := r2.stay (τ := (((σ1.set σ0.n .dead).set (σ.n + 1) (.cells [a1])).set (σ.n + 2) (.cells [a2]))) (by simp [St.n_set]) fun k hk => by
    have := hlo k (by simp [hk]); have := hd k (by simp [hk])
    rw [St.get_set_ne (by omega), St.get_set_ne (by omega), St.get_set_ne this.1]
  have z1 := f1.freeze (lo := σ.n) (n := fzDepth) (fun k hk => by have := hlo k (by simp [hk]); omega) (by simp [intsD, fzDepth] at hlen ⊢; omega)
  have z2 := f2.freeze (lo := σ.n) (n := fzDepth) (fun k hk => by have := hlo k (by simp [hk]); omega) (by simp [intsD, fzDepth] at hlen ⊢; omega)
  have frW : ∀ (a : A) (d : D) (σ : St) (lo n : Nat), a.isCell = true → freeze σ lo n a = some d → freezeW σ lo n a = some (.d d) := fun a d σ lo n h h' => by
    unfold freezeW; cases a <;> first | (cases h; done) | (dsimp only; rw [h'])
  rw [frW _ _ _ _ _ ci1 z1, frW _ _ _ _ _ ci2 z2]
  simp only [go_sem, ↓reduceIte, Option.some.injEq, Bool.true_eq_false, Bool.false_eq_true, Int.reduceBEq, Int.reduceBNe, Int.reduceLT, Int.reduceLE, Nat.add_assoc, Nat.reduceAdd, Nat.reducePow, Nat.zero_le, Nat.reduceEqDiff, Nat.reduceLT, Nat.reduceLeDiff, Nat.reduceMul, Nat.reduceSub, Nat.add_left_cancel_iff, Nat.lt_irrefl, Nat.le_refl, Nat.add_eq_left, Nat.left_eq_add, beq_self_eq_true]
  rfl
end Go.Am

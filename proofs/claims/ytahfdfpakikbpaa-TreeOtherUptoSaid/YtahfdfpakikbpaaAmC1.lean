/- Part C1 of a proof that runs a program's calls on a small machine whose values bear no addresses: no conditions. -/
import Derived.Test.YtahfdfpakikbpaaAmN2
set_option autoImplicit false
set_option linter.unusedSimpArgs false
set_option linter.unusedVariables false
set_option linter.unusedSectionVars false
namespace Go.Am
open Go Go.Proofs
variable {fz : Nat → Md}

/-- TreeCounts: the loop over leaves -/
noncomputable def tcR : Array Nat × Code × Code := ((rangesOf (Try.f3.body.getD .skip))[0]?).getD default
noncomputable def tcL (tm : Tm) : ALoop := ⟨3, 94, tm, tcR.1, tcR.2.1, tcR.2.2, .ready, none⟩

def TcI (kl k0 k4 : Nat) (x0 : Node) (L : ALoop) (_ : Nat) (s : Int) (σ : St) (own : List Nat) : Prop :=
  own = [kl, k0, k4] ∧ σ.get kl = .loop L ∧ σ.get k0 = .cells x0.c ∧ σ.get k4 = .cells [.d (.int .i64 s)] ∧ kl < σ.n ∧ k0 < σ.n ∧ k4 < σ.n
def TcG (x0 : Node) (d : Int) (y : Node) : Prop := Small y ∧ 0 ≤ d ∧ d ≤ 1000 ∧ deepP y (1000 - d) = false ∧ (d = 0 → y = x0) ∧ (d ≠ 0 → x0.kind = 0)

theorem deepL_mem : ∀ {l : List Node} {m : Int} {y : Node}, deepL l m = false → y ∈ l → deepP y m = false
  | x :: l, m, y, h, hy => by
    rw [deepL, Bool.or_eq_false_iff] at h
    rcases List.mem_cons.1 hy with rfl | hy
    · exact h.1
    · exact deepL_mem h.2 hy
theorem TcG.sub {x0 : Node} {d : Int} {x y : Node} (h : TcG x0 d x) (hk : x.kind = 0) (hy : y ∈ x.l) : TcG x0 (IntKind.i64.wrap (d + 1)) y := by
  obtain ⟨h1, h2, h3, h4, h5, h6⟩ := h
  rw [deepP_eq, if_neg (by omega)] at h4
  have h7 := deepL_mem h4 hy
  have h8 : ¬ 1000 - d - 1 < 0 := fun hlt => by rw [deepP_eq, if_pos hlt] at h7; cases h7
  rw [wrap_small (by omega) (by omega)]
  refine ⟨h1.sub hy, by omega, by omega, by rw [show (1000 : Int) - (d + 1) = 1000 - d - 1 by omega]; exact h7, fun e => by omega, fun _ => ?_⟩
  by_cases e : d = 0
  · rw [← h5 e]; exact hk
  · exact h6 e

theorem tc_rounds {kl k0 k4 : Nat} {x0 : Node} {tm : Tm} (t1 : tm.at 1 = .ptr k0 0) (t4 : tm.at 4 = .ptr k4 0) (n1 : kl ≠ k0) (n2 : kl ≠ k4) (n3 : k0 ≠ k4) :
    Rounds fz Int kl cntS (TcG x0) (TcI kl k0 k4 x0 (tcL tm)) where
  stay := by
    rintro b s σ τ own ⟨rfl, g1, g2, g3, l1, l2, l3⟩ hn hg
    exact ⟨rfl, by rw [hg kl (by simp)]; exact g1, by rw [hg k0 (by simp)]; exact g2, by rw [hg k4 (by simp)]; exact g3, by omega, by omega, by omega⟩
  lt := by
    rintro b s σ own k ⟨rfl, g1, g2, g3, l1, l2, l3⟩ hk
    simp at hk; omega
  less := fun _ _ _ _ h => h
  sub := fun _ x y h hk hy => h.sub hk hy
  small := fun _ x h => h.1
  round := by
    rintro b d x s σ own ⟨hG1, hG2, hG3, -, hG5, hG6⟩ hkd ⟨rfl, g1, g2, g3, l1, l2, l3⟩
    refine Run.yld g1 ⟨rfl, by kernel_rfl⟩ ?_
    have m1 : kl ≠ σ.n := by omega
    have m2 : k0 ≠ σ.n := by omega
    have m3 : k4 ≠ σ.n := by omega
    have w1 : (tcL tm).fn = 3 := rfl
    have w2 : (tcL tm).nt = 94 := rfl
    have w3 : (tcL tm).tm = tm := rfl
    have w4 : (tcL tm).params = #[28, 29] := rfl
    have w5 : (tcL tm).assign = tcR.2.1 := rfl
    have w6 : (tcL tm).body = tcR.2.2 := rfl
    have w7 : (tcL tm).st = .ready := rfl
    simp only [w1, w2, w3, w4, w5, w6, tcR, Try.f3, rangesOf, Option.getD_some, List.append_nil, List.nil_append, List.getElem?_cons_zero, List.cons_append]
    have c0 : (x.kind == 0) = false := by simpa using hkd
    have c2 : decide (d < 0) = false := by simp; omega
    have key : (d == 0) = !(x0.kind == 0) := by
      by_cases e : d = 0
      · have := hG5 e; subst this; simp [e, hkd]
      · have := hG6 e; simp [e, this]
    cases ck : (x0.kind == 0) with
    | true =>
      have c1 : (d == 0) = false := by rw [key, ck]; rfl
      have c3 : (x0.kind != 0) = false := by simpa [bne] using ck
      simp only [go_sem, ↓reduceIte, Option.some.injEq, Bool.true_eq_false, Bool.false_eq_true, Int.reduceBEq, Int.reduceBNe, Int.reduceLT, Int.reduceLE, Nat.add_assoc, Nat.reduceAdd, Nat.reducePow, Nat.zero_le, Nat.reduceEqDiff, Nat.reduceLT, Nat.reduceLeDiff, Nat.reduceMul, Nat.reduceSub, Nat.add_left_cancel_iff, Nat.lt_irrefl, Nat.le_refl, Nat.add_eq_left, Nat.left_eq_add, beq_self_eq_true, Node.a, n1, n2, n3, g1, g2, g3, t1, t4, w7, m1, m2, m3, c0, c1, c2, c3, Ne.symm m1, Ne.symm m2, Ne.symm m3, Ne.symm n1, Ne.symm n2, Ne.symm n3]
      refine ⟨_, rfl, rfl, [kl, k0, k4], ((((Kept.refl.push).set (.inr (Nat.le_refl _))).write (.inl (by simp))).write (.inl (by simp))).raw (.inl (by simp)), rfl, St.get_set_eq, ?_, ?_, ?_, ?_, ?_⟩
      · rw [St.get_set_ne (Ne.symm n1), St.get_set_ne n3, St.get_set_ne (Ne.symm n1), St.get_set_ne m2, St.get_push_ne l2]; exact g2
      · rw [St.get_set_ne (Ne.symm n2), St.get_set_eq]; rfl
      · simp only [St.n_set, St.n_push]; omega
      · simp only [St.n_set, St.n_push]; omega
      · simp only [St.n_set, St.n_push]; omega
    | false =>
      have c1 : (d == 0) = true := by rw [key, ck]; rfl
      have c3 : (x0.kind != 0) = true := by simpa [bne] using ck
      simp only [go_sem, ↓reduceIte, Option.some.injEq, Bool.true_eq_false, Bool.false_eq_true, Int.reduceBEq, Int.reduceBNe, Int.reduceLT, Int.reduceLE, Nat.add_assoc, Nat.reduceAdd, Nat.reducePow, Nat.zero_le, Nat.reduceEqDiff, Nat.reduceLT, Nat.reduceLeDiff, Nat.reduceMul, Nat.reduceSub, Nat.add_left_cancel_iff, Nat.lt_irrefl, Nat.le_refl, Nat.add_eq_left, Nat.left_eq_add, beq_self_eq_true, Node.a, n1, n2, n3, g1, g2, g3, t1, t4, w7, m1, m2, m3, c0, c1, c2, c3, Ne.symm m1, Ne.symm m2, Ne.symm m3, Ne.symm n1, Ne.symm n2, Ne.symm n3]
      refine ⟨_, rfl, rfl, [kl, k0, k4], ((((Kept.refl.push).set (.inr (Nat.le_refl _))).write (.inl (by simp))).write (.inl (by simp))).raw (.inl (by simp)), rfl, St.get_set_eq, ?_, ?_, ?_, ?_, ?_⟩
      · rw [St.get_set_ne (Ne.symm n1), St.get_set_ne n3, St.get_set_ne (Ne.symm n1), St.get_set_ne m2, St.get_push_ne l2]; exact g2
      · rw [St.get_set_ne (Ne.symm n2), St.get_set_eq]; rfl
      · simp only [St.n_set, St.n_push]; omega
      · simp only [St.n_set, St.n_push]; omega
      · simp only [St.n_set, St.n_push]; omega

/-! The plain law. -/
mutual
/-- how many leaves -/
def leavesN : Node → Nat
  | .mk k _ _ _ l => if k = 0 then leavesM l else 1
def leavesM : List Node → Nat
  | [] => 0
  | x :: l => leavesN x + leavesM l
end
mutual
theorem cntLeaf_P : ∀ (x : Node) (d v : Int), 0 ≤ v → v + leavesN x < 1000000000000 → walkP (leafS cntS) x d v = (true, v + leavesN x)
  | .mk k n p z l, d, v, h0, h1 => by
    rw [walkP]
    rw [leavesN] at h1 ⊢
    by_cases hk : k = 0
    · have e1 : leafS cntS d (.mk k n p z l) v = (true, v) := if_pos hk
      simp only [e1]
      rw [if_pos hk] at h1 ⊢
      rw [if_neg (by simp), if_neg (by simp [hk])]
      exact cntLeaf_L l _ v h0 h1
    · have hw : IntKind.i64.wrap (v + 1) = v + 1 := wrap_small (by omega) (by rw [if_neg hk] at h1; omega)
      have e1 : leafS cntS d (.mk k n p z l) v = (true, v + 1) := (if_neg hk).trans (by unfold cntS; rw [hw])
      simp only [e1]
      rw [if_neg hk] at h1 ⊢
      rw [if_neg (by simp), if_pos hk]; congr 1
theorem cntLeaf_L : ∀ (l : List Node) (d v : Int), 0 ≤ v → v + leavesM l < 1000000000000 → walkL (leafS cntS) l d v = (true, v + leavesM l)
  | [], d, v, _, _ => by simp [walkL, leavesM]
  | x :: l, d, v, h0, h1 => by
    rw [walkL]
    rw [leavesM] at h1 ⊢
    rw [cntLeaf_P x d v h0 (by omega)]
    dsimp only
    rw [if_neg (by simp), cntLeaf_L l d _ (by omega) (by omega)]
    congr 1; omega
end
mutual
theorem size_split : ∀ x : Node, x.size = leavesN x + (allP x).length
  | .mk k n p z l => by rw [Node.size, leavesN, allP]; have := size_splitL l; split <;> simp <;> omega
theorem size_splitL : ∀ l : List Node, (l.map Node.size).sum = leavesM l + (allL l).length
  | [] => rfl
  | x :: l => by have := size_split x; have := size_splitL l; simp [leavesM, allL]; omega
end
mutual
theorem find_all (r : Int) : ∀ x : Node, findP r x = (allP x).filter fun y => y.num == r
  | .mk k n p z l => by
    rw [findP, allP, find_allL r l]
    by_cases hk : k = 0
    · simp only [hk, true_and, if_true]
      rw [List.filter_cons]
      by_cases hn : n = r
      · have : (((Node.mk 0 n p z l).num == r) = true) := by simpa [Node.num] using hn
        rw [if_pos hn, if_pos this]; rfl
      · have : ¬ (((Node.mk 0 n p z l).num == r) = true) := by simpa [Node.num] using hn
        rw [if_neg hn, if_neg this]; rfl
    · simp [hk]
theorem find_allL (r : Int) : ∀ l : List Node, findL r l = (allL l).filter fun y => y.num == r
  | [] => rfl
  | x :: l => by rw [findL, allL, find_all r x, find_allL r l, List.filter_append]
end
mutual
theorem kinds_P : ∀ (x : Node) (d : Int) (s : List Int × List Int), (walkP (leafS kindS) x d s).1 = true ∧ (walkP (leafS kindS) x d s).2.1.length ≤ s.1.length + leavesN x ∧ (walkP (leafS kindS) x d s).2.2.length ≤ s.2.length + leavesN x
  | .mk k n p z l, d, s => by
    rw [walkP, leavesN]
    by_cases hk : k = 0
    · have e1 : leafS kindS d (.mk k n p z l) s = (true, s) := if_pos hk
      simp only [e1]
      rw [if_pos hk, if_neg (by simp), if_neg (by simp [hk])]
      exact kinds_L l _ s
    · have e1 : leafS kindS d (.mk k n p z l) s = kindS d (.mk k n p z l) s := if_neg hk
      simp only [e1]
      rw [if_neg hk]
      have e2 : (kindS d (.mk k n p z l) s).1 = true := rfl
      rw [if_neg (by rw [e2]; simp), if_pos hk]
      refine ⟨rfl, ?_, ?_⟩ <;> (simp only [kindS]; split <;> simp)
theorem kinds_L : ∀ (l : List Node) (d : Int) (s : List Int × List Int), (walkL (leafS kindS) l d s).1 = true ∧ (walkL (leafS kindS) l d s).2.1.length ≤ s.1.length + leavesM l ∧ (walkL (leafS kindS) l d s).2.2.length ≤ s.2.length + leavesM l
  | [], d, s => by simp [walkL, leavesM]
  | x :: l, d, s => by
    rw [walkL, leavesM]
    obtain ⟨h1, h2, h3⟩ := kinds_P x d s
    rw [if_neg (by simp [h1])]
    obtain ⟨h4, h5, h6⟩ := kinds_L l d (walkP (leafS kindS) x d s).2
    exact ⟨h4, by omega, by omega⟩
end
/-- TreeCounts: how many nodes of rules are found, rule by rule -/
def foundF (x : Node) : List Node → List Int × Int → List Int × Int
  | [], s => s
  | y :: l, s => foundF x l (if s.1.contains y.num then s else (s.1 ++ [y.num], IntKind.i64.wrap (s.2 + (rowD (findP y.num x)).length)))
theorem sum0 (rs : List Int) : (rs.map fun _ => 0).sum = 0 := by induction rs <;> simp_all
theorem sum_filter : ∀ (L : List Node) (rs : List Int), rs.Nodup → (∀ y ∈ L, y.num ∈ rs) → (rs.map fun r => (L.filter fun y => y.num == r).length).sum = L.length
  | [], rs, _, _ => by simpa using sum0 rs
  | y :: L, rs, hn, hm => by
    have ih := sum_filter L rs hn fun z hz => hm z (by simp [hz])
    rw [List.length_cons, ← ih]
    have hy := hm y (by simp)
    clear ih hm
    induction rs with
    | nil => cases hy
    | cons r rs ihr =>
      rw [List.map_cons, List.sum_cons, List.map_cons, List.sum_cons, List.filter_cons]
      rw [List.nodup_cons] at hn
      by_cases e : y.num = r
      · have hz : (rs.map fun r => ((y :: L).filter fun z => z.num == r).length) = rs.map fun r => (L.filter fun z => z.num == r).length := by
          refine List.map_congr_left fun q hq => ?_
          rw [List.filter_cons, if_neg]
          intro h; have : y.num = q := by simpa using h
          exact hn.1 (by rw [← e, this]; exact hq)
        rw [hz, if_pos (by simpa using e), List.length_cons]; omega
      · rw [if_neg (by simpa using e), ihr hn.2 ((List.mem_cons.1 hy).resolve_left e)]; omega
theorem sum_le_filter : ∀ (L : List Node) (rs : List Int), rs.Nodup → (rs.map fun r => (L.filter fun y => y.num == r).length).sum ≤ L.length
  | [], rs, _ => by simpa using Nat.le_of_eq (sum0 rs)
  | y :: L, rs, hn => by
    have ih := sum_le_filter L rs hn
    have key : (rs.map fun r => ((y :: L).filter fun z => z.num == r).length).sum ≤ (rs.map fun r => (L.filter fun z => z.num == r).length).sum + 1 := by
      clear ih
      induction rs with
      | nil => simp
      | cons r rs ihr =>
        rw [List.nodup_cons] at hn
        rw [List.map_cons, List.sum_cons, List.map_cons, List.sum_cons, List.filter_cons]
        by_cases e : y.num = r
        · have hz : (rs.map fun r => ((y :: L).filter fun z => z.num == r).length) = rs.map fun r => (L.filter fun z => z.num == r).length := by
            refine List.map_congr_left fun q hq => ?_
            rw [List.filter_cons, if_neg]
            intro h; have : y.num = q := by simpa using h
            exact hn.1 (by rw [← e, this]; exact hq)
          rw [hz, if_pos (by simpa using e), List.length_cons]; omega
        · rw [if_neg (by simpa using e)]; have := ihr hn.2; omega
    rw [List.length_cons]; omega
/-- what is found, counted -/
theorem found_spec (x : Node) (hL : (allP x).length < 1000000000) : ∀ (L : List Node) (s : List Int × Int), s.1.Nodup → s.2 = ((s.1.map fun r => ((allP x).filter fun y => y.num == r).length).sum : Nat) →
    (foundF x L s).1.Nodup ∧ (foundF x L s).2 = (((foundF x L s).1.map fun r => ((allP x).filter fun y => y.num == r).length).sum : Nat) ∧ (∀ y ∈ L, y.num ∈ (foundF x L s).1) ∧ (∀ r ∈ s.1, r ∈ (foundF x L s).1) ∧ (foundF x L s).1.length ≤ s.1.length + L.length
  | [], s, h1, h2 => ⟨h1, h2, by simp, fun _ h => h, by simp [foundF]⟩
  | y :: L, s, h1, h2 => by
    rw [foundF]
    by_cases hc : s.1.contains y.num = true
    · rw [if_pos hc]
      obtain ⟨a1, a2, a3, a4, a5⟩ := found_spec x hL L s h1 h2
      refine ⟨a1, a2, fun z hz => ?_, a4, by simp; omega⟩
      rcases List.mem_cons.1 hz with rfl | hz
      · exact a4 _ (by simpa using hc)
      · exact a3 z hz
    · rw [if_neg hc]
      have hnm : y.num ∉ s.1 := by simpa using hc
      have hnd : (s.1 ++ [y.num]).Nodup := by
        rw [List.nodup_append]; refine ⟨h1, by simp, fun a ha b hb => ?_⟩
        simp at hb; subst hb; rintro rfl; exact hnm ha
      have hsum : (((s.1 ++ [y.num]).map fun r => ((allP x).filter fun y => y.num == r).length).sum : Nat) = (s.1.map fun r => ((allP x).filter fun y => y.num == r).length).sum + (rowD (findP y.num x)).length := by
        rw [List.map_append, List.sum_append, find_all]; simp [rowD]
      have hle := sum_le_filter (allP x) _ hnd
      have hw : IntKind.i64.wrap (s.2 + (rowD (findP y.num x)).length) = (((s.1 ++ [y.num]).map fun r => ((allP x).filter fun y => y.num == r).length).sum : Nat) := by
        rw [hsum] at hle ⊢; rw [h2, wrap_small (by omega) (by omega)]; omega
      obtain ⟨a1, a2, a3, a4, a5⟩ := found_spec x hL L (s.1 ++ [y.num], IntKind.i64.wrap (s.2 + (rowD (findP y.num x)).length)) hnd hw
      refine ⟨a1, a2, fun z hz => ?_, fun r hr => a4 r (by simp [hr]), by rw [List.length_append, List.length_singleton] at a5; rw [List.length_cons]; omega⟩
      rcases List.mem_cons.1 hz with rfl | hz
      · exact a4 _ (by simp)
      · exact a3 z hz
/-- the law: leaves are as many as Size less what is found -/
theorem tc_law (x : Node) (hx : Small x) : leavesN x + (foundF x (allP x) ([], 0)).2 = (x.size : Int) ∧ (foundF x (allP x) ([], 0)).1.length ≤ (allP x).length := by
  have hl := all_len x
  unfold Small at hx
  obtain ⟨h1, h2, h3, -, h5⟩ := found_spec x (by omega) (allP x) ([], 0) (by simp) (by simp)
  rw [h2, sum_filter _ _ h1 h3, size_split]
  exact ⟨by omega, by simpa using h5⟩
end Go.Am
namespace Go.Am
open Go Go.Proofs

/-- how calls leave memory, for TreeCounts -/
def mdC : Nat → Md := fun f => match f with
  | 56 | 22 | 21 | 49 | 19 => .ice
  | 52 | 53 | 96 | 18 | 54 | 55 | 57 => .keep
  | _ => .cut
theorem worksC (m : Nat → Blk) : CallsTo (XX mdC) (.func 15 []) [] ⟨2, m⟩ (.d (.bool true)) ⟨2, m⟩ [] := ⟨3000, by kernel_rfl⟩
theorem low_zero {T : List Nat} : low 0 T = [] := by simp [low]

theorem counts_call (x : Node) (hx : Small x) : ∃ σ' T, CallsTo (XX mdC) (.func 3 []) [x.a] St.empty (.d (.bool true)) σ' T := by
  suffices h : Ev (XX mdC) 3 94 none St.empty.n [.code (Try.f3.body.getD .skip)] (initTm [x.a] 0 .nil) St.empty [] (RetQ (XX mdC) [.cell 2 4] fun a _ _ => a = .d (.bool true)) by
    obtain ⟨n, o, hn, hq⟩ := h
    cases o with
    | leave _ _ _ => exact hq.elim
    | ret tm σ1 W1 =>
      unfold RetQ at hq
      dsimp only at hq
      split at hq
      · rename_i l hl
        cases hlv : leaveCall .cut St.empty (tupOf l) σ1 W1 with
        | none => unfold leaveCall at hlv; dsimp only at hlv; split at hlv <;> cases hlv
        | some q =>
          obtain ⟨a, σ', T⟩ := q
          have ha : a = .d (.bool true) := by
            unfold leaveCall at hlv; dsimp only at hlv; split at hlv <;> (cases hlv; exact hq)
          subst ha
          exact ⟨σ', T, CallsTo.of fn3 (by simp) ⟨n, _, hn, tm, σ1, W1, l, rfl, hl, hlv⟩⟩
      · exact hq.elim
  simp only [Try.f3, Option.getD_some]
  have z0 : (St.empty).n = 0 := rfl
  simp only [go_sem, ↓reduceIte, Option.some.injEq, Bool.true_eq_false, Bool.false_eq_true, Int.reduceBEq, Int.reduceBNe, Int.reduceLT, Int.reduceLE, Nat.add_assoc, Nat.reduceAdd, Nat.reducePow, Nat.zero_le, Nat.reduceEqDiff, Nat.reduceLT, Nat.reduceLeDiff, Nat.reduceMul, Nat.reduceSub, Nat.add_left_cancel_iff, Nat.lt_irrefl, Nat.le_refl, Nat.add_eq_left, Nat.left_eq_add, beq_self_eq_true, Node.a, z0]
  have hw : CallsTo (XX mdC) (.func 15 []) [] ((St.empty.push (.cells x.c)).push (.cells [.d (.bool false)])) (.d (.bool true)) ((St.empty.push (.cells x.c)).push (.cells [.d (.bool false)])) [] := worksC _
  generalize hσ : (St.empty.push (.cells x.c)).push (.cells [.d (.bool false)]) = σ at hw
  have e2 : σ.n = 2 := by rw [← hσ]; rfl
  have b0 : σ.get 0 = .cells x.c := by rw [← hσ]; rfl
  have b1 : σ.get 1 = .cells [.d (.bool false)] := by rw [← hσ]; rfl
  clear hσ
  refine ⟨_, _, _, hw, ?_⟩
  simp only [go_sem, ↓reduceIte, Option.some.injEq, Bool.true_eq_false, Bool.false_eq_true, Int.reduceBEq, Int.reduceBNe, Int.reduceLT, Int.reduceLE, Nat.add_assoc, Nat.reduceAdd, Nat.reducePow, Nat.zero_le, Nat.reduceEqDiff, Nat.reduceLT, Nat.reduceLeDiff, Nat.reduceMul, Nat.reduceSub, Nat.add_left_cancel_iff, Nat.lt_irrefl, Nat.le_refl, Nat.add_eq_left, Nat.left_eq_add, beq_self_eq_true, e2, b0, b1, low_zero]
  refine ⟨_, _, _, deep_call (fz := mdC) rfl x 1000 σ hx (by omega), ?_⟩
  have hsz := x.size_le
  have hsz1 := x.size_eq
  have hsm : x.size < 1000000000 := by unfold Small at hx; omega
  cases hd : deepP x 1000 with
  | true => simp only [go_sem, ↓reduceIte, Option.some.injEq, Bool.true_eq_false, Bool.false_eq_true, Int.reduceBEq, Int.reduceBNe, Int.reduceLT, Int.reduceLE, Nat.add_assoc, Nat.reduceAdd, Nat.reducePow, Nat.zero_le, Nat.reduceEqDiff, Nat.reduceLT, Nat.reduceLeDiff, Nat.reduceMul, Nat.reduceSub, Nat.add_left_cancel_iff, Nat.lt_irrefl, Nat.le_refl, Nat.add_eq_left, Nat.left_eq_add, beq_self_eq_true, e2, b0, b1, low_zero]
  | false =>
    simp only [go_sem, ↓reduceIte, Option.some.injEq, Bool.true_eq_false, Bool.false_eq_true, Int.reduceBEq, Int.reduceBNe, Int.reduceLT, Int.reduceLE, Nat.add_assoc, Nat.reduceAdd, Nat.reducePow, Nat.zero_le, Nat.reduceEqDiff, Nat.reduceLT, Nat.reduceLeDiff, Nat.reduceMul, Nat.reduceSub, Nat.add_left_cancel_iff, Nat.lt_irrefl, Nat.le_refl, Nat.add_eq_left, Nat.left_eq_add, beq_self_eq_true, e2, b0, b1, low_zero]
    refine ⟨_, _, _, size_call (fz := mdC) rfl rfl rfl x σ hx, ?_⟩
    have d1 : decide ((x.size : Int) < 1) = false := by simp; omega
    simp only [go_sem, ↓reduceIte, Option.some.injEq, Bool.true_eq_false, Bool.false_eq_true, Int.reduceBEq, Int.reduceBNe, Int.reduceLT, Int.reduceLE, Nat.add_assoc, Nat.reduceAdd, Nat.reducePow, Nat.zero_le, Nat.reduceEqDiff, Nat.reduceLT, Nat.reduceLeDiff, Nat.reduceMul, Nat.reduceSub, Nat.add_left_cancel_iff, Nat.lt_irrefl, Nat.le_refl, Nat.add_eq_left, Nat.left_eq_add, beq_self_eq_true, e2, b0, b1, low_zero, d1]
    by_cases h500 : (x.size : Int) > 500
    · have d2 : decide ((x.size : Int) > 500) = true := by simpa using h500
      simp only [go_sem, ↓reduceIte, Option.some.injEq, Bool.true_eq_false, Bool.false_eq_true, Int.reduceBEq, Int.reduceBNe, Int.reduceLT, Int.reduceLE, Nat.add_assoc, Nat.reduceAdd, Nat.reducePow, Nat.zero_le, Nat.reduceEqDiff, Nat.reduceLT, Nat.reduceLeDiff, Nat.reduceMul, Nat.reduceSub, Nat.add_left_cancel_iff, Nat.lt_irrefl, Nat.le_refl, Nat.add_eq_left, Nat.left_eq_add, beq_self_eq_true, e2, b0, b1, low_zero, d2]
    · have d2 : decide ((x.size : Int) > 500) = false := by simpa using h500
      simp only [go_sem, ↓reduceIte, Option.some.injEq, Bool.true_eq_false, Bool.false_eq_true, Int.reduceBEq, Int.reduceBNe, Int.reduceLT, Int.reduceLE, Nat.add_assoc, Nat.reduceAdd, Nat.reducePow, Nat.zero_le, Nat.reduceEqDiff, Nat.reduceLT, Nat.reduceLeDiff, Nat.reduceMul, Nat.reduceSub, Nat.add_left_cancel_iff, Nat.lt_irrefl, Nat.le_refl, Nat.add_eq_left, Nat.left_eq_add, beq_self_eq_true, e2, b0, b1, low_zero, d2]
      have t1 : ((σ.push (.cells [.d (.int .i64 0)])).set 2 (.cells [.d (.int .i64 0)])).n = 3 := by rw [St.n_set, St.n_push, e2]
      generalize hσ1 : (σ.push (.cells [.d (.int .i64 0)])).set 2 (.cells [.d (.int .i64 0)]) = σ1 at t1
      have g0 : σ1.get 0 = .cells x.c := by rw [← hσ1, St.get_set_ne (by omega), St.get_push_ne (by omega)]; exact b0
      have g1 : σ1.get 1 = .cells [.d (.bool false)] := by rw [← hσ1, St.get_set_ne (by omega), St.get_push_ne (by omega)]; exact b1
      have g2 : σ1.get 2 = .cells [.d (.int .i64 0)] := by rw [← hσ1, St.get_set_eq]
      have l1 := leaves_call (fz := mdC) rfl x σ1
      rw [t1] at l1
      refine ⟨_, _, _, l1, ?_⟩
      simp only [go_sem, ↓reduceIte, Option.some.injEq, Bool.true_eq_false, Bool.false_eq_true, Int.reduceBEq, Int.reduceBNe, Int.reduceLT, Int.reduceLE, Nat.add_assoc, Nat.reduceAdd, Nat.reducePow, Nat.zero_le, Nat.reduceEqDiff, Nat.reduceLT, Nat.reduceLeDiff, Nat.reduceMul, Nat.reduceSub, Nat.add_left_cancel_iff, Nat.lt_irrefl, Nat.le_refl, Nat.add_eq_left, Nat.left_eq_add, beq_self_eq_true, t1, g0, g1, g2, low_zero]
      have l2 := leaves_call (fz := mdC) rfl x (σ1.push (.cells x.c))
      rw [St.n_push, t1] at l2
      refine ⟨_, _, _, l2, ?_⟩
      simp only [go_sem, ↓reduceIte, Option.some.injEq, Bool.true_eq_false, Bool.false_eq_true, Int.reduceBEq, Int.reduceBNe, Int.reduceLT, Int.reduceLE, Nat.add_assoc, Nat.reduceAdd, Nat.reducePow, Nat.zero_le, Nat.reduceEqDiff, Nat.reduceLT, Nat.reduceLeDiff, Nat.reduceMul, Nat.reduceSub, Nat.add_left_cancel_iff, Nat.lt_irrefl, Nat.le_refl, Nat.add_eq_left, Nat.left_eq_add, beq_self_eq_true, t1, g0, g1, g2, low_zero]
      generalize hσ2 : (σ1.push (.cells x.c)).push (.cells x.c) = σ2
      have n2 : σ2.n = 5 := by rw [← hσ2]; simp [St.n_push, t1]
      have k0 : σ2.get 0 = .cells x.c := by rw [← hσ2, St.get_push_ne (by simp [St.n_push, t1]), St.get_push_ne (by omega)]; exact g0
      have k1 : σ2.get 1 = .cells [.d (.bool false)] := by rw [← hσ2, St.get_push_ne (by simp [St.n_push, t1]), St.get_push_ne (by omega)]; exact g1
      have k2 : σ2.get 2 = .cells [.d (.int .i64 0)] := by rw [← hσ2, St.get_push_ne (by simp [St.n_push, t1]), St.get_push_ne (by omega)]; exact g2
      have k4 : σ2.get 4 = .cells x.c := by rw [← hσ2, St.get_push_eq' (by simp [St.n_push, t1])]
      generalize htm : FT.set _ 27 (A.func 54 [A.ptr 4 0]) = tm
      have u1 : Tm.at tm 1 = .ptr 0 0 := by rw [← htm]; simp only [go_sem, ↓reduceIte, Option.some.injEq, Bool.true_eq_false, Bool.false_eq_true, Int.reduceBEq, Int.reduceBNe, Int.reduceLT, Int.reduceLE, Nat.add_assoc, Nat.reduceAdd, Nat.reducePow, Nat.zero_le, Nat.reduceEqDiff, Nat.reduceLT, Nat.reduceLeDiff, Nat.reduceMul, Nat.reduceSub, Nat.add_left_cancel_iff, Nat.lt_irrefl, Nat.le_refl, Nat.add_eq_left, Nat.left_eq_add, beq_self_eq_true]
      have u2 : Tm.at tm 2 = .ptr 1 0 := by rw [← htm]; simp only [go_sem, ↓reduceIte, Option.some.injEq, Bool.true_eq_false, Bool.false_eq_true, Int.reduceBEq, Int.reduceBNe, Int.reduceLT, Int.reduceLE, Nat.add_assoc, Nat.reduceAdd, Nat.reducePow, Nat.zero_le, Nat.reduceEqDiff, Nat.reduceLT, Nat.reduceLeDiff, Nat.reduceMul, Nat.reduceSub, Nat.add_left_cancel_iff, Nat.lt_irrefl, Nat.le_refl, Nat.add_eq_left, Nat.left_eq_add, beq_self_eq_true]
      have u3 : Tm.at tm 3 = .d (.int .i64 x.size) := by rw [← htm]; simp only [go_sem, ↓reduceIte, Option.some.injEq, Bool.true_eq_false, Bool.false_eq_true, Int.reduceBEq, Int.reduceBNe, Int.reduceLT, Int.reduceLE, Nat.add_assoc, Nat.reduceAdd, Nat.reducePow, Nat.zero_le, Nat.reduceEqDiff, Nat.reduceLT, Nat.reduceLeDiff, Nat.reduceMul, Nat.reduceSub, Nat.add_left_cancel_iff, Nat.lt_irrefl, Nat.le_refl, Nat.add_eq_left, Nat.left_eq_add, beq_self_eq_true]
      have u4 : Tm.at tm 4 = .ptr 2 0 := by rw [← htm]; simp only [go_sem, ↓reduceIte, Option.some.injEq, Bool.true_eq_false, Bool.false_eq_true, Int.reduceBEq, Int.reduceBNe, Int.reduceLT, Int.reduceLE, Nat.add_assoc, Nat.reduceAdd, Nat.reducePow, Nat.zero_le, Nat.reduceEqDiff, Nat.reduceLT, Nat.reduceLeDiff, Nat.reduceMul, Nat.reduceSub, Nat.add_left_cancel_iff, Nat.lt_irrefl, Nat.le_refl, Nat.add_eq_left, Nat.left_eq_add, beq_self_eq_true]
      have u5 : Tm.at tm 5 = .d (.slc true []) := by rw [← htm]; simp only [go_sem, ↓reduceIte, Option.some.injEq, Bool.true_eq_false, Bool.false_eq_true, Int.reduceBEq, Int.reduceBNe, Int.reduceLT, Int.reduceLE, Nat.add_assoc, Nat.reduceAdd, Nat.reducePow, Nat.zero_le, Nat.reduceEqDiff, Nat.reduceLT, Nat.reduceLeDiff, Nat.reduceMul, Nat.reduceSub, Nat.add_left_cancel_iff, Nat.lt_irrefl, Nat.le_refl, Nat.add_eq_left, Nat.left_eq_add, beq_self_eq_true]
      have u27 : Tm.at tm 27 = .func 54 [.ptr 4 0] := by rw [← htm]; simp only [go_sem, ↓reduceIte, Option.some.injEq, Bool.true_eq_false, Bool.false_eq_true, Int.reduceBEq, Int.reduceBNe, Int.reduceLT, Int.reduceLE, Nat.add_assoc, Nat.reduceAdd, Nat.reducePow, Nat.zero_le, Nat.reduceEqDiff, Nat.reduceLT, Nat.reduceLeDiff, Nat.reduceMul, Nat.reduceSub, Nat.add_left_cancel_iff, Nat.lt_irrefl, Nat.le_refl, Nat.add_eq_left, Nat.left_eq_add, beq_self_eq_true]
      obtain ⟨σ3, T, own1, hc, hK, rfl, q1, q2, q3, -, -, -⟩ := leaves_run (fz := mdC) rfl rfl rfl rfl rfl (tc_rounds (kl := 5) (k0 := 0) (k4 := 2) (x0 := x) u1 u4 (by omega) (by omega) (by omega)) 0 x 0 (σ2.push (.loop (tcL tm))) [5, 0, 2]
        ⟨hx, by omega, by omega, hd, fun _ => rfl, fun h => absurd rfl h⟩
        ⟨rfl, St.get_push_eq' n2.symm, by rw [St.get_push_ne (by omega)]; exact k0, by rw [St.get_push_ne (by omega)]; exact k2, by simp [St.n_push, n2], by simp [St.n_push, n2], by simp [St.n_push, n2]⟩
        (kx := 4) (by rw [St.get_push_ne (by omega)]; exact k4) (by simp [St.n_push, n2])
      have hsp := size_split x
      rw [cntLeaf_P x 0 0 (by omega) (by omega), Int.zero_add] at q3
      refine Ev.range (r := .tup []) (σ2 := σ3) (T := T) (L := tcL tm) rfl ?_ (by rw [n2]; exact q1) (by intro h; cases h) ?_
      · rw [show ev tm (.tmp 27) = Tm.at tm 27 from rfl, u27, n2]; exact hc
      have hn3 := hK.n
      simp only [St.n_push, n2] at hn3
      have r1 : σ3.get 1 = .cells [.d (.bool false)] := by rw [hK.same 1 (by simp [St.n_push, n2]) (by simp), St.get_push_ne (by omega)]; exact k1
      rw [n2, low_zero, show ((tcL tm).pending.map Item.code).toList = [] from rfl]
      generalize hσ4 : σ3.set 5 .dead = σ4
      have v0 : σ4.get 0 = .cells x.c := by rw [← hσ4, St.get_set_ne (by omega)]; exact q2
      have v1 : σ4.get 1 = .cells [.d (.bool false)] := by rw [← hσ4, St.get_set_ne (by omega)]; exact r1
      have v2 : σ4.get 2 = .cells [.d (.int .i64 (leavesN x))] := by rw [← hσ4, St.get_set_ne (by omega)]; exact q3
      have n4 : 6 ≤ σ4.n := by rw [← hσ4, St.n_set]; omega
      clear hσ4 hc hK q1 q2 q3 r1 hn3 hσ2 hσ1 l1 l2 hw
      simp only [go_sem, ↓reduceIte, Option.some.injEq, Bool.true_eq_false, Bool.false_eq_true, Int.reduceBEq, Int.reduceBNe, Int.reduceLT, Int.reduceLE, Nat.add_assoc, Nat.reduceAdd, Nat.reducePow, Nat.zero_le, Nat.reduceEqDiff, Nat.reduceLT, Nat.reduceLeDiff, Nat.reduceMul, Nat.reduceSub, Nat.add_left_cancel_iff, Nat.lt_irrefl, Nat.le_refl, Nat.add_eq_left, Nat.left_eq_add, beq_self_eq_true, u1, v0, low_zero]
      refine ⟨_, _, _, all_call (fz := mdC) rfl x σ4 hx, ?_⟩
      simp only [go_sem, ↓reduceIte, Option.some.injEq, Bool.true_eq_false, Bool.false_eq_true, Int.reduceBEq, Int.reduceBNe, Int.reduceLT, Int.reduceLE, Nat.add_assoc, Nat.reduceAdd, Nat.reducePow, Nat.zero_le, Nat.reduceEqDiff, Nat.reduceLT, Nat.reduceLeDiff, Nat.reduceMul, Nat.reduceSub, Nat.add_left_cancel_iff, Nat.lt_irrefl, Nat.le_refl, Nat.add_eq_left, Nat.left_eq_add, beq_self_eq_true, u1, u2, u3, u4, u5, v0, low_zero]
      obtain ⟨hlaw, hrl⟩ := tc_law x hx
      have hLen : (allP x).length < 1000000000 := by omega
      generalize hL : allP x = L at *
      have hrow : (rowD L).length = L.length := by simp [rowD]
      refine Ev.loop_ind (fun m tm σ' _ => ∃ (i : Nat) (rules : List Int) (many : Int) (a : A) (bs : List Nat), m = L.length - i ∧ i ≤ L.length ∧ 6 ≤ σ'.n ∧ σ'.get 0 = .cells x.c ∧ σ'.get 1 = .cells [.d (.bool false)] ∧ σ'.get 2 = .cells [.d (.int .i64 (leavesN x))] ∧
        RowN 1 σ' a (intsD rules) bs ∧ (∀ k ∈ bs, 2 < k) ∧ foundF x (L.drop i) (rules, many) = foundF x L ([], 0) ∧ rules.length ≤ i ∧
        Tm.at tm 1 = .ptr 0 0 ∧ Tm.at tm 2 = .ptr 1 0 ∧ Tm.at tm 3 = .d (.int .i64 x.size) ∧ Tm.at tm 4 = .ptr 2 0 ∧ Tm.at tm 5 = a ∧ Tm.at tm 8 = .d (.int .i64 many) ∧ Tm.at tm 48 = .d (.slc (rowD L).isEmpty (rowD L)) ∧ Tm.at tm 49 = .d (.int .i64 L.length) ∧ Tm.at tm 50 = .d (.int .i64 i)) ?_ L.length _ _ _
        ⟨0, [], 0, _, [], rfl, by omega, n4, v0, v1, v2, RowN.nil, by simp, by rw [List.drop_zero], by simp, ?_, ?_, ?_, ?_, ?_, ?_, ?_, ?_, ?_⟩
      · clear u1 u2 u3 u4 u5 u27 htm v0 v1 v2 n4
        rintro m tm σ' W ⟨i, rules, many, a, bs, rfl, hi, hn, w0, w1, w2, hR, hbs, he, hri, u1, u2, u3, u4, u5, u8, u48, u49, u50⟩ ih
        by_cases hl : i < L.length
        · have hget : (rowD L)[i]? = some (L[i]).cs := by simp [rowD, hl]
          have hlen4 := (L[i]).cs_len
          have hidx : indexK σ' 4 (.d (.slc (rowD L).isEmpty (rowD L))) (.d (.int .i64 (i : Int))) = .val (.d (.vptr (L[i]).cs 0)) σ' [] [] := by rw [indexK_d]; exact indexD_nat hget hlen4
          simp only [go_sem, ↓reduceIte, Option.some.injEq, Bool.true_eq_false, Bool.false_eq_true, Int.reduceBEq, Int.reduceBNe, Int.reduceLT, Int.reduceLE, Nat.add_assoc, Nat.reduceAdd, Nat.reducePow, Nat.zero_le, Nat.reduceEqDiff, Nat.reduceLT, Nat.reduceLeDiff, Nat.reduceMul, Nat.reduceSub, Nat.add_left_cancel_iff, Nat.lt_irrefl, Nat.le_refl, Nat.add_eq_left, Nat.left_eq_add, beq_self_eq_true, u1, u2, u3, u4, u5, u8, u48, u49, u50, dec_lt hl, hidx]
          generalize hσ5 : (σ'.push (.cells [.d (.int .i64 0), .d (.int .i64 0), .d (.int .i64 0), .d (.slc true [])])).set σ'.n (.cells (L[i]).c) = σ5
          have n5 : σ5.n = σ'.n + 1 := by rw [← hσ5]; simp [St.n_set, St.n_push]
          have x0 : σ5.get 0 = .cells x.c := by rw [← hσ5, St.get_set_ne (by omega), St.get_push_ne (by omega)]; exact w0
          have x1 : σ5.get 1 = .cells [.d (.bool false)] := by rw [← hσ5, St.get_set_ne (by omega), St.get_push_ne (by omega)]; exact w1
          have x2 : σ5.get 2 = .cells [.d (.int .i64 (leavesN x))] := by rw [← hσ5, St.get_set_ne (by omega), St.get_push_ne (by omega)]; exact w2
          have x5 : σ5.get σ'.n = .cells (L[i]).c := by rw [← hσ5, St.get_set_eq]
          have hR5 : RowN 1 σ5 a (intsD rules) bs := hR.stay (by omega) fun k hk => by
            have := hR.1.lt hk; rw [← hσ5, St.get_set_ne (by omega), St.get_push_ne (by omega)]
          clear hσ5
          refine ⟨_, _, _, has_call (fz := mdC) rfl rules a (L[i]).num σ5 (hR5.1.sl (by omega)) (by omega), ?_⟩
          rw [List.drop_eq_getElem_cons hl, foundF] at he
          cases hc : rules.contains (L[i]).num with
          | true =>
            simp only [hc, if_true] at he
            simp only [go_sem, ↓reduceIte, Option.some.injEq, Bool.true_eq_false, Bool.false_eq_true, Int.reduceBEq, Int.reduceBNe, Int.reduceLT, Int.reduceLE, Nat.add_assoc, Nat.reduceAdd, Nat.reducePow, Nat.zero_le, Nat.reduceEqDiff, Nat.reduceLT, Nat.reduceLeDiff, Nat.reduceMul, Nat.reduceSub, Nat.add_left_cancel_iff, Nat.lt_irrefl, Nat.le_refl, Nat.add_eq_left, Nat.left_eq_add, beq_self_eq_true, u50, wrap_succ hl hLen]
            exact ih _ _ _ _ (by omega) ⟨i + 1, rules, many, a, bs, rfl, hl, by omega, x0, x1, x2, hR5, hbs, he, by omega, by simp only [go_sem, ↓reduceIte, Option.some.injEq, Bool.true_eq_false, Bool.false_eq_true, Int.reduceBEq, Int.reduceBNe, Int.reduceLT, Int.reduceLE, Nat.add_assoc, Nat.reduceAdd, Nat.reducePow, Nat.zero_le, Nat.reduceEqDiff, Nat.reduceLT, Nat.reduceLeDiff, Nat.reduceMul, Nat.reduceSub, Nat.add_left_cancel_iff, Nat.lt_irrefl, Nat.le_refl, Nat.add_eq_left, Nat.left_eq_add, beq_self_eq_true, u1], by simp only [go_sem, ↓reduceIte, Option.some.injEq, Bool.true_eq_false, Bool.false_eq_true, Int.reduceBEq, Int.reduceBNe, Int.reduceLT, Int.reduceLE, Nat.add_assoc, Nat.reduceAdd, Nat.reducePow, Nat.zero_le, Nat.reduceEqDiff, Nat.reduceLT, Nat.reduceLeDiff, Nat.reduceMul, Nat.reduceSub, Nat.add_left_cancel_iff, Nat.lt_irrefl, Nat.le_refl, Nat.add_eq_left, Nat.left_eq_add, beq_self_eq_true, u2], by simp only [go_sem, ↓reduceIte, Option.some.injEq, Bool.true_eq_false, Bool.false_eq_true, Int.reduceBEq, Int.reduceBNe, Int.reduceLT, Int.reduceLE, Nat.add_assoc, Nat.reduceAdd, Nat.reducePow, Nat.zero_le, Nat.reduceEqDiff, Nat.reduceLT, Nat.reduceLeDiff, Nat.reduceMul, Nat.reduceSub, Nat.add_left_cancel_iff, Nat.lt_irrefl, Nat.le_refl, Nat.add_eq_left, Nat.left_eq_add, beq_self_eq_true, u3], by simp only [go_sem, ↓reduceIte, Option.some.injEq, Bool.true_eq_false, Bool.false_eq_true, Int.reduceBEq, Int.reduceBNe, Int.reduceLT, Int.reduceLE, Nat.add_assoc, Nat.reduceAdd, Nat.reducePow, Nat.zero_le, Nat.reduceEqDiff, Nat.reduceLT, Nat.reduceLeDiff, Nat.reduceMul, Nat.reduceSub, Nat.add_left_cancel_iff, Nat.lt_irrefl, Nat.le_refl, Nat.add_eq_left, Nat.left_eq_add, beq_self_eq_true, u4], by simp only [go_sem, ↓reduceIte, Option.some.injEq, Bool.true_eq_false, Bool.false_eq_true, Int.reduceBEq, Int.reduceBNe, Int.reduceLT, Int.reduceLE, Nat.add_assoc, Nat.reduceAdd, Nat.reducePow, Nat.zero_le, Nat.reduceEqDiff, Nat.reduceLT, Nat.reduceLeDiff, Nat.reduceMul, Nat.reduceSub, Nat.add_left_cancel_iff, Nat.lt_irrefl, Nat.le_refl, Nat.add_eq_left, Nat.left_eq_add, beq_self_eq_true, u5], by simp only [go_sem, ↓reduceIte, Option.some.injEq, Bool.true_eq_false, Bool.false_eq_true, Int.reduceBEq, Int.reduceBNe, Int.reduceLT, Int.reduceLE, Nat.add_assoc, Nat.reduceAdd, Nat.reducePow, Nat.zero_le, Nat.reduceEqDiff, Nat.reduceLT, Nat.reduceLeDiff, Nat.reduceMul, Nat.reduceSub, Nat.add_left_cancel_iff, Nat.lt_irrefl, Nat.le_refl, Nat.add_eq_left, Nat.left_eq_add, beq_self_eq_true, u8], by simp only [go_sem, ↓reduceIte, Option.some.injEq, Bool.true_eq_false, Bool.false_eq_true, Int.reduceBEq, Int.reduceBNe, Int.reduceLT, Int.reduceLE, Nat.add_assoc, Nat.reduceAdd, Nat.reducePow, Nat.zero_le, Nat.reduceEqDiff, Nat.reduceLT, Nat.reduceLeDiff, Nat.reduceMul, Nat.reduceSub, Nat.add_left_cancel_iff, Nat.lt_irrefl, Nat.le_refl, Nat.add_eq_left, Nat.left_eq_add, beq_self_eq_true, u48], by simp only [go_sem, ↓reduceIte, Option.some.injEq, Bool.true_eq_false, Bool.false_eq_true, Int.reduceBEq, Int.reduceBNe, Int.reduceLT, Int.reduceLE, Nat.add_assoc, Nat.reduceAdd, Nat.reducePow, Nat.zero_le, Nat.reduceEqDiff, Nat.reduceLT, Nat.reduceLeDiff, Nat.reduceMul, Nat.reduceSub, Nat.add_left_cancel_iff, Nat.lt_irrefl, Nat.le_refl, Nat.add_eq_left, Nat.left_eq_add, beq_self_eq_true, u49], by simp only [go_sem, ↓reduceIte, Option.some.injEq, Bool.true_eq_false, Bool.false_eq_true, Int.reduceBEq, Int.reduceBNe, Int.reduceLT, Int.reduceLE, Nat.add_assoc, Nat.reduceAdd, Nat.reducePow, Nat.zero_le, Nat.reduceEqDiff, Nat.reduceLT, Nat.reduceLeDiff, Nat.reduceMul, Nat.reduceSub, Nat.add_left_cancel_iff, Nat.lt_irrefl, Nat.le_refl, Nat.add_eq_left, Nat.left_eq_add, beq_self_eq_true]⟩
          | false =>
            simp only [hc, Bool.false_eq_true, if_false] at he
            obtain ⟨a', σ6, T, bs', happ, hR6, hK6, -, -⟩ := app_int (x := (L[i]).num) (j := σ5.n) (hR5.stay (τ := σ5.push (.cells [.d (.int .i64 (L[i]).num)])) (by simp [St.n_push]) fun k hk => St.get_push_ne (hR5.1.lt hk)) St.get_push_eq (by omega)
            have n6 := hK6.n
            simp only [St.n_push] at n6
            have same6 : ∀ k, k < σ5.n → (k ≤ 2 ∨ k = σ'.n) → σ6.get k = σ5.get k := fun k hk h => by
              rw [hK6.same k (by simp [St.n_push]; omega) (fun hb => by have := hbs k hb; have := hR.1.lt hb; omega), St.get_push_ne hk]
            have y0 : σ6.get 0 = .cells x.c := by rw [same6 0 (by omega) (by omega)]; exact x0
            have y1 : σ6.get 1 = .cells [.d (.bool false)] := by rw [same6 1 (by omega) (by omega)]; exact x1
            have y2 : σ6.get 2 = .cells [.d (.int .i64 (leavesN x))] := by rw [same6 2 (by omega) (by omega)]; exact x2
            have y5 : σ6.get σ'.n = .cells (L[i]).c := by rw [same6 _ (by omega) (by omega)]; exact x5
            have hbs' : ∀ k ∈ bs', 2 < k := fun k hk => by
              rcases hK6.o k hk with h | h
              · exact hbs k h
              · simp [St.n_push] at h; omega
            simp only [go_sem, ↓reduceIte, Option.some.injEq, Bool.true_eq_false, Bool.false_eq_true, Int.reduceBEq, Int.reduceBNe, Int.reduceLT, Int.reduceLE, Nat.add_assoc, Nat.reduceAdd, Nat.reducePow, Nat.zero_le, Nat.reduceEqDiff, Nat.reduceLT, Nat.reduceLeDiff, Nat.reduceMul, Nat.reduceSub, Nat.add_left_cancel_iff, Nat.lt_irrefl, Nat.le_refl, Nat.add_eq_left, Nat.left_eq_add, beq_self_eq_true, u1, u2, u3, u4, u5, u8, u48, u49, u50, x5, happ, y0, y5]
            refine ⟨_, _, _, find_call (fz := mdC) rfl rfl rfl rfl rfl x (L[i]).num σ6 hx, ?_⟩
            simp only [go_sem, ↓reduceIte, Option.some.injEq, Bool.true_eq_false, Bool.false_eq_true, Int.reduceBEq, Int.reduceBNe, Int.reduceLT, Int.reduceLE, Nat.add_assoc, Nat.reduceAdd, Nat.reducePow, Nat.zero_le, Nat.reduceEqDiff, Nat.reduceLT, Nat.reduceLeDiff, Nat.reduceMul, Nat.reduceSub, Nat.add_left_cancel_iff, Nat.lt_irrefl, Nat.le_refl, Nat.add_eq_left, Nat.left_eq_add, beq_self_eq_true, u8, u50, wrap_succ hl hLen]
            exact ih _ _ _ _ (by omega) ⟨i + 1, rules ++ [(L[i]).num], _, a', bs', rfl, hl, by omega, y0, y1, y2, hR6, hbs', he, by simp; omega, by simp only [go_sem, ↓reduceIte, Option.some.injEq, Bool.true_eq_false, Bool.false_eq_true, Int.reduceBEq, Int.reduceBNe, Int.reduceLT, Int.reduceLE, Nat.add_assoc, Nat.reduceAdd, Nat.reducePow, Nat.zero_le, Nat.reduceEqDiff, Nat.reduceLT, Nat.reduceLeDiff, Nat.reduceMul, Nat.reduceSub, Nat.add_left_cancel_iff, Nat.lt_irrefl, Nat.le_refl, Nat.add_eq_left, Nat.left_eq_add, beq_self_eq_true, u1], by simp only [go_sem, ↓reduceIte, Option.some.injEq, Bool.true_eq_false, Bool.false_eq_true, Int.reduceBEq, Int.reduceBNe, Int.reduceLT, Int.reduceLE, Nat.add_assoc, Nat.reduceAdd, Nat.reducePow, Nat.zero_le, Nat.reduceEqDiff, Nat.reduceLT, Nat.reduceLeDiff, Nat.reduceMul, Nat.reduceSub, Nat.add_left_cancel_iff, Nat.lt_irrefl, Nat.le_refl, Nat.add_eq_left, Nat.left_eq_add, beq_self_eq_true, u2], by simp only [go_sem, ↓reduceIte, Option.some.injEq, Bool.true_eq_false, Bool.false_eq_true, Int.reduceBEq, Int.reduceBNe, Int.reduceLT, Int.reduceLE, Nat.add_assoc, Nat.reduceAdd, Nat.reducePow, Nat.zero_le, Nat.reduceEqDiff, Nat.reduceLT, Nat.reduceLeDiff, Nat.reduceMul, Nat.reduceSub, Nat.add_left_cancel_iff, Nat.lt_irrefl, Nat.le_refl, Nat.add_eq_left, Nat.left_eq_add, beq_self_eq_true, u3], by simp only [go_sem, ↓reduceIte, Option.some.injEq, Bool.true_eq_false, Bool.false_eq_true, Int.reduceBEq, Int.reduceBNe, Int.reduceLT, Int.reduceLE, Nat.add_assoc, Nat.reduceAdd, Nat.reducePow, Nat.zero_le, Nat.reduceEqDiff, Nat.reduceLT, Nat.reduceLeDiff, Nat.reduceMul, Nat.reduceSub, Nat.add_left_cancel_iff, Nat.lt_irrefl, Nat.le_refl, Nat.add_eq_left, Nat.left_eq_add, beq_self_eq_true, u4], by simp only [go_sem, ↓reduceIte, Option.some.injEq, Bool.true_eq_false, Bool.false_eq_true, Int.reduceBEq, Int.reduceBNe, Int.reduceLT, Int.reduceLE, Nat.add_assoc, Nat.reduceAdd, Nat.reducePow, Nat.zero_le, Nat.reduceEqDiff, Nat.reduceLT, Nat.reduceLeDiff, Nat.reduceMul, Nat.reduceSub, Nat.add_left_cancel_iff, Nat.lt_irrefl, Nat.le_refl, Nat.add_eq_left, Nat.left_eq_add, beq_self_eq_true], by simp only [go_sem, ↓reduceIte, Option.some.injEq, Bool.true_eq_false, Bool.false_eq_true, Int.reduceBEq, Int.reduceBNe, Int.reduceLT, Int.reduceLE, Nat.add_assoc, Nat.reduceAdd, Nat.reducePow, Nat.zero_le, Nat.reduceEqDiff, Nat.reduceLT, Nat.reduceLeDiff, Nat.reduceMul, Nat.reduceSub, Nat.add_left_cancel_iff, Nat.lt_irrefl, Nat.le_refl, Nat.add_eq_left, Nat.left_eq_add, beq_self_eq_true], by simp only [go_sem, ↓reduceIte, Option.some.injEq, Bool.true_eq_false, Bool.false_eq_true, Int.reduceBEq, Int.reduceBNe, Int.reduceLT, Int.reduceLE, Nat.add_assoc, Nat.reduceAdd, Nat.reducePow, Nat.zero_le, Nat.reduceEqDiff, Nat.reduceLT, Nat.reduceLeDiff, Nat.reduceMul, Nat.reduceSub, Nat.add_left_cancel_iff, Nat.lt_irrefl, Nat.le_refl, Nat.add_eq_left, Nat.left_eq_add, beq_self_eq_true, u48], by simp only [go_sem, ↓reduceIte, Option.some.injEq, Bool.true_eq_false, Bool.false_eq_true, Int.reduceBEq, Int.reduceBNe, Int.reduceLT, Int.reduceLE, Nat.add_assoc, Nat.reduceAdd, Nat.reducePow, Nat.zero_le, Nat.reduceEqDiff, Nat.reduceLT, Nat.reduceLeDiff, Nat.reduceMul, Nat.reduceSub, Nat.add_left_cancel_iff, Nat.lt_irrefl, Nat.le_refl, Nat.add_eq_left, Nat.left_eq_add, beq_self_eq_true, u49], by simp only [go_sem, ↓reduceIte, Option.some.injEq, Bool.true_eq_false, Bool.false_eq_true, Int.reduceBEq, Int.reduceBNe, Int.reduceLT, Int.reduceLE, Nat.add_assoc, Nat.reduceAdd, Nat.reducePow, Nat.zero_le, Nat.reduceEqDiff, Nat.reduceLT, Nat.reduceLeDiff, Nat.reduceMul, Nat.reduceSub, Nat.add_left_cancel_iff, Nat.lt_irrefl, Nat.le_refl, Nat.add_eq_left, Nat.left_eq_add, beq_self_eq_true]⟩
        · rw [List.drop_eq_nil_of_le (by omega), foundF] at he
          rw [← he] at hlaw
          simp only [go_sem, ↓reduceIte, Option.some.injEq, Bool.true_eq_false, Bool.false_eq_true, Int.reduceBEq, Int.reduceBNe, Int.reduceLT, Int.reduceLE, Nat.add_assoc, Nat.reduceAdd, Nat.reducePow, Nat.zero_le, Nat.reduceEqDiff, Nat.reduceLT, Nat.reduceLeDiff, Nat.reduceMul, Nat.reduceSub, Nat.add_left_cancel_iff, Nat.lt_irrefl, Nat.le_refl, Nat.add_eq_left, Nat.left_eq_add, beq_self_eq_true, u1, u2, u3, u4, u5, u8, u48, u49, u50, dec_ge hl, w0]
          refine ⟨_, _, _, kinds_call (fz := mdC) rfl rfl rfl rfl rfl rfl rfl x σ' hx, ?_⟩
          have hk := kinds_P x 0 ([], [])
          have hk1 : (kindsP x).1.length ≤ leavesN x := by have h := hk.2.1; simp only [List.length_nil, Nat.zero_add] at h; exact h
          have hk2 : (kindsP x).2.length ≤ leavesN x := by have h := hk.2.2; simp only [List.length_nil, Nat.zero_add] at h; exact h
          have hsz2 := size_split x
          have j1 : (IntKind.i64.wrap ((leavesN x : Int) + many) == (x.size : Int)) = true := by
            rw [wrap_small (by simp only at hlaw; omega) (by simp only at hlaw; omega)]; simpa using hlaw
          have j2 : decide ((((intsD (kindsP x).1).length : Nat) : Int) ≤ (leavesN x : Int)) = true := by rw [intsD_len]; simpa using hk1
          have j3 : decide ((((intsD (kindsP x).2).length : Nat) : Int) ≤ (leavesN x : Int)) = true := by rw [intsD_len]; simpa using hk2
          simp only [go_sem, ↓reduceIte, Option.some.injEq, Bool.true_eq_false, Bool.false_eq_true, Int.reduceBEq, Int.reduceBNe, Int.reduceLT, Int.reduceLE, Nat.add_assoc, Nat.reduceAdd, Nat.reducePow, Nat.zero_le, Nat.reduceEqDiff, Nat.reduceLT, Nat.reduceLeDiff, Nat.reduceMul, Nat.reduceSub, Nat.add_left_cancel_iff, Nat.lt_irrefl, Nat.le_refl, Nat.add_eq_left, Nat.left_eq_add, beq_self_eq_true, u1, u2, u3, u4, u8, w0, w1, w2, j1, j2, j3]
      all_goals simp only [go_sem, ↓reduceIte, Option.some.injEq, Bool.true_eq_false, Bool.false_eq_true, Int.reduceBEq, Int.reduceBNe, Int.reduceLT, Int.reduceLE, Nat.add_assoc, Nat.reduceAdd, Nat.reducePow, Nat.zero_le, Nat.reduceEqDiff, Nat.reduceLT, Nat.reduceLeDiff, Nat.reduceMul, Nat.reduceSub, Nat.add_left_cancel_iff, Nat.lt_irrefl, Nat.le_refl, Nat.add_eq_left, Nat.left_eq_add, beq_self_eq_true, u1, u2, u3, u4, u5, hrow]
      rfl
end Go.Am

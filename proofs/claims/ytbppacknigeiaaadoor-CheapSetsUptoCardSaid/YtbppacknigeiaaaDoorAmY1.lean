/- Part Y1 of a proof that runs a program's calls on a small machine whose values bear no addresses: no conditions. -/
import Derived.Test.YtbppacknigeiaaaDoorAmU1
import Derived.Test.YtbppacknigeiaaaDoorAmV0
set_option autoImplicit false
set_option linter.unusedSimpArgs false
set_option linter.unusedVariables false
set_option linter.unusedSectionVars false
namespace Go.Am
open Go Go.Proofs
variable {fz : Nat → Md}
mutual
def partsE : Ex → Int → Int
  | .mk _ _ _ l, d => if d = 0 then 1000 else partsL l (IntKind.i64.wrap (d - 1)) 1
def partsL : List Ex → Int → Int → Int
  | [], _, many => many
  | x :: l, d, many => if many < 1000 then partsL l d (IntKind.i64.wrap (many + partsE x d)) else many
end
theorem partsE_eq (x : Ex) (d : Int) : partsE x d = if d = 0 then 1000 else partsL x.l (IntKind.i64.wrap (d - 1)) 1 := by cases x; rw [partsE]; rfl
set_option maxHeartbeats 2000000 in
theorem parts_call (h110 : fz 95 = .cut) (x : Ex) (d : Int) (σ : St) (hx : SmallE x) : CallsTo (XX fz) (.func 95 []) [x.a, .d (.int .i64 d)] σ (.d (.int .i64 (partsE x d))) σ [] := by
  refine CallsTo.cut0 h110 fn95 (by simp) rfl ?_
  rw [partsE_eq]
  simp only [Tryd.f95, Option.getD_some]
  have hlen := hx.len
  simp only [go_sem, ↓reduceIte, Int.reduceEq, Nat.reduceBEq, Int.reduceBEq, Nat.reduceAdd, Nat.reduceEqDiff, Nat.reduceLT, Nat.reduceSub, Ex.a]
  by_cases h0 : d = 0
  · have e0 : (d == 0) = true := by simpa using h0
    simp only [go_sem, ↓reduceIte, Int.reduceEq, Nat.reduceBEq, Int.reduceBEq, Nat.reduceAdd, Nat.reduceEqDiff, Nat.reduceLT, Nat.reduceSub, e0, if_pos h0]
  · have e0 : (d == 0) = false := by simpa using h0
    rw [if_neg h0]
    simp only [go_sem, ↓reduceIte, Int.reduceEq, Nat.reduceBEq, Int.reduceBEq, Nat.reduceAdd, Nat.reduceEqDiff, Nat.reduceLT, Nat.reduceSub, e0]
    refine Ev.loop_ind (fun k tm τ W => ∃ (i : Nat) (many : Int), k = x.l.length - i ∧ i ≤ x.l.length ∧ W = [] ∧ τ = σ.push (.cells x.c) ∧ partsL (x.l.drop i) (IntKind.i64.wrap (d - 1)) many = partsL x.l (IntKind.i64.wrap (d - 1)) 1 ∧
        tm.at 1 = .d (.int .i64 d) ∧ tm.at 2 = .ptr σ.n 0 ∧ tm.at 5 = .d (.int .i64 many) ∧ tm.at 6 = .d (.int .i64 i)) ?_ x.l.length _ _ _ ⟨0, 1, rfl, by omega, rfl, rfl, rfl, ?_, ?_, ?_, ?_⟩
    · rintro k tm τ W ⟨i, many, rfl, hi, rfl, rfl, he, t1, t2, t5, t6⟩ ih
      by_cases hl : i < x.l.length
      · have hget : x.l[i]? = some x.l[i] := by simp [hl]
        have hmem : x.l[i] ∈ x.l := List.getElem_mem hl
        rw [List.drop_eq_getElem_cons hl, partsL] at he
        cases hm : decide (many < 1000) with
        | true =>
          have hm' : many < 1000 := by simpa using hm
          rw [if_pos hm'] at he
          simp only [go_sem, ↓reduceIte, Int.reduceEq, Nat.reduceBEq, Int.reduceBEq, Nat.reduceAdd, Nat.reduceEqDiff, Nat.reduceLT, Nat.reduceSub, t1, t2, t5, t6, dec_lt' hl, hm, Ex.index_ld hget]
          refine ⟨_, _, _, parts_call h110 x.l[i] _ _ (hx.sub hmem), ?_⟩
          simp only [go_sem, ↓reduceIte, Int.reduceEq, Nat.reduceBEq, Int.reduceBEq, Nat.reduceAdd, Nat.reduceEqDiff, Nat.reduceLT, Nat.reduceSub, t6, wrap_succ' hl hlen]
          exact ih _ _ _ _ (by omega) ⟨i + 1, _, rfl, hl, rfl, rfl, he, by simp only [go_sem, ↓reduceIte, Int.reduceEq, Nat.reduceBEq, Int.reduceBEq, Nat.reduceAdd, Nat.reduceEqDiff, Nat.reduceLT, Nat.reduceSub, t1], by simp only [go_sem, ↓reduceIte, Int.reduceEq, Nat.reduceBEq, Int.reduceBEq, Nat.reduceAdd, Nat.reduceEqDiff, Nat.reduceLT, Nat.reduceSub, t2], by simp only [go_sem, ↓reduceIte, Int.reduceEq, Nat.reduceBEq, Int.reduceBEq, Nat.reduceAdd, Nat.reduceEqDiff, Nat.reduceLT, Nat.reduceSub], by simp only [go_sem, ↓reduceIte, Int.reduceEq, Nat.reduceBEq, Int.reduceBEq, Nat.reduceAdd, Nat.reduceEqDiff, Nat.reduceLT, Nat.reduceSub]⟩
        | false =>
          have hm' : ¬ many < 1000 := by simpa using hm
          rw [if_neg hm'] at he
          simp only [go_sem, ↓reduceIte, Int.reduceEq, Nat.reduceBEq, Int.reduceBEq, Nat.reduceAdd, Nat.reduceEqDiff, Nat.reduceLT, Nat.reduceSub, t1, t2, t5, t6, dec_lt' hl, hm, ← he]
      · simp only [go_sem, ↓reduceIte, Int.reduceEq, Nat.reduceBEq, Int.reduceBEq, Nat.reduceAdd, Nat.reduceEqDiff, Nat.reduceLT, Nat.reduceSub, t1, t2, t5, t6, dec_ge' hl]
        rw [List.drop_eq_nil_of_le (by omega), partsL] at he
        rw [← he]
    all_goals first | rfl | (simp only [go_sem, ↓reduceIte, Int.reduceEq, Nat.reduceBEq, Int.reduceBEq, Nat.reduceAdd, Nat.reduceEqDiff, Nat.reduceLT, Nat.reduceSub]; done) | (simp only [go_sem, ↓reduceIte, Int.reduceEq, Nat.reduceBEq, Int.reduceBEq, Nat.reduceAdd, Nat.reduceEqDiff, Nat.reduceLT, Nat.reduceSub]; rfl)
termination_by x
decreasing_by exact Ex.sub_lt hmem
def limL : List Ex → Int → Int
  | [], many => many
  | x :: l, many => if many ≤ 512 then limL l (IntKind.i64.wrap (many + partsE x 32)) else many
def limP (g : Gr) : Bool := if (decide ((g.rules.length : Int) > 32) || decide (g.tokens > 64)) = true then true else decide (limL g.bodies 0 > 512)
set_option maxHeartbeats 2000000 in
theorem lim_call (h89 : fz 71 = .cut) (h110 : fz 95 = .cut) (g : Gr) (σ : St) (hg : SmallG g) (hL : g.rules.length < 1000000000) : CallsTo (XX fz) (.func 71 []) [g.a] σ (.d (.bool (limP g))) σ [] := by
  refine CallsTo.cut0 h89 fn71 (by simp) rfl ?_
  simp only [Tryd.f71, Option.getD_some]
  unfold limP
  cases h1 : decide ((g.rules.length : Int) > 32) with
  | true => simp only [go_sem, ↓reduceIte, Int.reduceEq, Nat.reduceBEq, Int.reduceBEq, Nat.reduceAdd, Nat.reduceEqDiff, Nat.reduceLT, Nat.reduceSub, Gr.a, h1, Bool.true_or]
  | false =>
    cases h2 : decide (g.tokens > 64) with
    | true => simp only [go_sem, ↓reduceIte, Int.reduceEq, Nat.reduceBEq, Int.reduceBEq, Nat.reduceAdd, Nat.reduceEqDiff, Nat.reduceLT, Nat.reduceSub, Gr.a, h1, h2, Bool.or_true]
    | false =>
      have hbl : g.bodies.length = g.rules.length := by rw [Gr.bodies, List.length_map]
      simp only [go_sem, ↓reduceIte, Int.reduceEq, Nat.reduceBEq, Int.reduceBEq, Nat.reduceAdd, Nat.reduceEqDiff, Nat.reduceLT, Nat.reduceSub, Gr.a, h1, h2, Bool.or_false]
      refine Ev.loop_ind (fun k tm τ W => ∃ (i : Nat) (many : Int), k = g.rules.length - i ∧ i ≤ g.rules.length ∧ W = [] ∧ τ = σ.push (.cells g.c) ∧ limL (g.bodies.drop i) many = limL g.bodies 0 ∧
          tm.at 1 = .ptr σ.n 0 ∧ tm.at 3 = .d (.int .i64 many) ∧ tm.at 4 = .d (.int .i64 i)) ?_ g.rules.length _ _ _ ⟨0, 0, rfl, by omega, rfl, rfl, rfl, ?_, ?_, ?_⟩
      · rintro k tm τ W ⟨i, many, rfl, hi, rfl, rfl, he, t1, t3, t4⟩ ih
        by_cases hl : i < g.rules.length
        · have hget : g.rules[i]? = some g.rules[i] := by simp [hl]
          have hmem : g.rules[i] ∈ g.rules := List.getElem_mem hl
          have hm1 : g.bodies.drop i = g.rules[i].body :: g.bodies.drop (i + 1) := by
            rw [List.drop_eq_getElem_cons (by rw [hbl]; exact hl)]; simp [Gr.bodies]
          rw [hm1, limL] at he
          cases hm : decide (many ≤ 512) with
          | true =>
            have hm' : many ≤ 512 := by simpa using hm
            rw [if_pos hm'] at he
            simp only [go_sem, ↓reduceIte, Int.reduceEq, Nat.reduceBEq, Int.reduceBEq, Nat.reduceAdd, Nat.reduceEqDiff, Nat.reduceLT, Nat.reduceSub, t1, t3, t4, dec_lt' hl, hm, Gr.index_rd hget]
            refine ⟨_, _, _, parts_call h110 g.rules[i].body 32 _ (hg _ hmem), ?_⟩
            simp only [go_sem, ↓reduceIte, Int.reduceEq, Nat.reduceBEq, Int.reduceBEq, Nat.reduceAdd, Nat.reduceEqDiff, Nat.reduceLT, Nat.reduceSub, t4, wrap_succ' hl hL]
            exact ih _ _ _ _ (by omega) ⟨i + 1, _, rfl, hl, rfl, rfl, he, by simp only [go_sem, ↓reduceIte, Int.reduceEq, Nat.reduceBEq, Int.reduceBEq, Nat.reduceAdd, Nat.reduceEqDiff, Nat.reduceLT, Nat.reduceSub, t1], by simp only [go_sem, ↓reduceIte, Int.reduceEq, Nat.reduceBEq, Int.reduceBEq, Nat.reduceAdd, Nat.reduceEqDiff, Nat.reduceLT, Nat.reduceSub], by simp only [go_sem, ↓reduceIte, Int.reduceEq, Nat.reduceBEq, Int.reduceBEq, Nat.reduceAdd, Nat.reduceEqDiff, Nat.reduceLT, Nat.reduceSub]⟩
          | false =>
            have hm' : ¬ many ≤ 512 := by simpa using hm
            rw [if_neg hm'] at he
            simp only [go_sem, ↓reduceIte, Int.reduceEq, Nat.reduceBEq, Int.reduceBEq, Nat.reduceAdd, Nat.reduceEqDiff, Nat.reduceLT, Nat.reduceSub, t1, t3, t4, dec_lt' hl, hm, ← he]
        · simp only [go_sem, ↓reduceIte, Int.reduceEq, Nat.reduceBEq, Int.reduceBEq, Nat.reduceAdd, Nat.reduceEqDiff, Nat.reduceLT, Nat.reduceSub, t1, t3, t4, dec_ge' hl]
          rw [List.drop_eq_nil_of_le (by omega), limL] at he
          rw [← he]
      all_goals first | rfl | (simp only [go_sem, ↓reduceIte, Int.reduceEq, Nat.reduceBEq, Int.reduceBEq, Nat.reduceAdd, Nat.reduceEqDiff, Nat.reduceLT, Nat.reduceSub]; done) | (simp only [go_sem, ↓reduceIte, Int.reduceEq, Nat.reduceBEq, Int.reduceBEq, Nat.reduceAdd, Nat.reduceEqDiff, Nat.reduceLT, Nat.reduceSub]; rfl)
def BlAt (σ : St) (a : A) (l : List Bool) : Prop := (∃ z, a = .d (.slc z (boolsD l))) ∨ ∃ k, a = .row k 0 l.length 1 ∧ k < σ.n ∧ σ.get k = .cells (bA l)
theorem boolsD_1 (l : List Bool) : ∀ x ∈ boolsD l, x.length = 1 := by intro x hx; obtain ⟨n, -, rfl⟩ := List.mem_map.1 hx; rfl
theorem boolsD_len2 (l : List Bool) : (boolsD l).length = l.length := by simp [boolsD]
theorem BlAt.mono {σ τ : St} {a : A} {l : List Bool} (h : BlAt σ a l) (hE : Ext σ τ) : BlAt τ a l := by
  rcases h with h | ⟨k, h1, h2, h3⟩
  · exact .inl h
  · exact .inr ⟨k, h1, by have := hE.n; omega, by rw [hE.g k h2]; exact h3⟩
theorem BlAt.read {σ : St} {a : A} {l : List Bool} (h : BlAt σ a l) {i : Nat} (hi : i < l.length) : ∃ p R, (∀ kd, indexK σ 1 a (.d (.int kd (i : Int))) = .val p σ [] R) ∧ ∃ R', loadK σ (some ⟨.bool, 1, 1, some [.d (.bool false)], .d (.bool false)⟩) p = .val (.d (.bool (l.getD i false))) σ [] R' := by
  rcases h with ⟨z, rfl⟩ | ⟨k, rfl, h2, h3⟩
  · refine ⟨.d (.vptr [.bool (l.getD i false)] 0), [], fun kd => by rw [indexK_d]; exact indexD_nat (by simp [boolsD, hi]) rfl, [], ?_⟩
    simp only [loadK_vptr]; rfl
  · refine ⟨.ptr k i, [k], fun kd => by rw [indexK_row, h3, indexR_nat hi]; simp, [k], ?_⟩
    rw [loadK_ptr, h3, loadB_cells, show TK.bool.agg = false from rfl, partOf_f, bA_get hi]; rfl
theorem BlAt.cell {σ : St} {a : A} {l : List Bool} (h : BlAt σ a l) : a.isCell = true := by rcases h with ⟨z, rfl⟩ | ⟨k, rfl, -⟩ <;> rfl
theorem BlAt.cells {σ : St} {a : A} {l : List Bool} (h : BlAt σ a l) : a.cells = some [a] := by rcases h with ⟨z, rfl⟩ | ⟨k, rfl, -⟩ <;> rfl
end Go.Am
namespace Go.Am
open Go Go.Proofs
variable {fz : Nat → Md}
theorem BlAt.push {σ : St} {a : A} {l : List Bool} {b : Blk} (h : BlAt σ a l) : BlAt (σ.push b) a l := h.mono (Ext.refl σ).push
set_option maxHeartbeats 4000000 in
theorem nothing_c (h109 : fz 96 = .cut) (nl : List Bool) (x : Ex) (σ : St) (a : A) (hx : SmallE x) (hr : callsIn nl.length x = true) (ha : BlAt σ a nl) :
    CallsTo (XX fz) (.func 96 []) [x.a, a] σ (.d (.bool (canE false (qOf nl) x))) σ [] := by
  refine CallsTo.cut0 h109 fn96 (by simp) rfl ?_
  rw [canE_eq]
  rw [callsIn_eq, Bool.and_eq_true] at hr
  simp only [Tryd.f96, Option.getD_some]
  have hlen := hx.len
  simp only [go_sem, ↓reduceIte, Int.reduceEq, Nat.reduceBEq, Int.reduceBEq, Nat.reduceAdd, Nat.reduceEqDiff, Nat.reduceLT, Nat.reduceSub, Ex.a]
  by_cases k1 : x.kind = 1
  · have e1 : (x.kind == 1) = true := by simpa using k1
    simp only [go_sem, ↓reduceIte, Int.reduceEq, Nat.reduceBEq, Int.reduceBEq, Nat.reduceAdd, Nat.reduceEqDiff, Nat.reduceLT, Nat.reduceSub, e1, if_pos k1]
  have e1 : (x.kind == 1) = false := by simpa using k1
  rw [if_neg k1]
  by_cases k2 : x.kind = 2
  · have e2 : (x.kind == 2) = true := by simpa using k2
    have hr1 := hr.1
    rw [if_pos k2] at hr1
    have hr2 : 0 ≤ x.num ∧ x.num < nl.length := by simpa using hr1
    obtain ⟨n, hn⟩ := Int.eq_ofNat_of_zero_le hr2.1
    have hnl : n < nl.length := by omega
    obtain ⟨p, R, hi, R', hl⟩ := (ha.push (b := .cells x.c)).read hnl
    have hq : qOf nl x.num = nl.getD n false := by unfold qOf; rw [hn]; rfl
    simp only [go_sem, ↓reduceIte, Int.reduceEq, Nat.reduceBEq, Int.reduceBEq, Nat.reduceAdd, Nat.reduceEqDiff, Nat.reduceLT, Nat.reduceSub, e1, e2, if_pos k2, hn, hi, hl]
    rw [← hn, hq]
  have e2 : (x.kind == 2) = false := by simpa using k2
  rw [if_neg k2]
  by_cases k3 : x.kind = 3
  · have e3 : (x.kind == 3) = true := by simpa using k3
    rw [if_neg (show ¬ x.kind = 4 by omega), if_pos k3]
    simp only [go_sem, ↓reduceIte, Int.reduceEq, Nat.reduceBEq, Int.reduceBEq, Nat.reduceAdd, Nat.reduceEqDiff, Nat.reduceLT, Nat.reduceSub, e1, e2, e3]
    refine Ev.loop_ind (fun k tm τ W => ∃ i : Nat, k = x.l.length - i ∧ i ≤ x.l.length ∧ W = [] ∧ τ = σ.push (.cells x.c) ∧ ((x.l.drop i).any fun y => !canE false (qOf nl) y) = (x.l.any fun y => !canE false (qOf nl) y) ∧
        tm.at 1 = a ∧ tm.at 2 = .ptr σ.n 0 ∧ tm.at 5 = .d (.int .i64 i)) ?_ x.l.length _ _ _ ⟨0, rfl, by omega, rfl, rfl, rfl, ?_, ?_, ?_⟩
    · rintro k tm τ W ⟨i, rfl, hi, rfl, rfl, he, t1, t2, t5⟩ ih
      by_cases hl : i < x.l.length
      · have hget : x.l[i]? = some x.l[i] := by simp [hl]
        have hmem : x.l[i] ∈ x.l := List.getElem_mem hl
        rw [List.drop_eq_getElem_cons hl, List.any_cons] at he
        simp only [go_sem, ↓reduceIte, Int.reduceEq, Nat.reduceBEq, Int.reduceBEq, Nat.reduceAdd, Nat.reduceEqDiff, Nat.reduceLT, Nat.reduceSub, t1, t2, t5, dec_lt' hl, Ex.index_ld hget]
        refine ⟨_, _, _, nothing_c h109 nl x.l[i] _ a (hx.sub hmem) (callsInL_mem hr.2 hmem) ha.push, ?_⟩
        cases hc : canE false (qOf nl) x.l[i] with
        | false =>
          rw [hc] at he
          simp only [go_sem, ↓reduceIte, Int.reduceEq, Nat.reduceBEq, Int.reduceBEq, Nat.reduceAdd, Nat.reduceEqDiff, Nat.reduceLT, Nat.reduceSub, ← he, Bool.not_false, Bool.true_or, Bool.not_true]
        | true =>
          rw [hc] at he
          simp only [go_sem, ↓reduceIte, Int.reduceEq, Nat.reduceBEq, Int.reduceBEq, Nat.reduceAdd, Nat.reduceEqDiff, Nat.reduceLT, Nat.reduceSub, t5, wrap_succ' hl hlen]
          exact ih _ _ _ _ (by omega) ⟨i + 1, rfl, hl, rfl, rfl, by simpa using he, by simp only [go_sem, ↓reduceIte, Int.reduceEq, Nat.reduceBEq, Int.reduceBEq, Nat.reduceAdd, Nat.reduceEqDiff, Nat.reduceLT, Nat.reduceSub, t1], by simp only [go_sem, ↓reduceIte, Int.reduceEq, Nat.reduceBEq, Int.reduceBEq, Nat.reduceAdd, Nat.reduceEqDiff, Nat.reduceLT, Nat.reduceSub, t2], by simp only [go_sem, ↓reduceIte, Int.reduceEq, Nat.reduceBEq, Int.reduceBEq, Nat.reduceAdd, Nat.reduceEqDiff, Nat.reduceLT, Nat.reduceSub]⟩
      · simp only [go_sem, ↓reduceIte, Int.reduceEq, Nat.reduceBEq, Int.reduceBEq, Nat.reduceAdd, Nat.reduceEqDiff, Nat.reduceLT, Nat.reduceSub, t1, t2, t5, dec_ge' hl]
        rw [List.drop_eq_nil_of_le (by omega), List.any_nil] at he
        rw [← he]; rfl
    all_goals first | rfl | (simp only [go_sem, ↓reduceIte, Int.reduceEq, Nat.reduceBEq, Int.reduceBEq, Nat.reduceAdd, Nat.reduceEqDiff, Nat.reduceLT, Nat.reduceSub]; done) | (simp only [go_sem, ↓reduceIte, Int.reduceEq, Nat.reduceBEq, Int.reduceBEq, Nat.reduceAdd, Nat.reduceEqDiff, Nat.reduceLT, Nat.reduceSub]; rfl)
  have e3 : (x.kind == 3) = false := by simpa using k3
  by_cases k4 : x.kind = 4
  · have e4 : (x.kind == 4) = true := by simpa using k4
    rw [if_pos k4]
    simp only [go_sem, ↓reduceIte, Int.reduceEq, Nat.reduceBEq, Int.reduceBEq, Nat.reduceAdd, Nat.reduceEqDiff, Nat.reduceLT, Nat.reduceSub, e1, e2, e3, e4]
    refine Ev.loop_ind (fun k tm τ W => ∃ i : Nat, k = x.l.length - i ∧ i ≤ x.l.length ∧ W = [] ∧ τ = σ.push (.cells x.c) ∧ ((x.l.drop i).any (canE false (qOf nl))) = (x.l.any (canE false (qOf nl))) ∧
        tm.at 1 = a ∧ tm.at 2 = .ptr σ.n 0 ∧ tm.at 6 = .d (.int .i64 i)) ?_ x.l.length _ _ _ ⟨0, rfl, by omega, rfl, rfl, rfl, ?_, ?_, ?_⟩
    · rintro k tm τ W ⟨i, rfl, hi, rfl, rfl, he, t1, t2, t6⟩ ih
      by_cases hl : i < x.l.length
      · have hget : x.l[i]? = some x.l[i] := by simp [hl]
        have hmem : x.l[i] ∈ x.l := List.getElem_mem hl
        rw [List.drop_eq_getElem_cons hl, List.any_cons] at he
        simp only [go_sem, ↓reduceIte, Int.reduceEq, Nat.reduceBEq, Int.reduceBEq, Nat.reduceAdd, Nat.reduceEqDiff, Nat.reduceLT, Nat.reduceSub, t1, t2, t6, dec_lt' hl, Ex.index_ld hget]
        refine ⟨_, _, _, nothing_c h109 nl x.l[i] _ a (hx.sub hmem) (callsInL_mem hr.2 hmem) ha.push, ?_⟩
        cases hc : canE false (qOf nl) x.l[i] with
        | true =>
          rw [hc] at he
          simp only [go_sem, ↓reduceIte, Int.reduceEq, Nat.reduceBEq, Int.reduceBEq, Nat.reduceAdd, Nat.reduceEqDiff, Nat.reduceLT, Nat.reduceSub, ← he, Bool.true_or]
        | false =>
          rw [hc] at he
          simp only [go_sem, ↓reduceIte, Int.reduceEq, Nat.reduceBEq, Int.reduceBEq, Nat.reduceAdd, Nat.reduceEqDiff, Nat.reduceLT, Nat.reduceSub, t6, wrap_succ' hl hlen]
          exact ih _ _ _ _ (by omega) ⟨i + 1, rfl, hl, rfl, rfl, by simpa using he, by simp only [go_sem, ↓reduceIte, Int.reduceEq, Nat.reduceBEq, Int.reduceBEq, Nat.reduceAdd, Nat.reduceEqDiff, Nat.reduceLT, Nat.reduceSub, t1], by simp only [go_sem, ↓reduceIte, Int.reduceEq, Nat.reduceBEq, Int.reduceBEq, Nat.reduceAdd, Nat.reduceEqDiff, Nat.reduceLT, Nat.reduceSub, t2], by simp only [go_sem, ↓reduceIte, Int.reduceEq, Nat.reduceBEq, Int.reduceBEq, Nat.reduceAdd, Nat.reduceEqDiff, Nat.reduceLT, Nat.reduceSub]⟩
      · simp only [go_sem, ↓reduceIte, Int.reduceEq, Nat.reduceBEq, Int.reduceBEq, Nat.reduceAdd, Nat.reduceEqDiff, Nat.reduceLT, Nat.reduceSub, t1, t2, t6, dec_ge' hl]
        rw [List.drop_eq_nil_of_le (by omega), List.any_nil] at he
        rw [← he]
    all_goals first | rfl | (simp only [go_sem, ↓reduceIte, Int.reduceEq, Nat.reduceBEq, Int.reduceBEq, Nat.reduceAdd, Nat.reduceEqDiff, Nat.reduceLT, Nat.reduceSub]; done) | (simp only [go_sem, ↓reduceIte, Int.reduceEq, Nat.reduceBEq, Int.reduceBEq, Nat.reduceAdd, Nat.reduceEqDiff, Nat.reduceLT, Nat.reduceSub]; rfl)
  have e4 : (x.kind == 4) = false := by simpa using k4
  rw [if_neg k4, if_neg k3]
  simp only [go_sem, ↓reduceIte, Int.reduceEq, Nat.reduceBEq, Int.reduceBEq, Nat.reduceAdd, Nat.reduceEqDiff, Nat.reduceLT, Nat.reduceSub, e1, e2, e3, e4]
termination_by x
decreasing_by all_goals exact Ex.sub_lt hmem
set_option maxHeartbeats 4000000 in
theorem something_c (h91 : fz 73 = .cut) (nl : List Bool) (x : Ex) (σ : St) (a : A) (hx : SmallE x) (hr : callsIn nl.length x = true) (ha : BlAt σ a nl) :
    CallsTo (XX fz) (.func 73 []) [x.a, a] σ (.d (.bool (canE true (qOf nl) x))) σ [] := by
  refine CallsTo.cut0 h91 fn73 (by simp) rfl ?_
  rw [canE_eq]
  rw [callsIn_eq, Bool.and_eq_true] at hr
  simp only [Tryd.f73, Option.getD_some]
  have hlen := hx.len
  simp only [go_sem, ↓reduceIte, Int.reduceEq, Nat.reduceBEq, Int.reduceBEq, Nat.reduceAdd, Nat.reduceEqDiff, Nat.reduceLT, Nat.reduceSub, Ex.a]
  by_cases k2 : x.kind = 2
  · have e2 : (x.kind == 2) = true := by simpa using k2
    have hr1 := hr.1
    rw [if_pos k2] at hr1
    have hr2 : 0 ≤ x.num ∧ x.num < nl.length := by simpa using hr1
    obtain ⟨n, hn⟩ := Int.eq_ofNat_of_zero_le hr2.1
    have hnl : n < nl.length := by omega
    obtain ⟨p, R, hi, R', hl⟩ := (ha.push (b := .cells x.c)).read hnl
    have hq : qOf nl x.num = nl.getD n false := by unfold qOf; rw [hn]; rfl
    rw [if_neg (show ¬ x.kind = 1 by omega), if_pos k2, hq]
    simp only [go_sem, ↓reduceIte, Int.reduceEq, Nat.reduceBEq, Int.reduceBEq, Nat.reduceAdd, Nat.reduceEqDiff, Nat.reduceLT, Nat.reduceSub, e2, hn, hi, hl]
  have e2 : (x.kind == 2) = false := by simpa using k2
  by_cases k3 : x.kind = 3
  · have e3 : (x.kind == 3) = true := by simpa using k3
    rw [if_neg (show ¬ x.kind = 1 by omega), if_neg (show ¬ x.kind = 2 by omega), if_neg (show ¬ x.kind = 4 by omega), if_pos k3]
    simp only [go_sem, ↓reduceIte, Int.reduceEq, Nat.reduceBEq, Int.reduceBEq, Nat.reduceAdd, Nat.reduceEqDiff, Nat.reduceLT, Nat.reduceSub, e2, e3]
    refine Ev.loop_ind (fun k tm τ W => ∃ i : Nat, k = x.l.length - i ∧ i ≤ x.l.length ∧ W = [] ∧ τ = σ.push (.cells x.c) ∧ ((x.l.drop i).any fun y => !canE true (qOf nl) y) = (x.l.any fun y => !canE true (qOf nl) y) ∧
        tm.at 1 = a ∧ tm.at 2 = .ptr σ.n 0 ∧ tm.at 5 = .d (.int .i64 i)) ?_ x.l.length _ _ _ ⟨0, rfl, by omega, rfl, rfl, rfl, ?_, ?_, ?_⟩
    · rintro k tm τ W ⟨i, rfl, hi, rfl, rfl, he, t1, t2, t5⟩ ih
      by_cases hl : i < x.l.length
      · have hget : x.l[i]? = some x.l[i] := by simp [hl]
        have hmem : x.l[i] ∈ x.l := List.getElem_mem hl
        rw [List.drop_eq_getElem_cons hl, List.any_cons] at he
        simp only [go_sem, ↓reduceIte, Int.reduceEq, Nat.reduceBEq, Int.reduceBEq, Nat.reduceAdd, Nat.reduceEqDiff, Nat.reduceLT, Nat.reduceSub, t1, t2, t5, dec_lt' hl, Ex.index_ld hget]
        refine ⟨_, _, _, something_c h91 nl x.l[i] _ a (hx.sub hmem) (callsInL_mem hr.2 hmem) ha.push, ?_⟩
        cases hc : canE true (qOf nl) x.l[i] with
        | false =>
          rw [hc] at he
          simp only [go_sem, ↓reduceIte, Int.reduceEq, Nat.reduceBEq, Int.reduceBEq, Nat.reduceAdd, Nat.reduceEqDiff, Nat.reduceLT, Nat.reduceSub, ← he, Bool.not_false, Bool.true_or, Bool.not_true]
        | true =>
          rw [hc] at he
          simp only [go_sem, ↓reduceIte, Int.reduceEq, Nat.reduceBEq, Int.reduceBEq, Nat.reduceAdd, Nat.reduceEqDiff, Nat.reduceLT, Nat.reduceSub, t5, wrap_succ' hl hlen]
          exact ih _ _ _ _ (by omega) ⟨i + 1, rfl, hl, rfl, rfl, by simpa using he, by simp only [go_sem, ↓reduceIte, Int.reduceEq, Nat.reduceBEq, Int.reduceBEq, Nat.reduceAdd, Nat.reduceEqDiff, Nat.reduceLT, Nat.reduceSub, t1], by simp only [go_sem, ↓reduceIte, Int.reduceEq, Nat.reduceBEq, Int.reduceBEq, Nat.reduceAdd, Nat.reduceEqDiff, Nat.reduceLT, Nat.reduceSub, t2], by simp only [go_sem, ↓reduceIte, Int.reduceEq, Nat.reduceBEq, Int.reduceBEq, Nat.reduceAdd, Nat.reduceEqDiff, Nat.reduceLT, Nat.reduceSub]⟩
      · simp only [go_sem, ↓reduceIte, Int.reduceEq, Nat.reduceBEq, Int.reduceBEq, Nat.reduceAdd, Nat.reduceEqDiff, Nat.reduceLT, Nat.reduceSub, t1, t2, t5, dec_ge' hl]
        rw [List.drop_eq_nil_of_le (by omega), List.any_nil] at he
        rw [← he]; rfl
    all_goals first | rfl | (simp only [go_sem, ↓reduceIte, Int.reduceEq, Nat.reduceBEq, Int.reduceBEq, Nat.reduceAdd, Nat.reduceEqDiff, Nat.reduceLT, Nat.reduceSub]; done) | (simp only [go_sem, ↓reduceIte, Int.reduceEq, Nat.reduceBEq, Int.reduceBEq, Nat.reduceAdd, Nat.reduceEqDiff, Nat.reduceLT, Nat.reduceSub]; rfl)
  have e3 : (x.kind == 3) = false := by simpa using k3
  by_cases k4 : x.kind = 4
  · have e4 : (x.kind == 4) = true := by simpa using k4
    rw [if_neg (show ¬ x.kind = 1 by omega), if_neg (show ¬ x.kind = 2 by omega), if_pos k4]
    simp only [go_sem, ↓reduceIte, Int.reduceEq, Nat.reduceBEq, Int.reduceBEq, Nat.reduceAdd, Nat.reduceEqDiff, Nat.reduceLT, Nat.reduceSub, e2, e3, e4]
    refine Ev.loop_ind (fun k tm τ W => ∃ i : Nat, k = x.l.length - i ∧ i ≤ x.l.length ∧ W = [] ∧ τ = σ.push (.cells x.c) ∧ ((x.l.drop i).any (canE true (qOf nl))) = (x.l.any (canE true (qOf nl))) ∧
        tm.at 1 = a ∧ tm.at 2 = .ptr σ.n 0 ∧ tm.at 6 = .d (.int .i64 i)) ?_ x.l.length _ _ _ ⟨0, rfl, by omega, rfl, rfl, rfl, ?_, ?_, ?_⟩
    · rintro k tm τ W ⟨i, rfl, hi, rfl, rfl, he, t1, t2, t6⟩ ih
      by_cases hl : i < x.l.length
      · have hget : x.l[i]? = some x.l[i] := by simp [hl]
        have hmem : x.l[i] ∈ x.l := List.getElem_mem hl
        rw [List.drop_eq_getElem_cons hl, List.any_cons] at he
        simp only [go_sem, ↓reduceIte, Int.reduceEq, Nat.reduceBEq, Int.reduceBEq, Nat.reduceAdd, Nat.reduceEqDiff, Nat.reduceLT, Nat.reduceSub, t1, t2, t6, dec_lt' hl, Ex.index_ld hget]
        refine ⟨_, _, _, something_c h91 nl x.l[i] _ a (hx.sub hmem) (callsInL_mem hr.2 hmem) ha.push, ?_⟩
        cases hc : canE true (qOf nl) x.l[i] with
        | true =>
          rw [hc] at he
          simp only [go_sem, ↓reduceIte, Int.reduceEq, Nat.reduceBEq, Int.reduceBEq, Nat.reduceAdd, Nat.reduceEqDiff, Nat.reduceLT, Nat.reduceSub, ← he, Bool.true_or]
        | false =>
          rw [hc] at he
          simp only [go_sem, ↓reduceIte, Int.reduceEq, Nat.reduceBEq, Int.reduceBEq, Nat.reduceAdd, Nat.reduceEqDiff, Nat.reduceLT, Nat.reduceSub, t6, wrap_succ' hl hlen]
          exact ih _ _ _ _ (by omega) ⟨i + 1, rfl, hl, rfl, rfl, by simpa using he, by simp only [go_sem, ↓reduceIte, Int.reduceEq, Nat.reduceBEq, Int.reduceBEq, Nat.reduceAdd, Nat.reduceEqDiff, Nat.reduceLT, Nat.reduceSub, t1], by simp only [go_sem, ↓reduceIte, Int.reduceEq, Nat.reduceBEq, Int.reduceBEq, Nat.reduceAdd, Nat.reduceEqDiff, Nat.reduceLT, Nat.reduceSub, t2], by simp only [go_sem, ↓reduceIte, Int.reduceEq, Nat.reduceBEq, Int.reduceBEq, Nat.reduceAdd, Nat.reduceEqDiff, Nat.reduceLT, Nat.reduceSub]⟩
      · simp only [go_sem, ↓reduceIte, Int.reduceEq, Nat.reduceBEq, Int.reduceBEq, Nat.reduceAdd, Nat.reduceEqDiff, Nat.reduceLT, Nat.reduceSub, t1, t2, t6, dec_ge' hl]
        rw [List.drop_eq_nil_of_le (by omega), List.any_nil] at he
        rw [← he]
    all_goals first | rfl | (simp only [go_sem, ↓reduceIte, Int.reduceEq, Nat.reduceBEq, Int.reduceBEq, Nat.reduceAdd, Nat.reduceEqDiff, Nat.reduceLT, Nat.reduceSub]; done) | (simp only [go_sem, ↓reduceIte, Int.reduceEq, Nat.reduceBEq, Int.reduceBEq, Nat.reduceAdd, Nat.reduceEqDiff, Nat.reduceLT, Nat.reduceSub]; rfl)
  have e4 : (x.kind == 4) = false := by simpa using k4
  have : (if x.kind = 1 then true else if x.kind = 2 then qOf nl x.num else if x.kind = 4 then x.l.any (canE true (qOf nl)) else if x.kind = 3 then !(x.l.any fun y => !canE true (qOf nl) y) else true) = true := by
    rw [if_neg k2, if_neg k4, if_neg k3]; split <;> rfl
  rw [this]
  simp only [go_sem, ↓reduceIte, Int.reduceEq, Nat.reduceBEq, Int.reduceBEq, Nat.reduceAdd, Nat.reduceEqDiff, Nat.reduceLT, Nat.reduceSub, e2, e3, e4]
termination_by x
decreasing_by all_goals exact Ex.sub_lt hmem
end Go.Am

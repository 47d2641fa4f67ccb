/- Part M5 of a proof that runs a program's calls on a small machine whose values bear no addresses: no conditions. -/
import Derived.Test.YtbppacknigeiaaaAmM4
set_option autoImplicit false
set_option linter.unusedSimpArgs false
set_option linter.unusedVariables false
set_option linter.unusedSectionVars false
namespace Go.Am
open Go Go.Proofs
variable {fz : Nat → Md}
/-- a network's numbers stand for states and rules -/
structure SndN (N : Nv) (X : Nx) (g : Gr) : Prop where
  en : X.en.length = g.rules.length
  lv : X.lv.length = g.rules.length
  enr : ∀ i, i < X.en.length → 0 ≤ X.en.getD i 0 ∧ X.en.getD i 0 < N.es.length
  lvr : ∀ i, i < X.lv.length → 0 ≤ X.lv.getD i 0 ∧ X.lv.getD i 0 < N.es.length
  ed : ∀ r ∈ N.es, ∀ e ∈ r, 0 ≤ e.kind ∧ e.kind ≤ 2 ∧ 0 ≤ e.num ∧ e.to < N.es.length ∧ (e.kind = 2 → e.num < g.rules.length) ∧ (e.kind = 1 → e.num < g.tokens)
set_option maxHeartbeats 8000000 in
theorem sound_c (h17 : fz 17 = .cut) {N : Nv} {X : Nx} {g : Gr} {B : Nat} (hB : N.Fits B) (hb : B < 1000000) (hS : SndN N X g) (hL : g.rules.length < 1000000) (σ : St) :
    CallsTo (XX fz) (.func 17 []) [netA N X, g.a] σ (.d (.bool true)) σ [] := by
  refine CallsTo.cut0 h17 fn17 (by simp) rfl ?_
  simp only [Try.f17, Option.getD_some]
  have e1 : ((g.rules.length : Int) != (g.rules.length : Int)) = false := by simp
  have hel := hB.e
  simp only [go_sem, ↓reduceIte, Int.reduceEq, Nat.reduceBEq, Int.reduceBEq, Nat.reduceAdd, Nat.reduceEqDiff, Nat.reduceLT, Nat.reduceSub, netA, netC3, Gr.a, len_sl, hS.en, hS.lv, e1]
  refine Ev.loop_ind (fun k tm τ W => ∃ (i : Nat), k = g.rules.length - i ∧ i ≤ g.rules.length ∧ W = [] ∧ σ.n + 2 ≤ τ.n ∧ τ.get σ.n = .cells [.d N.esD, .d (slD X.en), .d (slD X.lv)] ∧ τ.get (σ.n + 1) = .cells g.c ∧
      tm.at 2 = .ptr σ.n 0 ∧ tm.at 3 = .ptr (σ.n + 1) 0 ∧ tm.at 5 = .d (.int .i64 i)) ?_ g.rules.length _ _ _ ⟨0, rfl, by omega, rfl, ?_, ?_, ?_, ?_, ?_, ?_⟩
  · rintro k tm τ W ⟨i, rfl, hi, rfl, hn, g0, g1, t2, t3, t5⟩ ih
    by_cases hl : i < g.rules.length
    · have l1 : i < X.en.length := by rw [hS.en]; exact hl
      have l2 : i < X.lv.length := by rw [hS.lv]; exact hl
      obtain ⟨q1, q2⟩ := hS.enr i l1
      obtain ⟨q3, q4⟩ := hS.lvr i l2
      have c1 : decide (X.en.getD i 0 < 0) = false := by simpa using q1
      have c2 : decide (X.en.getD i 0 ≥ (N.es.length : Int)) = false := by simpa using q2
      have c3 : decide (X.lv.getD i 0 < 0) = false := by simpa using q3
      have c4 : decide (X.lv.getD i 0 ≥ (N.es.length : Int)) = false := by simpa using q4
      simp only [go_sem, ↓reduceIte, Int.reduceEq, Nat.reduceBEq, Int.reduceBEq, Nat.reduceAdd, Nat.reduceEqDiff, Nat.reduceLT, Nat.reduceSub, t2, t3, t5, g0, len_sl, hS.en, hS.lv, dec_lt' hl, index_sl l1, index_sl l2, c1, c2, c3, c4, len_es, wrap_succ' hl (show g.rules.length < 1000000000 by omega)]
      refine ⟨drawOk_rel [] [] rfl (by kernel_rfl) rfl (by simp), ?_⟩
      refine ih _ _ _ _ (by omega) ⟨i + 1, rfl, hl, rfl, hn, g0, g1, by simp only [go_sem, ↓reduceIte, Int.reduceEq, Nat.reduceBEq, Int.reduceBEq, Nat.reduceAdd, Nat.reduceEqDiff, Nat.reduceLT, Nat.reduceSub, t2], by simp only [go_sem, ↓reduceIte, Int.reduceEq, Nat.reduceBEq, Int.reduceBEq, Nat.reduceAdd, Nat.reduceEqDiff, Nat.reduceLT, Nat.reduceSub, t3], by simp only [go_sem, ↓reduceIte, Int.reduceEq, Nat.reduceBEq, Int.reduceBEq, Nat.reduceAdd, Nat.reduceEqDiff, Nat.reduceLT, Nat.reduceSub]⟩
    · simp only [go_sem, ↓reduceIte, Int.reduceEq, Nat.reduceBEq, Int.reduceBEq, Nat.reduceAdd, Nat.reduceEqDiff, Nat.reduceLT, Nat.reduceSub, t2, t3, t5, g0, len_sl, hS.en, dec_ge' hl]
      refine Ev.loop_ind (fun k tm τ W => ∃ (i : Nat), k = N.es.length - i ∧ i ≤ N.es.length ∧ W = [] ∧ σ.n + 2 ≤ τ.n ∧ τ.get σ.n = .cells [.d N.esD, .d (slD X.en), .d (slD X.lv)] ∧ τ.get (σ.n + 1) = .cells g.c ∧
          tm.at 2 = .ptr σ.n 0 ∧ tm.at 3 = .ptr (σ.n + 1) 0 ∧ tm.at 6 = .d (.int .i64 i)) ?_ N.es.length _ _ _ ⟨0, rfl, by omega, rfl, hn, g0, g1, by simp only [go_sem, ↓reduceIte, Int.reduceEq, Nat.reduceBEq, Int.reduceBEq, Nat.reduceAdd, Nat.reduceEqDiff, Nat.reduceLT, Nat.reduceSub, t2], by simp only [go_sem, ↓reduceIte, Int.reduceEq, Nat.reduceBEq, Int.reduceBEq, Nat.reduceAdd, Nat.reduceEqDiff, Nat.reduceLT, Nat.reduceSub, t3], by simp only [go_sem, ↓reduceIte, Int.reduceEq, Nat.reduceBEq, Int.reduceBEq, Nat.reduceAdd, Nat.reduceEqDiff, Nat.reduceLT, Nat.reduceSub]; rfl⟩
      rintro k tm τ W ⟨s, rfl, hs, rfl, hn, g0, g1, t2, t3, t6⟩ ih2
      by_cases hl2 : s < N.es.length
      · have hget : N.es[s]? = some N.es[s] := by simp [hl2]
        have hrl := hB.l _ (List.getElem_mem hl2)
        simp only [go_sem, ↓reduceIte, Int.reduceEq, Nat.reduceBEq, Int.reduceBEq, Nat.reduceAdd, Nat.reduceEqDiff, Nat.reduceLT, Nat.reduceSub, t2, t3, t6, g0, len_es, dec_lt' hl2]
        refine Ev.loop_ind (fun k tm τ W => ∃ (j : Nat), k = N.es[s].length - j ∧ j ≤ N.es[s].length ∧ W = [] ∧ σ.n + 2 ≤ τ.n ∧ τ.get σ.n = .cells [.d N.esD, .d (slD X.en), .d (slD X.lv)] ∧ τ.get (σ.n + 1) = .cells g.c ∧
            tm.at 2 = .ptr σ.n 0 ∧ tm.at 3 = .ptr (σ.n + 1) 0 ∧ tm.at 6 = .d (.int .i64 s) ∧ tm.at 7 = .d (.int .i64 j)) ?_ N.es[s].length _ _ _ ⟨0, rfl, by omega, rfl, hn, g0, g1, by simp only [go_sem, ↓reduceIte, Int.reduceEq, Nat.reduceBEq, Int.reduceBEq, Nat.reduceAdd, Nat.reduceEqDiff, Nat.reduceLT, Nat.reduceSub, t2], by simp only [go_sem, ↓reduceIte, Int.reduceEq, Nat.reduceBEq, Int.reduceBEq, Nat.reduceAdd, Nat.reduceEqDiff, Nat.reduceLT, Nat.reduceSub, t3], by simp only [go_sem, ↓reduceIte, Int.reduceEq, Nat.reduceBEq, Int.reduceBEq, Nat.reduceAdd, Nat.reduceEqDiff, Nat.reduceLT, Nat.reduceSub, t6], by simp only [go_sem, ↓reduceIte, Int.reduceEq, Nat.reduceBEq, Int.reduceBEq, Nat.reduceAdd, Nat.reduceEqDiff, Nat.reduceLT, Nat.reduceSub]; rfl⟩
        rintro k tm τ W ⟨j, rfl, hj, rfl, hn, g0, g1, t2, t3, t6, t7⟩ ih3
        by_cases hl3 : j < N.es[s].length
        · have hge : N.es[s][j]? = some N.es[s][j] := by simp [hl3]
          obtain ⟨k1, k2, k3, k4, k5, k6⟩ := hS.ed _ (List.getElem_mem hl2) _ (List.getElem_mem hl3)
          generalize N.es[s][j] = e at hge k1 k2 k3 k4 k5 k6
          have c1 : decide (e.kind < 0) = false := by simpa using k1
          have c2 : decide (e.kind > 2) = false := by simpa using k2
          have c3 : decide ((e.to : Int) < 0) = false := by simp
          have c4 : decide ((e.to : Int) ≥ (N.es.length : Int)) = false := by simpa using k4
          have c5 : decide (e.num < 0) = false := by simpa using k3
          have ne1 : σ.n ≠ τ.n := by omega
          have ne2 : σ.n < τ.n := by omega
          have ne3 : σ.n + 1 ≠ τ.n := by omega
          have ne4 : σ.n + 1 < τ.n := by omega
          have lz : low σ.n [τ.n] = [] := by rw [low_cons_ge (by omega)]; rfl
          have fin : ∀ tm' : Tm, tm'.at 2 = .ptr σ.n 0 → tm'.at 3 = .ptr (σ.n + 1) 0 → tm'.at 6 = .d (.int .i64 s) → tm'.at 7 = .d (.int .i64 ((j + 1 : Nat) : Int)) → _ := fun tm' a1 a2 a3 a4 =>
            ih3 _ tm' ((τ.push (.cells [.d (.int .i64 0), .d (.int .i64 0), .d (.int .i64 0)])).set τ.n (.cells (e.D.map A.d))) [] (show N.es[s].length - (j + 1) < _ by omega) ⟨j + 1, rfl, hl3, rfl, by simp only [St.n_set, St.n_push]; omega, by rw [St.get_set_ne ne1, St.get_push_ne ne2]; exact g0, by rw [St.get_set_ne ne3, St.get_push_ne ne4]; exact g1, a1, a2, a3, a4⟩
          simp only [Eg.D_c] at fin
          rcases (show e.kind = 0 ∨ e.kind = 1 ∨ e.kind = 2 by omega) with h | h | h
          · have c6 : (e.kind == 2) = false := by rw [h]; rfl
            have c7 : (e.kind == 1) = false := by rw [h]; rfl
            simp only [go_sem, ↓reduceIte, Int.reduceEq, Nat.reduceBEq, Int.reduceBEq, Nat.reduceAdd, Nat.reduceEqDiff, Nat.reduceLT, Nat.reduceSub, t2, t3, t6, t7, g0, index_es hget, len_rw, dec_lt' hl3, index_rw hge, Eg.D_c, c1, c2, c3, c4, c5, c6, c7, ne1, ne2, ne3, ne4, len_es, lz, wrap_succ' hl3 (show N.es[s].length < 1000000000 by omega)]
            exact fin _ (by simp only [go_sem, ↓reduceIte, Int.reduceEq, Nat.reduceBEq, Int.reduceBEq, Nat.reduceAdd, Nat.reduceEqDiff, Nat.reduceLT, Nat.reduceSub, t2]) (by simp only [go_sem, ↓reduceIte, Int.reduceEq, Nat.reduceBEq, Int.reduceBEq, Nat.reduceAdd, Nat.reduceEqDiff, Nat.reduceLT, Nat.reduceSub, t3]) (by simp only [go_sem, ↓reduceIte, Int.reduceEq, Nat.reduceBEq, Int.reduceBEq, Nat.reduceAdd, Nat.reduceEqDiff, Nat.reduceLT, Nat.reduceSub, t6]) (by simp only [go_sem, ↓reduceIte, Int.reduceEq, Nat.reduceBEq, Int.reduceBEq, Nat.reduceAdd, Nat.reduceEqDiff, Nat.reduceLT, Nat.reduceSub])
          · have c6 : (e.kind == 2) = false := by rw [h]; rfl
            have c7 : (e.kind == 1) = true := by rw [h]; rfl
            have c8 : decide (e.num ≥ g.tokens) = false := by simpa using k6 h
            simp only [go_sem, ↓reduceIte, Int.reduceEq, Nat.reduceBEq, Int.reduceBEq, Nat.reduceAdd, Nat.reduceEqDiff, Nat.reduceLT, Nat.reduceSub, t2, t3, t6, t7, g0, g1, index_es hget, len_rw, dec_lt' hl3, index_rw hge, Eg.D_c, c1, c2, c3, c4, c5, c6, c7, c8, ne1, ne2, ne3, ne4, len_es, lz, wrap_succ' hl3 (show N.es[s].length < 1000000000 by omega)]
            exact fin _ (by simp only [go_sem, ↓reduceIte, Int.reduceEq, Nat.reduceBEq, Int.reduceBEq, Nat.reduceAdd, Nat.reduceEqDiff, Nat.reduceLT, Nat.reduceSub, t2]) (by simp only [go_sem, ↓reduceIte, Int.reduceEq, Nat.reduceBEq, Int.reduceBEq, Nat.reduceAdd, Nat.reduceEqDiff, Nat.reduceLT, Nat.reduceSub, t3]) (by simp only [go_sem, ↓reduceIte, Int.reduceEq, Nat.reduceBEq, Int.reduceBEq, Nat.reduceAdd, Nat.reduceEqDiff, Nat.reduceLT, Nat.reduceSub, t6]) (by simp only [go_sem, ↓reduceIte, Int.reduceEq, Nat.reduceBEq, Int.reduceBEq, Nat.reduceAdd, Nat.reduceEqDiff, Nat.reduceLT, Nat.reduceSub])
          · have c6 : (e.kind == 2) = true := by rw [h]; rfl
            have c7 : (e.kind == 1) = false := by rw [h]; rfl
            have c8 : decide (e.num ≥ (g.rules.length : Int)) = false := by simpa using k5 h
            simp only [go_sem, ↓reduceIte, Int.reduceEq, Nat.reduceBEq, Int.reduceBEq, Nat.reduceAdd, Nat.reduceEqDiff, Nat.reduceLT, Nat.reduceSub, t2, t3, t6, t7, g0, g1, index_es hget, len_rw, dec_lt' hl3, index_rw hge, Eg.D_c, c1, c2, c3, c4, c5, c6, c7, c8, ne1, ne2, ne3, ne4, len_es, lz, wrap_succ' hl3 (show N.es[s].length < 1000000000 by omega)]
            exact fin _ (by simp only [go_sem, ↓reduceIte, Int.reduceEq, Nat.reduceBEq, Int.reduceBEq, Nat.reduceAdd, Nat.reduceEqDiff, Nat.reduceLT, Nat.reduceSub, t2]) (by simp only [go_sem, ↓reduceIte, Int.reduceEq, Nat.reduceBEq, Int.reduceBEq, Nat.reduceAdd, Nat.reduceEqDiff, Nat.reduceLT, Nat.reduceSub, t3]) (by simp only [go_sem, ↓reduceIte, Int.reduceEq, Nat.reduceBEq, Int.reduceBEq, Nat.reduceAdd, Nat.reduceEqDiff, Nat.reduceLT, Nat.reduceSub, t6]) (by simp only [go_sem, ↓reduceIte, Int.reduceEq, Nat.reduceBEq, Int.reduceBEq, Nat.reduceAdd, Nat.reduceEqDiff, Nat.reduceLT, Nat.reduceSub])
        · simp only [go_sem, ↓reduceIte, Int.reduceEq, Nat.reduceBEq, Int.reduceBEq, Nat.reduceAdd, Nat.reduceEqDiff, Nat.reduceLT, Nat.reduceSub, t2, t3, t6, t7, g0, index_es hget, len_rw, dec_ge' hl3, wrap_succ' hl2 (show N.es.length < 1000000000 by omega)]
          refine ih2 _ _ _ _ (by omega) ⟨s + 1, rfl, hl2, rfl, hn, g0, g1, by simp only [go_sem, ↓reduceIte, Int.reduceEq, Nat.reduceBEq, Int.reduceBEq, Nat.reduceAdd, Nat.reduceEqDiff, Nat.reduceLT, Nat.reduceSub, t2], by simp only [go_sem, ↓reduceIte, Int.reduceEq, Nat.reduceBEq, Int.reduceBEq, Nat.reduceAdd, Nat.reduceEqDiff, Nat.reduceLT, Nat.reduceSub, t3], by simp only [go_sem, ↓reduceIte, Int.reduceEq, Nat.reduceBEq, Int.reduceBEq, Nat.reduceAdd, Nat.reduceEqDiff, Nat.reduceLT, Nat.reduceSub]⟩
      · simp only [go_sem, ↓reduceIte, Int.reduceEq, Nat.reduceBEq, Int.reduceBEq, Nat.reduceAdd, Nat.reduceEqDiff, Nat.reduceLT, Nat.reduceSub, t2, t3, t6, g0, len_es, dec_ge' hl2]
  · simp [St.n_push]
  all_goals first | rfl | (simp only [go_sem, ↓reduceIte, Int.reduceEq, Nat.reduceBEq, Int.reduceBEq, Nat.reduceAdd, Nat.reduceEqDiff, Nat.reduceLT, Nat.reduceSub]; done) | (simp only [go_sem, ↓reduceIte, Int.reduceEq, Nat.reduceBEq, Int.reduceBEq, Nat.reduceAdd, Nat.reduceEqDiff, Nat.reduceLT, Nat.reduceSub]; rfl)
end Go.Am
namespace Go.Am
open Go Go.Proofs
def falses (l : List Bool) : Nat := (l.filter fun b => !b).length
theorem falses_set : ∀ (l : List Bool) (i : Nat), l[i]? = some false → falses (l.set i true) + 1 = falses l
  | [], i, h => by simp at h
  | b :: l, 0, h => by simp at h; subst h; simp [falses]
  | b :: l, i + 1, h => by
    have := falses_set l i (by simpa using h)
    cases b <;> simp [falses] at this ⊢ <;> omega
theorem falses_rep (n : Nat) : falses (List.replicate n false) = n := by simp [falses]
end Go.Am

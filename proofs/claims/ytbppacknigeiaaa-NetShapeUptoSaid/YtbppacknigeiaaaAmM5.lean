/- Part M5 of a proof that runs a program's calls on a small machine whose values bear no addresses: no conditions. -/
import Derived.Test.YtbppacknigeiaaaAmM4
set_option autoImplicit false
set_option linter.unusedSimpArgs false
set_option linter.unusedVariables false
set_option linter.unusedSectionVars false
namespace Go.Am
open Go Go.Proofs
variable {fz : Nat → Md}
/-- a network's numbers stand for states and rules -/
structure SndN (N : Nv) (X : Nx) (g : Gr) : Prop where
  en : X.en.length = g.rules.length
  lv : X.lv.length = g.rules.length
  enr : ∀ i, i < X.en.length → 0 ≤ X.en.getD i 0 ∧ X.en.getD i 0 < N.es.length
  lvr : ∀ i, i < X.lv.length → 0 ≤ X.lv.getD i 0 ∧ X.lv.getD i 0 < N.es.length
  ed : ∀ r ∈ N.es, ∀ e ∈ r, 0 ≤ e.kind ∧ e.kind ≤ 2 ∧ 0 ≤ e.num ∧ e.to < N.es.length ∧ (e.kind = 2 → e.num < g.rules.length) ∧ (e.kind = 1 → e.num < g.tokens)
set_option maxHeartbeats 8000000 in
theorem sound_c (h17 : fz 17 = .cut) {N : Nv} {X : Nx} {g : Gr} {B : Nat} (hB : N.Fits B) (hb : B < 1000000) (hS : SndN N X g) (hL : g.rules.length < 1000000) (σ : St) :
    CallsTo (XX fz) (.func 17 []) [netA N X, g.a] σ (.d (.bool true)) σ [] := by
  refine CallsTo.cut0 h17 fn17 (by simp) rfl ?_
  simp only [Try.f17, Option.getD_some]
  have e1 : ((g.rules.length : Int) != (g.rules.length : Int)) = false := by simp
  have hel := hB.e
  simp only [go_sem, ↓reduceIte, Int.reduceEq, Nat.reduceBEq, Int.reduceBEq, Int.reduceBNe, Int.reduceLT, Int.reduceLE, Nat.reduceAdd, Nat.reducePow, Nat.reduceEqDiff, Nat.reduceLT, Nat.reduceLeDiff, Nat.reduceMul, Nat.reduceSub, netA, netC3, Gr.a, len_sl, hS.en, hS.lv, e1]
  refine Ev.loop_ind (fun k tm τ W => ∃ (i : Nat), k = g.rules.length - i ∧ i ≤ g.rules.length ∧ W = [] ∧ σ.n + 2 ≤ τ.n ∧ τ.get σ.n = .cells [.d N.esD, .d (slD X.en), .d (slD X.lv)] ∧ τ.get (σ.n + 1) = .cells g.c ∧
      tm.at 2 = .ptr σ.n 0 ∧ tm.at 3 = .ptr (σ.n + 1) 0 ∧ tm.at 5 = .d (.int .i64 i)) ?_ g.rules.length _ _ _ ⟨0, rfl, by omega, rfl, ?_, ?_, ?_, ?_, ?_, ?_⟩
  · rintro k tm τ W ⟨i, rfl, hi, rfl, hn, g0, g1, t2, t3, t5⟩ ih
    by_cases hl : i < g.rules.length
    · have l1 : i < X.en.length := by rw [hS.en]; exact hl
      have l2 : i < X.lv.length := by rw [hS.lv]; exact hl
      obtain ⟨q1, q2⟩ := hS.enr i l1
      obtain ⟨q3, q4⟩ := hS.lvr i l2
      have c1 : decide (X.en.getD i 0 < 0) = false := by simpa using q1
      have c2 : decide (X.en.getD i 0 ≥ (N.es.length : Int)) = false := by simpa using q2
      have c3 : decide (X.lv.getD i 0 < 0) = false := by simpa using q3
      have c4 : decide (X.lv.getD i 0 ≥ (N.es.length : Int)) = false := by simpa using q4
      simp only [go_sem, ↓reduceIte, Int.reduceEq, Nat.reduceBEq, Int.reduceBEq, Int.reduceBNe, Int.reduceLT, Int.reduceLE, Nat.reduceAdd, Nat.reducePow, Nat.reduceEqDiff, Nat.reduceLT, Nat.reduceLeDiff, Nat.reduceMul, Nat.reduceSub, t2, t3, t5, g0, len_sl, hS.en, hS.lv, dec_lt' hl, index_sl l1, index_sl l2, c1, c2, c3, c4, len_es, wrap_succ' hl (show g.rules.length < 1000000000 by omega)]
      refine ⟨drawOk_rel [] [] rfl (by kernel_rfl) rfl (by simp), ?_⟩
      refine ih _ _ _ _ (by omega) ⟨i + 1, rfl, hl, rfl, hn, g0, g1, by simp only [go_sem, ↓reduceIte, Int.reduceEq, Nat.reduceBEq, Int.reduceBEq, Int.reduceBNe, Int.reduceLT, Int.reduceLE, Nat.reduceAdd, Nat.reducePow, Nat.reduceEqDiff, Nat.reduceLT, Nat.reduceLeDiff, Nat.reduceMul, Nat.reduceSub, t2], by simp only [go_sem, ↓reduceIte, Int.reduceEq, Nat.reduceBEq, Int.reduceBEq, Int.reduceBNe, Int.reduceLT, Int.reduceLE, Nat.reduceAdd, Nat.reducePow, Nat.reduceEqDiff, Nat.reduceLT, Nat.reduceLeDiff, Nat.reduceMul, Nat.reduceSub, t3], by simp only [go_sem, ↓reduceIte, Int.reduceEq, Nat.reduceBEq, Int.reduceBEq, Int.reduceBNe, Int.reduceLT, Int.reduceLE, Nat.reduceAdd, Nat.reducePow, Nat.reduceEqDiff, Nat.reduceLT, Nat.reduceLeDiff, Nat.reduceMul, Nat.reduceSub]⟩
    · simp only [go_sem, ↓reduceIte, Int.reduceEq, Nat.reduceBEq, Int.reduceBEq, Int.reduceBNe, Int.reduceLT, Int.reduceLE, Nat.reduceAdd, Nat.reducePow, Nat.reduceEqDiff, Nat.reduceLT, Nat.reduceLeDiff, Nat.reduceMul, Nat.reduceSub, t2, t3, t5, g0, len_sl, hS.en, dec_ge' hl]
      refine Ev.loop_ind (fun k tm τ W => ∃ (i : Nat), k = N.es.length - i ∧ i ≤ N.es.length ∧ W = [] ∧ σ.n + 2 ≤ τ.n ∧ τ.get σ.n = .cells [.d N.esD, .d (slD X.en), .d (slD X.lv)] ∧ τ.get (σ.n + 1) = .cells g.c ∧
          tm.at 2 = .ptr σ.n 0 ∧ tm.at 3 = .ptr (σ.n + 1) 0 ∧ tm.at 6 = .d (.int .i64 i)) ?_ N.es.length _ _ _ ⟨0, rfl, by omega, rfl, hn, g0, g1, by simp only [go_sem, ↓reduceIte, Int.reduceEq, Nat.reduceBEq, Int.reduceBEq, Int.reduceBNe, Int.reduceLT, Int.reduceLE, Nat.reduceAdd, Nat.reducePow, Nat.reduceEqDiff, Nat.reduceLT, Nat.reduceLeDiff, Nat.reduceMul, Nat.reduceSub, t2], by simp only [go_sem, ↓reduceIte, Int.reduceEq, Nat.reduceBEq, Int.reduceBEq, Int.reduceBNe, Int.reduceLT, Int.reduceLE, Nat.reduceAdd, Nat.reducePow, Nat.reduceEqDiff, Nat.reduceLT, Nat.reduceLeDiff, Nat.reduceMul, Nat.reduceSub, t3], by simp only [go_sem, ↓reduceIte, Int.reduceEq, Nat.reduceBEq, Int.reduceBEq, Int.reduceBNe, Int.reduceLT, Int.reduceLE, Nat.reduceAdd, Nat.reducePow, Nat.reduceEqDiff, Nat.reduceLT, Nat.reduceLeDiff, Nat.reduceMul, Nat.reduceSub]; rfl⟩
      rintro k tm τ W ⟨s, rfl, hs, rfl, hn, g0, g1, t2, t3, t6⟩ ih2
      by_cases hl2 : s < N.es.length
      · have hget : N.es[s]? = some N.es[s] := by simp [hl2]
        have hrl := hB.l _ (List.getElem_mem hl2)
        simp only [go_sem, ↓reduceIte, Int.reduceEq, Nat.reduceBEq, Int.reduceBEq, Int.reduceBNe, Int.reduceLT, Int.reduceLE, Nat.reduceAdd, Nat.reducePow, Nat.reduceEqDiff, Nat.reduceLT, Nat.reduceLeDiff, Nat.reduceMul, Nat.reduceSub, t2, t3, t6, g0, len_es, dec_lt' hl2]
        refine Ev.loop_ind (fun k tm τ W => ∃ (j : Nat), k = N.es[s].length - j ∧ j ≤ N.es[s].length ∧ W = [] ∧ σ.n + 2 ≤ τ.n ∧ τ.get σ.n = .cells [.d N.esD, .d (slD X.en), .d (slD X.lv)] ∧ τ.get (σ.n + 1) = .cells g.c ∧
            tm.at 2 = .ptr σ.n 0 ∧ tm.at 3 = .ptr (σ.n + 1) 0 ∧ tm.at 6 = .d (.int .i64 s) ∧ tm.at 7 = .d (.int .i64 j)) ?_ N.es[s].length _ _ _ ⟨0, rfl, by omega, rfl, hn, g0, g1, by simp only [go_sem, ↓reduceIte, Int.reduceEq, Nat.reduceBEq, Int.reduceBEq, Int.reduceBNe, Int.reduceLT, Int.reduceLE, Nat.reduceAdd, Nat.reducePow, Nat.reduceEqDiff, Nat.reduceLT, Nat.reduceLeDiff, Nat.reduceMul, Nat.reduceSub, t2], by simp only [go_sem, ↓reduceIte, Int.reduceEq, Nat.reduceBEq, Int.reduceBEq, Int.reduceBNe, Int.reduceLT, Int.reduceLE, Nat.reduceAdd, Nat.reducePow, Nat.reduceEqDiff, Nat.reduceLT, Nat.reduceLeDiff, Nat.reduceMul, Nat.reduceSub, t3], by simp only [go_sem, ↓reduceIte, Int.reduceEq, Nat.reduceBEq, Int.reduceBEq, Int.reduceBNe, Int.reduceLT, Int.reduceLE, Nat.reduceAdd, Nat.reducePow, Nat.reduceEqDiff, Nat.reduceLT, Nat.reduceLeDiff, Nat.reduceMul, Nat.reduceSub, t6], by simp only [go_sem, ↓reduceIte, Int.reduceEq, Nat.reduceBEq, Int.reduceBEq, Int.reduceBNe, Int.reduceLT, Int.reduceLE, Nat.reduceAdd, Nat.reducePow, Nat.reduceEqDiff, Nat.reduceLT, Nat.reduceLeDiff, Nat.reduceMul, Nat.reduceSub]; rfl⟩
        rintro k tm τ W ⟨j, rfl, hj, rfl, hn, g0, g1, t2, t3, t6, t7⟩ ih3
        by_cases hl3 : j < N.es[s].length
        · have hge : N.es[s][j]? = some N.es[s][j] := by simp [hl3]
          obtain ⟨k1, k2, k3, k4, k5, k6⟩ := hS.ed _ (List.getElem_mem hl2) _ (List.getElem_mem hl3)
          generalize N.es[s][j] = e at hge k1 k2 k3 k4 k5 k6
          have c1 : decide (e.kind < 0) = false := by simpa using k1
          have c2 : decide (e.kind > 2) = false := by simpa using k2
          have c3 : decide ((e.to : Int) < 0) = false := by simp
          have c4 : decide ((e.to : Int) ≥ (N.es.length : Int)) = false := by simpa using k4
          have c5 : decide (e.num < 0) = false := by simpa using k3
          have ne1 : σ.n ≠ τ.n := by omega
          have ne2 : σ.n < τ.n := by omega
          have ne3 : σ.n + 1 ≠ τ.n := by omega
          have ne4 : σ.n + 1 < τ.n := by omega
          have lz : low σ.n [τ.n] = [] := by rw [low_cons_ge (by omega)]; rfl
          have fin : ∀ tm' : Tm, tm'.at 2 = .ptr σ.n 0 → tm'.at 3 = .ptr (σ.n + 1) 0 → tm'.at 6 = .d (.int .i64 s) → tm'.at 7 = .d (.int .i64 ((j + 1 : Nat) : Int)) → _ := fun tm' a1 a2 a3 a4 =>
            ih3 _ tm' ((τ.push (.cells [.d (.int .i64 0), .d (.int .i64 0), .d (.int .i64 0)])).set τ.n (.cells (e.D.map A.d))) [] (show N.es[s].length - (j + 1) < _ by omega) ⟨j + 1, rfl, hl3, rfl, by simp only [St.n_set, St.n_push]; omega, by rw [St.get_set_ne ne1, St.get_push_ne ne2]; exact g0, by rw [St.get_set_ne ne3, St.get_push_ne ne4]; exact g1, a1, a2, a3, a4⟩
          simp only [Eg.D_c] at fin
          rcases (show e.kind = 0 ∨ e.kind = 1 ∨ e.kind = 2 by omega) with h | h | h
          · have c6 : (e.kind == 2) = false := by rw [h]; rfl
            have c7 : (e.kind == 1) = false := by rw [h]; rfl
            simp only [go_sem, ↓reduceIte, Int.reduceEq, Nat.reduceBEq, Int.reduceBEq, Int.reduceBNe, Int.reduceLT, Int.reduceLE, Nat.reduceAdd, Nat.reducePow, Nat.reduceEqDiff, Nat.reduceLT, Nat.reduceLeDiff, Nat.reduceMul, Nat.reduceSub, t2, t3, t6, t7, g0, index_es hget, len_rw, dec_lt' hl3, index_rw hge, Eg.D_c, c1, c2, c3, c4, c5, c6, c7, ne1, ne2, ne3, ne4, len_es, lz, wrap_succ' hl3 (show N.es[s].length < 1000000000 by omega)]
            exact fin _ (by simp only [go_sem, ↓reduceIte, Int.reduceEq, Nat.reduceBEq, Int.reduceBEq, Int.reduceBNe, Int.reduceLT, Int.reduceLE, Nat.reduceAdd, Nat.reducePow, Nat.reduceEqDiff, Nat.reduceLT, Nat.reduceLeDiff, Nat.reduceMul, Nat.reduceSub, t2]) (by simp only [go_sem, ↓reduceIte, Int.reduceEq, Nat.reduceBEq, Int.reduceBEq, Int.reduceBNe, Int.reduceLT, Int.reduceLE, Nat.reduceAdd, Nat.reducePow, Nat.reduceEqDiff, Nat.reduceLT, Nat.reduceLeDiff, Nat.reduceMul, Nat.reduceSub, t3]) (by simp only [go_sem, ↓reduceIte, Int.reduceEq, Nat.reduceBEq, Int.reduceBEq, Int.reduceBNe, Int.reduceLT, Int.reduceLE, Nat.reduceAdd, Nat.reducePow, Nat.reduceEqDiff, Nat.reduceLT, Nat.reduceLeDiff, Nat.reduceMul, Nat.reduceSub, t6]) (by simp only [go_sem, ↓reduceIte, Int.reduceEq, Nat.reduceBEq, Int.reduceBEq, Int.reduceBNe, Int.reduceLT, Int.reduceLE, Nat.reduceAdd, Nat.reducePow, Nat.reduceEqDiff, Nat.reduceLT, Nat.reduceLeDiff, Nat.reduceMul, Nat.reduceSub])
          · have c6 : (e.kind == 2) = false := by rw [h]; rfl
            have c7 : (e.kind == 1) = true := by rw [h]; rfl
            have c8 : decide (e.num ≥ g.tokens) = false := by simpa using k6 h
            simp only [go_sem, ↓reduceIte, Int.reduceEq, Nat.reduceBEq, Int.reduceBEq, Int.reduceBNe, Int.reduceLT, Int.reduceLE, Nat.reduceAdd, Nat.reducePow, Nat.reduceEqDiff, Nat.reduceLT, Nat.reduceLeDiff, Nat.reduceMul, Nat.reduceSub, t2, t3, t6, t7, g0, g1, index_es hget, len_rw, dec_lt' hl3, index_rw hge, Eg.D_c, c1, c2, c3, c4, c5, c6, c7, c8, ne1, ne2, ne3, ne4, len_es, lz, wrap_succ' hl3 (show N.es[s].length < 1000000000 by omega)]
            exact fin _ (by simp only [go_sem, ↓reduceIte, Int.reduceEq, Nat.reduceBEq, Int.reduceBEq, Int.reduceBNe, Int.reduceLT, Int.reduceLE, Nat.reduceAdd, Nat.reducePow, Nat.reduceEqDiff, Nat.reduceLT, Nat.reduceLeDiff, Nat.reduceMul, Nat.reduceSub, t2]) (by simp only [go_sem, ↓reduceIte, Int.reduceEq, Nat.reduceBEq, Int.reduceBEq, Int.reduceBNe, Int.reduceLT, Int.reduceLE, Nat.reduceAdd, Nat.reducePow, Nat.reduceEqDiff, Nat.reduceLT, Nat.reduceLeDiff, Nat.reduceMul, Nat.reduceSub, t3]) (by simp only [go_sem, ↓reduceIte, Int.reduceEq, Nat.reduceBEq, Int.reduceBEq, Int.reduceBNe, Int.reduceLT, Int.reduceLE, Nat.reduceAdd, Nat.reducePow, Nat.reduceEqDiff, Nat.reduceLT, Nat.reduceLeDiff, Nat.reduceMul, Nat.reduceSub, t6]) (by simp only [go_sem, ↓reduceIte, Int.reduceEq, Nat.reduceBEq, Int.reduceBEq, Int.reduceBNe, Int.reduceLT, Int.reduceLE, Nat.reduceAdd, Nat.reducePow, Nat.reduceEqDiff, Nat.reduceLT, Nat.reduceLeDiff, Nat.reduceMul, Nat.reduceSub])
          · have c6 : (e.kind == 2) = true := by rw [h]; rfl
            have c7 : (e.kind == 1) = false := by rw [h]; rfl
            have c8 : decide (e.num ≥ (g.rules.length : Int)) = false := by simpa using k5 h
            simp only [go_sem, ↓reduceIte, Int.reduceEq, Nat.reduceBEq, Int.reduceBEq, Int.reduceBNe, Int.reduceLT, Int.reduceLE, Nat.reduceAdd, Nat.reducePow, Nat.reduceEqDiff, Nat.reduceLT, Nat.reduceLeDiff, Nat.reduceMul, Nat.reduceSub, t2, t3, t6, t7, g0, g1, index_es hget, len_rw, dec_lt' hl3, index_rw hge, Eg.D_c, c1, c2, c3, c4, c5, c6, c7, c8, ne1, ne2, ne3, ne4, len_es, lz, wrap_succ' hl3 (show N.es[s].length < 1000000000 by omega)]
            exact fin _ (by simp only [go_sem, ↓reduceIte, Int.reduceEq, Nat.reduceBEq, Int.reduceBEq, Int.reduceBNe, Int.reduceLT, Int.reduceLE, Nat.reduceAdd, Nat.reducePow, Nat.reduceEqDiff, Nat.reduceLT, Nat.reduceLeDiff, Nat.reduceMul, Nat.reduceSub, t2]) (by simp only [go_sem, ↓reduceIte, Int.reduceEq, Nat.reduceBEq, Int.reduceBEq, Int.reduceBNe, Int.reduceLT, Int.reduceLE, Nat.reduceAdd, Nat.reducePow, Nat.reduceEqDiff, Nat.reduceLT, Nat.reduceLeDiff, Nat.reduceMul, Nat.reduceSub, t3]) (by simp only [go_sem, ↓reduceIte, Int.reduceEq, Nat.reduceBEq, Int.reduceBEq, Int.reduceBNe, Int.reduceLT, Int.reduceLE, Nat.reduceAdd, Nat.reducePow, Nat.reduceEqDiff, Nat.reduceLT, Nat.reduceLeDiff, Nat.reduceMul, Nat.reduceSub, t6]) (by simp only [go_sem, ↓reduceIte, Int.reduceEq, Nat.reduceBEq, Int.reduceBEq, Int.reduceBNe, Int.reduceLT, Int.reduceLE, Nat.reduceAdd, Nat.reducePow, Nat.reduceEqDiff, Nat.reduceLT, Nat.reduceLeDiff, Nat.reduceMul, Nat.reduceSub])
        · simp only [go_sem, ↓reduceIte, Int.reduceEq, Nat.reduceBEq, Int.reduceBEq, Int.reduceBNe, Int.reduceLT, Int.reduceLE, Nat.reduceAdd, Nat.reducePow, Nat.reduceEqDiff, Nat.reduceLT, Nat.reduceLeDiff, Nat.reduceMul, Nat.reduceSub, t2, t3, t6, t7, g0, index_es hget, len_rw, dec_ge' hl3, wrap_succ' hl2 (show N.es.length < 1000000000 by omega)]
          refine ih2 _ _ _ _ (by omega) ⟨s + 1, rfl, hl2, rfl, hn, g0, g1, by simp only [go_sem, ↓reduceIte, Int.reduceEq, Nat.reduceBEq, Int.reduceBEq, Int.reduceBNe, Int.reduceLT, Int.reduceLE, Nat.reduceAdd, Nat.reducePow, Nat.reduceEqDiff, Nat.reduceLT, Nat.reduceLeDiff, Nat.reduceMul, Nat.reduceSub, t2], by simp only [go_sem, ↓reduceIte, Int.reduceEq, Nat.reduceBEq, Int.reduceBEq, Int.reduceBNe, Int.reduceLT, Int.reduceLE, Nat.reduceAdd, Nat.reducePow, Nat.reduceEqDiff, Nat.reduceLT, Nat.reduceLeDiff, Nat.reduceMul, Nat.reduceSub, t3], by simp only [go_sem, ↓reduceIte, Int.reduceEq, Nat.reduceBEq, Int.reduceBEq, Int.reduceBNe, Int.reduceLT, Int.reduceLE, Nat.reduceAdd, Nat.reducePow, Nat.reduceEqDiff, Nat.reduceLT, Nat.reduceLeDiff, Nat.reduceMul, Nat.reduceSub]⟩
      · simp only [go_sem, ↓reduceIte, Int.reduceEq, Nat.reduceBEq, Int.reduceBEq, Int.reduceBNe, Int.reduceLT, Int.reduceLE, Nat.reduceAdd, Nat.reducePow, Nat.reduceEqDiff, Nat.reduceLT, Nat.reduceLeDiff, Nat.reduceMul, Nat.reduceSub, t2, t3, t6, g0, len_es, dec_ge' hl2]
  · simp [St.n_push]
  all_goals first | rfl | (simp only [go_sem, ↓reduceIte, Int.reduceEq, Nat.reduceBEq, Int.reduceBEq, Int.reduceBNe, Int.reduceLT, Int.reduceLE, Nat.reduceAdd, Nat.reducePow, Nat.reduceEqDiff, Nat.reduceLT, Nat.reduceLeDiff, Nat.reduceMul, Nat.reduceSub]; done) | (simp only [go_sem, ↓reduceIte, Int.reduceEq, Nat.reduceBEq, Int.reduceBEq, Int.reduceBNe, Int.reduceLT, Int.reduceLE, Nat.reduceAdd, Nat.reducePow, Nat.reduceEqDiff, Nat.reduceLT, Nat.reduceLeDiff, Nat.reduceMul, Nat.reduceSub]; rfl)
end Go.Am
namespace Go.Am
open Go Go.Proofs
variable {fz : Nat → Md}
def natsA (l : List Nat) : List A := l.map fun (n : Nat) => A.d (.int .i64 (n : Int))
/-- what is to be done, in a row -/
def TodoAt (lo : Nat) (σ : St) (a : A) (todo : List Nat) : Prop := ∃ k off cs, a = .row k off todo.length 1 ∧ σ.get k = .cells cs ∧ off + todo.length = cs.length ∧ cs.drop off = natsA todo ∧ lo ≤ k ∧ k < σ.n
theorem TodoAt.stay {lo : Nat} {σ τ : St} {a : A} {todo : List Nat} (h : TodoAt lo σ a todo) (hn : σ.n ≤ τ.n) (hg : ∀ k, lo ≤ k → k < σ.n → τ.get k = σ.get k) : TodoAt lo τ a todo := by
  obtain ⟨k, off, cs, h1, h2, h3, h4, h5, h6⟩ := h
  exact ⟨k, off, cs, h1, (hg k h5 h6).trans h2, h3, h4, h5, by omega⟩
theorem TodoAt.app {lo : Nat} {σ : St} {a : A} {todo : List Nat} {j : Nat} {n : Nat} (h : TodoAt lo σ a todo) (hj : σ.get j = .cells [.d (.int .i64 (n : Int))]) (hl : todo.length < 1000000000) (hlo : lo ≤ σ.n) :
    ∃ a' σ' T, appendA 1 8 σ a (.row j 0 1 1) = .val a' σ' T [] ∧ TodoAt lo σ' a' (todo ++ [n]) ∧ σ'.n = σ.n + 1 ∧ (∀ k, k < lo → σ'.get k = σ.get k) ∧ ∀ k ∈ T, lo ≤ k := by
  obtain ⟨k, off, cs, rfl, hk, h3, h4, h5, h6⟩ := h
  rw [appendA_row hk (new := [.d (.int .i64 (n : Int))]) (n := 1) (by rw [sliceCells_row hj (by simp)]; rfl) (by rw [sliceLen_row, hj]; rfl) rfl rfl (by omega) (by omega) (by omega), if_neg (by omega)]
  refine ⟨_, _, _, rfl, ⟨σ.n, 0, _, by rw [List.length_append]; rfl, by rw [St.get_push_eq' (by rw [St.n_set])], ?_, ?_, hlo, by simp [St.n_push, St.n_set]⟩, by simp [St.n_push, St.n_set], fun i hi => ?_, by simpa using h5⟩
  · rw [h4, List.length_append, List.length_append, List.length_take]; simp [natsA]
  · rw [List.drop_zero, h4, List.take_of_length_le (by simp [natsA])]; simp [natsA]
  · rw [St.get_push_ne (by rw [St.n_set]; omega), St.get_set_ne (by omega)]
theorem TodoAt.tail {lo : Nat} {σ : St} {a : A} {n : Nat} {todo : List Nat} (h : TodoAt lo σ a (n :: todo)) :
    ∃ k off cs, a = .row k off (todo.length + 1) 1 ∧ σ.get k = .cells cs ∧ cs[off]? = some (.d (.int .i64 (n : Int))) ∧ TodoAt lo σ (.row k (off + 1) todo.length 1) todo := by
  obtain ⟨k, off, cs, rfl, hk, h3, h4, h5, h6⟩ := h
  refine ⟨k, off, cs, rfl, hk, ?_, k, off + 1, cs, rfl, hk, by simp only [List.length_cons] at h3; omega, ?_, h5, h6⟩
  · have : (cs.drop off)[0]? = some (.d (.int .i64 (n : Int))) := by rw [h4]; rfl
    rw [List.getElem?_drop, Nat.add_zero] at this; exact this
  · rw [← List.drop_drop, h4]; rfl
theorem slice_lo {tm : Tm} {σ : St} {a : Nat} {k off n : Nat} {cs : List A} {dst : Option Nat} {ty : Nat} {pos : String} {af : Array Edge} {g : Option (Nat × Bool)} (ha : tm.at a = .row k off (n + 1) 1) (hk : σ.get k = .cells cs) :
    evalOp (XX fz) tm σ { dst := dst, op := Op.slice 34 (Operand.tmp a) (some (Operand.const (Value.int IntKind.i64 1))) none none, type := ty, pos := pos, after := af, guard := g } = .val (.row k (off + 1) n 1) σ [] [k] := by
  have h2 : bnd tm (some (Operand.const (Value.int IntKind.i64 1))) 0 = some 1 := rfl
  have h3 : bnd tm none (n + 1) = some (n + 1) := rfl
  unfold evalOp
  simp only [ti34, ti3, ev, ha, h2, h3, hk]
  rw [if_pos (by refine ⟨by omega, by omega, trivial⟩), Nat.add_sub_cancel, Nat.one_mul]
def falses (l : List Bool) : Nat := (l.filter fun b => !b).length
theorem falses_set : ∀ (l : List Bool) (i : Nat), l[i]? = some false → falses (l.set i true) + 1 = falses l
  | [], i, h => by simp at h
  | b :: l, 0, h => by simp at h; subst h; simp [falses]
  | b :: l, i + 1, h => by
    have := falses_set l i (by simpa using h)
    cases b <;> simp [falses] at this ⊢ <;> omega
theorem falses_rep (n : Nat) : falses (List.replicate n false) = n := by simp [falses]

set_option maxHeartbeats 8000000 in
theorem back_c (h26 : fz 26 = .cut) {N : Nv} {X : Nx} {B : Nat} (hB : N.Fits B) (hb : B < 1000000) (hto : ∀ r ∈ N.es, ∀ e ∈ r, e.to < N.es.length) (ρ : Nat → Int) (hρ : ∀ (s : Nat) (r : List Eg), N.es[s]? = some r → ∀ e ∈ r, e.kind = 0 → ρ e.to < ρ s)
    (st : Nat) (hst : st < N.es.length) (σ : St) : CallsTo (XX fz) (.func 26 []) [netA N X, .d (.int .i64 (st : Int))] σ (.d (.bool false)) σ [] := by
  refine CallsTo.cut0 h26 fn26 (by simp) rfl ?_
  simp only [Try.f26, Option.getD_some]
  have hel := hB.e
  have hmk := fun σ : St => mksE_nat (σ := σ) (kd := .bool) (s := 1) (b := 1) (n := N.es.length) (z := [.d (.bool false)]) (zv := .d (.bool false)) ⟨rfl, by omega, by omega, by omega⟩
  simp only [go_sem, ↓reduceIte, Int.reduceEq, Nat.reduceBEq, Int.reduceBEq, Int.reduceBNe, Int.reduceLT, Int.reduceLE, Nat.reduceAdd, Nat.reducePow, Nat.reduceEqDiff, Nat.reduceLT, Nat.reduceLeDiff, Nat.reduceMul, Nat.reduceSub, netA, netC3, len_es, hmk, rep_bools]
  refine Ev.loop_ind (fun k tm τ W => ∃ (todo : List Nat) (sb : List Bool) (a : A), k = todo.length + falses sb ∧ W = [] ∧ σ.n + 2 ≤ τ.n ∧ τ.get σ.n = .cells [.d N.esD, .d (slD X.en), .d (slD X.lv)] ∧ τ.get (σ.n + 1) = .cells (bA sb) ∧ sb.length = N.es.length ∧ TodoAt (σ.n + 2) τ a todo ∧
      (∀ t ∈ todo, t < N.es.length ∧ ρ t ≤ ρ st) ∧ (∀ t, sb[t]? = some true → ρ t < ρ st) ∧ todo.length + falses sb ≤ N.es.length + 1 ∧
      tm.at 1 = .d (.int .i64 (st : Int)) ∧ tm.at 2 = .ptr σ.n 0 ∧ tm.at 5 = .row (σ.n + 1) 0 N.es.length 1 ∧ tm.at 6 = a) ?_ (1 + N.es.length) _ _ _ ⟨[st], List.replicate N.es.length false, .row (σ.n + 2) 0 1 1, ?_, rfl, ?_, ?_, ?_, by simp, ?_, ?_, ?_, ?_, ?_, ?_, ?_, ?_⟩
  · rintro k tm τ W ⟨todo, sb, a, rfl, rfl, hn, g0, g1, hsl, hT, ht, hs, hm, t1, t2, t5, t6⟩ ih
    cases todo with
    | nil =>
      have hsf : sb.getD st false = false := by
        cases hq : sb.getD st false with
        | false => rfl
        | true =>
          have : sb[st]? = some true := by
            rw [List.getD_eq_getElem?_getD] at hq
            cases h2 : sb[st]? with
            | none => rw [h2] at hq; cases hq
            | some b => rw [h2] at hq; simpa using hq
          have := hs st this
          omega
      obtain ⟨kk, off, cs, rfl, hk, -, -, -, -⟩ := hT
      have hidx := fun ρ : St => indexR_nat (σ := ρ) (k := σ.n + 1) (off := 0) (s := 1) (cs := bA sb) hst
      simp only [Nat.zero_add, Nat.mul_one] at hidx
      have hg := bA_get (l := sb) (i := st) (by omega)
      have d0 : decide (((0 : Nat) : Int) > 0) = false := rfl
      simp only [go_sem, ↓reduceIte, Int.reduceEq, Nat.reduceBEq, Int.reduceBEq, Int.reduceBNe, Int.reduceLT, Int.reduceLE, Nat.reduceAdd, Nat.reducePow, Nat.reduceEqDiff, Nat.reduceLT, Nat.reduceLeDiff, Nat.reduceMul, Nat.reduceSub, t1, t2, t5, t6, hk, List.length_nil, d0, hidx, g1, hg, hsf]
    | cons s todo =>
      obtain ⟨kk, off, cs, rfl, hk, hc0, hTt⟩ := hT.tail
      have hidx0 : ∀ ρ : St, indexR ρ 1 kk off (todo.length + 1) 1 0 (.cells cs) = .val (.ptr kk (off + 0 * 1)) ρ [] [kk] := fun ρ => indexR_nat (i := 0) (by omega)
      simp only [Nat.zero_mul, Nat.add_zero] at hidx0
      have d1 : decide (((todo.length + 1 : Nat) : Int) > 0) = true := by simp
      have hsl1 : ∀ (tm : Tm) (pos : String) (af : Array Edge), tm.at 22 = .row kk off (todo.length + 1) 1 → evalOp (XX fz) tm τ { dst := some 23, op := Op.slice 34 (Operand.tmp 22) (some (Operand.const (Value.int IntKind.i64 1))) none none, type := 34, pos := pos, after := af, guard := none } = .val (.row kk (off + 1) todo.length 1) τ [] [kk] := fun tm pos af q => slice_lo q hk
      simp only [go_sem, ↓reduceIte, Int.reduceEq, Nat.reduceBEq, Int.reduceBEq, Int.reduceBNe, Int.reduceLT, Int.reduceLE, Nat.reduceAdd, Nat.reducePow, Nat.reduceEqDiff, Nat.reduceLT, Nat.reduceLeDiff, Nat.reduceMul, Nat.reduceSub, t1, t2, t5, t6, hk, hidx0, hc0, d1]
      rw [hsl1 _ _ _ (by simp only [go_sem, ↓reduceIte, Int.reduceEq, Nat.reduceBEq, Int.reduceBEq, Int.reduceBNe, Int.reduceLT, Int.reduceLE, Nat.reduceAdd, Nat.reducePow, Nat.reduceEqDiff, Nat.reduceLT, Nat.reduceLeDiff, Nat.reduceMul, Nat.reduceSub])]
      simp only [go_sem, ↓reduceIte, Int.reduceEq, Nat.reduceBEq, Int.reduceBEq, Int.reduceBNe, Int.reduceLT, Int.reduceLE, Nat.reduceAdd, Nat.reducePow, Nat.reduceEqDiff, Nat.reduceLT, Nat.reduceLeDiff, Nat.reduceMul, Nat.reduceSub]
      obtain ⟨hsN, hsρ⟩ := ht s (by simp)
      simp only [List.length_cons] at hm
      have hget : N.es[s]? = some N.es[s] := by simp [hsN]
      have hrl := hB.l _ (List.getElem_mem hsN)
      refine Ev.loop_ind (fun k2 tm τ W => ∃ (j : Nat) (todo2 : List Nat) (sb2 : List Bool) (a : A), k2 = N.es[s].length - j ∧ j ≤ N.es[s].length ∧ W = [] ∧ σ.n + 2 ≤ τ.n ∧ τ.get σ.n = .cells [.d N.esD, .d (slD X.en), .d (slD X.lv)] ∧ τ.get (σ.n + 1) = .cells (bA sb2) ∧ sb2.length = N.es.length ∧ TodoAt (σ.n + 2) τ a todo2 ∧
          (∀ t ∈ todo2, t < N.es.length ∧ ρ t ≤ ρ st) ∧ (∀ t, sb2[t]? = some true → ρ t < ρ st) ∧ todo2.length + falses sb2 = todo.length + falses sb ∧
          tm.at 1 = .d (.int .i64 (st : Int)) ∧ tm.at 2 = .ptr σ.n 0 ∧ tm.at 5 = .row (σ.n + 1) 0 N.es.length 1 ∧ tm.at 6 = a ∧ tm.at 7 = .d (.int .i64 (s : Int)) ∧ tm.at 8 = .d (.int .i64 (j : Int))) ?_ N.es[s].length _ _ _ ⟨0, todo, sb, _, rfl, by omega, rfl, hn, g0, g1, hsl, hTt, fun t h => ht t (by simp [h]), hs, rfl, by simp only [go_sem, ↓reduceIte, Int.reduceEq, Nat.reduceBEq, Int.reduceBEq, Int.reduceBNe, Int.reduceLT, Int.reduceLE, Nat.reduceAdd, Nat.reducePow, Nat.reduceEqDiff, Nat.reduceLT, Nat.reduceLeDiff, Nat.reduceMul, Nat.reduceSub, t1], by simp only [go_sem, ↓reduceIte, Int.reduceEq, Nat.reduceBEq, Int.reduceBEq, Int.reduceBNe, Int.reduceLT, Int.reduceLE, Nat.reduceAdd, Nat.reducePow, Nat.reduceEqDiff, Nat.reduceLT, Nat.reduceLeDiff, Nat.reduceMul, Nat.reduceSub, t2], by simp only [go_sem, ↓reduceIte, Int.reduceEq, Nat.reduceBEq, Int.reduceBEq, Int.reduceBNe, Int.reduceLT, Int.reduceLE, Nat.reduceAdd, Nat.reducePow, Nat.reduceEqDiff, Nat.reduceLT, Nat.reduceLeDiff, Nat.reduceMul, Nat.reduceSub, t5], by simp only [go_sem, ↓reduceIte, Int.reduceEq, Nat.reduceBEq, Int.reduceBEq, Int.reduceBNe, Int.reduceLT, Int.reduceLE, Nat.reduceAdd, Nat.reducePow, Nat.reduceEqDiff, Nat.reduceLT, Nat.reduceLeDiff, Nat.reduceMul, Nat.reduceSub], by simp only [go_sem, ↓reduceIte, Int.reduceEq, Nat.reduceBEq, Int.reduceBEq, Int.reduceBNe, Int.reduceLT, Int.reduceLE, Nat.reduceAdd, Nat.reducePow, Nat.reduceEqDiff, Nat.reduceLT, Nat.reduceLeDiff, Nat.reduceMul, Nat.reduceSub], by simp only [go_sem, ↓reduceIte, Int.reduceEq, Nat.reduceBEq, Int.reduceBEq, Int.reduceBNe, Int.reduceLT, Int.reduceLE, Nat.reduceAdd, Nat.reducePow, Nat.reduceEqDiff, Nat.reduceLT, Nat.reduceLeDiff, Nat.reduceMul, Nat.reduceSub]; rfl⟩
      rintro k2 tm τ2 W ⟨j, todo2, sb2, a, rfl, hj, rfl, hn, g0, g1, hsl2, hT2, ht2, hs2, hm2, t1, t2, t5, t6, t7, t8⟩ ih2
      by_cases hl : j < N.es[s].length
      · have hge : N.es[s][j]? = some N.es[s][j] := by simp [hl]
        have hem := List.getElem_mem hl
        have hto' := hto _ (List.getElem_mem hsN) _ hem
        have hρ' := hρ s _ hget _ hem
        generalize N.es[s][j] = e at hge hto' hρ'
        have ne1 : σ.n ≠ τ2.n := by omega
        have ne2 : σ.n < τ2.n := by omega
        have ne3 : σ.n + 1 ≠ τ2.n := by omega
        have ne4 : σ.n + 1 < τ2.n := by omega
        have ne5 : τ2.n ≠ σ.n + 1 := by omega
        have lz : low σ.n [τ2.n] = [] := by rw [low_cons_ge (by omega)]; rfl
        have lz1 : low σ.n [σ.n + 1] = [] := by rw [low_cons_ge (by omega)]; rfl
        have stay : ∀ tm' : Tm, tm'.at 1 = .d (.int .i64 (st : Int)) → tm'.at 2 = .ptr σ.n 0 → tm'.at 5 = .row (σ.n + 1) 0 N.es.length 1 → tm'.at 6 = a → tm'.at 7 = .d (.int .i64 (s : Int)) → tm'.at 8 = .d (.int .i64 ((j + 1 : Nat) : Int)) → _ := fun tm' a1 a2 a3 a4 a5 a6 =>
          ih2 _ tm' ((τ2.push (.cells [.d (.int .i64 0), .d (.int .i64 0), .d (.int .i64 0)])).set τ2.n (.cells (e.D.map A.d))) [] (show N.es[s].length - (j + 1) < _ by omega) ⟨j + 1, todo2, sb2, a, rfl, hl, rfl, by simp only [St.n_set, St.n_push]; omega, by rw [St.get_set_ne ne1, St.get_push_ne ne2]; exact g0, by rw [St.get_set_ne ne3, St.get_push_ne ne4]; exact g1, hsl2, hT2.stay (by simp only [St.n_set, St.n_push]; omega) (fun k h1 h2 => by rw [St.get_set_ne (by omega), St.get_push_ne h2]), ht2, hs2, hm2, a1, a2, a3, a4, a5, a6⟩
        simp only [Eg.D_c] at stay
        by_cases hk0 : e.kind = 0
        · have c1 : (e.kind != 0) = false := by simpa using hk0
          have hidx := fun ρ : St => indexR_nat (σ := ρ) (k := σ.n + 1) (off := 0) (s := 1) (cs := bA sb2) hto'
          simp only [Nat.zero_add, Nat.mul_one] at hidx
          have hg := bA_get (l := sb2) (i := e.to) (by omega)
          cases hse : sb2.getD e.to false with
          | true =>
            simp only [go_sem, ↓reduceIte, Int.reduceEq, Nat.reduceBEq, Int.reduceBEq, Int.reduceBNe, Int.reduceLT, Int.reduceLE, Nat.reduceAdd, Nat.reducePow, Nat.reduceEqDiff, Nat.reduceLT, Nat.reduceLeDiff, Nat.reduceMul, Nat.reduceSub, t1, t2, t5, t6, t7, t8, g0, index_es hget, len_rw, dec_lt' hl, index_rw hge, Eg.D_c, c1, ne1, ne2, ne3, ne4, g1, hidx, hg, hse, lz, wrap_succ' hl (show N.es[s].length < 1000000000 by omega)]
            exact stay _ (by simp only [go_sem, ↓reduceIte, Int.reduceEq, Nat.reduceBEq, Int.reduceBEq, Int.reduceBNe, Int.reduceLT, Int.reduceLE, Nat.reduceAdd, Nat.reducePow, Nat.reduceEqDiff, Nat.reduceLT, Nat.reduceLeDiff, Nat.reduceMul, Nat.reduceSub, t1]) (by simp only [go_sem, ↓reduceIte, Int.reduceEq, Nat.reduceBEq, Int.reduceBEq, Int.reduceBNe, Int.reduceLT, Int.reduceLE, Nat.reduceAdd, Nat.reducePow, Nat.reduceEqDiff, Nat.reduceLT, Nat.reduceLeDiff, Nat.reduceMul, Nat.reduceSub, t2]) (by simp only [go_sem, ↓reduceIte, Int.reduceEq, Nat.reduceBEq, Int.reduceBEq, Int.reduceBNe, Int.reduceLT, Int.reduceLE, Nat.reduceAdd, Nat.reducePow, Nat.reduceEqDiff, Nat.reduceLT, Nat.reduceLeDiff, Nat.reduceMul, Nat.reduceSub, t5]) (by simp only [go_sem, ↓reduceIte, Int.reduceEq, Nat.reduceBEq, Int.reduceBEq, Int.reduceBNe, Int.reduceLT, Int.reduceLE, Nat.reduceAdd, Nat.reducePow, Nat.reduceEqDiff, Nat.reduceLT, Nat.reduceLeDiff, Nat.reduceMul, Nat.reduceSub, t6]) (by simp only [go_sem, ↓reduceIte, Int.reduceEq, Nat.reduceBEq, Int.reduceBEq, Int.reduceBNe, Int.reduceLT, Int.reduceLE, Nat.reduceAdd, Nat.reducePow, Nat.reduceEqDiff, Nat.reduceLT, Nat.reduceLeDiff, Nat.reduceMul, Nat.reduceSub, t7]) (by simp only [go_sem, ↓reduceIte, Int.reduceEq, Nat.reduceBEq, Int.reduceBEq, Int.reduceBNe, Int.reduceLT, Int.reduceLE, Nat.reduceAdd, Nat.reducePow, Nat.reduceEqDiff, Nat.reduceLT, Nat.reduceLeDiff, Nat.reduceMul, Nat.reduceSub])
          | false =>
            have hsf : sb2[e.to]? = some false := by
              rw [List.getD_eq_getElem?_getD] at hse
              have : e.to < sb2.length := by omega
              simp [this] at hse ⊢; exact hse
            have hbl : e.to < (bA sb2).length := by rw [bA_len]; omega
            simp only [go_sem, ↓reduceIte, Int.reduceEq, Nat.reduceBEq, Int.reduceBEq, Int.reduceBNe, Int.reduceLT, Int.reduceLE, Nat.reduceAdd, Nat.reducePow, Nat.reduceEqDiff, Nat.reduceLT, Nat.reduceLeDiff, Nat.reduceMul, Nat.reduceSub, t1, t2, t5, t6, t7, t8, g0, index_es hget, len_rw, dec_lt' hl, index_rw hge, Eg.D_c, c1, ne1, ne2, ne3, ne4, g1, hidx, hg, hse, lz, lz1, hbl, bA_set, ne5]
            generalize hτ : (((τ2.push (.cells [.d (.int .i64 0), .d (.int .i64 0), .d (.int .i64 0)])).set τ2.n (.cells [.d (.int .i64 e.kind), .d (.int .i64 e.num), .d (.int .i64 (e.to : Int))])).set (σ.n + 1) (.cells (bA (sb2.set e.to true)))) = τ3
            have n3 : τ3.n = τ2.n + 1 := by rw [← hτ]; simp [St.n_set, St.n_push]
            have g3 : ∀ j, j < τ2.n → j ≠ σ.n + 1 → τ3.get j = τ2.get j := fun j h1 h2 => by rw [← hτ, St.get_set_ne h2, St.get_set_ne (by omega), St.get_push_ne h1]
            have b3 : τ3.get (σ.n + 1) = .cells (bA (sb2.set e.to true)) := by rw [← hτ, St.get_set_eq]
            have hT3 : TodoAt (σ.n + 2) (τ3.push (.cells [.d (.int .i64 (e.to : Int))])) a todo2 := hT2.stay (by simp only [St.n_push]; omega) (fun k h1 h2 => by rw [St.get_push_ne (by omega), g3 k h2 (by omega)])
            have hfs := falses_set sb2 e.to hsf
            obtain ⟨a', τ4, T, happ, hT4, n4, k4, hT⟩ := hT3.app (j := τ3.n) (n := e.to) St.get_push_eq (by omega) (by simp only [St.n_push]; omega)
            have hTl : low σ.n T = [] := low_all fun k hk => by have := hT k hk; omega
            simp only [St.n_push] at n4
            rw [n3] at happ
            simp only [go_sem, ↓reduceIte, Int.reduceEq, Nat.reduceBEq, Int.reduceBEq, Int.reduceBNe, Int.reduceLT, Int.reduceLE, Nat.reduceAdd, Nat.reducePow, Nat.reduceEqDiff, Nat.reduceLT, Nat.reduceLeDiff, Nat.reduceMul, Nat.reduceSub, happ, hTl, t8, wrap_succ' hl (show N.es[s].length < 1000000000 by omega)]
            refine ih2 _ _ _ _ (by omega) ⟨j + 1, todo2 ++ [e.to], sb2.set e.to true, a', rfl, hl, rfl, by omega, ?_, ?_, by rw [List.length_set]; exact hsl2, hT4, fun t h => ?_, fun t h => ?_, by rw [List.length_append, List.length_singleton]; omega, by simp only [go_sem, ↓reduceIte, Int.reduceEq, Nat.reduceBEq, Int.reduceBEq, Int.reduceBNe, Int.reduceLT, Int.reduceLE, Nat.reduceAdd, Nat.reducePow, Nat.reduceEqDiff, Nat.reduceLT, Nat.reduceLeDiff, Nat.reduceMul, Nat.reduceSub, t1], by simp only [go_sem, ↓reduceIte, Int.reduceEq, Nat.reduceBEq, Int.reduceBEq, Int.reduceBNe, Int.reduceLT, Int.reduceLE, Nat.reduceAdd, Nat.reducePow, Nat.reduceEqDiff, Nat.reduceLT, Nat.reduceLeDiff, Nat.reduceMul, Nat.reduceSub, t2], by simp only [go_sem, ↓reduceIte, Int.reduceEq, Nat.reduceBEq, Int.reduceBEq, Int.reduceBNe, Int.reduceLT, Int.reduceLE, Nat.reduceAdd, Nat.reducePow, Nat.reduceEqDiff, Nat.reduceLT, Nat.reduceLeDiff, Nat.reduceMul, Nat.reduceSub, t5], by simp only [go_sem, ↓reduceIte, Int.reduceEq, Nat.reduceBEq, Int.reduceBEq, Int.reduceBNe, Int.reduceLT, Int.reduceLE, Nat.reduceAdd, Nat.reducePow, Nat.reduceEqDiff, Nat.reduceLT, Nat.reduceLeDiff, Nat.reduceMul, Nat.reduceSub], by simp only [go_sem, ↓reduceIte, Int.reduceEq, Nat.reduceBEq, Int.reduceBEq, Int.reduceBNe, Int.reduceLT, Int.reduceLE, Nat.reduceAdd, Nat.reducePow, Nat.reduceEqDiff, Nat.reduceLT, Nat.reduceLeDiff, Nat.reduceMul, Nat.reduceSub, t7], by simp only [go_sem, ↓reduceIte, Int.reduceEq, Nat.reduceBEq, Int.reduceBEq, Int.reduceBNe, Int.reduceLT, Int.reduceLE, Nat.reduceAdd, Nat.reducePow, Nat.reduceEqDiff, Nat.reduceLT, Nat.reduceLeDiff, Nat.reduceMul, Nat.reduceSub]⟩
            · rw [k4 _ (by omega), St.get_push_ne (by omega), g3 _ (by omega) (by omega)]; exact g0
            · rw [k4 _ (by omega), St.get_push_ne (by omega)]; exact b3
            · rcases List.mem_append.1 h with h | h
              · exact ht2 t h
              · simp at h; subst h
                have := hρ' hk0
                exact ⟨hto', by omega⟩
            · by_cases ht' : t = e.to
              · subst ht'; have := hρ' hk0; omega
              · rw [List.getElem?_set_ne (by omega)] at h; exact hs2 t h
        · have c1 : (e.kind != 0) = true := by simpa using hk0
          simp only [go_sem, ↓reduceIte, Int.reduceEq, Nat.reduceBEq, Int.reduceBEq, Int.reduceBNe, Int.reduceLT, Int.reduceLE, Nat.reduceAdd, Nat.reducePow, Nat.reduceEqDiff, Nat.reduceLT, Nat.reduceLeDiff, Nat.reduceMul, Nat.reduceSub, t1, t2, t5, t6, t7, t8, g0, index_es hget, len_rw, dec_lt' hl, index_rw hge, Eg.D_c, c1, ne1, ne2, ne3, ne4, lz, wrap_succ' hl (show N.es[s].length < 1000000000 by omega)]
          exact stay _ (by simp only [go_sem, ↓reduceIte, Int.reduceEq, Nat.reduceBEq, Int.reduceBEq, Int.reduceBNe, Int.reduceLT, Int.reduceLE, Nat.reduceAdd, Nat.reducePow, Nat.reduceEqDiff, Nat.reduceLT, Nat.reduceLeDiff, Nat.reduceMul, Nat.reduceSub, t1]) (by simp only [go_sem, ↓reduceIte, Int.reduceEq, Nat.reduceBEq, Int.reduceBEq, Int.reduceBNe, Int.reduceLT, Int.reduceLE, Nat.reduceAdd, Nat.reducePow, Nat.reduceEqDiff, Nat.reduceLT, Nat.reduceLeDiff, Nat.reduceMul, Nat.reduceSub, t2]) (by simp only [go_sem, ↓reduceIte, Int.reduceEq, Nat.reduceBEq, Int.reduceBEq, Int.reduceBNe, Int.reduceLT, Int.reduceLE, Nat.reduceAdd, Nat.reducePow, Nat.reduceEqDiff, Nat.reduceLT, Nat.reduceLeDiff, Nat.reduceMul, Nat.reduceSub, t5]) (by simp only [go_sem, ↓reduceIte, Int.reduceEq, Nat.reduceBEq, Int.reduceBEq, Int.reduceBNe, Int.reduceLT, Int.reduceLE, Nat.reduceAdd, Nat.reducePow, Nat.reduceEqDiff, Nat.reduceLT, Nat.reduceLeDiff, Nat.reduceMul, Nat.reduceSub, t6]) (by simp only [go_sem, ↓reduceIte, Int.reduceEq, Nat.reduceBEq, Int.reduceBEq, Int.reduceBNe, Int.reduceLT, Int.reduceLE, Nat.reduceAdd, Nat.reducePow, Nat.reduceEqDiff, Nat.reduceLT, Nat.reduceLeDiff, Nat.reduceMul, Nat.reduceSub, t7]) (by simp only [go_sem, ↓reduceIte, Int.reduceEq, Nat.reduceBEq, Int.reduceBEq, Int.reduceBNe, Int.reduceLT, Int.reduceLE, Nat.reduceAdd, Nat.reducePow, Nat.reduceEqDiff, Nat.reduceLT, Nat.reduceLeDiff, Nat.reduceMul, Nat.reduceSub])
      · simp only [go_sem, ↓reduceIte, Int.reduceEq, Nat.reduceBEq, Int.reduceBEq, Int.reduceBNe, Int.reduceLT, Int.reduceLE, Nat.reduceAdd, Nat.reducePow, Nat.reduceEqDiff, Nat.reduceLT, Nat.reduceLeDiff, Nat.reduceMul, Nat.reduceSub, t1, t2, t5, t6, t7, t8, g0, index_es hget, len_rw, dec_ge' hl]
        refine ih _ _ _ _ (by simp only [List.length_cons]; omega) ⟨todo2, sb2, a, rfl, rfl, hn, g0, g1, hsl2, hT2, ht2, hs2, by omega, by simp only [go_sem, ↓reduceIte, Int.reduceEq, Nat.reduceBEq, Int.reduceBEq, Int.reduceBNe, Int.reduceLT, Int.reduceLE, Nat.reduceAdd, Nat.reducePow, Nat.reduceEqDiff, Nat.reduceLT, Nat.reduceLeDiff, Nat.reduceMul, Nat.reduceSub, t1], by simp only [go_sem, ↓reduceIte, Int.reduceEq, Nat.reduceBEq, Int.reduceBEq, Int.reduceBNe, Int.reduceLT, Int.reduceLE, Nat.reduceAdd, Nat.reducePow, Nat.reduceEqDiff, Nat.reduceLT, Nat.reduceLeDiff, Nat.reduceMul, Nat.reduceSub, t2], by simp only [go_sem, ↓reduceIte, Int.reduceEq, Nat.reduceBEq, Int.reduceBEq, Int.reduceBNe, Int.reduceLT, Int.reduceLE, Nat.reduceAdd, Nat.reducePow, Nat.reduceEqDiff, Nat.reduceLT, Nat.reduceLeDiff, Nat.reduceMul, Nat.reduceSub, t5], by simp only [go_sem, ↓reduceIte, Int.reduceEq, Nat.reduceBEq, Int.reduceBEq, Int.reduceBNe, Int.reduceLT, Int.reduceLE, Nat.reduceAdd, Nat.reducePow, Nat.reduceEqDiff, Nat.reduceLT, Nat.reduceLeDiff, Nat.reduceMul, Nat.reduceSub, t6]⟩
  · simp [falses_rep]
  · simp [St.n_push]
  · simp [St.get_push, St.n_push]; omega
  · simp only [go_sem, ↓reduceIte, Int.reduceEq, Nat.reduceBEq, Int.reduceBEq, Int.reduceBNe, Int.reduceLT, Int.reduceLE, Nat.reduceAdd, Nat.reducePow, Nat.reduceEqDiff, Nat.reduceLT, Nat.reduceLeDiff, Nat.reduceMul, Nat.reduceSub]
  · exact ⟨σ.n + 2, 0, [.d (.int .i64 (st : Int))], rfl, by simp only [go_sem, ↓reduceIte, Int.reduceEq, Nat.reduceBEq, Int.reduceBEq, Int.reduceBNe, Int.reduceLT, Int.reduceLE, Nat.reduceAdd, Nat.reducePow, Nat.reduceEqDiff, Nat.reduceLT, Nat.reduceLeDiff, Nat.reduceMul, Nat.reduceSub], rfl, rfl, by omega, by simp [St.n_push]⟩
  · intro t h; simp at h; subst h; exact ⟨hst, by omega⟩
  · intro t h; rw [List.getElem?_replicate] at h; split at h <;> simp at h
  · simp [falses_rep]; omega
  all_goals first | rfl | (simp only [go_sem, ↓reduceIte, Int.reduceEq, Nat.reduceBEq, Int.reduceBEq, Int.reduceBNe, Int.reduceLT, Int.reduceLE, Nat.reduceAdd, Nat.reducePow, Nat.reduceEqDiff, Nat.reduceLT, Nat.reduceLeDiff, Nat.reduceMul, Nat.reduceSub]; done) | (simp only [go_sem, ↓reduceIte, Int.reduceEq, Nat.reduceBEq, Int.reduceBEq, Int.reduceBNe, Int.reduceLT, Int.reduceLE, Nat.reduceAdd, Nat.reducePow, Nat.reduceEqDiff, Nat.reduceLT, Nat.reduceLeDiff, Nat.reduceMul, Nat.reduceSub]; rfl)
end Go.Am

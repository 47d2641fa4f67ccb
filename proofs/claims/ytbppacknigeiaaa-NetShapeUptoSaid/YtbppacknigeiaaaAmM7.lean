/- Part M7 of a proof that runs a program's calls on a small machine whose values bear no addresses: no conditions. -/
import Derived.Test.YtbppacknigeiaaaAmM6
set_option autoImplicit false
set_option linter.unusedSimpArgs false
set_option linter.unusedVariables false
set_option linter.unusedSectionVars false
namespace Go.Am
open Go Go.Proofs
set_option maxRecDepth 1000000
/-- modes under which the chapter's example runs -/
def mdN : Nat → Md := fun f => match f with
  | 33 => .ora F28 | 34 => .ora F35 | 35 => .ora F31
  | 19 | 52 | 48 | 46 | 13 | 27 | 28 | 29 | 30 | 31 | 38 | 16 | 51 | 45 => .ice
  | 11 | 39 | 40 | 79 | 80 | 88 => .keep
  | _ => .cut
theorem oraN : ∀ f F, oraOf (mdN f) = some F → OraS Try.prog f F := by
  intro f F h
  unfold mdN at h
  split at h <;> cases h
  · exact ora28
  · exact ora35
  · exact ora31
theorem works_run : (callA (XX mdN) 100000 (.func 10 []) [] St.empty).map (·.1) = some (.d (.bool true)) := by kernel_rfl
def F10 : List A → Option A
  | [] => some (.d (.bool true))
  | _ => none
theorem ora10 : OraS Try.prog 10 F10 := by
  refine oraS_of (fz := mdN) oraN mixedT fun args r h => ?_
  unfold F10 at h
  split at h
  · cases h
    refine ⟨rfl, ?_⟩
    have := works_run
    cases hc : callA (XX mdN) 100000 (.func 10 []) [] St.empty with
    | none => rw [hc] at this; cases this
    | some q =>
      obtain ⟨a, σ', T⟩ := q
      rw [hc] at this; cases this
      exact ⟨σ', T, 100000, hc⟩
  · cases h
end Go.Am
namespace Go.Am
open Go Go.Proofs
/-- modes of the laws of layer 22 -/
def mdS : Nat → Md := fun f => match f with
  | 10 => .ora F10 | 34 => .ora F35
  | 11 | 13 | 16 | 19 | 45 | 46 | 48 | 51 | 52 => .ice
  | 39 | 40 | 79 | 80 | 88 => .keep
  | _ => .cut
theorem oraMS : ∀ f F, oraOf (mdS f) = some F → OraS Try.prog f F := by
  intro f F h
  unfold mdS at h
  split at h <;> cases h
  · exact ora10
  · exact ora35
theorem works_S (σ : St) : CallsTo (XX mdS) (.func 10 []) [] σ (.d (.bool true)) σ [] := CallsTo.ora (F := F10) rfl fn10 rfl rfl rfl
theorem check_S (g : Gr) (σ : St) (h : SmallG g) : CallsTo (XX mdS) (.func 34 []) [g.a] σ (.d (.int .i64 (checkP g))) σ [] := CallsTo.ora (F := F35) rfl fn34 rfl (F35_at h) rfl
theorem deep_S (g : Gr) (σ : St) (hg : SmallG g) (hL : g.rules.length < 1000000000) : CallsTo (XX mdS) (.func 9 []) [g.a] σ (.d (.bool (deepG g))) σ [] := deepG_call rfl rfl g σ hg hL
theorem short_S (g : Gr) (σ : St) (rule : Int) (h : SmallG g) : CallsTo (XX mdS) (.func 19 []) [g.a, .d (.int .i64 rule)] σ (.tup [.d (shortV g rule).1, .d (.int .i64 (shortV g rule).2)]) σ [] :=
  short_call check_S rfl rfl rfl rfl rfl rfl rfl (fun g h => ⟨(GOk.of h).ok, (GOk.of h).tok, (GOk.of h).le⟩) g h rule σ
theorem new_S (g : Gr) (σ : St) (h : SmallG g) : CallsTo (XX mdS) (.func 11 []) [g.a] σ (.tup [.d (newV g).1, .d (.int .i64 (newV g).2)]) σ [] :=
  new_call check_S short_S rfl rfl rfl rfl rfl (fun g h => by
    have k := GOk.of h
    refine ⟨k.ok, k.pos, k.le, fun y hy => ?_⟩
    have := szL_mem hy
    have := k.sz
    rw [szS_eq]; omega) g h σ
end Go.Am
namespace Go.Am
open Go Go.Proofs
theorem newX_en {g : Gr} (h : GOk g) : (newX g).en.length < 1000000 := by
  have : (newX g).en.length = g.rules.length := (newN_W h).enl
  have := h.le; omega
theorem newX_lv {g : Gr} (h : GOk g) : (newX g).lv.length < 1000000 := by
  have : (newX g).lv.length = g.rules.length := (newN_W h).lvl
  have := h.le; omega
theorem net_S {g : Gr} (h : GOk g) (σ : St) : CallsTo (XX mdS) (.func 16 []) [netP (newN g).N (newX g)] σ (.tup [netA (newN g).N (newX g), .d (.int .i64 0)]) σ [] :=
  net_c rfl rfl rfl rfl (newN_ne h) (newN_fits h) (by omega) (newX_en h) (newX_lv h) σ
theorem sound_S {g : Gr} (h : GOk g) (σ : St) : CallsTo (XX mdS) (.func 17 []) [netA (newN g).N (newX g), g.a] σ (.d (.bool true)) σ [] :=
  sound_c rfl (newN_fits h) (by omega) (newN_sound h) (by have := h.le; omega) σ
theorem states_S {g : Gr} (h : GOk g) (σ : St) : CallsTo (XX mdS) (.func 23 []) [netP (newN g).N (newX g)] σ (.d (.int .i64 ((newN g).N.es.length : Int))) σ [] :=
  states_c rfl rfl (newX g) (newN_ne h) σ
theorem rule_S {g : Gr} (h : GOk g) (σ : St) (s : Nat) (hs : s < (newN g).N.es.length) : CallsTo (XX mdS) (.func 24 []) [netP (newN g).N (newX g), .d (.int .i64 (s : Int))] σ (.tup [.d (.int .i64 ((newN g).N.rule s)), .d (.int .i64 0)]) σ [] :=
  rule_c rfl rfl rfl (newX g) (newN_ne h) (newN_W h).rl σ s hs
theorem back_S {g : Gr} (h : GOk g) (σ : St) (s : Nat) (hs : s < (newN g).N.es.length) : CallsTo (XX mdS) (.func 26 []) [netA (newN g).N (newX g), .d (.int .i64 (s : Int))] σ (.d (.bool false)) σ [] := by
  obtain ⟨ρ, hρ⟩ := (newN_W h).pot
  exact back_c rfl (newN_fits h) (by omega) (fun r hr e he => ((newN_sound h).ed r hr e he).2.2.2.1) ρ (fun s r h1 e h2 h3 => hρ s r h1 e h2 h3) s hs σ
set_option maxHeartbeats 8000000 in
theorem shape_call (g : Gr) (hg : SmallG g) (hL : g.rules.length < 1000000000) : ∃ σ' T, CallsTo (XX mdS) (.func 6 []) [g.a] St.empty (.d (.bool true)) σ' T := by
  refine ⟨St.empty, [], CallsTo.cut0 rfl fn6 (by simp) rfl ?_⟩
  simp only [Try.f6, Option.getD_some]
  simp only [go_sem, ↓reduceIte, Int.reduceEq, Nat.reduceBEq, Int.reduceBEq, Int.reduceBNe, Int.reduceLT, Int.reduceLE, Nat.reduceAdd, Nat.reducePow, Nat.reduceEqDiff, Nat.reduceLT, Nat.reduceLeDiff, Nat.reduceMul, Nat.reduceSub, Gr.a]
  refine ⟨_, _, _, works_S _, ?_⟩
  simp only [go_sem, ↓reduceIte, Int.reduceEq, Nat.reduceBEq, Int.reduceBEq, Int.reduceBNe, Int.reduceLT, Int.reduceLE, Nat.reduceAdd, Nat.reducePow, Nat.reduceEqDiff, Nat.reduceLT, Nat.reduceLeDiff, Nat.reduceMul, Nat.reduceSub]
  refine ⟨_, _, _, deep_S g _ hg hL, ?_⟩
  cases hd : deepG g with
  | true => simp only [go_sem, ↓reduceIte, Int.reduceEq, Nat.reduceBEq, Int.reduceBEq, Int.reduceBNe, Int.reduceLT, Int.reduceLE, Nat.reduceAdd, Nat.reducePow, Nat.reduceEqDiff, Nat.reduceLT, Nat.reduceLeDiff, Nat.reduceMul, Nat.reduceSub]
  | false =>
  simp only [go_sem, ↓reduceIte, Int.reduceEq, Nat.reduceBEq, Int.reduceBEq, Int.reduceBNe, Int.reduceLT, Int.reduceLE, Nat.reduceAdd, Nat.reducePow, Nat.reduceEqDiff, Nat.reduceLT, Nat.reduceLeDiff, Nat.reduceMul, Nat.reduceSub]
  refine ⟨_, _, _, new_S g _ hg, ?_⟩
  unfold newV
  cases hc : (checkP g != 0) with
  | true =>
    simp only [go_sem, ↓reduceIte, Int.reduceEq, Nat.reduceBEq, Int.reduceBEq, Int.reduceBNe, Int.reduceLT, Int.reduceLE, Nat.reduceAdd, Nat.reducePow, Nat.reduceEqDiff, Nat.reduceLT, Nat.reduceLeDiff, Nat.reduceMul, Nat.reduceSub, hc, eq_nptr2, OpR.of]
  | false =>
  have h := GOk.of (show checkP g = 0 by simpa using hc)
  have w := newN_W h
  have hF := newN_fits h
  have hel := hF.e
  simp only [go_sem, ↓reduceIte, Int.reduceEq, Nat.reduceBEq, Int.reduceBEq, Int.reduceBNe, Int.reduceLT, Int.reduceLE, Nat.reduceAdd, Nat.reducePow, Nat.reduceEqDiff, Nat.reduceLT, Nat.reduceLeDiff, Nat.reduceMul, Nat.reduceSub]
  refine ⟨_, _, _, net_S h _, ?_⟩
  have e1 : (((newN g).N.es.length : Int) != ((newN g).N.es.length : Int)) = false := by simp
  simp only [go_sem, ↓reduceIte, Int.reduceEq, Nat.reduceBEq, Int.reduceBEq, Int.reduceBNe, Int.reduceLT, Int.reduceLE, Nat.reduceAdd, Nat.reducePow, Nat.reduceEqDiff, Nat.reduceLT, Nat.reduceLeDiff, Nat.reduceMul, Nat.reduceSub, netA, netC3, len_es]
  refine ⟨_, _, _, sound_S h _, ?_⟩
  simp only [go_sem, ↓reduceIte, Int.reduceEq, Nat.reduceBEq, Int.reduceBEq, Int.reduceBNe, Int.reduceLT, Int.reduceLE, Nat.reduceAdd, Nat.reducePow, Nat.reduceEqDiff, Nat.reduceLT, Nat.reduceLeDiff, Nat.reduceMul, Nat.reduceSub]
  refine ⟨_, _, _, states_S h _, ?_⟩
  simp only [go_sem, ↓reduceIte, Int.reduceEq, Nat.reduceBEq, Int.reduceBEq, Int.reduceBNe, Int.reduceLT, Int.reduceLE, Nat.reduceAdd, Nat.reducePow, Nat.reduceEqDiff, Nat.reduceLT, Nat.reduceLeDiff, Nat.reduceMul, Nat.reduceSub, len_es, e1]
  refine ⟨drawOk_rel [] [] rfl (by kernel_rfl) rfl (by simp), ?_⟩
  have hfac : ∀ (s : Nat) (r : List Eg), (newN g).N.es[s]? = some r → ∃ rn : Nat, (newN g).N.rule s = (rn : Int) ∧ rn < g.rules.length ∧ ((r.length : Int) == 0) = ((s : Int) == (newN g).lv.getD rn 0) ∧ (r.length ≤ 1 ∨ ∀ e ∈ r, e.kind = 0) ∧ ∀ e ∈ r, e.to < (newN g).N.es.length ∧ (newN g).N.rule e.to = (rn : Int) := fun s r hs => by
    have hsl := (List.getElem?_eq_some_iff.1 hs).1
    obtain ⟨q1, q2⟩ := w.rr s hsl
    obtain ⟨rn, hrn⟩ := Int.eq_ofNat_of_zero_le q1
    have hlt : rn < g.rules.length := by omega
    obtain ⟨w1, w2, w3⟩ := w.row s r hs
    obtain ⟨s', v1, v2, v3, v4⟩ := w.lve rn hlt
    refine ⟨rn, hrn, hlt, ?_, w2, fun e he => ⟨(w3 e he).2.1, (w3 e he).2.2.trans hrn⟩⟩
    rw [Bool.eq_iff_iff, beq_iff_eq, beq_iff_eq]
    constructor
    · intro h0
      have := w1 (List.length_eq_zero_iff.1 (by omega))
      rw [hrn, Int.toNat_natCast] at this; exact this
    · intro h0
      rw [v2] at h0
      have : s = s' := by omega
      subst this
      rw [v4] at hs; cases hs; rfl
  have hlo := hF.l
  have hsS := fun (σ : St) (s : Nat) hs => rule_S h σ s hs
  have hbS := fun (σ : St) (s : Nat) hs => back_S h σ s hs
  have hlvl : (newX g).lv.length = g.rules.length := w.lvl
  have hlveq : (newX g).lv = (newN g).lv := rfl
  simp only [netP, netA, netC3] at hsS hbS
  rw [← hlveq] at hfac
  generalize newN g = S at *
  generalize newX g = X at *
  obtain ⟨N, en0, lv0⟩ := S
  dsimp only at *
  refine Ev.loop_ind (fun k tm τ W => ∃ (i : Nat), k = N.es.length - i ∧ i ≤ N.es.length ∧ W = [] ∧ St.empty.n + 2 ≤ τ.n ∧ τ.get St.empty.n = .cells g.c ∧ τ.get (St.empty.n + 1) = .cells [.d N.esD, .d (slD X.en), .d (slD X.lv)] ∧
      tm.at 1 = .ptr St.empty.n 0 ∧ tm.at 3 = .d (.vptr (netC N X) 0) ∧ tm.at 5 = .ptr (St.empty.n + 1) 0 ∧ tm.at 7 = .d (.int .i64 i)) ?_ N.es.length _ _ _ ⟨0, rfl, by omega, rfl, ?_, ?_, ?_, ?_, ?_, ?_, ?_⟩
  · rintro k tm τ W ⟨i, rfl, hi, rfl, hn, g0, g1, t1, t3, t5, t7⟩ ih
    by_cases hl : i < N.es.length
    · have hget : N.es[i]? = some N.es[i] := by simp [hl]
      have hrl := hlo _ (List.getElem_mem hl)
      obtain ⟨rn, hrn, hrlt, hz, hq, hto⟩ := hfac i _ hget
      generalize N.es[i] = row at hget hrl hz hq hto
      have c1 : decide ((rn : Int) < 0) = false := by simp
      have c2 : decide ((rn : Int) ≥ (g.rules.length : Int)) = false := by simpa using hrlt
      have hil : rn < X.lv.length := by omega
      have hci := hsS
      simp only [go_sem, ↓reduceIte, Int.reduceEq, Nat.reduceBEq, Int.reduceBEq, Int.reduceBNe, Int.reduceLT, Int.reduceLE, Nat.reduceAdd, Nat.reducePow, Nat.reduceEqDiff, Nat.reduceLT, Nat.reduceLeDiff, Nat.reduceMul, Nat.reduceSub, t1, t3, t5, t7, g1, len_es, dec_lt' hl]
      have hc0 := hsS τ i hl
      rw [hrn] at hc0
      refine ⟨_, _, _, hc0, ?_⟩
      have hbb : (!(((row.length : Int) == 0) == ((i : Int) == X.lv.getD rn 0))) = false := by rw [hz]; simp
      simp only [go_sem, ↓reduceIte, Int.reduceEq, Nat.reduceBEq, Int.reduceBEq, Int.reduceBNe, Int.reduceLT, Int.reduceLE, Nat.reduceAdd, Nat.reducePow, Nat.reduceEqDiff, Nat.reduceLT, Nat.reduceLeDiff, Nat.reduceMul, Nat.reduceSub, t1, t3, t5, t7, g0, g1, c1, c2, index_es hget, len_rw, index_sl hil, bin_neqB ti4, hbb]
      refine ⟨drawOk_rel [] [] rfl (by kernel_rfl) rfl (by simp), ?_⟩
      refine Ev.loop_ind (fun k tm τ W => ∃ (j : Nat), k = row.length - j ∧ j ≤ row.length ∧ W = [] ∧ St.empty.n + 2 ≤ τ.n ∧ τ.get St.empty.n = .cells g.c ∧ τ.get (St.empty.n + 1) = .cells [.d N.esD, .d (slD X.en), .d (slD X.lv)] ∧
          tm.at 1 = .ptr St.empty.n 0 ∧ tm.at 3 = .d (.vptr (netC N X) 0) ∧ tm.at 5 = .ptr (St.empty.n + 1) 0 ∧ tm.at 7 = .d (.int .i64 i) ∧ tm.at 8 = .d (.int .i64 (rn : Int)) ∧ tm.at 10 = .d (.int .i64 j)) ?_ row.length _ _ _ ⟨0, rfl, by omega, rfl, hn, g0, g1, by simp only [go_sem, ↓reduceIte, Int.reduceEq, Nat.reduceBEq, Int.reduceBEq, Int.reduceBNe, Int.reduceLT, Int.reduceLE, Nat.reduceAdd, Nat.reducePow, Nat.reduceEqDiff, Nat.reduceLT, Nat.reduceLeDiff, Nat.reduceMul, Nat.reduceSub, t1], by simp only [go_sem, ↓reduceIte, Int.reduceEq, Nat.reduceBEq, Int.reduceBEq, Int.reduceBNe, Int.reduceLT, Int.reduceLE, Nat.reduceAdd, Nat.reducePow, Nat.reduceEqDiff, Nat.reduceLT, Nat.reduceLeDiff, Nat.reduceMul, Nat.reduceSub, t3], by simp only [go_sem, ↓reduceIte, Int.reduceEq, Nat.reduceBEq, Int.reduceBEq, Int.reduceBNe, Int.reduceLT, Int.reduceLE, Nat.reduceAdd, Nat.reducePow, Nat.reduceEqDiff, Nat.reduceLT, Nat.reduceLeDiff, Nat.reduceMul, Nat.reduceSub, t5], by simp only [go_sem, ↓reduceIte, Int.reduceEq, Nat.reduceBEq, Int.reduceBEq, Int.reduceBNe, Int.reduceLT, Int.reduceLE, Nat.reduceAdd, Nat.reducePow, Nat.reduceEqDiff, Nat.reduceLT, Nat.reduceLeDiff, Nat.reduceMul, Nat.reduceSub, t7], by simp only [go_sem, ↓reduceIte, Int.reduceEq, Nat.reduceBEq, Int.reduceBEq, Int.reduceBNe, Int.reduceLT, Int.reduceLE, Nat.reduceAdd, Nat.reducePow, Nat.reduceEqDiff, Nat.reduceLT, Nat.reduceLeDiff, Nat.reduceMul, Nat.reduceSub], by simp only [go_sem, ↓reduceIte, Int.reduceEq, Nat.reduceBEq, Int.reduceBEq, Int.reduceBNe, Int.reduceLT, Int.reduceLE, Nat.reduceAdd, Nat.reducePow, Nat.reduceEqDiff, Nat.reduceLT, Nat.reduceLeDiff, Nat.reduceMul, Nat.reduceSub]; rfl⟩
      rintro k tm τ W ⟨j, rfl, hj, rfl, hn, g0, g1, t1, t3, t5, t7, t8, t10⟩ ih2
      by_cases hl2 : j < row.length
      · have hge : row[j]? = some row[j] := by simp [hl2]
        have hem := List.getElem_mem hl2
        obtain ⟨q1, q2⟩ := hto _ hem
        have q3 : row.length ≤ 1 ∨ row[j].kind = 0 := hq.imp id (fun h => h _ hem)
        generalize row[j] = e at hge q1 q2 q3
        have hc0 := hsS τ e.to q1
        rw [q2] at hc0
        have erf : ((rn : Int) != (rn : Int)) = false := by simp
        simp only [go_sem, ↓reduceIte, Int.reduceEq, Nat.reduceBEq, Int.reduceBEq, Int.reduceBNe, Int.reduceLT, Int.reduceLE, Nat.reduceAdd, Nat.reducePow, Nat.reduceEqDiff, Nat.reduceLT, Nat.reduceLeDiff, Nat.reduceMul, Nat.reduceSub, t1, t3, t5, t7, t8, t10, g1, index_es hget, len_rw, dec_lt' hl2, index_rw hge, Eg.D_c]
        refine ⟨_, _, _, hc0, ?_⟩
        have hrl2 : row.length < 1000000000 := by omega
        cases hgt : decide ((row.length : Int) > 1) with
        | false =>
          simp only [go_sem, ↓reduceIte, Int.reduceEq, Nat.reduceBEq, Int.reduceBEq, Int.reduceBNe, Int.reduceLT, Int.reduceLE, Nat.reduceAdd, Nat.reducePow, Nat.reduceEqDiff, Nat.reduceLT, Nat.reduceLeDiff, Nat.reduceMul, Nat.reduceSub, t1, t3, t5, t7, t8, t10, g1, index_es hget, len_rw, dec_lt' hl2, index_rw hge, Eg.D_c, erf, hgt, wrap_succ' hl2 hrl2]
          refine ih2 _ _ _ _ (by omega) ⟨j + 1, rfl, hl2, rfl, hn, g0, g1, by simp only [go_sem, ↓reduceIte, Int.reduceEq, Nat.reduceBEq, Int.reduceBEq, Int.reduceBNe, Int.reduceLT, Int.reduceLE, Nat.reduceAdd, Nat.reducePow, Nat.reduceEqDiff, Nat.reduceLT, Nat.reduceLeDiff, Nat.reduceMul, Nat.reduceSub, t1], by simp only [go_sem, ↓reduceIte, Int.reduceEq, Nat.reduceBEq, Int.reduceBEq, Int.reduceBNe, Int.reduceLT, Int.reduceLE, Nat.reduceAdd, Nat.reducePow, Nat.reduceEqDiff, Nat.reduceLT, Nat.reduceLeDiff, Nat.reduceMul, Nat.reduceSub, t3], by simp only [go_sem, ↓reduceIte, Int.reduceEq, Nat.reduceBEq, Int.reduceBEq, Int.reduceBNe, Int.reduceLT, Int.reduceLE, Nat.reduceAdd, Nat.reducePow, Nat.reduceEqDiff, Nat.reduceLT, Nat.reduceLeDiff, Nat.reduceMul, Nat.reduceSub, t5], by simp only [go_sem, ↓reduceIte, Int.reduceEq, Nat.reduceBEq, Int.reduceBEq, Int.reduceBNe, Int.reduceLT, Int.reduceLE, Nat.reduceAdd, Nat.reducePow, Nat.reduceEqDiff, Nat.reduceLT, Nat.reduceLeDiff, Nat.reduceMul, Nat.reduceSub, t7], by simp only [go_sem, ↓reduceIte, Int.reduceEq, Nat.reduceBEq, Int.reduceBEq, Int.reduceBNe, Int.reduceLT, Int.reduceLE, Nat.reduceAdd, Nat.reducePow, Nat.reduceEqDiff, Nat.reduceLT, Nat.reduceLeDiff, Nat.reduceMul, Nat.reduceSub, t8], by simp only [go_sem, ↓reduceIte, Int.reduceEq, Nat.reduceBEq, Int.reduceBEq, Int.reduceBNe, Int.reduceLT, Int.reduceLE, Nat.reduceAdd, Nat.reducePow, Nat.reduceEqDiff, Nat.reduceLT, Nat.reduceLeDiff, Nat.reduceMul, Nat.reduceSub]⟩
        | true =>
          have hk0 : e.kind = 0 := by
            have : (row.length : Int) > 1 := by simpa using hgt
            rcases q3 with q3 | q3
            · omega
            · exact q3
          have ek : (e.kind != 0) = false := by rw [hk0]; rfl
          simp only [go_sem, ↓reduceIte, Int.reduceEq, Nat.reduceBEq, Int.reduceBEq, Int.reduceBNe, Int.reduceLT, Int.reduceLE, Nat.reduceAdd, Nat.reducePow, Nat.reduceEqDiff, Nat.reduceLT, Nat.reduceLeDiff, Nat.reduceMul, Nat.reduceSub, t1, t3, t5, t7, t8, t10, g1, index_es hget, len_rw, dec_lt' hl2, index_rw hge, Eg.D_c, erf, hgt, ek, wrap_succ' hl2 hrl2]
          refine ih2 _ _ _ _ (by omega) ⟨j + 1, rfl, hl2, rfl, hn, g0, g1, by simp only [go_sem, ↓reduceIte, Int.reduceEq, Nat.reduceBEq, Int.reduceBEq, Int.reduceBNe, Int.reduceLT, Int.reduceLE, Nat.reduceAdd, Nat.reducePow, Nat.reduceEqDiff, Nat.reduceLT, Nat.reduceLeDiff, Nat.reduceMul, Nat.reduceSub, t1], by simp only [go_sem, ↓reduceIte, Int.reduceEq, Nat.reduceBEq, Int.reduceBEq, Int.reduceBNe, Int.reduceLT, Int.reduceLE, Nat.reduceAdd, Nat.reducePow, Nat.reduceEqDiff, Nat.reduceLT, Nat.reduceLeDiff, Nat.reduceMul, Nat.reduceSub, t3], by simp only [go_sem, ↓reduceIte, Int.reduceEq, Nat.reduceBEq, Int.reduceBEq, Int.reduceBNe, Int.reduceLT, Int.reduceLE, Nat.reduceAdd, Nat.reducePow, Nat.reduceEqDiff, Nat.reduceLT, Nat.reduceLeDiff, Nat.reduceMul, Nat.reduceSub, t5], by simp only [go_sem, ↓reduceIte, Int.reduceEq, Nat.reduceBEq, Int.reduceBEq, Int.reduceBNe, Int.reduceLT, Int.reduceLE, Nat.reduceAdd, Nat.reducePow, Nat.reduceEqDiff, Nat.reduceLT, Nat.reduceLeDiff, Nat.reduceMul, Nat.reduceSub, t7], by simp only [go_sem, ↓reduceIte, Int.reduceEq, Nat.reduceBEq, Int.reduceBEq, Int.reduceBNe, Int.reduceLT, Int.reduceLE, Nat.reduceAdd, Nat.reducePow, Nat.reduceEqDiff, Nat.reduceLT, Nat.reduceLeDiff, Nat.reduceMul, Nat.reduceSub, t8], by simp only [go_sem, ↓reduceIte, Int.reduceEq, Nat.reduceBEq, Int.reduceBEq, Int.reduceBNe, Int.reduceLT, Int.reduceLE, Nat.reduceAdd, Nat.reducePow, Nat.reduceEqDiff, Nat.reduceLT, Nat.reduceLeDiff, Nat.reduceMul, Nat.reduceSub]⟩
      · simp only [go_sem, ↓reduceIte, Int.reduceEq, Nat.reduceBEq, Int.reduceBEq, Int.reduceBNe, Int.reduceLT, Int.reduceLE, Nat.reduceAdd, Nat.reducePow, Nat.reduceEqDiff, Nat.reduceLT, Nat.reduceLeDiff, Nat.reduceMul, Nat.reduceSub, t1, t3, t5, t7, t8, t10, g1, index_es hget, len_rw, dec_ge' hl2]
        refine ⟨_, _, _, hbS _ i hl, ?_⟩
        simp only [go_sem, ↓reduceIte, Int.reduceEq, Nat.reduceBEq, Int.reduceBEq, Int.reduceBNe, Int.reduceLT, Int.reduceLE, Nat.reduceAdd, Nat.reducePow, Nat.reduceEqDiff, Nat.reduceLT, Nat.reduceLeDiff, Nat.reduceMul, Nat.reduceSub, t7, wrap_succ' hl (show N.es.length < 1000000000 by omega)]
        refine ih _ _ _ _ (by omega) ⟨i + 1, rfl, hl, rfl, hn, g0, g1, by simp only [go_sem, ↓reduceIte, Int.reduceEq, Nat.reduceBEq, Int.reduceBEq, Int.reduceBNe, Int.reduceLT, Int.reduceLE, Nat.reduceAdd, Nat.reducePow, Nat.reduceEqDiff, Nat.reduceLT, Nat.reduceLeDiff, Nat.reduceMul, Nat.reduceSub, t1], by simp only [go_sem, ↓reduceIte, Int.reduceEq, Nat.reduceBEq, Int.reduceBEq, Int.reduceBNe, Int.reduceLT, Int.reduceLE, Nat.reduceAdd, Nat.reducePow, Nat.reduceEqDiff, Nat.reduceLT, Nat.reduceLeDiff, Nat.reduceMul, Nat.reduceSub, t3], by simp only [go_sem, ↓reduceIte, Int.reduceEq, Nat.reduceBEq, Int.reduceBEq, Int.reduceBNe, Int.reduceLT, Int.reduceLE, Nat.reduceAdd, Nat.reducePow, Nat.reduceEqDiff, Nat.reduceLT, Nat.reduceLeDiff, Nat.reduceMul, Nat.reduceSub, t5], by simp only [go_sem, ↓reduceIte, Int.reduceEq, Nat.reduceBEq, Int.reduceBEq, Int.reduceBNe, Int.reduceLT, Int.reduceLE, Nat.reduceAdd, Nat.reducePow, Nat.reduceEqDiff, Nat.reduceLT, Nat.reduceLeDiff, Nat.reduceMul, Nat.reduceSub]⟩
    · simp only [go_sem, ↓reduceIte, Int.reduceEq, Nat.reduceBEq, Int.reduceBEq, Int.reduceBNe, Int.reduceLT, Int.reduceLE, Nat.reduceAdd, Nat.reducePow, Nat.reduceEqDiff, Nat.reduceLT, Nat.reduceLeDiff, Nat.reduceMul, Nat.reduceSub, t1, t3, t5, t7, g1, len_es, dec_ge' hl]
  · simp [St.n_set, St.n_push]
  all_goals first | rfl | (simp only [go_sem, ↓reduceIte, Int.reduceEq, Nat.reduceBEq, Int.reduceBEq, Int.reduceBNe, Int.reduceLT, Int.reduceLE, Nat.reduceAdd, Nat.reducePow, Nat.reduceEqDiff, Nat.reduceLT, Nat.reduceLeDiff, Nat.reduceMul, Nat.reduceSub]; done) | (simp only [go_sem, ↓reduceIte, Int.reduceEq, Nat.reduceBEq, Int.reduceBEq, Int.reduceBNe, Int.reduceLT, Int.reduceLE, Nat.reduceAdd, Nat.reducePow, Nat.reduceEqDiff, Nat.reduceLT, Nat.reduceLeDiff, Nat.reduceMul, Nat.reduceSub]; rfl)
end Go.Am

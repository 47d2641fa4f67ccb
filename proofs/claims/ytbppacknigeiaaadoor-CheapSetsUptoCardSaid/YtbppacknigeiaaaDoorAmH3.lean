/- Part H3 of a proof that runs a program's calls on a small machine whose values bear no addresses: no conditions. -/
import Derived.Test.YtbppacknigeiaaaDoorAmH2
import Derived.Test.YtbppacknigeiaaaDoorAmU1
import Derived.Lib.TrailingZeros
import Derived.Laws.BitsAllLaws
set_option autoImplicit false
set_option linter.unusedSimpArgs false
set_option linter.unusedVariables false
set_option linter.unusedSectionVars false
namespace Go.Am
open Go Go.Proofs
variable {fz : Nat → Md}
theorem CallsTo.keepE {X : X} {f : Nat} {args : List A} {F : AFn} {σ : St} {P : A → St → List Nat → Prop} (hz : X.fz f = .keep) (hF : X.fn f = some F) (hl : args.length ≤ F.nt)
    (e : Ev X f F.nt none σ.n [.code F.body] (initTm args 0 .nil) σ [] (RetQ X F.results P)) : ∃ r σ' W', CallsTo X (.func f []) args σ r σ' W' ∧ P r σ' W' := by
  obtain ⟨n, o, hn, hq⟩ := e
  cases o with
  | leave _ _ _ => exact hq.elim
  | ret tm σ1 W1 =>
    unfold RetQ at hq
    dsimp only at hq
    split at hq
    · rename_i l hl'
      exact ⟨_, σ1, W1, CallsTo.ofQ hF (by simpa using hl) ⟨n, _, by rw [List.append_nil]; exact hn, by unfold RetQ; dsimp only; rw [hl']; simp [leaveCall, hz]⟩, hq⟩
    · exact hq.elim
def nullD (g : Gr) : D := if checkP g = 0 then .slc false (boolsD g.null) else .slc true []
structure NewM (σ σ' : St) (T : List Nat) : Prop where
  n : σ.n ≤ σ'.n
  same : ∀ k, k < σ.n → σ'.get k = σ.get k
  w : ∀ k ∈ T, σ.n ≤ k
def MadeP (g : Gr) (σ : St) (a : A) (σ' : St) (T : List Nat) : Prop :=
  NewM σ σ' T ∧ if (checkP g != 0) = true then a = .tup [.d .nptr, .d (.int .i64 (checkP g))] else
    ∃ ks k1 k2 k3, a = .tup [.ptr ks 0, .d (.int .i64 0)] ∧ SM g g.null ks k1 k2 k3 (frG g) (fr0 g.rules.length) (List.replicate g.rules.length false) σ' ∧ σ.n ≤ ks ∧ σ.n ≤ k1 ∧ σ.n ≤ k2 ∧ σ.n ≤ k3 ∧ k1 ≠ k2 ∧ k2 ≠ k3 ∧ ks ≠ k2 ∧ ks ≠ k3 ∧ k1 ≠ k3 ∧ ks ≠ k1
theorem rep_ub (n : Nat) : rep n [A.d (.int .u64 0)] = ubA (fr0 n) := by
  induction n with
  | zero => rfl
  | succ n ih => rw [rep_succ, ih]; rfl
set_option maxHeartbeats 8000000 in
theorem made_c (h37 : fz 37 = .keep) (h69 : fz 69 = .cut) (hnull : ∀ (g : Gr) (σ : St), SmallG g → CallsTo (XX fz) (.func 28 []) [g.a] σ (.tup [.d (nullD g), .d (.int .i64 (checkP g))]) σ []) (g : Gr) (hg : SmallG g) (σ : St) :
    ∃ a σ' T, CallsTo (XX fz) (.func 37 []) [g.a] σ a σ' T ∧ MadeP g σ a σ' T := by
  refine CallsTo.keepE h37 fn37 (by simp) ?_
  simp only [Tryd.f37, Option.getD_some]
  simp only [go_sem, ↓reduceIte, Int.reduceEq, Nat.reduceBEq, Int.reduceBEq, Int.reduceBNe, Int.reduceLT, Int.reduceLE, Nat.reduceAdd, Nat.reducePow, Nat.reduceEqDiff, Nat.reduceLT, Nat.reduceLeDiff, Nat.reduceMul, Nat.reduceSub, Gr.a]
  refine ⟨_, _, _, hnull g _ hg, ?_⟩
  unfold MadeP nullD
  cases hc : (checkP g != 0) with
  | true =>
    simp only [go_sem, ↓reduceIte, Int.reduceEq, Nat.reduceBEq, Int.reduceBEq, Int.reduceBNe, Int.reduceLT, Int.reduceLE, Nat.reduceAdd, Nat.reducePow, Nat.reduceEqDiff, Nat.reduceLT, Nat.reduceLeDiff, Nat.reduceMul, Nat.reduceSub, hc]
    exact ⟨by simp only [St.n_push]; omega, fun k hk => St.get_push_ne hk, by simp⟩
  | false =>
  have hc' : checkP g = 0 := by simpa using hc
  have h := GOk.of hc'
  have hbl : g.bodies.length = g.rules.length := by rw [Gr.bodies, List.length_map]
  have hle := h.le
  have hnl : g.null.length = g.rules.length := by rw [← hbl]; exact growsP_len _ _
  obtain ⟨-, -, hfr⟩ := frG_ok h
  have hmk1 := fun σ : St => mksE_nat (σ := σ) (kd := .int .u64) (s := 1) (b := 8) (n := g.rules.length) (z := [.d (.int .u64 0)]) (zv := .d (.int .u64 0)) ⟨rfl, by omega, by omega, by omega⟩
  have hmk2 := fun σ : St => mksE_nat (σ := σ) (kd := .bool) (s := 1) (b := 1) (n := g.rules.length) (z := [.d (.bool false)]) (zv := .d (.bool false)) ⟨rfl, by omega, by omega, by omega⟩
  have hput : ∀ a b c d e f : A, putAt [a, b, c, d, e, f] 0 g.c = [.d (.int .i64 g.tokens), g.rd, c, d, e, f] := fun _ _ _ _ _ _ => rfl
  simp only [go_sem, ↓reduceIte, Int.reduceEq, Nat.reduceBEq, Int.reduceBEq, Int.reduceBNe, Int.reduceLT, Int.reduceLE, Nat.reduceAdd, Nat.reducePow, Nat.reduceEqDiff, Nat.reduceLT, Nat.reduceLeDiff, Nat.reduceMul, Nat.reduceSub, hc', if_pos, hmk1, hmk2, rep_ub, rep_bools, hput, List.length_cons, List.length_nil, List.set_cons_succ, List.set_cons_zero]
  refine ⟨drawOk_rel [] [] rfl (by kernel_rfl) rfl (by simp), ?_⟩
  refine Ev.loop_ind (fun k tm τ W => ∃ (F : List Nat), k = mdMeas F ∧ W = [] ∧ NewM σ τ [] ∧ τ.get σ.n = .cells g.c ∧ SM g g.null (σ.n + 4) (σ.n + 1) (σ.n + 2) (σ.n + 3) F (fr0 g.rules.length) (List.replicate g.rules.length false) τ ∧ MdI g.null g.bodies F ∧ mdRun g.null g.bodies (mdMeas F) F = frG g ∧
      tm.at 1 = .ptr σ.n 0 ∧ tm.at 7 = .ptr (σ.n + 4) 0) ?_ (mdMeas (fr0 g.bodies.length)) _ _ _ ⟨fr0 g.bodies.length, rfl, rfl, ?_, ?_, ?_, fr0_I _, ?_, ?_, ?_⟩
  · rintro k tm τ W ⟨F, rfl, rfl, hN, g0, hM, hI, hrun, t1, t7⟩ ih
    simp only [go_sem, ↓reduceIte, Int.reduceEq, Nat.reduceBEq, Int.reduceBEq, Int.reduceBNe, Int.reduceLT, Int.reduceLE, Nat.reduceAdd, Nat.reducePow, Nat.reduceEqDiff, Nat.reduceLT, Nat.reduceLeDiff, Nat.reduceMul, Nat.reduceSub, t1, t7, g0]
    refine Ev.loop_ind (fun k2 tm τ W => ∃ (i : Nat), k2 = g.rules.length - i ∧ i ≤ g.rules.length ∧ W = [] ∧ NewM σ τ [] ∧ τ.get σ.n = .cells g.c ∧ SM g g.null (σ.n + 4) (σ.n + 1) (σ.n + 2) (σ.n + 3) F (fr0 g.rules.length) (List.replicate g.rules.length false) τ ∧ mdAt g.null F i (g.bodies.drop i) = mdAt g.null F 0 g.bodies ∧
        tm.at 1 = .ptr σ.n 0 ∧ tm.at 7 = .ptr (σ.n + 4) 0 ∧ tm.at 34 = g.rd ∧ tm.at 35 = .d (.int .i64 (g.rules.length : Int)) ∧ tm.at 36 = .d (.int .i64 i)) ?_ g.rules.length _ _ _ ⟨0, rfl, by omega, rfl, hN, g0, hM, rfl, by simp only [go_sem, ↓reduceIte, Int.reduceEq, Nat.reduceBEq, Int.reduceBEq, Int.reduceBNe, Int.reduceLT, Int.reduceLE, Nat.reduceAdd, Nat.reducePow, Nat.reduceEqDiff, Nat.reduceLT, Nat.reduceLeDiff, Nat.reduceMul, Nat.reduceSub, t1], by simp only [go_sem, ↓reduceIte, Int.reduceEq, Nat.reduceBEq, Int.reduceBEq, Int.reduceBNe, Int.reduceLT, Int.reduceLE, Nat.reduceAdd, Nat.reducePow, Nat.reduceEqDiff, Nat.reduceLT, Nat.reduceLeDiff, Nat.reduceMul, Nat.reduceSub, t7], by simp only [go_sem, ↓reduceIte, Int.reduceEq, Nat.reduceBEq, Int.reduceBEq, Int.reduceBNe, Int.reduceLT, Int.reduceLE, Nat.reduceAdd, Nat.reducePow, Nat.reduceEqDiff, Nat.reduceLT, Nat.reduceLeDiff, Nat.reduceMul, Nat.reduceSub], by simp only [go_sem, ↓reduceIte, Int.reduceEq, Nat.reduceBEq, Int.reduceBEq, Int.reduceBNe, Int.reduceLT, Int.reduceLE, Nat.reduceAdd, Nat.reducePow, Nat.reduceEqDiff, Nat.reduceLT, Nat.reduceLeDiff, Nat.reduceMul, Nat.reduceSub], by simp only [go_sem, ↓reduceIte, Int.reduceEq, Nat.reduceBEq, Int.reduceBEq, Int.reduceBNe, Int.reduceLT, Int.reduceLE, Nat.reduceAdd, Nat.reducePow, Nat.reduceEqDiff, Nat.reduceLT, Nat.reduceLeDiff, Nat.reduceMul, Nat.reduceSub]; rfl⟩
    clear hN g0 hM t1 t7
    rintro k2 tm τ W ⟨i, rfl, hi, rfl, hN, g0, hM, he, t1, t7, t34, t35, t36⟩ ih2
    by_cases hl : i < g.rules.length
    · have hget : g.rules[i]? = some g.rules[i] := by simp [hl]
      have hmem : g.rules[i] ∈ g.rules := List.getElem_mem hl
      have hbx : g.bodies[i]? = some g.rules[i].body := by rw [Gr.bodies, List.getElem?_map, hget]; rfl
      have hd1 : g.bodies.drop i = g.rules[i].body :: g.bodies.drop (i + 1) := by
        rw [List.drop_eq_getElem_cons (by rw [hbl]; exact hl)]; simp [Gr.bodies]
      have hox : okE g.tokens g.rules.length g.rules[i].body := by rw [← hbl]; exact h.ok _ (List.mem_of_getElem? hbx)
      rw [hd1, mdAt] at he
      simp only [go_sem, ↓reduceIte, Int.reduceEq, Nat.reduceBEq, Int.reduceBEq, Int.reduceBNe, Int.reduceLT, Int.reduceLE, Nat.reduceAdd, Nat.reducePow, Nat.reduceEqDiff, Nat.reduceLT, Nat.reduceLeDiff, Nat.reduceMul, Nat.reduceSub, t1, t7, t34, t35, t36, dec_lt' hl, Gr.index_rd hget]
      generalize hτ : (τ.push (Blk.cells [A.d (D.str { data := { toList := [] } }), A.d (D.int IntKind.i64 0), A.d (D.int IntKind.i64 0), A.d (D.slc true [])])).set τ.n (Blk.cells g.rules[i].c) = τ3
      have hn := hN.n
      have hls := hM.ls
      have n3 : τ3.n = τ.n + 1 := by rw [← hτ]; simp [St.n_set, St.n_push]
      have o3 : ∀ j, j < τ.n → τ3.get j = τ.get j := fun j hj => by rw [← hτ, St.get_set_ne (by omega), St.get_push_ne hj]
      have lz : low σ.n [τ.n] = [] := by rw [low_cons_ge (by omega)]; rfl
      have lz1 : low σ.n [σ.n + 1] = [] := by rw [low_cons_ge (by omega)]; rfl
      have g3 : τ3.get τ.n = .cells g.rules[i].c := by rw [← hτ, St.get_set_eq]
      have hM3 := hM.stay (τ := τ3) (by omega) o3
      have hN3 : NewM σ τ3 [] := ⟨by omega, fun k hk => by rw [o3 k (by omega)]; exact hN.same k hk, by simp⟩
      have ix := fun ρ : St => indexR_nat (σ := ρ) (k := σ.n + 1) (off := 0) (s := 1) (cs := ubA F) hl
      simp only [Nat.zero_add, Nat.mul_one] at ix
      have cg := ubA_get (l := F) (i := i) (by rw [hM.fl]; exact hl)
      have hul : i < (ubA F).length := by rw [ubA_len, hM.fl]; exact hl
      simp only [go_sem, ↓reduceIte, Int.reduceEq, Nat.reduceBEq, Int.reduceBEq, Int.reduceBNe, Int.reduceLT, Int.reduceLE, Nat.reduceAdd, Nat.reducePow, Nat.reduceEqDiff, Nat.reduceLT, Nat.reduceLeDiff, Nat.reduceMul, Nat.reduceSub, t1, t7, g3, lz]
      refine ⟨_, _, _, begin_c h69 hI.lt h.tok g.rules[i].body τ3 (hg _ hmem) hox hM3, ?_⟩
      cases hb : ((bgE F g.null g.rules[i].body).1 != F.getD i 0) with
      | true =>
        have hbi : ((((bgE F g.null g.rules[i].body).1 : Nat) : Int) != ((F.getD i 0 : Nat) : Int)) = true := by
          have : (bgE F g.null g.rules[i].body).1 ≠ F.getD i 0 := by simpa using hb
          rw [bne_iff_ne]; exact fun q => this (Int.ofNat.inj q)
        rw [if_pos hb] at he
        obtain ⟨s1, s2, -⟩ := hI.step h.tok h.ok he.symm
        simp only [go_sem, ↓reduceIte, Int.reduceEq, Nat.reduceBEq, Int.reduceBEq, Int.reduceBNe, Int.reduceLT, Int.reduceLE, Nat.reduceAdd, Nat.reducePow, Nat.reduceEqDiff, Nat.reduceLT, Nat.reduceLeDiff, Nat.reduceMul, Nat.reduceSub, t1, t7, hM3.s, hM3.f, ix, cg, hbi, hul, ubA_set, lz1]
        refine ih _ _ _ _ s2 ⟨_, rfl, rfl, ⟨by rw [St.n_set]; exact hN3.n, fun k hk => by rw [St.get_set_ne (by omega)]; exact hN3.same k hk, by simp⟩, ?_, ⟨?_, St.get_set_eq, ?_, ?_, by rw [List.length_set]; exact hM.fl, hM3.hl, hM3.rl, hM3.nl, hM3.ls, hM3.l1, hM3.l2, hM3.l3⟩, s1, ?_, ?_, ?_⟩
        · rw [St.get_set_ne (by omega), o3 _ (by omega)]; exact g0
        · rw [St.get_set_ne (by omega)]; exact hM3.s
        · rw [St.get_set_ne (by omega)]; exact hM3.h
        · rw [St.get_set_ne (by omega)]; exact hM3.r
        · obtain ⟨m, hm⟩ : ∃ m, mdMeas F = m + 1 := ⟨mdMeas F - 1, by omega⟩
          rw [hm, mdRun, ← he] at hrun
          rw [← hrun]
          exact ((mdRun_ok (nl := g.null) h.tok h.ok _ _ s1 (Nat.le_refl _)).2.2 m (by omega)).symm
        all_goals (simp only [go_sem, ↓reduceIte, Int.reduceEq, Nat.reduceBEq, Int.reduceBEq, Int.reduceBNe, Int.reduceLT, Int.reduceLE, Nat.reduceAdd, Nat.reducePow, Nat.reduceEqDiff, Nat.reduceLT, Nat.reduceLeDiff, Nat.reduceMul, Nat.reduceSub, t1, t7])
      | false =>
        have hbi : ((((bgE F g.null g.rules[i].body).1 : Nat) : Int) != ((F.getD i 0 : Nat) : Int)) = false := by
          have : (bgE F g.null g.rules[i].body).1 = F.getD i 0 := by simpa using hb
          rw [this]; simp
        rw [if_neg (by rw [hb]; simp)] at he
        simp only [go_sem, ↓reduceIte, Int.reduceEq, Nat.reduceBEq, Int.reduceBEq, Int.reduceBNe, Int.reduceLT, Int.reduceLE, Nat.reduceAdd, Nat.reducePow, Nat.reduceEqDiff, Nat.reduceLT, Nat.reduceLeDiff, Nat.reduceMul, Nat.reduceSub, t1, t7, hM3.s, hM3.f, ix, cg, hbi, t36, wrap_succ' hl (show g.rules.length < 1000000000 by omega)]
        refine ih2 _ _ _ _ (by omega) ⟨i + 1, rfl, hl, rfl, hN3, by rw [o3 _ (by omega)]; exact g0, hM3, he, ?_, ?_, ?_, ?_, ?_⟩
        all_goals (simp only [go_sem, ↓reduceIte, Int.reduceEq, Nat.reduceBEq, Int.reduceBEq, Int.reduceBNe, Int.reduceLT, Int.reduceLE, Nat.reduceAdd, Nat.reducePow, Nat.reduceEqDiff, Nat.reduceLT, Nat.reduceLeDiff, Nat.reduceMul, Nat.reduceSub, t1, t7, t34, t35])
    · have hin : i = g.rules.length := by omega
      rw [hin, List.drop_eq_nil_of_le (by omega), mdAt] at he
      have hF : F = frG g := by
        rw [← hrun]
        cases hm : mdMeas F with
        | zero => rfl
        | succ m => rw [mdRun, ← he]
      simp only [go_sem, ↓reduceIte, Int.reduceEq, Nat.reduceBEq, Int.reduceBEq, Int.reduceBNe, Int.reduceLT, Int.reduceLE, Nat.reduceAdd, Nat.reducePow, Nat.reduceEqDiff, Nat.reduceLT, Nat.reduceLeDiff, Nat.reduceMul, Nat.reduceSub, t1, t7, t34, t35, t36, dec_ge' hl]
      refine ⟨⟨hN.n, hN.same, by simp⟩, σ.n + 4, σ.n + 1, σ.n + 2, σ.n + 3, rfl, by rw [← hF]; exact hM, ?_⟩
      omega
  · refine ⟨by simp only [St.n_push]; omega, fun k hk => ?_, by simp⟩
    rw [St.get_push_ne (by simp only [St.n_push]; omega), St.get_push_ne (by simp only [St.n_push]; omega), St.get_push_ne (by simp only [St.n_push]; omega), St.get_push_ne (by simp only [St.n_push]; omega), St.get_push_ne hk]
  · simp only [go_sem, ↓reduceIte, Int.reduceEq, Nat.reduceBEq, Int.reduceBEq, Int.reduceBNe, Int.reduceLT, Int.reduceLE, Nat.reduceAdd, Nat.reducePow, Nat.reduceEqDiff, Nat.reduceLT, Nat.reduceLeDiff, Nat.reduceMul, Nat.reduceSub]
  · rw [hbl]
    refine ⟨by simp only [go_sem, ↓reduceIte, Int.reduceEq, Nat.reduceBEq, Int.reduceBEq, Int.reduceBNe, Int.reduceLT, Int.reduceLE, Nat.reduceAdd, Nat.reducePow, Nat.reduceEqDiff, Nat.reduceLT, Nat.reduceLeDiff, Nat.reduceMul, Nat.reduceSub], by simp only [go_sem, ↓reduceIte, Int.reduceEq, Nat.reduceBEq, Int.reduceBEq, Int.reduceBNe, Int.reduceLT, Int.reduceLE, Nat.reduceAdd, Nat.reducePow, Nat.reduceEqDiff, Nat.reduceLT, Nat.reduceLeDiff, Nat.reduceMul, Nat.reduceSub], by simp only [go_sem, ↓reduceIte, Int.reduceEq, Nat.reduceBEq, Int.reduceBEq, Int.reduceBNe, Int.reduceLT, Int.reduceLE, Nat.reduceAdd, Nat.reducePow, Nat.reduceEqDiff, Nat.reduceLT, Nat.reduceLeDiff, Nat.reduceMul, Nat.reduceSub], by simp only [go_sem, ↓reduceIte, Int.reduceEq, Nat.reduceBEq, Int.reduceBEq, Int.reduceBNe, Int.reduceLT, Int.reduceLE, Nat.reduceAdd, Nat.reducePow, Nat.reduceEqDiff, Nat.reduceLT, Nat.reduceLeDiff, Nat.reduceMul, Nat.reduceSub], by simp [fr0], by simp [fr0], by simp, hnl, ?_, ?_, ?_, ?_⟩
    all_goals (simp only [St.n_push]; omega)
  · rw [fr0_meas, hfr _ (by omega)]
  all_goals (simp only [go_sem, ↓reduceIte, Int.reduceEq, Nat.reduceBEq, Int.reduceBEq, Int.reduceBNe, Int.reduceLT, Int.reduceLE, Nat.reduceAdd, Nat.reducePow, Nat.reduceEqDiff, Nat.reduceLT, Nat.reduceLeDiff, Nat.reduceMul, Nat.reduceSub])
end Go.Am
namespace Go.Am
open Go Go.Proofs
variable {fz : Nat → Md}
def bitsN (k : Nat) : List Nat := (List.range 64).filter fun i => k.testBit i
def bitsI (k : Nat) : List Int := (bitsN k).map fun (n : Nat) => (n : Int)
theorem bitsN_step {k k' c : Nat} (hc : c < 64) (h0 : ∀ i, i < c → k.testBit i = false) (h1 : k.testBit c = true) (h2 : ∀ i, k'.testBit i = (k.testBit i && decide (i ≠ c))) : bitsN k = c :: bitsN k' := by
  have e : List.range 64 = List.range c ++ (c :: List.range' (c + 1) (63 - c)) := by
    rw [List.range_eq_range', List.range_eq_range', show List.range' 0 64 = List.range' 0 (c + (1 + (63 - c))) by congr 1; omega, ← List.range'_append_1, ← List.range'_append_1]
    simp
  unfold bitsN
  rw [e, List.filter_append, List.filter_append, List.filter_cons, List.filter_cons]
  have f0 : (List.range c).filter (fun i => k.testBit i) = [] := by
    rw [List.filter_eq_nil_iff]; intro i hi; rw [h0 i (List.mem_range.1 hi)]; simp
  have f1 : (List.range c).filter (fun i => k'.testBit i) = [] := by
    rw [List.filter_eq_nil_iff]; intro i hi; rw [h2, h0 i (List.mem_range.1 hi)]; simp
  have f2 : (List.range' (c + 1) (63 - c)).filter (fun i => k.testBit i) = (List.range' (c + 1) (63 - c)).filter (fun i => k'.testBit i) := by
    apply List.filter_congr
    intro i hi
    have := List.mem_range'_1.1 hi
    rw [h2, decide_eq_true (by omega), Bool.and_true]
  have f3 : k'.testBit c = false := by rw [h2]; simp
  rw [f0, f1, f2, h1, f3]; rfl
theorem bitsN_0 : bitsN 0 = [] := by unfold bitsN; rw [List.filter_eq_nil_iff]; intro i _; simp
theorem ctz_bits {k : Nat} (h0 : k ≠ 0) (h : k < 2 ^ 64) : Lib.ctz 64 k < 64 ∧ (∀ i, i < Lib.ctz 64 k → k.testBit i = false) ∧ k.testBit (Lib.ctz 64 k) = true := by
  unfold Lib.ctz
  rw [if_neg h0]
  obtain ⟨m, h1, h2⟩ := Lib.ctzFrom_spec 64 k (by omega) h
  generalize Lib.ctzFrom 64 k = c at h1 h2
  subst h1
  refine ⟨h2, fun i hi => ?_, ?_⟩
  · rw [Nat.testBit_two_pow_mul]; simp; omega
  · rw [Nat.testBit_two_pow_mul]; simp
theorem clr_bits {k c : Nat} (hk : k < 2 ^ 64) (hc : c < 64) (i : Nat) : (k &&& (18446744073709551615 - 2 ^ c)).testBit i = (k.testBit i && decide (i ≠ c)) := by
  have h2 : 2 ^ c < 2 ^ 64 := Nat.pow_lt_pow_right (by omega) hc
  rw [Nat.testBit_and, show (18446744073709551615 - 2 ^ c) = 2 ^ 64 - (2 ^ c + 1) by omega, Nat.testBit_two_pow_sub_succ h2, Nat.testBit_two_pow]
  by_cases hi : i < 64
  · rw [decide_eq_true hi, Bool.true_and]
    by_cases e : i = c
    · subst e; simp
    · rw [decide_eq_false (fun q => e q.symm), decide_eq_true e]; rfl
  · have h3 : k.testBit i = false := Nat.testBit_lt_two_pow (Nat.lt_of_lt_of_le hk (Nat.pow_le_pow_right (by omega) (by omega)))
    rw [h3]; rfl
theorem clr_w {a b : Nat} (ha : a < 2 ^ 64) (hb : b < 2 ^ 64) : IntKind.u64.wrap ((BitVec.ofInt 64 (a : Int) &&& ~~~ BitVec.ofInt 64 (b : Int)).toNat : Int) = ((a &&& (18446744073709551615 - b) : Nat) : Int) := u64_andNot_nat a b ha hb
theorem bin_andN {X : X} {σ : St} {t : Nat} {kd : IntKind} {a b : Int} : binA X σ .andNot t (.d (.int kd a)) (.d (.int kd b)) = some (.d (.int kd (kd.wrap (BitVec.ofInt kd.bits a &&& ~~~ BitVec.ofInt kd.bits b).toNat))) := by simp [binA, intOp]
set_option maxHeartbeats 8000000 in
theorem list_c (h70 : fz 70 = .ice) (htz : ∀ (k : Nat) (σ : St), k < 2 ^ 64 → CallsTo (XX fz) (.func 94 []) [.d (.int .u64 (k : Int))] σ (.d (.int .i64 (Lib.ctz 64 k : Int))) σ []) (k : Nat) (hk : k < 2 ^ 64) (σ : St) :
    CallsTo (XX fz) (.func 70 []) [.d (.int .u64 (k : Int))] σ (.d (slD (bitsI k))) σ [] := by
  refine CallsTo.ice0 h70 fn70 (by simp) ?_
  simp only [Tryd.f70, Option.getD_some]
  simp only [go_sem, ↓reduceIte, Int.reduceEq, Nat.reduceBEq, Int.reduceBEq, Int.reduceBNe, Int.reduceLT, Int.reduceLE, Nat.reduceAdd, Nat.reducePow, Nat.reduceEqDiff, Nat.reduceLT, Nat.reduceLeDiff, Nat.reduceMul, Nat.reduceSub]
  refine Ev.loop_ind (fun m tm τ W => ∃ (q : Nat) (out : List Int) (a : A) (bs : List Nat), m = pop q ∧ W = [] ∧ σ.n ≤ τ.n ∧ RowN 1 τ a (intsD out) bs ∧ (∀ k ∈ bs, σ.n ≤ k) ∧ q < 2 ^ 64 ∧ out ++ bitsI q = bitsI k ∧
      tm.at 0 = .d (.int .u64 (q : Int)) ∧ tm.at 3 = a) ?_ (pop k) _ _ _ ⟨k, [], .d (.slc true []), [], rfl, rfl, Nat.le_refl _, RowN.nil, by simp, hk, rfl, ?_, ?_⟩
  · rintro m tm τ W ⟨q, out, a, bs, rfl, rfl, hn, hR, hbs, hq, he, t0, t3⟩ ih
    by_cases h0 : q = 0
    · subst h0
      have e0 : bitsI 0 = [] := by rw [bitsI, bitsN_0]; rfl
      rw [e0, List.append_nil] at he
      have hf := hR.freeze (lo := σ.n) (n := fzDepth) hbs (by
        have h1 : (bitsN k).length ≤ 64 := by
          have := List.length_filter_le (fun i => k.testBit i) (List.range 64)
          rw [List.length_range] at this; exact this
        have h2 : (bitsI k).length = (bitsN k).length := by simp [bitsI]
        rw [intsD_len, he]; unfold fzDepth; omega)
      rw [isE] at hf
      have hb : (((0 : Nat) : Int) != 0) = false := rfl
      simp only [go_sem, ↓reduceIte, Int.reduceEq, Nat.reduceBEq, Int.reduceBEq, Int.reduceBNe, Int.reduceLT, Int.reduceLE, Nat.reduceAdd, Nat.reducePow, Nat.reduceEqDiff, Nat.reduceLT, Nat.reduceLeDiff, Nat.reduceMul, Nat.reduceSub, t0, t3, hb]
      rw [← he]
      rcases hR.1.2 with ⟨-, rfl, -⟩ | ⟨k, rfl, -⟩
      · rw [freezeV, freezeW, hf]
        · rfl
        · intro cs h; cases h
        · intro cs h; cases h
      · rw [freezeV, freezeW, hf]
        · rfl
        · intro cs h; cases h
        · intro cs h; cases h
    · have hb : (((q : Nat) : Int) != 0) = true := by rw [bne_iff_ne]; omega
      obtain ⟨c1, c2, c3⟩ := ctz_bits h0 hq
      have hz := htz q
      generalize Lib.ctz 64 q = c at c1 c2 c3 hz
      have h2 : 2 ^ c < 2 ^ 64 := Nat.pow_lt_pow_right (by omega) c1
      have hcl := clr_bits hq c1
      have hst := bitsN_step c1 c2 c3 hcl
      have hql : (q &&& (18446744073709551615 - 2 ^ c)) < 2 ^ 64 := Nat.lt_of_le_of_lt Nat.and_le_left hq
      have hpop : pop (q &&& (18446744073709551615 - 2 ^ c)) < pop q := pop_lt (fun i hi => by rw [hcl, Bool.and_eq_true] at hi; exact hi.1) (fun e => by have := hcl c; rw [e, c3] at this; simp at this) hq
      have hcw := clr_w hq h2
      simp only [go_sem, ↓reduceIte, Int.reduceEq, Nat.reduceBEq, Int.reduceBEq, Int.reduceBNe, Int.reduceLT, Int.reduceLE, Nat.reduceAdd, Nat.reducePow, Nat.reduceEqDiff, Nat.reduceLT, Nat.reduceLeDiff, Nat.reduceMul, Nat.reduceSub, t0, t3, hb]
      refine ⟨_, _, _, hz τ hq, ?_⟩
      obtain ⟨a', τ', T, bs', happ, hR', hK, hc1, hc2⟩ := app_ex (es := 1) (b := 8) (x := [.int .i64 (c : Int)]) (j := τ.n) rfl (by omega) (hR.stay (τ := τ.push (.cells [.d (.int .i64 (c : Int))])) (by simp only [St.n_push]; omega) fun k hk => St.get_push_ne (hR.1.lt hk)) St.get_push_eq (by
        have h1 : (bitsN k).length ≤ 64 := by
          have := List.length_filter_le (fun i => k.testBit i) (List.range 64)
          rw [List.length_range] at this; exact this
        have h2 : (bitsI k).length = (bitsN k).length := by simp [bitsI]
        have h3 : out.length ≤ (bitsI k).length := by rw [← he]; simp
        rw [intsD_len]; omega)
      have hT : low σ.n T = [] := low_all fun k hk => by
        rcases hK.w k hk with h | h
        · exact hbs k h
        · simp only [St.n_push] at h; omega
      have hn' := hK.n
      simp only [St.n_push] at hn'
      have hn0 : ¬ ((c : Int) < 0) := by omega
      simp only [go_sem, ↓reduceIte, Int.reduceEq, Nat.reduceBEq, Int.reduceBEq, Int.reduceBNe, Int.reduceLT, Int.reduceLE, Nat.reduceAdd, Nat.reducePow, Nat.reduceEqDiff, Nat.reduceLT, Nat.reduceLeDiff, Nat.reduceMul, Nat.reduceSub, happ, hT, t0, bin_shl, hn0, Int.toNat_natCast, sh_u c1, bin_andN]
      refine ih _ _ _ _ hpop ⟨q &&& (18446744073709551615 - 2 ^ c), out ++ [(c : Int)], a', bs', rfl, rfl, by omega, by rw [show intsD (out ++ [(c : Int)]) = intsD out ++ [[.int .i64 (c : Int)]] by simp [intsD]]; exact hR', fun k hk => ?_, hql, ?_, ?_, ?_⟩
      · rcases hK.o k hk with h | h
        · exact hbs k h
        · simp only [St.n_push] at h; omega
      · rw [← he, bitsI, bitsI, hst]; simp
      · simp only [go_sem, ↓reduceIte, Int.reduceEq, Nat.reduceBEq, Int.reduceBEq, Int.reduceBNe, Int.reduceLT, Int.reduceLE, Nat.reduceAdd, Nat.reducePow, Nat.reduceEqDiff, Nat.reduceLT, Nat.reduceLeDiff, Nat.reduceMul, Nat.reduceSub]; exact congrArg (fun n => A.d (D.int IntKind.u64 n)) hcw
      · simp only [go_sem, ↓reduceIte, Int.reduceEq, Nat.reduceBEq, Int.reduceBEq, Int.reduceBNe, Int.reduceLT, Int.reduceLE, Nat.reduceAdd, Nat.reducePow, Nat.reduceEqDiff, Nat.reduceLT, Nat.reduceLeDiff, Nat.reduceMul, Nat.reduceSub]
  all_goals (simp only [go_sem, ↓reduceIte, Int.reduceEq, Nat.reduceBEq, Int.reduceBEq, Int.reduceBNe, Int.reduceLT, Int.reduceLE, Nat.reduceAdd, Nat.reducePow, Nat.reduceEqDiff, Nat.reduceLT, Nat.reduceLeDiff, Nat.reduceMul, Nat.reduceSub])
end Go.Am
namespace Go.Am
open Go Go.Proofs
variable {fz : Nat → Md}
def setsR (F : List Nat) : List (List D) := F.map fun k => [slD (bitsI k)]
theorem setsR_len (F : List Nat) : (setsR F).length = F.length := by simp [setsR]
def setsD (F : List Nat) : D := .slc (setsR F).isEmpty (setsR F)
set_option maxHeartbeats 8000000 in
theorem lists_c (h38 : fz 38 = .ice) (h70 : fz 70 = .ice) (htz : ∀ (k : Nat) (σ : St), k < 2 ^ 64 → CallsTo (XX fz) (.func 94 []) [.d (.int .u64 (k : Int))] σ (.d (.int .i64 (Lib.ctz 64 k : Int))) σ []) (F : List Nat) (hF : Lt64 F) (hl : F.length ≤ 1000) (σ : St) {k1 : Nat} (hk : σ.get k1 = .cells (ubA F)) (hlt : k1 < σ.n) :
    CallsTo (XX fz) (.func 38 []) [.row k1 0 F.length 1] σ (.d (setsD F)) σ [] := by
  refine CallsTo.ice0 h38 fn38 (by simp) ?_
  simp only [Tryd.f38, Option.getD_some]
  simp only [go_sem, ↓reduceIte, Int.reduceEq, Nat.reduceBEq, Int.reduceBEq, Int.reduceBNe, Int.reduceLT, Int.reduceLE, Nat.reduceAdd, Nat.reducePow, Nat.reduceEqDiff, Nat.reduceLT, Nat.reduceLeDiff, Nat.reduceMul, Nat.reduceSub, hk]
  refine Ev.loop_ind (fun m tm τ W => ∃ (i : Nat) (a : A) (bs : List Nat), m = F.length - i ∧ i ≤ F.length ∧ W = [] ∧ σ.n ≤ τ.n ∧ τ.get k1 = .cells (ubA F) ∧ RowN 1 τ a (setsR (F.take i)) bs ∧ (∀ k ∈ bs, σ.n ≤ k) ∧
      tm.at 3 = a ∧ tm.at 6 = .row k1 0 F.length 1 ∧ tm.at 7 = .d (.int .i64 (F.length : Int)) ∧ tm.at 8 = .d (.int .i64 (i : Int))) ?_ F.length _ _ _ ⟨0, .d (.slc true []), [], rfl, by omega, rfl, Nat.le_refl _, hk, RowN.nil, by simp, ?_, ?_, ?_, ?_⟩
  · rintro m tm τ W ⟨i, a, bs, rfl, hi, rfl, hn, hk1, hR, hbs, t3, t6, t7, t8⟩ ih
    by_cases hil : i < F.length
    · have ix := fun ρ : St => indexR_nat (σ := ρ) (k := k1) (off := 0) (s := 1) (cs := ubA F) hil
      simp only [Nat.zero_add, Nat.mul_one] at ix
      have cg := ubA_get (l := F) hil
      simp only [go_sem, ↓reduceIte, Int.reduceEq, Nat.reduceBEq, Int.reduceBEq, Int.reduceBNe, Int.reduceLT, Int.reduceLE, Nat.reduceAdd, Nat.reducePow, Nat.reduceEqDiff, Nat.reduceLT, Nat.reduceLeDiff, Nat.reduceMul, Nat.reduceSub, t3, t6, t7, t8, dec_lt' hil, hk1, ix, cg]
      refine ⟨_, _, _, list_c h70 htz (F.getD i 0) (hF i) τ, ?_⟩
      obtain ⟨a', τ', T, bs', happ, hR', hK, hc1, hc2⟩ := app_ex (es := 1) (b := 24) (x := [slD (bitsI (F.getD i 0))]) (j := τ.n) rfl (by omega) (hR.stay (τ := τ.push (.cells [.d (slD (bitsI (F.getD i 0)))])) (by simp only [St.n_push]; omega) fun k hk => St.get_push_ne (hR.1.lt hk)) St.get_push_eq (by
        rw [setsR_len, List.length_take]; omega)
      have hT : low σ.n T = [] := low_all fun k hk => by
        rcases hK.w k hk with h | h
        · exact hbs k h
        · simp only [St.n_push] at h; omega
      have hn' := hK.n
      simp only [St.n_push] at hn'
      have h1 : τ'.get k1 = τ.get k1 := by
        rw [hK.same k1 (by simp only [St.n_push]; omega) (fun h => by have := hbs _ h; omega), St.get_push_ne (by omega)]
      have hR2 : RowN 1 τ' a' (setsR (F.take (i + 1))) bs' := by
        have : F.take (i + 1) = F.take i ++ [F.getD i 0] := by
          rw [List.take_add_one, List.getD_eq_getElem?_getD, List.getElem?_eq_getElem hil]; rfl
        rw [this]; unfold setsR; rw [List.map_append]; exact hR'
      simp only [go_sem, ↓reduceIte, Int.reduceEq, Nat.reduceBEq, Int.reduceBEq, Int.reduceBNe, Int.reduceLT, Int.reduceLE, Nat.reduceAdd, Nat.reducePow, Nat.reduceEqDiff, Nat.reduceLT, Nat.reduceLeDiff, Nat.reduceMul, Nat.reduceSub, slD, happ, hT, t8, wrap_succ' hil (show F.length < 1000000000 by omega)] at happ ⊢
      refine ih _ _ _ _ (by omega) ⟨i + 1, a', bs', rfl, hil, rfl, by omega, h1.trans hk1, hR2, fun k hk => ?_, ?_, ?_, ?_, ?_⟩
      · rcases hK.o k hk with h | h
        · exact hbs k h
        · simp only [St.n_push] at h; omega
      all_goals (simp only [go_sem, ↓reduceIte, Int.reduceEq, Nat.reduceBEq, Int.reduceBEq, Int.reduceBNe, Int.reduceLT, Int.reduceLE, Nat.reduceAdd, Nat.reducePow, Nat.reduceEqDiff, Nat.reduceLT, Nat.reduceLeDiff, Nat.reduceMul, Nat.reduceSub, t6, t7])
    · have hin : i = F.length := by omega
      rw [hin, List.take_length] at hR
      have hf := hR.freeze (lo := σ.n) (n := fzDepth) hbs (by rw [setsR_len]; unfold fzDepth; omega)
      simp only [go_sem, ↓reduceIte, Int.reduceEq, Nat.reduceBEq, Int.reduceBEq, Int.reduceBNe, Int.reduceLT, Int.reduceLE, Nat.reduceAdd, Nat.reducePow, Nat.reduceEqDiff, Nat.reduceLT, Nat.reduceLeDiff, Nat.reduceMul, Nat.reduceSub, t3, t6, t7, t8, dec_ge' hil]
      rcases hR.1.2 with ⟨-, rfl, -⟩ | ⟨k, rfl, -⟩
      · rw [freezeV, freezeW, hf]
        · rfl
        · intro cs h; cases h
        · intro cs h; cases h
      · rw [freezeV, freezeW, hf]
        · rfl
        · intro cs h; cases h
        · intro cs h; cases h
  all_goals first | rfl | (simp only [go_sem, ↓reduceIte, Int.reduceEq, Nat.reduceBEq, Int.reduceBEq, Int.reduceBNe, Int.reduceLT, Int.reduceLE, Nat.reduceAdd, Nat.reducePow, Nat.reduceEqDiff, Nat.reduceLT, Nat.reduceLeDiff, Nat.reduceMul, Nat.reduceSub]; done) | (simp only [go_sem, ↓reduceIte, Int.reduceEq, Nat.reduceBEq, Int.reduceBEq, Int.reduceBNe, Int.reduceLT, Int.reduceLE, Nat.reduceAdd, Nat.reducePow, Nat.reduceEqDiff, Nat.reduceLT, Nat.reduceLeDiff, Nat.reduceMul, Nat.reduceSub]; rfl)
end Go.Am

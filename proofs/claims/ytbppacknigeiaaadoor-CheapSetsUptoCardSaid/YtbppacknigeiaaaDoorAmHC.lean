/- Part HC of a proof that runs a program's calls on a small machine whose values bear no addresses: no conditions. -/
import Derived.Test.YtbppacknigeiaaaDoorAmHA
set_option autoImplicit false
set_option linter.unusedSimpArgs false
set_option linter.unusedVariables false
set_option linter.unusedSectionVars false
namespace Go.Am
open Go Go.Proofs
variable {fz : Nat → Md}
def followV (g : Gr) : D := if checkP g = 0 then setsD (fwG g).1 else .slc true []
set_option maxHeartbeats 8000000 in
theorem follow_c (h15 : fz 15 = .ice) (h42 : fz 42 = .cut) (h79 : fz 79 = .keep) (h99 : fz 99 = .keep) (h37 : fz 37 = .keep) (h69 : fz 69 = .cut) (h38 : fz 38 = .ice) (h70 : fz 70 = .ice) (htz : ∀ (k : Nat) (σ : St), k < 2 ^ 64 → CallsTo (XX fz) (.func 94 []) [.d (.int .u64 (k : Int))] σ (.d (.int .i64 (Lib.ctz 64 k : Int))) σ [])
    (hnull : ∀ (g : Gr) (σ : St), SmallG g → CallsTo (XX fz) (.func 28 []) [g.a] σ (.tup [.d (nullD g), .d (.int .i64 (checkP g))]) σ []) (g : Gr) (hg : SmallG g) (σ : St) :
    CallsTo (XX fz) (.func 15 []) [g.a] σ (.tup [.d (followV g), .d (.int .i64 (checkP g))]) σ [] := by
  refine CallsTo.ice0 h15 fn15 (by simp) ?_
  simp only [Tryd.f15, Option.getD_some]
  simp only [go_sem, ↓reduceIte, Int.reduceEq, Nat.reduceBEq, Int.reduceBEq, Int.reduceBNe, Int.reduceLT, Int.reduceLE, Nat.reduceAdd, Nat.reducePow, Nat.reduceEqDiff, Nat.reduceLT, Nat.reduceLeDiff, Nat.reduceMul, Nat.reduceSub, Gr.a]
  obtain ⟨a, τ0, T, hc, hN, hP⟩ := made_c h37 h69 hnull g hg (σ.push (.cells g.c))
  refine ⟨_, _, _, hc, ?_⟩
  have hNn := hN.n
  simp only [St.n_push] at hNn
  have lz : low σ.n T = [] := low_all fun k hk => by have := hN.w k hk; simp only [St.n_push] at this; omega
  unfold followV
  cases hcc : (checkP g != 0) with
  | true =>
    have hc0 : ¬ checkP g = 0 := by simpa using hcc
    rw [if_pos hcc] at hP; subst hP
    rw [if_neg hc0]
    simp only [go_sem, ↓reduceIte, Int.reduceEq, Nat.reduceBEq, Int.reduceBEq, Int.reduceBNe, Int.reduceLT, Int.reduceLE, Nat.reduceAdd, Nat.reducePow, Nat.reduceEqDiff, Nat.reduceLT, Nat.reduceLeDiff, Nat.reduceMul, Nat.reduceSub, hcc, lz]
  | false =>
    have hc0 : checkP g = 0 := by simpa using hcc
    rw [if_neg (by rw [hcc]; simp)] at hP
    obtain ⟨ks, k1, k2, k3, rfl, hM, z0, z1, z2, z3, d1, d2, d3, d4, d5, d6⟩ := hP
    simp only [St.n_push] at z0 z1 z2 z3
    have h := GOk.of hc0
    have hle := h.le
    have hpos := h.pos
    have hbl : g.bodies.length = g.rules.length := by rw [Gr.bodies, List.length_map]
    have hF := (frG_ok h).1.lt
    have hd : Apart ks k1 k2 k3 := ⟨d6, d3, d4, d1, d5, d2⟩
    rw [if_pos hc0]
    have ix0 : ∀ ρ : St, ∀ cs : List A, indexR ρ 1 k3 0 g.rules.length 1 0 (.cells cs) = .val (.ptr k3 0) ρ [] [k3] := fun ρ cs => indexR_nat (σ := ρ) (k := k3) (off := 0) (s := 1) (cs := cs) (i := 0) hpos
    have hbl0 : 0 < (bA (List.replicate g.rules.length false)).length := by rw [bA_len, List.length_replicate]; exact hpos
    have lz3 : low σ.n [k3] = [] := by rw [low_cons_ge (by omega)]; rfl
    have hgc : τ0.get σ.n = .cells g.c := by rw [hN.same σ.n (by rw [St.n_push]; omega), St.get_push_eq]
    have hst : (if 1 ≤ (bA (List.replicate g.rules.length false)).length then some (A.d (D.bool true) :: List.drop 1 (bA (List.replicate g.rules.length false))) else none) = some (bA ((List.replicate g.rules.length false).set 0 true)) := by
      rw [if_pos (by omega), ← bA_set]
      cases hq : bA (List.replicate g.rules.length false) with
      | nil => rw [hq] at hbl0; simp at hbl0
      | cons a l => rfl
    simp only [go_sem, ↓reduceIte, Int.reduceEq, Nat.reduceBEq, Int.reduceBEq, Int.reduceBNe, Int.reduceLT, Int.reduceLE, Nat.reduceAdd, Nat.reducePow, Nat.reduceEqDiff, Nat.reduceLT, Nat.reduceLeDiff, Nat.reduceMul, Nat.reduceSub, hM.s, hM.r, lz, hc0, ix0]
    rw [hst]
    simp only [go_sem, ↓reduceIte, Int.reduceEq, Nat.reduceBEq, Int.reduceBEq, Int.reduceBNe, Int.reduceLT, Int.reduceLE, Nat.reduceAdd, Nat.reducePow, Nat.reduceEqDiff, Nat.reduceLT, Nat.reduceLeDiff, Nat.reduceMul, Nat.reduceSub, lz3]
    generalize hτ1 : τ0.set k3 (.cells (bA ((List.replicate g.rules.length false).set 0 true))) = τ1
    have n1 : τ1.n = τ0.n := by rw [← hτ1, St.n_set]
    have o1 : ∀ k, k ≠ k3 → τ1.get k = τ0.get k := fun k hk => by rw [← hτ1, St.get_set_ne hk]
    have r1 : τ1.get k3 = .cells (bA ((List.replicate g.rules.length false).set 0 true)) := by rw [← hτ1, St.get_set_eq]
    clear hτ1
    have hM1 : SM g g.null ks k1 k2 k3 (frG g) (fw0 g.bodies.length).1 (fw0 g.bodies.length).2 τ1 := by
      rw [hbl]
      exact ⟨(o1 _ d4).trans hM.s, (o1 _ d5).trans hM.f, (o1 _ d2).trans hM.h, r1, hM.fl, hM.hl, by simp [fw0], hM.nl, by rw [n1]; exact hM.ls, by rw [n1]; exact hM.l1, by rw [n1]; exact hM.l2, by rw [n1]; exact hM.l3⟩
    have hs1 := fw0_I g.bodies.length
    rw [hbl] at hs1
    have hgc1 := (o1 σ.n (by omega)).trans hgc
    have hm0 := fw0_M g.bodies.length
    obtain ⟨w1, w2, w3, w4⟩ := fwG_ok h
    refine Ev.loop_ind (fun m tm τ W => ∃ s : HR, m = hrM s ∧ W = [] ∧ σ.n + 1 ≤ τ.n ∧ τ.get σ.n = .cells g.c ∧ SM g g.null ks k1 k2 k3 (frG g) s.1 s.2 τ ∧ HrI g.rules.length s ∧ fwRun (frG g) g.null g.bodies (hrM s) s = fwG g ∧
      tm.at 1 = .ptr σ.n 0 ∧ tm.at 4 = .ptr ks 0) ?_ (hrM (fw0 g.bodies.length)) _ _ _ ⟨fw0 g.bodies.length, rfl, rfl, by omega, hgc1, hM1, by rw [hbl]; exact hs1, ?_, ?_, ?_⟩
    · clear hM1 hs1 hgc1 hm0 o1 r1 n1
      rintro k tm τ W ⟨s, rfl, rfl, hn, g0, hM1, hI, hrun, t1, t4⟩ ih
      simp only [go_sem, ↓reduceIte, Int.reduceEq, Nat.reduceBEq, Int.reduceBEq, Int.reduceBNe, Int.reduceLT, Int.reduceLE, Nat.reduceAdd, Nat.reducePow, Nat.reduceEqDiff, Nat.reduceLT, Nat.reduceLeDiff, Nat.reduceMul, Nat.reduceSub, t1, t4, g0]
      refine Ev.loop_ind (fun m tm τ W => ∃ (i : Nat), m = g.rules.length - i ∧ i ≤ g.rules.length ∧ W = [] ∧ σ.n + 1 ≤ τ.n ∧ τ.get σ.n = .cells g.c ∧ SM g g.null ks k1 k2 k3 (frG g) s.1 s.2 τ ∧ fwAt (frG g) g.null s i (g.bodies.drop i) = fwAt (frG g) g.null s 0 g.bodies ∧
        tm.at 1 = .ptr σ.n 0 ∧ tm.at 4 = .ptr ks 0 ∧ tm.at 22 = g.rd ∧ tm.at 23 = .d (.int .i64 (g.rules.length : Int)) ∧ tm.at 24 = .d (.int .i64 i)) ?_ g.rules.length _ _ _ ⟨0, rfl, by omega, rfl, hn, g0, hM1, rfl, by simp only [go_sem, ↓reduceIte, Int.reduceEq, Nat.reduceBEq, Int.reduceBEq, Int.reduceBNe, Int.reduceLT, Int.reduceLE, Nat.reduceAdd, Nat.reducePow, Nat.reduceEqDiff, Nat.reduceLT, Nat.reduceLeDiff, Nat.reduceMul, Nat.reduceSub, t1], by simp only [go_sem, ↓reduceIte, Int.reduceEq, Nat.reduceBEq, Int.reduceBEq, Int.reduceBNe, Int.reduceLT, Int.reduceLE, Nat.reduceAdd, Nat.reducePow, Nat.reduceEqDiff, Nat.reduceLT, Nat.reduceLeDiff, Nat.reduceMul, Nat.reduceSub, t4], by simp only [go_sem, ↓reduceIte, Int.reduceEq, Nat.reduceBEq, Int.reduceBEq, Int.reduceBNe, Int.reduceLT, Int.reduceLE, Nat.reduceAdd, Nat.reducePow, Nat.reduceEqDiff, Nat.reduceLT, Nat.reduceLeDiff, Nat.reduceMul, Nat.reduceSub], by simp only [go_sem, ↓reduceIte, Int.reduceEq, Nat.reduceBEq, Int.reduceBEq, Int.reduceBNe, Int.reduceLT, Int.reduceLE, Nat.reduceAdd, Nat.reducePow, Nat.reduceEqDiff, Nat.reduceLT, Nat.reduceLeDiff, Nat.reduceMul, Nat.reduceSub], by simp only [go_sem, ↓reduceIte, Int.reduceEq, Nat.reduceBEq, Int.reduceBEq, Int.reduceBNe, Int.reduceLT, Int.reduceLE, Nat.reduceAdd, Nat.reducePow, Nat.reduceEqDiff, Nat.reduceLT, Nat.reduceLeDiff, Nat.reduceMul, Nat.reduceSub]; rfl⟩
      clear hn g0 hM1 t1 t4
      rintro m tm τ W ⟨i, rfl, hi, rfl, hn, g0, hM1, he, t1, t4, t22, t23, t24⟩ ih2
      by_cases hl : i < g.rules.length
      · have hget : g.rules[i]? = some g.rules[i] := by simp [hl]
        have hmem : g.rules[i] ∈ g.rules := List.getElem_mem hl
        have hbx : g.bodies[i]? = some g.rules[i].body := by rw [Gr.bodies, List.getElem?_map, hget]; rfl
        have hd1 : g.bodies.drop i = g.rules[i].body :: g.bodies.drop (i + 1) := by
          rw [List.drop_eq_getElem_cons (by rw [hbl]; exact hl)]; simp [Gr.bodies]
        have hox : okE g.tokens g.rules.length g.rules[i].body := by rw [← hbl]; exact h.ok _ (List.mem_of_getElem? hbx)
        rw [hd1, fwAt] at he
        have hls := hM1.ls
        have hl1 := hM1.l1
        have hl2 := hM1.l2
        have hl3 := hM1.l3
        have u0 : σ.n ≠ τ.n := by omega
        have us : ks ≠ τ.n := by omega
        have u2 : k2 ≠ τ.n := by omega
        have u3 : k3 ≠ τ.n := by omega
        have ix := fun (ρ : St) (cs : List A) (k : Nat) => indexR_nat (σ := ρ) (k := k) (off := 0) (s := 1) (cs := cs) hl
        simp only [Nat.zero_add, Nat.mul_one] at ix
        have cg := ubA_get (l := s.1) (i := i) (by rw [hM1.hl]; exact hl)
        have cb := bA_get (l := s.2) (i := i) (by rw [hM1.rl]; exact hl)
        have hw1 := wrap_succ' hl (show g.rules.length < 1000000000 by omega)
        cases hR : s.2.getD i false with
        | false =>
          rw [hR] at cb
          rw [hR, if_neg (by simp)] at he
          simp only [go_sem, ↓reduceIte, Int.reduceEq, Nat.reduceBEq, Int.reduceBEq, Int.reduceBNe, Int.reduceLT, Int.reduceLE, Nat.reduceAdd, Nat.reducePow, Nat.reduceEqDiff, Nat.reduceLT, Nat.reduceLeDiff, Nat.reduceMul, Nat.reduceSub, t1, t4, t22, t23, t24, dec_lt' hl, Gr.index_rd hget, hM1.s, hM1.r, hM1.h, ix, cg, cb, u0, us, u2, u3, Ne.symm u0, Ne.symm us]
          refine ⟨drawOk_rel [18] [] rfl (by kernel_rfl) rfl (by simp), ?_⟩
          have lz1 : low σ.n [τ.n] = [] := by rw [low_cons_ge (by omega)]; rfl
          have o3 : ∀ (b1 b2 : Blk), ∀ j, j < τ.n → ((τ.push b1).set τ.n b2).get j = τ.get j := fun b1 b2 j hj => by rw [St.get_set_ne (by omega), St.get_push_ne hj]
          simp only [go_sem, ↓reduceIte, Int.reduceEq, Nat.reduceBEq, Int.reduceBEq, Int.reduceBNe, Int.reduceLT, Int.reduceLE, Nat.reduceAdd, Nat.reducePow, Nat.reduceEqDiff, Nat.reduceLT, Nat.reduceLeDiff, Nat.reduceMul, Nat.reduceSub, t1, t4, t22, t23, t24, hw1, lz1]
          refine ih2 _ _ _ _ (by omega) ⟨i + 1, rfl, hl, rfl, by simp only [St.n_set, St.n_push]; omega, by rw [o3 _ _ _ (by omega)]; exact g0, hM1.stay (by simp only [St.n_set, St.n_push]; omega) (fun j hj => o3 _ _ j hj), he, ?_, ?_, ?_, ?_, ?_⟩
          all_goals (simp only [go_sem, ↓reduceIte, Int.reduceEq, Nat.reduceBEq, Int.reduceBEq, Int.reduceBNe, Int.reduceLT, Int.reduceLE, Nat.reduceAdd, Nat.reducePow, Nat.reduceEqDiff, Nat.reduceLT, Nat.reduceLeDiff, Nat.reduceMul, Nat.reduceSub, t1, t4, t22, t23])
        | true =>
          rw [hR] at cb
          simp only [go_sem, ↓reduceIte, Int.reduceEq, Nat.reduceBEq, Int.reduceBEq, Int.reduceBNe, Int.reduceLT, Int.reduceLE, Nat.reduceAdd, Nat.reducePow, Nat.reduceEqDiff, Nat.reduceLT, Nat.reduceLeDiff, Nat.reduceMul, Nat.reduceSub, t1, t4, t22, t23, t24, dec_lt' hl, Gr.index_rd hget, hM1.s, hM1.r, hM1.h, ix, cg, cb, u0, us, u2, u3, Ne.symm u0, Ne.symm us]
          have lz1 : low σ.n [τ.n] = [] := by rw [low_cons_ge (by omega)]; rfl
          generalize hτ2 : ((τ.push (Blk.cells [A.d (D.str { data := { toList := [] } }), A.d (D.int IntKind.i64 0), A.d (D.int IntKind.i64 0), A.d (D.slc true [])])).set τ.n (Blk.cells g.rules[i].c)) = τ2
          have n2 : τ2.n = τ.n + 1 := by rw [← hτ2]; simp only [St.n_set, St.n_push]
          have o2 : ∀ j, j < τ.n → τ2.get j = τ.get j := fun j hj => by rw [← hτ2, St.get_set_ne (by omega), St.get_push_ne hj]
          clear hτ2
          have hM2 := hM1.stay (τ := τ2) (by omega) o2
          obtain ⟨ρ, T, hc, rn, rM, rw', rsm⟩ := behind_c h42 h69 h79 h99 hF h.tok hd g.rules[i].body (hg _ hmem) hox (s.1.getD i 0) s τ2 (hI.lt i) hI hM2
          have hho := bhE_ok (nl := g.null) hF h.tok g.rules[i].body (s.1.getD i 0) s hox (hI.lt i) hI
          have lzT : low σ.n T = [] := low_all fun k hk => by rcases rw' k hk with q | q <;> omega
          have g1 : ρ.get σ.n = .cells g.c := by
            rw [rM.same _ (by omega) fun q => by rcases rw' _ q with q | q <;> omega, o2 _ (by omega)]; exact g0
          refine ⟨_, _, _, hc, drawOk_rel [18] [] rfl (by kernel_rfl) rfl (by simp), ?_⟩
          cases hf : (bhE (frG g) g.null g.rules[i].body (s.1.getD i 0) s).2 with
          | true =>
            rw [if_pos ⟨hR, hf⟩] at he
            have hg2 := hho.less hf
            simp only [go_sem, ↓reduceIte, Int.reduceEq, Nat.reduceBEq, Int.reduceBEq, Int.reduceBNe, Int.reduceLT, Int.reduceLE, Nat.reduceAdd, Nat.reducePow, Nat.reduceEqDiff, Nat.reduceLT, Nat.reduceLeDiff, Nat.reduceMul, Nat.reduceSub, t1, t4, lz1, lzT]
            refine ih _ _ _ _ hg2 ⟨_, rfl, rfl, by omega, g1, rsm, hho.i, ?_, ?_, ?_⟩
            · obtain ⟨m, hm⟩ : ∃ m, hrM s = m + 1 := ⟨hrM s - 1, by omega⟩
              rw [hm, fwRun, ← he] at hrun
              rw [← hrun]
              exact ((fwRun_ok (nl := g.null) hF h.tok (n := g.rules.length) (by rw [← hbl]; exact h.ok) _ _ hho.i (Nat.le_refl _)).2.2.2.2 m (by omega)).symm
            all_goals (simp only [go_sem, ↓reduceIte, Int.reduceEq, Nat.reduceBEq, Int.reduceBEq, Int.reduceBNe, Int.reduceLT, Int.reduceLE, Nat.reduceAdd, Nat.reducePow, Nat.reduceEqDiff, Nat.reduceLT, Nat.reduceLeDiff, Nat.reduceMul, Nat.reduceSub, t1, t4])
          | false =>
            rw [if_neg (by rw [hf]; simp)] at he
            have hsame := hho.same hf
            rw [hsame] at rsm
            simp only [go_sem, ↓reduceIte, Int.reduceEq, Nat.reduceBEq, Int.reduceBEq, Int.reduceBNe, Int.reduceLT, Int.reduceLE, Nat.reduceAdd, Nat.reducePow, Nat.reduceEqDiff, Nat.reduceLT, Nat.reduceLeDiff, Nat.reduceMul, Nat.reduceSub, t1, t4, t22, t23, t24, lz1, lzT, hw1]
            refine ih2 _ _ _ _ (by omega) ⟨i + 1, rfl, hl, rfl, by omega, g1, rsm, he, ?_, ?_, ?_, ?_, ?_⟩
            all_goals (simp only [go_sem, ↓reduceIte, Int.reduceEq, Nat.reduceBEq, Int.reduceBEq, Int.reduceBNe, Int.reduceLT, Int.reduceLE, Nat.reduceAdd, Nat.reducePow, Nat.reduceEqDiff, Nat.reduceLT, Nat.reduceLeDiff, Nat.reduceMul, Nat.reduceSub, t1, t4, t22, t23])
      · have hin : i = g.rules.length := by omega
        rw [hin, List.drop_eq_nil_of_le (by omega), fwAt] at he
        have hF2 : s = fwG g := by
          rw [← hrun]
          cases hm : hrM s with
          | zero => rfl
          | succ m => rw [fwRun, ← he]
        simp only [go_sem, ↓reduceIte, Int.reduceEq, Nat.reduceBEq, Int.reduceBEq, Int.reduceBNe, Int.reduceLT, Int.reduceLE, Nat.reduceAdd, Nat.reducePow, Nat.reduceEqDiff, Nat.reduceLT, Nat.reduceLeDiff, Nat.reduceMul, Nat.reduceSub, t1, t4, t22, t23, t24, dec_ge' hl, hM1.s]
        have hll := lists_c h38 h70 htz s.1 hI.lt (by rw [hI.hl]; omega) τ hM1.h hM1.l2
        rw [hI.hl] at hll
        refine ⟨_, _, _, hll, ?_⟩
        simp only [go_sem, ↓reduceIte, Int.reduceEq, Nat.reduceBEq, Int.reduceBEq, Int.reduceBNe, Int.reduceLT, Int.reduceLE, Nat.reduceAdd, Nat.reducePow, Nat.reduceEqDiff, Nat.reduceLT, Nat.reduceLeDiff, Nat.reduceMul, Nat.reduceSub, hF2]
    · exact w4 _ (Nat.le_refl _)
    all_goals (simp only [go_sem, ↓reduceIte, Int.reduceEq, Nat.reduceBEq, Int.reduceBEq, Int.reduceBNe, Int.reduceLT, Int.reduceLE, Nat.reduceAdd, Nat.reducePow, Nat.reduceEqDiff, Nat.reduceLT, Nat.reduceLeDiff, Nat.reduceMul, Nat.reduceSub])
end Go.Am

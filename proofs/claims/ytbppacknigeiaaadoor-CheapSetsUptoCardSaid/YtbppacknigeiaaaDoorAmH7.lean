/- Part H7 of a proof that runs a program's calls on a small machine whose values bear no addresses: no conditions. -/
import Derived.Test.YtbppacknigeiaaaDoorAmH6
set_option autoImplicit false
set_option linter.unusedSimpArgs false
set_option linter.unusedVariables false
set_option linter.unusedSectionVars false
namespace Go.Am
open Go Go.Proofs
variable {fz : Nat → Md}
def firstV (g : Gr) : D := if checkP g = 0 then setsD (frG g) else .slc true []
theorem frG_len {g : Gr} (h : GOk g) : (frG g).length = g.rules.length := by
  rw [(frG_ok h).1.l, Gr.bodies, List.length_map]
set_option maxHeartbeats 4000000 in
theorem first_c (h13 : fz 13 = .ice) (h37 : fz 37 = .keep) (h69 : fz 69 = .cut) (h38 : fz 38 = .ice) (h70 : fz 70 = .ice) (htz : ∀ (k : Nat) (σ : St), k < 2 ^ 64 → CallsTo (XX fz) (.func 94 []) [.d (.int .u64 (k : Int))] σ (.d (.int .i64 (Lib.ctz 64 k : Int))) σ [])
    (hnull : ∀ (g : Gr) (σ : St), SmallG g → CallsTo (XX fz) (.func 28 []) [g.a] σ (.tup [.d (nullD g), .d (.int .i64 (checkP g))]) σ []) (g : Gr) (hg : SmallG g) (σ : St) :
    CallsTo (XX fz) (.func 13 []) [g.a] σ (.tup [.d (firstV g), .d (.int .i64 (checkP g))]) σ [] := by
  refine CallsTo.ice0 h13 fn13 (by simp) ?_
  simp only [Tryd.f13, Option.getD_some]
  simp only [go_sem, ↓reduceIte, Int.reduceEq, Nat.reduceBEq, Int.reduceBEq, Int.reduceBNe, Int.reduceLT, Int.reduceLE, Nat.reduceAdd, Nat.reducePow, Nat.reduceEqDiff, Nat.reduceLT, Nat.reduceLeDiff, Nat.reduceMul, Nat.reduceSub, Gr.a]
  obtain ⟨a, τ, T, hc, hN, hP⟩ := made_c h37 h69 hnull g hg (σ.push (.cells g.c))
  refine ⟨_, _, _, hc, ?_⟩
  have hNn := hN.n
  simp only [St.n_push] at hNn
  have lz : low σ.n T = [] := low_all fun k hk => by have := hN.w k hk; simp only [St.n_push] at this; omega
  unfold firstV
  cases hcc : (checkP g != 0) with
  | true =>
    have hc0 : ¬ checkP g = 0 := by simpa using hcc
    rw [if_pos hcc] at hP; subst hP
    rw [if_neg hc0]
    simp only [go_sem, ↓reduceIte, Int.reduceEq, Nat.reduceBEq, Int.reduceBEq, Int.reduceBNe, Int.reduceLT, Int.reduceLE, Nat.reduceAdd, Nat.reducePow, Nat.reduceEqDiff, Nat.reduceLT, Nat.reduceLeDiff, Nat.reduceMul, Nat.reduceSub, hcc, lz]
  | false =>
    have hc0 : checkP g = 0 := by simpa using hcc
    rw [if_neg (by rw [hcc]; simp)] at hP
    obtain ⟨ks, k1, k2, k3, rfl, hM, -⟩ := hP
    have h := GOk.of hc0
    have hle := h.le
    rw [if_pos hc0]
    simp only [go_sem, ↓reduceIte, Int.reduceEq, Nat.reduceBEq, Int.reduceBEq, Int.reduceBNe, Int.reduceLT, Int.reduceLE, Nat.reduceAdd, Nat.reducePow, Nat.reduceEqDiff, Nat.reduceLT, Nat.reduceLeDiff, Nat.reduceMul, Nat.reduceSub, hM.s, lz]
    have hl := lists_c h38 h70 htz (frG g) (frG_ok h).1.lt (by rw [frG_len h]; omega) τ hM.f hM.l1
    rw [hM.fl] at hl
    refine ⟨_, _, _, hl, ?_⟩
    simp only [go_sem, ↓reduceIte, Int.reduceEq, Nat.reduceBEq, Int.reduceBEq, Int.reduceBNe, Int.reduceLT, Int.reduceLE, Nat.reduceAdd, Nat.reducePow, Nat.reduceEqDiff, Nat.reduceLT, Nat.reduceLeDiff, Nat.reduceMul, Nat.reduceSub, hc0]
end Go.Am
namespace Go.Am
open Go Go.Proofs
variable {fz : Nat → Md}
def BhC (fz : Nat → Md) (g : Gr) (nl : List Bool) (ks k1 k2 k3 : Nat) (F : List Nat) (x : Ex) : Prop := ∀ (b : Nat) (s : HR) (σ : St), b < 2 ^ 64 → HrI g.rules.length s → SM g nl ks k1 k2 k3 F s.1 s.2 σ →
  ∃ σ' T, CallsTo (XX fz) (.func 42 []) [.ptr ks 0, x.a, .d (.int .u64 (b : Int))] σ (.d (.bool (bhE F nl x b s).2)) σ' T ∧ σ'.n = σ.n ∧ Mod σ σ' T ∧ (∀ k ∈ T, k = k2 ∨ k = k3) ∧ SM g nl ks k1 k2 k3 F (bhE F nl x b s).1.1 (bhE F nl x b s).1.2 σ'
theorem SM.back {g : Gr} {nl : List Bool} {ks k1 k2 k3 : Nat} {F H H' : List Nat} {R R' : List Bool} {σ σ' σ1 : St} (h : SM g nl ks k1 k2 k3 F H R σ) (h1 : SM g nl ks k1 k2 k3 F H' R' σ1) (hn : σ'.n = σ.n) (hg : ∀ k, k < σ.n → σ'.get k = σ1.get k) : SM g nl ks k1 k2 k3 F H' R' σ' :=
  ⟨(hg _ h.ls).trans h1.s, (hg _ h.l1).trans h1.f, (hg _ h.l2).trans h1.h, (hg _ h.l3).trans h1.r, h1.fl, h1.hl, h1.rl, h1.nl, by rw [hn]; exact h.ls, by rw [hn]; exact h.l1, by rw [hn]; exact h.l2, by rw [hn]; exact h.l3⟩
theorem ubA_under (H : List Nat) (m : Nat) : (Blk.cells (ubA H)).under m = true := by
  simp only [Blk.under, ubA]; induction H <;> simp_all [A.underL, A.under, ub]
theorem bA_underN (R : List Bool) (m : Nat) : (Blk.cells (bA R)).under m = true := by
  simp only [Blk.under, bA]; induction R <;> simp_all [A.underL, A.under]
structure Apart (ks k1 k2 k3 : Nat) : Prop where
  a : ks ≠ k1
  b : ks ≠ k2
  c : ks ≠ k3
  d : k1 ≠ k2
  e : k1 ≠ k3
  f : k2 ≠ k3
structure BhK (g : Gr) (nl : List Bool) (ks k1 k2 k3 : Nat) (F : List Nat) (r : HR × Bool) (σ : St) (a : A) (σ1 : St) (W : List Nat) : Prop where
  eq : a = .d (.bool r.2)
  m : Mod σ σ1 W
  w : ∀ k ∈ W, k = k2 ∨ k = k3
  sm : SM g nl ks k1 k2 k3 F r.1.1 r.1.2 σ1
theorem bh_of (h42 : fz 42 = .cut) {g : Gr} {nl : List Bool} {ks k1 k2 k3 : Nat} {F : List Nat} {x : Ex} {b : Nat} {s : HR} {σ : St} (hm : SM g nl ks k1 k2 k3 F s.1 s.2 σ)
    (e : Ev (XX fz) 42 128 none σ.n [.code (Tryd.f42.body.getD .skip)] (initTm [.ptr ks 0, x.a, .d (.int .u64 (b : Int))] 0 .nil) σ [] (RetQ (XX fz) [.cell 6 4] (BhK g nl ks k1 k2 k3 F (bhE F nl x b s) σ))) :
    ∃ σ' T, CallsTo (XX fz) (.func 42 []) [.ptr ks 0, x.a, .d (.int .u64 (b : Int))] σ (.d (.bool (bhE F nl x b s).2)) σ' T ∧ σ'.n = σ.n ∧ Mod σ σ' T ∧ (∀ k ∈ T, k = k2 ∨ k = k3) ∧ SM g nl ks k1 k2 k3 F (bhE F nl x b s).1.1 (bhE F nl x b s).1.2 σ' := by
  obtain ⟨σ', W, σ1, h1, h2, h3, h4, h5, h6⟩ := CallsTo.cutM (X := XX fz) (f := 42) (cap := []) (args := [.ptr ks 0, x.a, .d (.int .u64 (b : Int))]) (r := .d (.bool (bhE F nl x b s).2)) (σ := σ)
    (P := fun σ1 W => BhK g nl ks k1 k2 k3 F (bhE F nl x b s) σ (.d (.bool (bhE F nl x b s).2)) σ1 W) h42 fn42 (by simp) rfl (by
      obtain ⟨n, o, hn, hq⟩ := e
      refine ⟨n, o, hn, ?_⟩
      cases o with
      | leave _ _ _ => exact hq.elim
      | ret tm σ1 W1 =>
        unfold RetQ at hq ⊢
        dsimp only at hq ⊢
        split at hq
        · obtain ⟨eq, m, w, sm⟩ := hq
          refine ⟨eq, m, fun k hk => ?_, ⟨rfl, m, w, sm⟩⟩
          rcases w k hk with rfl | rfl
          · rw [sm.h]; exact ubA_under _ _
          · rw [sm.r]; exact bA_underN _ _
        · exact hq.elim)
  exact ⟨σ', W, h1, h3, h2, h6.w, hm.back h6.sm h3 h4⟩
theorem bh_fin {g : Gr} {nl : List Bool} {ks k1 k2 k3 : Nat} {F : List Nat} {s s' : HR} {σ τ : St} (hd : Apart ks k1 k2 k3) (hm : SM g nl ks k1 k2 k3 F s.1 s.2 σ) (hs : HrI g.rules.length s') (hn : σ.n ≤ τ.n) (g2 : τ.get k2 = .cells (ubA s'.1)) (g3 : τ.get k3 = .cells (bA s'.2)) (hg : ∀ k, k < σ.n → k ≠ k2 → k ≠ k3 → τ.get k = σ.get k) : SM g nl ks k1 k2 k3 F s'.1 s'.2 τ :=
  ⟨(hg _ hm.ls hd.b hd.c).trans hm.s, (hg _ hm.l1 hd.d hd.e).trans hm.f, g2, g3, hm.fl, hs.hl, hs.rl, hm.nl, Nat.lt_of_lt_of_le hm.ls hn, Nat.lt_of_lt_of_le hm.l1 hn, Nat.lt_of_lt_of_le hm.l2 hn, Nat.lt_of_lt_of_le hm.l3 hn⟩
set_option maxHeartbeats 8000000 in
theorem behind_call (h42 : fz 42 = .cut) {g : Gr} {nl : List Bool} {ks k1 k2 k3 : Nat} {F : List Nat} (hd : Apart ks k1 k2 k3) (x : Ex) (ho : okE g.tokens g.rules.length x) (kx : x.kind = 2) : BhC fz g nl ks k1 k2 k3 F x := by
  intro b s σ hb hs hm
  refine bh_of h42 hm ?_
  have hls := hm.ls
  have hl1 := hm.l1
  have hl2 := hm.l2
  have hl3 := hm.l3
  obtain ⟨a1, a2, a3, a4, a5, a6⟩ := id hd
  obtain ⟨c1, c2⟩ := ho.call kx
  obtain ⟨n, hn⟩ := Int.eq_ofNat_of_zero_le c1
  have hlt : n < g.rules.length := by omega
  have e2 : (x.kind == 2) = true := by simpa using kx
  have hlt2 := hs.lt n
  have how := or_w hlt2 hb
  have ix := fun (ρ : St) (cs : List A) (k : Nat) => indexR_nat (σ := ρ) (k := k) (off := 0) (s := 1) (cs := cs) hlt
  simp only [Nat.zero_add, Nat.mul_one] at ix
  have cg := ubA_get (l := s.1) (i := n) (by rw [hm.hl]; exact hlt)
  have cb := bA_get (l := s.2) (i := n) (by rw [hm.rl]; exact hlt)
  have m1 : ks ≠ σ.n := by omega
  have m2 : ks ≠ σ.n + 1 := by omega
  have m3 : ks ≠ σ.n + 2 := by omega
  have m4 : ks ≠ σ.n + 3 := by omega
  have q1 : k2 ≠ σ.n := by omega
  have q2 : k2 ≠ σ.n + 1 := by omega
  have q3 : k2 ≠ σ.n + 2 := by omega
  have q4 : k2 ≠ σ.n + 3 := by omega
  have r1 : k3 ≠ σ.n := by omega
  have r2 : k3 ≠ σ.n + 1 := by omega
  have r3 : k3 ≠ σ.n + 2 := by omega
  have r4 : k3 ≠ σ.n + 3 := by omega
  have hbl : n < (bA s.2).length := by rw [bA_len, hm.rl]; exact hlt
  have hul : n < (ubA s.1).length := by rw [ubA_len, hm.hl]; exact hlt
  have e : bhE F nl x b s = ((s.1.set n (s.1.getD n 0 ||| b), s.2.set n true), !s.2.getD n false || ((s.1.getD n 0 ||| b) != s.1.getD n 0)) := by
    rw [bhE_eq, if_pos kx, hn, Int.toNat_natCast]
  have hI := (hr_call (s := s) (b := b) hb hs hlt).i
  generalize hK : BhK g nl ks k1 k2 k3 F (bhE F nl x b s) σ = K
  simp only [Tryd.f42, Option.getD_some]
  have fin : ∀ (fr : Bool) (τ : St) (v : Int), v = ((s.1.getD n 0 ||| b : Nat) : Int) → fr = (bhE F nl x b s).2 → τ = ((((((((σ.push (Blk.cells [A.ptr ks 0])).push (Blk.cells x.c)).push (Blk.cells [A.d (D.int IntKind.u64 b)])).push (Blk.cells [A.d (D.bool false)])).set (σ.n + 3) (Blk.cells [A.d (D.bool fr)])).set k3 (Blk.cells (bA (s.2.set n true)))).set k2 (Blk.cells ((ubA s.1).set n (A.d (D.int IntKind.u64 v))))).set (σ.n + 3) (Blk.cells [A.d (D.bool fr)])) →
      K (.d (.bool fr)) τ (low σ.n [k3] ++ low σ.n [k2]) := by
    rintro fr τ v rfl rfl hτ
    rw [← hK, low_cons_lt hl3, low_cons_lt hl2]
    rw [ubA_set] at hτ
    have tn : τ.n = σ.n + 4 := by rw [hτ]; simp only [St.n_set, St.n_push]
    have hg : ∀ k, k < σ.n → k ≠ k2 → k ≠ k3 → τ.get k = σ.get k := fun k hk h2 h3 => by
      rw [hτ, St.get_set_ne (by omega), St.get_set_ne h2, St.get_set_ne h3, St.get_set_ne (by omega), St.get_push_ne (by simp only [St.n_push]; omega), St.get_push_ne (by simp only [St.n_push]; omega), St.get_push_ne (by simp only [St.n_push]; omega), St.get_push_ne hk]
    refine ⟨rfl, ⟨by omega, fun k hk h2 => hg k hk (fun q => h2 (by simp [q])) (fun q => h2 (by simp [q])), fun k hk => ?_⟩, fun k hk => ?_, ?_⟩
    · simp [low] at hk; omega
    · simp [low] at hk; omega
    · rw [e]
      refine bh_fin hd hm hI (by omega) ?_ ?_ hg
      · rw [hτ, St.get_set_ne q4, St.get_set_eq]
      · rw [hτ, St.get_set_ne r4, St.get_set_ne (Ne.symm a6), St.get_set_eq]
  cases hR : s.2.getD n false with
  | true =>
    rw [hR] at cb
    simp only [go_sem, ↓reduceIte, Int.reduceEq, Nat.reduceBEq, Int.reduceBEq, Nat.reduceAdd, Nat.reduceEqDiff, Nat.reduceLT, Nat.reduceSub, Ex.a, e2, hn, m1, m2, m3, m4, q1, q2, q3, q4, r1, r2, r3, r4, a2, a3, a6, Ne.symm m1, Ne.symm m2, Ne.symm m3, Ne.symm m4, Ne.symm q1, Ne.symm q2, Ne.symm q3, Ne.symm q4, Ne.symm r1, Ne.symm r2, Ne.symm r3, Ne.symm r4, Ne.symm a2, Ne.symm a3, Ne.symm a6, hls, hl2, hl3, hm.s, hm.h, hm.r, ix, cg, cb, hbl, hul, bA_set]
    refine ⟨drawOk_rel [30] [] rfl (by kernel_rfl) rfl (by simp), drawOk_rel [7] [] rfl (by kernel_rfl) rfl (by simp), drawOk_rel [11] [] rfl (by kernel_rfl) rfl (by simp), ?_⟩
    refine fin _ _ _ how ?_ rfl
    rw [e, hR]
    show _ = (false || ((s.1.getD n 0 ||| b) != s.1.getD n 0))
    rw [Bool.false_or]
    refine (congrArg (fun v : Int => v != ((s.1.getD n 0 : Nat) : Int)) how).trans ?_
    rw [Bool.eq_iff_iff, bne_iff_ne, bne_iff_ne]
    exact ⟨fun h q => h (congrArg _ q), fun h q => h (Int.ofNat.inj q)⟩
  | false =>
    rw [hR] at cb
    simp only [go_sem, ↓reduceIte, Int.reduceEq, Nat.reduceBEq, Int.reduceBEq, Nat.reduceAdd, Nat.reduceEqDiff, Nat.reduceLT, Nat.reduceSub, Ex.a, e2, hn, m1, m2, m3, m4, q1, q2, q3, q4, r1, r2, r3, r4, a2, a3, a6, Ne.symm m1, Ne.symm m2, Ne.symm m3, Ne.symm m4, Ne.symm q1, Ne.symm q2, Ne.symm q3, Ne.symm q4, Ne.symm r1, Ne.symm r2, Ne.symm r3, Ne.symm r4, Ne.symm a2, Ne.symm a3, Ne.symm a6, hls, hl2, hl3, hm.s, hm.h, hm.r, ix, cg, cb, hbl, hul, bA_set]
    refine ⟨drawOk_rel [30] [] rfl (by kernel_rfl) rfl (by simp), drawOk_rel [7] [] rfl (by kernel_rfl) rfl (by simp), drawOk_rel [11] [] rfl (by kernel_rfl) rfl (by simp), ?_⟩
    exact fin _ _ _ how (by rw [e, hR]; rfl) rfl
end Go.Am

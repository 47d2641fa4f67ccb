/- Part C7 of a proof that runs a program's calls on a small machine whose values bear no addresses: no conditions. -/
import Derived.Test.YtbppacknigeiaaaDoorAmC4
set_option autoImplicit false
set_option linter.unusedSimpArgs false
set_option linter.unusedVariables false
set_option linter.unusedSectionVars false
namespace Go.Am
open Go Go.Proofs
variable {fz : Nat → Md}
structure WM (n : Nat) (nl : List Bool) (ks k1 k2 k3 : Nat) (F H : List Nat) (R : List Bool) (σ : St) : Prop where
  s : ∃ z, σ.get ks = .cells [.row k1 0 n 1, .d (.slc z (boolsD nl)), .row k2 0 n 1, .row k3 0 n 1]
  f : σ.get k1 = .cells (ubA F)
  h : σ.get k2 = .cells (ubA H)
  r : σ.get k3 = .cells (bA R)
  fl : F.length = n
  hl : H.length = n
  rl : R.length = n
  nl : nl.length = n
  ls : ks < σ.n
  l1 : k1 < σ.n
  l2 : k2 < σ.n
  l3 : k3 < σ.n
section
variable {n : Nat} {nl : List Bool} {ks k1 k2 k3 : Nat} {F H : List Nat} {R : List Bool} {σ τ : St}
theorem WM.stay (h : WM n nl ks k1 k2 k3 F H R σ) (hn : σ.n ≤ τ.n) (hg : ∀ k, k < σ.n → τ.get k = σ.get k) : WM n nl ks k1 k2 k3 F H R τ :=
  ⟨h.s.imp fun z q => (hg _ h.ls).trans q, (hg _ h.l1).trans h.f, (hg _ h.l2).trans h.h, (hg _ h.l3).trans h.r, h.fl, h.hl, h.rl, h.nl, Nat.lt_of_lt_of_le h.ls hn, Nat.lt_of_lt_of_le h.l1 hn, Nat.lt_of_lt_of_le h.l2 hn, Nat.lt_of_lt_of_le h.l3 hn⟩
theorem WM.back {H' : List Nat} {R' : List Bool} {σ' σ1 : St} (h : WM n nl ks k1 k2 k3 F H R σ) (h1 : WM n nl ks k1 k2 k3 F H' R' σ1) (hn : σ'.n = σ.n) (hg : ∀ k, k < σ.n → σ'.get k = σ1.get k) : WM n nl ks k1 k2 k3 F H' R' σ' :=
  ⟨h1.s.imp fun z q => (hg _ h.ls).trans q, (hg _ h.l1).trans h1.f, (hg _ h.l2).trans h1.h, (hg _ h.l3).trans h1.r, h1.fl, h1.hl, h1.rl, h1.nl, by rw [hn]; exact h.ls, by rw [hn]; exact h.l1, by rw [hn]; exact h.l2, by rw [hn]; exact h.l3⟩
end
def PtC (fz : Nat → Md) (n : Nat) (nl : List Bool) (ks k1 k2 k3 : Nat) (F : List Nat) (x : Ex) : Prop := ∀ (b : Nat) (s : HR) (σ : St), b < 2 ^ 64 → HrI n s → WM n nl ks k1 k2 k3 F s.1 s.2 σ →
  ∃ σ' T, CallsTo (XX fz) (.func 81 []) [.ptr ks 0, x.a, .d (.int .u64 (b : Int))] σ (.tup []) σ' T ∧ σ'.n = σ.n ∧ Mod σ σ' T ∧ (∀ k ∈ T, k = k2 ∨ k = k3) ∧ WM n nl ks k1 k2 k3 F (bhE F nl x b s).1.1 (bhE F nl x b s).1.2 σ'
structure PtK (n : Nat) (nl : List Bool) (ks k1 k2 k3 : Nat) (F : List Nat) (r : HR) (σ : St) (a : A) (σ1 : St) (W : List Nat) : Prop where
  eq : a = .tup []
  m : Mod σ σ1 W
  w : ∀ k ∈ W, k = k2 ∨ k = k3
  sm : WM n nl ks k1 k2 k3 F r.1 r.2 σ1
theorem pt_of (h81 : fz 81 = .cut) {n : Nat} {nl : List Bool} {ks k1 k2 k3 : Nat} {F : List Nat} {x : Ex} {b : Nat} {s : HR} {σ : St} (hm : WM n nl ks k1 k2 k3 F s.1 s.2 σ)
    (e : Ev (XX fz) 81 124 none σ.n [.code (Tryd.f81.body.getD .skip)] (initTm [.ptr ks 0, x.a, .d (.int .u64 (b : Int))] 0 .nil) σ [] (RetQ (XX fz) [] (PtK n nl ks k1 k2 k3 F (bhE F nl x b s).1 σ))) :
    ∃ σ' T, CallsTo (XX fz) (.func 81 []) [.ptr ks 0, x.a, .d (.int .u64 (b : Int))] σ (.tup []) σ' T ∧ σ'.n = σ.n ∧ Mod σ σ' T ∧ (∀ k ∈ T, k = k2 ∨ k = k3) ∧ WM n nl ks k1 k2 k3 F (bhE F nl x b s).1.1 (bhE F nl x b s).1.2 σ' := by
  obtain ⟨σ', W, σ1, h1, h2, h3, h4, h5, h6⟩ := CallsTo.cutM (X := XX fz) (f := 81) (cap := []) (args := [.ptr ks 0, x.a, .d (.int .u64 (b : Int))]) (r := .tup []) (σ := σ)
    (P := fun σ1 W => PtK n nl ks k1 k2 k3 F (bhE F nl x b s).1 σ (.tup []) σ1 W) h81 fn81 (by simp) rfl (by
      obtain ⟨n, o, hn, hq⟩ := e
      refine ⟨n, o, hn, ?_⟩
      cases o with
      | leave _ _ _ => exact hq.elim
      | ret tm σ1 W1 =>
        unfold RetQ at hq ⊢
        dsimp only at hq ⊢
        split at hq
        · obtain ⟨eq, m, w, sm⟩ := hq
          refine ⟨eq, m, fun k hk => ?_, ⟨rfl, m, w, sm⟩⟩
          rcases w k hk with rfl | rfl
          · rw [sm.h]; exact ubA_under _ _
          · rw [sm.r]; exact bA_underN _ _
        · exact hq.elim)
  exact ⟨σ', W, h1, h3, h2, h6.w, hm.back h6.sm h3 h4⟩
set_option maxHeartbeats 8000000 in
theorem part_call (h81 : fz 81 = .cut) {t : Int} {n : Nat} {nl : List Bool} {ks k1 k2 k3 : Nat} {F : List Nat} (hd : Apart ks k1 k2 k3) (x : Ex) (ho : okE t n x) (kx : x.kind = 2) : PtC fz n nl ks k1 k2 k3 F x := by
  intro b s σ hb hs hm
  refine pt_of h81 hm ?_
  have hls := hm.ls
  have hl1 := hm.l1
  have hl2 := hm.l2
  have hl3 := hm.l3
  obtain ⟨z, hms⟩ := hm.s
  obtain ⟨a1, a2, a3, a4, a5, a6⟩ := id hd
  obtain ⟨c1, c2⟩ := ho.call kx
  obtain ⟨j, hj⟩ := Int.eq_ofNat_of_zero_le c1
  have hlt : j < n := by omega
  have e2 : (x.kind == 2) = true := by simpa using kx
  have how := or_w (hs.lt j) hb
  have ix := fun (ρ : St) (cs : List A) (k : Nat) => indexR_nat (σ := ρ) (k := k) (off := 0) (s := 1) (cs := cs) hlt
  simp only [Nat.zero_add, Nat.mul_one] at ix
  have cg := ubA_get (l := s.1) (i := j) (by rw [hm.hl]; exact hlt)
  have cb := bA_get (l := s.2) (i := j) (by rw [hm.rl]; exact hlt)
  have m1 : ks ≠ σ.n := by omega
  have q1 : k2 ≠ σ.n := by omega
  have r1 : k3 ≠ σ.n := by omega
  have hbl : j < (bA s.2).length := by rw [bA_len, hm.rl]; exact hlt
  have hul : j < (ubA s.1).length := by rw [ubA_len, hm.hl]; exact hlt
  have e : (bhE F nl x b s).1 = (s.1.set j (s.1.getD j 0 ||| b), s.2.set j true) := by
    rw [bhE_eq, if_pos kx, hj, Int.toNat_natCast]
  have hI := (hr_call (s := s) (b := b) hb hs hlt).i
  generalize hK : PtK n nl ks k1 k2 k3 F (bhE F nl x b s).1 σ = K
  simp only [Tryd.f81, Option.getD_some]
  have fin : ∀ (τ : St) (v : Int), v = ((s.1.getD j 0 ||| b : Nat) : Int) → τ = ((σ.push (Blk.cells x.c)).set k3 (Blk.cells (bA (s.2.set j true)))).set k2 (Blk.cells ((ubA s.1).set j (A.d (D.int IntKind.u64 v)))) →
      K (.tup []) τ (low σ.n [k3] ++ low σ.n [k2]) := by
    rintro τ v rfl hτ
    rw [← hK, low_cons_lt hl3, low_cons_lt hl2]
    rw [ubA_set] at hτ
    have tn : τ.n = σ.n + 1 := by rw [hτ]; simp only [St.n_set, St.n_push]
    have hg : ∀ k, k < σ.n → k ≠ k2 → k ≠ k3 → τ.get k = σ.get k := fun k hk h2 h3 => by
      rw [hτ, St.get_set_ne h2, St.get_set_ne h3, St.get_push_ne hk]
    refine ⟨rfl, ⟨by omega, fun k hk h2 => hg k hk (fun q => h2 (by simp [q])) (fun q => h2 (by simp [q])), fun k hk => ?_⟩, fun k hk => ?_, ?_⟩
    · simp [low] at hk; omega
    · simp [low] at hk; omega
    · rw [e]
      exact ⟨hm.s.imp fun z q => (hg _ hls a2 a3).trans q, (hg _ hl1 a4 a5).trans hm.f, by rw [hτ, St.get_set_eq], by rw [hτ, St.get_set_ne (Ne.symm a6), St.get_set_eq], hm.fl, hI.hl, hI.rl, hm.nl, by omega, by omega, by omega, by omega⟩
  simp only [go_sem, ↓reduceIte, Int.reduceEq, Nat.reduceBEq, Int.reduceBEq, Nat.reduceAdd, Nat.reduceEqDiff, Nat.reduceLT, Nat.reduceSub, Ex.a, e2, hj, m1, q1, r1, Ne.symm m1, Ne.symm q1, Ne.symm r1, a2, a3, a6, Ne.symm a2, Ne.symm a3, Ne.symm a6, hms, hm.h, hm.r, hls, hl2, hl3, ix, cg, cb, hbl, hul, bA_set]
  refine ⟨drawOk_rel [7] [] rfl (by kernel_rfl) rfl (by simp), drawOk_rel [17] [] rfl (by kernel_rfl) rfl (by simp), ?_⟩
  exact fin _ _ how rfl
end Go.Am
namespace Go.Am
open Go Go.Proofs
variable {fz : Nat → Md}
theorem okE.nol {t : Int} {r : Nat} {x : Ex} (h : okE t r x) (k : x.kind = 0 ∨ x.kind = 1) : x.l = [] := by
  have := h.c
  rcases k with k | k <;> (simp [rightN, k, rightC] at this; exact this.2)
section
variable {n : Nat} {nl : List Bool} {ks k1 k2 k3 : Nat} {F : List Nat} {t : Int}
set_option maxHeartbeats 8000000 in
theorem part_none (h81 : fz 81 = .cut) (x : Ex) (ho : okE t n x) (kx : x.kind = 0 ∨ x.kind = 1) : PtC fz n nl ks k1 k2 k3 F x := by
  intro b s σ hb hs hm
  refine pt_of h81 hm ?_
  have e2 : (x.kind == 2) = false := by rcases kx with k | k <;> simp [k]
  have e3 : (x.kind == 3) = false := by rcases kx with k | k <;> simp [k]
  have e4 : (x.kind == 4) = false := by rcases kx with k | k <;> simp [k]
  have e5 : (x.kind == 5) = false := by rcases kx with k | k <;> simp [k]
  have e6 : (x.kind == 6) = false := by rcases kx with k | k <;> simp [k]
  have e : (bhE F nl x b s).1 = s := by
    rw [bhE_eq, if_neg (by omega), if_neg (by omega), if_neg (by omega), ho.nol kx, bhA]
  generalize hK : PtK n nl ks k1 k2 k3 F (bhE F nl x b s).1 σ = K
  simp only [Tryd.f81, Option.getD_some]
  simp only [go_sem, ↓reduceIte, Int.reduceEq, Nat.reduceBEq, Int.reduceBEq, Nat.reduceAdd, Nat.reduceEqDiff, Nat.reduceLT, Nat.reduceSub, Ex.a, e2, e3, e4, e5, e6]
  rw [← hK, e]
  exact ⟨rfl, ⟨by rw [St.n_push]; omega, fun k hk _ => St.get_push_ne hk, by simp⟩, by simp, hm.stay (by rw [St.n_push]; omega) fun k hk => St.get_push_ne hk⟩
set_option maxHeartbeats 8000000 in
theorem part_loop (h81 : fz 81 = .cut) (hF : Lt64 F) (ht : t ≤ 64) (x : Ex) (hx : SmallE x) (ho : okE t n x) (kx : x.kind = 4 ∨ x.kind = 6) (ih : ∀ y ∈ x.l, PtC fz n nl ks k1 k2 k3 F y) : PtC fz n nl ks k1 k2 k3 F x := by
  intro b s σ hb hs hm
  refine pt_of h81 hm ?_
  have hls := hm.ls
  have hl1 := hm.l1
  have hl2 := hm.l2
  have hl3 := hm.l3
  have hlen := hx.len
  have e2 : (x.kind == 2) = false := by rcases kx with k | k <;> simp [k]
  have e3 : (x.kind == 3) = false := by rcases kx with k | k <;> simp [k]
  have e : bhE F nl x b s = bhA F nl x.l b s false := by
    rw [bhE_eq, if_neg (by omega), if_neg (by omega), if_neg (by omega)]
  generalize hK : PtK n nl ks k1 k2 k3 F (bhE F nl x b s).1 σ = K
  simp only [Tryd.f81, Option.getD_some]
  rcases kx with k | k
  · have e4 : (x.kind == 4) = true := by simp [k]
    simp only [go_sem, ↓reduceIte, Int.reduceEq, Nat.reduceBEq, Int.reduceBEq, Nat.reduceAdd, Nat.reduceEqDiff, Nat.reduceLT, Nat.reduceSub, Ex.a, e2, e3, e4]
    refine Ev.loop_ind (fun k tm τ W => ∃ (i : Nat) (s' : HR) (f : Bool), k = x.l.length - i ∧ i ≤ x.l.length ∧ (∀ k ∈ W, k = k2 ∨ k = k3) ∧ Mod σ τ W ∧ σ.n + 1 ≤ τ.n ∧ WM n nl ks k1 k2 k3 F s'.1 s'.2 τ ∧ HrI n s' ∧ (bhA F nl (x.l.drop i) b s' f).1 = (bhA F nl x.l b s false).1 ∧ τ.get σ.n = .cells x.c ∧
        tm.at 0 = .ptr ks 0 ∧ tm.at 2 = .d (.int .u64 (b : Int)) ∧ tm.at 4 = .ptr σ.n 0 ∧ tm.at 8 = .d (.int .i64 i)) ?_ x.l.length _ _ _ ⟨0, s, false, rfl, by omega, by simp, ⟨by rw [St.n_push]; omega, fun k hk _ => St.get_push_ne hk, by simp⟩, by rw [St.n_push]; omega, hm.stay (by rw [St.n_push]; omega) (fun k hk => St.get_push_ne hk), hs, rfl, St.get_push_eq, ?_, ?_, ?_, ?_⟩
    · rintro k tm τ W ⟨i, s', f, rfl, hi, hw, hM, hn, hm1, hs1, he, g0, t0, t2, t4, t8⟩ ihl
      by_cases hl : i < x.l.length
      · have hget : x.l[i]? = some x.l[i] := by simp [hl]
        have hmem : x.l[i] ∈ x.l := List.getElem_mem hl
        rw [List.drop_eq_getElem_cons hl, bhA] at he
        simp only [go_sem, ↓reduceIte, Int.reduceEq, Nat.reduceBEq, Int.reduceBEq, Nat.reduceAdd, Nat.reduceEqDiff, Nat.reduceLT, Nat.reduceSub, t0, t2, t4, t8, g0, Ex.len_ld, dec_lt' hl, Ex.index_ld hget]
        obtain ⟨ρ, T, hc, rn, rM, rw', rsm⟩ := ih _ hmem b s' τ hb hs1 hm1
        have hho := bhE_ok (nl := nl) hF ht x.l[i] b s' (ho.sub hmem) hb hs1
        refine ⟨_, _, _, hc, ?_⟩
        have g1 : ρ.get σ.n = .cells x.c := by
          rw [rM.same _ (by omega) fun q => by rcases rw' _ q with q | q <;> omega]; exact g0
        simp only [go_sem, ↓reduceIte, Int.reduceEq, Nat.reduceBEq, Int.reduceBEq, Nat.reduceAdd, Nat.reduceEqDiff, Nat.reduceLT, Nat.reduceSub, t0, t2, t4, t8, wrap_succ' hl hlen]
        refine ihl _ _ _ _ (by omega) ⟨i + 1, (bhE F nl x.l[i] b s').1, _, rfl, hl, fun k hk => ?_, hM.call rM, by omega, rsm, hho.i, he, g1, ?_, ?_, ?_, ?_⟩
        · rcases List.mem_append.1 hk with q | q
          · exact hw k q
          · exact rw' k (mem_low.1 q).1
        all_goals (simp only [go_sem, ↓reduceIte, Int.reduceEq, Nat.reduceBEq, Int.reduceBEq, Nat.reduceAdd, Nat.reduceEqDiff, Nat.reduceLT, Nat.reduceSub, t0, t2, t4])
      · rw [List.drop_eq_nil_of_le (by omega), bhA] at he
        simp only [go_sem, ↓reduceIte, Int.reduceEq, Nat.reduceBEq, Int.reduceBEq, Nat.reduceAdd, Nat.reduceEqDiff, Nat.reduceLT, Nat.reduceSub, t0, t2, t4, t8, g0, Ex.len_ld, dec_ge' hl]
        rw [← hK, e, ← he]
        exact ⟨rfl, hM, hw, hm1⟩
    all_goals first | rfl | (simp only [go_sem, ↓reduceIte, Int.reduceEq, Nat.reduceBEq, Int.reduceBEq, Nat.reduceAdd, Nat.reduceEqDiff, Nat.reduceLT, Nat.reduceSub]; done) | (simp only [go_sem, ↓reduceIte, Int.reduceEq, Nat.reduceBEq, Int.reduceBEq, Nat.reduceAdd, Nat.reduceEqDiff, Nat.reduceLT, Nat.reduceSub]; rfl)
  · have e4 : (x.kind == 4) = false := by simp [k]
    have e6 : (x.kind == 6) = true := by simp [k]
    simp only [go_sem, ↓reduceIte, Int.reduceEq, Nat.reduceBEq, Int.reduceBEq, Nat.reduceAdd, Nat.reduceEqDiff, Nat.reduceLT, Nat.reduceSub, Ex.a, e2, e3, e4, e6]
    refine Ev.loop_ind (fun k tm τ W => ∃ (i : Nat) (s' : HR) (f : Bool), k = x.l.length - i ∧ i ≤ x.l.length ∧ (∀ k ∈ W, k = k2 ∨ k = k3) ∧ Mod σ τ W ∧ σ.n + 1 ≤ τ.n ∧ WM n nl ks k1 k2 k3 F s'.1 s'.2 τ ∧ HrI n s' ∧ (bhA F nl (x.l.drop i) b s' f).1 = (bhA F nl x.l b s false).1 ∧ τ.get σ.n = .cells x.c ∧
        tm.at 0 = .ptr ks 0 ∧ tm.at 2 = .d (.int .u64 (b : Int)) ∧ tm.at 4 = .ptr σ.n 0 ∧ tm.at 8 = .d (.int .i64 i)) ?_ x.l.length _ _ _ ⟨0, s, false, rfl, by omega, by simp, ⟨by rw [St.n_push]; omega, fun k hk _ => St.get_push_ne hk, by simp⟩, by rw [St.n_push]; omega, hm.stay (by rw [St.n_push]; omega) (fun k hk => St.get_push_ne hk), hs, rfl, St.get_push_eq, ?_, ?_, ?_, ?_⟩
    · rintro k tm τ W ⟨i, s', f, rfl, hi, hw, hM, hn, hm1, hs1, he, g0, t0, t2, t4, t8⟩ ihl
      by_cases hl : i < x.l.length
      · have hget : x.l[i]? = some x.l[i] := by simp [hl]
        have hmem : x.l[i] ∈ x.l := List.getElem_mem hl
        rw [List.drop_eq_getElem_cons hl, bhA] at he
        simp only [go_sem, ↓reduceIte, Int.reduceEq, Nat.reduceBEq, Int.reduceBEq, Nat.reduceAdd, Nat.reduceEqDiff, Nat.reduceLT, Nat.reduceSub, t0, t2, t4, t8, g0, Ex.len_ld, dec_lt' hl, Ex.index_ld hget]
        obtain ⟨ρ, T, hc, rn, rM, rw', rsm⟩ := ih _ hmem b s' τ hb hs1 hm1
        have hho := bhE_ok (nl := nl) hF ht x.l[i] b s' (ho.sub hmem) hb hs1
        refine ⟨_, _, _, hc, ?_⟩
        have g1 : ρ.get σ.n = .cells x.c := by
          rw [rM.same _ (by omega) fun q => by rcases rw' _ q with q | q <;> omega]; exact g0
        simp only [go_sem, ↓reduceIte, Int.reduceEq, Nat.reduceBEq, Int.reduceBEq, Nat.reduceAdd, Nat.reduceEqDiff, Nat.reduceLT, Nat.reduceSub, t0, t2, t4, t8, wrap_succ' hl hlen]
        refine ihl _ _ _ _ (by omega) ⟨i + 1, (bhE F nl x.l[i] b s').1, _, rfl, hl, fun k hk => ?_, hM.call rM, by omega, rsm, hho.i, he, g1, ?_, ?_, ?_, ?_⟩
        · rcases List.mem_append.1 hk with q | q
          · exact hw k q
          · exact rw' k (mem_low.1 q).1
        all_goals (simp only [go_sem, ↓reduceIte, Int.reduceEq, Nat.reduceBEq, Int.reduceBEq, Nat.reduceAdd, Nat.reduceEqDiff, Nat.reduceLT, Nat.reduceSub, t0, t2, t4])
      · rw [List.drop_eq_nil_of_le (by omega), bhA] at he
        simp only [go_sem, ↓reduceIte, Int.reduceEq, Nat.reduceBEq, Int.reduceBEq, Nat.reduceAdd, Nat.reduceEqDiff, Nat.reduceLT, Nat.reduceSub, t0, t2, t4, t8, g0, Ex.len_ld, dec_ge' hl]
        rw [← hK, e, ← he]
        exact ⟨rfl, hM, hw, hm1⟩
    all_goals first | rfl | (simp only [go_sem, ↓reduceIte, Int.reduceEq, Nat.reduceBEq, Int.reduceBEq, Nat.reduceAdd, Nat.reduceEqDiff, Nat.reduceLT, Nat.reduceSub]; done) | (simp only [go_sem, ↓reduceIte, Int.reduceEq, Nat.reduceBEq, Int.reduceBEq, Nat.reduceAdd, Nat.reduceEqDiff, Nat.reduceLT, Nat.reduceSub]; rfl)
set_option maxHeartbeats 8000000 in
theorem part_star (h81 : fz 81 = .cut) (h78 : fz 78 = .cut) (h98 : fz 98 = .cut) (hF : Lt64 F) (ht : t ≤ 64) (hd : Apart ks k1 k2 k3) (x : Ex) (hx : SmallE x) (ho : okE t n x) (kx : x.kind = 5) (ih : ∀ y ∈ x.l, PtC fz n nl ks k1 k2 k3 F y) : PtC fz n nl ks k1 k2 k3 F x := by
  intro b s σ hb hs hm
  refine pt_of h81 hm ?_
  have hls := hm.ls
  have hl1 := hm.l1
  have hl2 := hm.l2
  have hl3 := hm.l3
  obtain ⟨z, hms⟩ := hm.s
  obtain ⟨y, hy⟩ := ho.star (.inl kx)
  have hmem : y ∈ x.l := by rw [hy]; simp
  have e2 : (x.kind == 2) = false := by simp [kx]
  have e3 : (x.kind == 3) = false := by simp [kx]
  have e4 : (x.kind == 4) = false := by simp [kx]
  have e5 : (x.kind == 5) = true := by simp [kx]
  have e6 : (x.kind == 6) = false := by simp [kx]
  have hget : x.l[0]? = some y := by rw [hy]; rfl
  have hix : ∀ (ρ : St) (kd : IntKind), indexK ρ 3 x.ld (.d (.int kd 0)) = .val (.d (.vptr y.cs 0)) ρ [] [] := fun ρ kd => Ex.index_ld (i := 0) hget
  have hlt := bgE_lt hF ht (nl := nl) _ (ho.sub hmem)
  have how := or_w hb hlt
  have m1 : ks ≠ σ.n := by omega
  have e : bhE F nl x b s = bhE F nl y (b ||| (bgE F nl y).1) s := by
    rw [bhE_eq, if_neg (by omega), if_neg (by omega), if_pos kx, hy, bhH]
  generalize hK : PtK n nl ks k1 k2 k3 F (bhE F nl x b s).1 σ = K
  simp only [Tryd.f81, Option.getD_some]
  simp only [go_sem, ↓reduceIte, Int.reduceEq, Nat.reduceBEq, Int.reduceBEq, Nat.reduceAdd, Nat.reduceEqDiff, Nat.reduceLT, Nat.reduceSub, Ex.a, e2, e3, e4, e5, e6, hix, m1, Ne.symm m1, hms, hls]
  have hm0 := hm.stay (τ := σ.push (.cells x.c)) (by rw [St.n_push]; omega) fun k hk => St.get_push_ne hk
  have hcall := first78_c h78 h98 hF ht z nl (by rw [hm.nl, hm.fl]) y (σ.push (.cells x.c)) (hx.sub hmem) (by rw [hm.fl]; exact ho.sub hmem) hm0.f hm0.l1
  rw [hm.fl] at hcall
  refine ⟨_, _, _, hcall, ?_⟩
  simp only [go_sem, ↓reduceIte, Int.reduceEq, Nat.reduceBEq, Int.reduceBEq, Nat.reduceAdd, Nat.reduceEqDiff, Nat.reduceLT, Nat.reduceSub]
  obtain ⟨τ, T, hc, tn, tM, tw, tsm⟩ := ih y hmem (b ||| (bgE F nl y).1) s (σ.push (.cells x.c)) (or_lt hb hlt) hs hm0
  have hc2 : CallsTo (XX fz) (.func 81 []) [.ptr ks 0, y.a, .d (.int .u64 (IntKind.u64.wrap ((BitVec.ofInt 64 (b : Int) ||| BitVec.ofInt 64 ((bgE F nl y).1 : Int)).toNat : Int)))] (σ.push (.cells x.c)) (.tup []) τ T := by rw [how]; exact hc
  refine ⟨_, _, _, hc2, drawOk_rel [20] [] rfl (by kernel_rfl) rfl (by simp), ?_⟩
  rw [St.n_push] at tn
  rw [← hK, e]
  refine ⟨rfl, ⟨by omega, fun k hk h => ?_, fun k hk => (mem_low.1 hk).2⟩, fun k hk => tw k (mem_low.1 hk).1, tsm⟩
  rw [tM.same k (by rw [St.n_push]; omega) fun q => h (mem_low.2 ⟨q, hk⟩), St.get_push_ne hk]
end
end Go.Am
namespace Go.Am
open Go Go.Proofs
variable {fz : Nat → Md}
section
variable {n : Nat} {nl : List Bool} {ks k1 k2 k3 : Nat} {F : List Nat} {t : Int}
set_option maxHeartbeats 8000000 in
theorem part_seq (h81 : fz 81 = .cut) (h78 : fz 78 = .cut) (h98 : fz 98 = .cut) (hF : Lt64 F) (ht : t ≤ 64) (hd : Apart ks k1 k2 k3) (x : Ex) (hx : SmallE x) (ho : okE t n x) (kx : x.kind = 3) (ih : ∀ y ∈ x.l, PtC fz n nl ks k1 k2 k3 F y) : PtC fz n nl ks k1 k2 k3 F x := by
  intro b s σ hb hs hm
  refine pt_of h81 hm ?_
  have hls := hm.ls
  have hl1 := hm.l1
  have hl2 := hm.l2
  have hl3 := hm.l3
  have hlen := hx.len
  have e2 : (x.kind == 2) = false := by simp [kx]
  have e3 : (x.kind == 3) = true := by simp [kx]
  have e : (bhE F nl x b s).1 = (bhS F nl x.l b s).1 := by
    rw [bhE_eq, if_neg (by omega), if_pos kx]
  have hsub : ∀ i, (∀ y ∈ x.l.drop i, (bgE F nl y).1 < 2 ^ 64 ∧ ∀ b s, b < 2 ^ 64 → HrI n s → HrG n s (bhE F nl y b s).1 (bhE F nl y b s).2) := fun i y hy => by
    have hy' := List.mem_of_mem_drop hy
    exact ⟨bgE_lt hF ht y (ho.sub hy'), fun b s hb hs => bhE_ok hF ht y b s (ho.sub hy') hb hs⟩
  generalize hK : PtK n nl ks k1 k2 k3 F (bhE F nl x b s).1 σ = K
  have wl : IntKind.i64.wrap ((x.l.length : Int) - 1) = (x.l.length : Int) - 1 := wrap_small (by omega) (by omega)
  simp only [Tryd.f81, Option.getD_some]
  simp only [go_sem, ↓reduceIte, Int.reduceEq, Nat.reduceBEq, Int.reduceBEq, Nat.reduceAdd, Nat.reduceEqDiff, Nat.reduceLT, Nat.reduceSub, Ex.a, e2, e3, Ex.len_ld, wl]
  refine Ev.loop_ind (fun k tm τ W => ∃ i : Nat, k = i ∧ i ≤ x.l.length ∧ (∀ k ∈ W, k = k2 ∨ k = k3) ∧ Mod σ τ W ∧ σ.n + 1 ≤ τ.n ∧ WM n nl ks k1 k2 k3 F (bhS F nl (x.l.drop i) b s).1.1 (bhS F nl (x.l.drop i) b s).1.2 τ ∧ τ.get σ.n = .cells x.c ∧
      tm.at 0 = .ptr ks 0 ∧ tm.at 2 = .d (.int .u64 ((bhS F nl (x.l.drop i) b s).2.1 : Int)) ∧ tm.at 4 = .ptr σ.n 0 ∧ tm.at 6 = .d (.int .i64 ((i : Int) - 1))) ?_ x.l.length _ _ _ ⟨x.l.length, rfl, Nat.le_refl _, by simp, ⟨by rw [St.n_push]; omega, fun k hk _ => St.get_push_ne hk, by simp⟩, by rw [St.n_push]; omega, by rw [List.drop_length, bhS]; exact hm.stay (by rw [St.n_push]; omega) (fun k hk => St.get_push_ne hk), St.get_push_eq, ?_, ?_, ?_, ?_⟩
  · rintro k tm τ W ⟨i, rfl, hi, hw, hM, hn, hm1, g0, t0, t2, t4, t6⟩ ihl
    cases k with
    | zero =>
      have c : decide (((0 : Nat) : Int) - 1 ≥ 0) = false := by simp
      simp only [go_sem, ↓reduceIte, Int.reduceEq, Nat.reduceBEq, Int.reduceBEq, Nat.reduceAdd, Nat.reduceEqDiff, Nat.reduceLT, Nat.reduceSub, t0, t2, t4, t6, c]
      rw [← hK, e]
      exact ⟨rfl, hM, hw, hm1⟩
    | succ i =>
      have hl : i < x.l.length := by omega
      have hget : x.l[i]? = some x.l[i] := by simp [hl]
      have hmem : x.l[i] ∈ x.l := List.getElem_mem hl
      have e1 : (((i + 1 : Nat) : Int) - 1) = (i : Int) := by omega
      rw [e1] at t6
      have c : decide ((i : Int) ≥ 0) = true := by simp
      obtain ⟨p1, p2⟩ := bhS_ok (n := n) (x.l.drop (i + 1)) b s (hsub _) hb hs
      have hdr : x.l.drop i = x.l[i] :: x.l.drop (i + 1) := List.drop_eq_getElem_cons hl
      have hstep : bhS F nl (x.l.drop i) b s = ((bhE F nl x.l[i] (bhS F nl (x.l.drop (i + 1)) b s).2.1 (bhS F nl (x.l.drop (i + 1)) b s).1).1, (if (bgE F nl x.l[i]).2 = true then (bgE F nl x.l[i]).1 ||| (bhS F nl (x.l.drop (i + 1)) b s).2.1 else (bgE F nl x.l[i]).1), (bhE F nl x.l[i] (bhS F nl (x.l.drop (i + 1)) b s).2.1 (bhS F nl (x.l.drop (i + 1)) b s).1).2 || (bhS F nl (x.l.drop (i + 1)) b s).2.2) := by
        rw [hdr, bhS]
      generalize bhS F nl (x.l.drop (i + 1)) b s = r at *
      simp only [go_sem, ↓reduceIte, Int.reduceEq, Nat.reduceBEq, Int.reduceBEq, Nat.reduceAdd, Nat.reduceEqDiff, Nat.reduceLT, Nat.reduceSub, t0, t2, t4, t6, c, g0, Ex.index_ld hget]
      obtain ⟨ρ, T, hc, rn, rM, rw', rsm⟩ := ih _ hmem r.2.1 r.1 τ p2 p1.i hm1
      refine ⟨_, _, _, hc, ?_⟩
      have g1 : ρ.get σ.n = .cells x.c := by
        rw [rM.same _ (by omega) fun q => by rcases rw' _ q with q | q <;> omega]; exact g0
      obtain ⟨z, hms⟩ := rsm.s
      have hcall := first78_c h78 h98 hF ht z nl (by rw [rsm.nl, rsm.fl]) x.l[i] ρ (hx.sub hmem) (by rw [rsm.fl]; exact ho.sub hmem) rsm.f rsm.l1
      rw [rsm.fl] at hcall
      have hlsρ := rsm.ls
      simp only [go_sem, ↓reduceIte, Int.reduceEq, Nat.reduceBEq, Int.reduceBEq, Nat.reduceAdd, Nat.reduceEqDiff, Nat.reduceLT, Nat.reduceSub, t0, t2, t4, t6, g1, Ex.index_ld hget, hms]
      refine ⟨_, _, _, hcall, drawOk_rel [] [] rfl (by kernel_rfl) rfl (by simp), ?_⟩
      simp only [go_sem, ↓reduceIte, Int.reduceEq, Nat.reduceBEq, Int.reduceBEq, Nat.reduceAdd, Nat.reduceEqDiff, Nat.reduceLT, Nat.reduceSub, t0, t2, t4, t6, g1, Ex.index_ld hget, hms]
      refine ⟨_, _, _, nothing21_c h98 (t := t) z nl x.l[i] ρ (hx.sub hmem) (by rw [rsm.nl]; exact ho.sub hmem), drawOk_rel [] [] rfl (by kernel_rfl) rfl (by simp), ?_⟩
      have wl2 : IntKind.i64.wrap ((i : Int) - 1) = (i : Int) - 1 := wrap_small (by omega) (by omega)
      have hlt := bgE_lt (nl := nl) hF ht x.l[i] (ho.sub hmem)
      have how := or_w hlt p2
      rw [← bg2 (F := F)]
      have hwm : ∀ k ∈ W ++ low σ.n T, k = k2 ∨ k = k3 := fun k hk => by
        rcases List.mem_append.1 hk with q | q
        · exact hw k q
        · exact rw' k (mem_low.1 q).1
      cases hb2 : (bgE F nl x.l[i]).2 with
      | true =>
        rw [hb2, if_pos rfl] at hstep
        simp only [go_sem, ↓reduceIte, Int.reduceEq, Nat.reduceBEq, Int.reduceBEq, Nat.reduceAdd, Nat.reduceEqDiff, Nat.reduceLT, Nat.reduceSub, t0, t2, t4, t6, wl2]
        refine ihl i _ _ _ (by omega) ⟨i, rfl, by omega, hwm, hM.call rM, by omega, by rw [hstep]; exact rsm, g1, ?_, ?_, ?_, ?_⟩
        · simp only [go_sem, ↓reduceIte, Int.reduceEq, Nat.reduceBEq, Int.reduceBEq, Nat.reduceAdd, Nat.reduceEqDiff, Nat.reduceLT, Nat.reduceSub, t0]
        · rw [hstep]; simp only [go_sem, ↓reduceIte, Int.reduceEq, Nat.reduceBEq, Int.reduceBEq, Nat.reduceAdd, Nat.reduceEqDiff, Nat.reduceLT, Nat.reduceSub]; exact congrArg (fun n => A.d (D.int IntKind.u64 n)) how
        · simp only [go_sem, ↓reduceIte, Int.reduceEq, Nat.reduceBEq, Int.reduceBEq, Nat.reduceAdd, Nat.reduceEqDiff, Nat.reduceLT, Nat.reduceSub, t4]
        · simp only [go_sem, ↓reduceIte, Int.reduceEq, Nat.reduceBEq, Int.reduceBEq, Nat.reduceAdd, Nat.reduceEqDiff, Nat.reduceLT, Nat.reduceSub]
      | false =>
        rw [hb2, if_neg (by simp)] at hstep
        simp only [go_sem, ↓reduceIte, Int.reduceEq, Nat.reduceBEq, Int.reduceBEq, Nat.reduceAdd, Nat.reduceEqDiff, Nat.reduceLT, Nat.reduceSub, t0, t2, t4, t6, wl2]
        refine ihl i _ _ _ (by omega) ⟨i, rfl, by omega, hwm, hM.call rM, by omega, by rw [hstep]; exact rsm, g1, ?_, ?_, ?_, ?_⟩
        · simp only [go_sem, ↓reduceIte, Int.reduceEq, Nat.reduceBEq, Int.reduceBEq, Nat.reduceAdd, Nat.reduceEqDiff, Nat.reduceLT, Nat.reduceSub, t0]
        · rw [hstep]; simp only [go_sem, ↓reduceIte, Int.reduceEq, Nat.reduceBEq, Int.reduceBEq, Nat.reduceAdd, Nat.reduceEqDiff, Nat.reduceLT, Nat.reduceSub]
        · simp only [go_sem, ↓reduceIte, Int.reduceEq, Nat.reduceBEq, Int.reduceBEq, Nat.reduceAdd, Nat.reduceEqDiff, Nat.reduceLT, Nat.reduceSub, t4]
        · simp only [go_sem, ↓reduceIte, Int.reduceEq, Nat.reduceBEq, Int.reduceBEq, Nat.reduceAdd, Nat.reduceEqDiff, Nat.reduceLT, Nat.reduceSub]
  · simp only [go_sem, ↓reduceIte, Int.reduceEq, Nat.reduceBEq, Int.reduceBEq, Nat.reduceAdd, Nat.reduceEqDiff, Nat.reduceLT, Nat.reduceSub]
  · rw [List.drop_length, bhS]; simp only [go_sem, ↓reduceIte, Int.reduceEq, Nat.reduceBEq, Int.reduceBEq, Nat.reduceAdd, Nat.reduceEqDiff, Nat.reduceLT, Nat.reduceSub]
  · simp only [go_sem, ↓reduceIte, Int.reduceEq, Nat.reduceBEq, Int.reduceBEq, Nat.reduceAdd, Nat.reduceEqDiff, Nat.reduceLT, Nat.reduceSub]
  · simp only [go_sem, ↓reduceIte, Int.reduceEq, Nat.reduceBEq, Int.reduceBEq, Nat.reduceAdd, Nat.reduceEqDiff, Nat.reduceLT, Nat.reduceSub]
theorem part_c (h81 : fz 81 = .cut) (h78 : fz 78 = .cut) (h98 : fz 98 = .cut) (hF : Lt64 F) (ht : t ≤ 64) (hd : Apart ks k1 k2 k3) (x : Ex) (hx : SmallE x) (ho : okE t n x) : PtC fz n nl ks k1 k2 k3 F x := by
  have ih : ∀ y ∈ x.l, PtC fz n nl ks k1 k2 k3 F y := fun y hy => part_c h81 h78 h98 hF ht hd y (hx.sub hy) (ho.sub hy)
  by_cases c1 : x.kind = 1
  · exact part_none h81 x ho (.inr c1)
  by_cases c2 : x.kind = 2
  · exact part_call h81 hd x ho c2
  by_cases c3 : x.kind = 3
  · exact part_seq h81 h78 h98 hF ht hd x hx ho c3 ih
  by_cases c4 : x.kind = 4
  · exact part_loop h81 hF ht x hx ho (.inl c4) ih
  by_cases c5 : x.kind = 5
  · exact part_star h81 h78 h98 hF ht hd x hx ho c5 ih
  by_cases c6 : x.kind = 6
  · exact part_loop h81 hF ht x hx ho (.inr c6) ih
  exact part_none h81 x ho (.inl (ho.kind0 c1 c2 c3 c4 c5 c6))
termination_by x
decreasing_by exact Ex.sub_lt hy
end
end Go.Am

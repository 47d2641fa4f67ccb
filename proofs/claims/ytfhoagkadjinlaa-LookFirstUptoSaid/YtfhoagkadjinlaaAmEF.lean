/- Part EF of a proof that runs a program's calls on a small machine whose values bear no addresses: no conditions. -/
import Derived.Test.YtfhoagkadjinlaaAmO6
set_option autoImplicit false
set_option linter.unusedSimpArgs false
set_option linter.unusedVariables false
set_option linter.unusedSectionVars false
namespace Go.Am
open Go Go.Proofs
theorem nptr_eq30 {σ : St} : binA (XX mdE) σ .eql 30 (.d .nptr) (.d .nptr) = some (.d (.bool true)) := by
  unfold binA eqT; simp only [ti30]; rfl
theorem nptr_eq49 {σ : St} : binA (XX mdE) σ .eql 49 (.d .nptr) (.d .nptr) = some (.d (.bool true)) := by
  unfold binA eqT; simp only [ti49]; rfl
theorem ways_E {lo kt km : Nat} {ra ba rea : A} {tb : List Nat} {g : Gr} {bh : Nat → List Nat} {rch : Nat → Bool} (hs : SmallG g) (hc : checkP g = 0) (hB : BhOk (newN g).N g.rules.length rch bh) {s : Nat} (hsN : s < (newN g).N.es.length) {z : Bool} {l : List Int} (hL : l.length ≤ 4) (σ : St) (hT : TbK lo kt km ra ba rea tb g.rules.length (newN g).N (newX g) bh rch σ) :
    ∃ a σ' W, CallsTo (XX mdE) (.func 14 []) [.ptr kt 0, .d (.int .i64 (s : Int)), .d (.slc z (intsD l))] σ (.tup [a, .d (.int .i64 0)]) σ' W ∧ ∃ bs, TbK lo kt km ra ba rea tb g.rules.length (newN g).N (newX g) bh rch σ' ∧ RowN 1 σ' a (intsD (natsI (waysP l (newN g).N (newX g) bh rch s))) bs ∧ (∀ k ∈ bs, σ.n ≤ k) ∧ σ.n ≤ σ'.n ∧ (∀ k, k < σ.n → k ≠ km → σ'.get k = σ.get k) ∧ ∀ k ∈ W, k = km ∨ σ.n ≤ k :=
  waysM_c (kq := kt) rfl rfl rfl rfl rfl rfl rfl rfl rfl hs hc hL (fun n s hs => by
    obtain ⟨t, r, e, q1, q2, q3, q4, q5, -⟩ := (hB.mem n s).1 hs
    rw [← q5]; exact ((newN_G (GOk.of hc)).ed t r q1 e q2).2.2.2.1) hB.len hsN σ hT TokA.data ⟨hT.t.tab.lt _ hT.t.tab.kt, fun e => hT.t.km.2.2 (e ▸ hT.t.tab.kt)⟩
end Go.Am
namespace Go.Am
open Go Go.Proofs
set_option maxRecDepth 8000 in
set_option maxHeartbeats 16000000 in
theorem firstL_call (g : Gr) (hg : SmallG g) (hL : g.rules.length < 1000000000) (st : Int) (z : Bool) (l0 : List Int) (hl0 : l0.length < 1000000000) : ∃ σ' T, CallsTo (XX mdE) (.func 5 []) [g.a, .d (.int .i64 st), .d (.slc z (intsD l0))] St.empty (.d (.bool true)) σ' T := by
  refine ⟨St.empty, [], CallsTo.cut0 rfl fn5 (by simp) rfl ?_⟩
  simp only [Try.f5, Option.getD_some]
  simp only [go_sem, Gr.a]
  refine ⟨_, _, _, works_E _, ?_⟩
  simp only [go_sem]
  refine ⟨_, _, _, deep_E g _ hg hL, ?_⟩
  cases hd : deepG g with
  | true => simp only [go_sem]
  | false =>
  obtain ⟨a, σ1, W1, hc1, a1, a2, a3, a4⟩ := lookNew_c (fz := mdE) new_E rfl rfl rfl rfl rfl rfl rfl rfl g hg (St.empty.push (.cells g.c))
  have gx := (a2 0 (by simp [St.n_push, St.empty])).trans (show (St.empty.push (.cells g.c)).get 0 = .cells g.c from St.get_push_eq)
  have lW1 : low 0 W1 = [] := low_all fun k hk => Nat.zero_le _
  have lW0 : ∀ W, low 0 W = [] := fun W => low_all fun k hk => Nat.zero_le _
  have n0 : St.empty.n = 0 := rfl
  simp only [go_sem]
  refine ⟨_, _, _, hc1, ?_⟩
  rcases a4 with ⟨hc, rfl⟩ | ⟨hc, kt, km, ra, ba, rea, tb, bh, rch, rfl, hT0, hm, hB⟩
  · have c1 : (checkP g != 0) = true := by simpa using hc
    have hv : newV g = (.nptr, checkP g) := by unfold newV; rw [if_pos c1]
    have hn := new_E g σ1 hg
    rw [hv] at hn
    simp only [go_sem, lW0, n0, gx]
    refine ⟨_, _, _, hn, ?_⟩
    simp only [go_sem, c1, nptr_eq30, nptr_eq49]
  · have h := GOk.of hc
    have hN := newN_G h
    have hv : newV g = (netP' (newN g).N (newX g), 0) := by unfold newV; rw [hc]; rfl
    have hn := new_E g σ1 hg
    rw [hv] at hn
    have c0 : ((0 : Int) != 0) = false := rfl
    have hpos : (newN g).N.es ≠ [] := newN_ne h
    simp only [go_sem, lW0, n0, gx]
    refine ⟨_, _, _, hn, ?_⟩
    simp only [go_sem, c0]
    refine ⟨_, _, _, states_E (newX g) hpos _, ?_⟩
    have hlen0 : 0 < (newN g).N.es.length := List.length_pos_iff.2 hpos
    have hF := newN_fits h
    obtain ⟨b1, b2⟩ := bring_lt (i := st) (n := ((newN g).N.es.length : Int)) (by omega) (by have := hF.e; omega)
    obtain ⟨s, hsb⟩ : ∃ s : Nat, bringP st ((newN g).N.es.length : Int) = (s : Int) := ⟨_, (Int.toNat_of_nonneg b1).symm⟩
    have hbr := bring_call (fz := mdE) rfl st ((newN g).N.es.length : Int) σ1
    rw [hsb] at hbr b2
    have hsN : s < (newN g).N.es.length := by omega
    simp only [go_sem]
    refine ⟨_, _, _, hbr, ?_⟩
    simp only [go_sem, lW0]
    have hTK : TbK (St.empty.push (.cells g.c)).n kt km ra ba rea tb g.rules.length (newN g).N (newX g) bh rch σ1 := ⟨hT0, [], [], ⟨hm, fun k v hk => (by cases hk), fun k hk => (by cases hk)⟩⟩
    have hb : ∀ n, ∀ s ∈ bh n, s < (newN g).N.es.length := fun n s hs => by
      obtain ⟨t, r, e, q1, q2, q3, q4, q5, -⟩ := (hB.mem n s).1 hs
      rw [← q5]; exact (hN.ed t r q1 e q2).2.2.2.1
    have hktk : kt < σ1.n ∧ kt ≠ km := ⟨hT0.tab.lt _ hT0.tab.kt, fun e => hT0.km.2.2 (e ▸ hT0.tab.kt)⟩
    obtain ⟨τ1, W2, hcp, u1, u4, u5, u6⟩ := predM_c (fz := mdE) (kq := kt) rfl rfl rfl rfl rfl rfl rfl rfl rfl hg hc hl0 hb hB.len hsN σ1 hTK (TokA.data (z := z) (l := l0)) TkCut.data hktk
    refine ⟨_, _, _, hcp, ?_⟩
    have hwle : ∀ (l : List Int), (waysP l (newN g).N (newX g) bh rch s).length ≤ 1000000 := fun l => by
      have hget : (newN g).N.es[s]? = some (newN g).N.es[s] := by simp [hsN]
      rw [waysP_wI hget]
      have h1 := wI_len (P := fun (j : Nat) => rch ((newN g).N.rule s).toNat = true ∧ ∃ e, (newN g).N.es[s][j]? = some e ∧ AlwP l (newN g).N (newX g) bh e) (i := (newN g).N.es[s].length)
      have h2 := hF.l _ (List.getElem_mem hsN)
      omega
    generalize hWP : (fun l => waysP l (newN g).N (newX g) bh rch s) = WP
    have hWPe : ∀ l, waysP l (newN g).N (newX g) bh rch s = WP l := fun l => by rw [← hWP]
    generalize hpr0 : prU WP l0 (min l0.length 4 + 1) 0 = pr
    simp only [go_sem, c0, lW0]
    clear hcp u5 u6 u4 hTK hc1 hbr hn gx hm
    refine Ev.loop_ind (fun m tm τ W => ∃ (k : Nat), m = min l0.length 4 + 1 - k ∧ k ≤ min l0.length 4 + 1 ∧ W = [] ∧ TbK (St.empty.push (.cells g.c)).n kt km ra ba rea tb g.rules.length (newN g).N (newX g) bh rch τ ∧ prU WP l0 (min l0.length 4 + 1 - k) k = pr ∧
      tm.at 1 = .d (.int .i64 (s : Int)) ∧ tm.at 2 = .d (.slc z (intsD l0)) ∧ tm.at 7 = .ptr kt 0 ∧ tm.at 11 = .d (.int .i64 pr.1) ∧ tm.at 12 = .d (.int .i64 (pr.2.1 : Int)) ∧ tm.at 13 = .d (.bool pr.2.2) ∧ tm.at 15 = .d (.int .i64 (k : Int))) ?_ (min l0.length 4 + 1) _ _ _ ⟨0, rfl, Nat.zero_le _, rfl, u1, hpr0, ?_, ?_, ?_, ?_, ?_, ?_, ?_⟩
    · clear hpr0 u1
      rintro m tm τ W ⟨k, rfl, hk, rfl, hT, hpr, t1, t2, t7, t11, t12, t13, t15⟩ ih
      have z0 : (((0 : Nat) : Int) == 0) = true := rfl
      have z00 : (((0 : Nat) : Int) == 1) = false := rfl
      have z1 : (((1 : Nat) : Int) == 1) = true := rfl
      have zkk : ((k : Int) == (k : Int)) = true := by simp
      have zm : ((-1 : Int) == -1) = true := rfl
      by_cases hlt : k < min l0.length 4 + 1
      · have d1 : decide ((k : Int) ≤ (l0.length : Int)) = true := decide_eq_true (by omega)
        have d2 : decide ((k : Int) ≤ 4) = true := decide_eq_true (by omega)
        have hkl : k ≤ l0.length := by omega
        obtain ⟨an, τ2, W2, hcn, bn, v1, v2, v3, v4, v5, v6⟩ := ways_E hg hc hB hsN (z := z) (l := l0.take k) (by rw [List.length_take]; omega) τ hT
        rw [hWPe] at v2
        have hln := v2.1.len
        rw [intsD_len, natsI_len] at hln
        rw [show min l0.length 4 + 1 - k = (min l0.length 4 + 1 - (k + 1)) + 1 by omega] at hpr
        simp only [go_sem, t1, t2, t7, t15, d1, d2, hkl]
        refine ⟨_, _, _, hcn, ?_⟩
        match hwp : WP (l0.take k) with
        | [] =>
          rw [hwp] at hln v2
          have hpr2 : prU WP l0 (min l0.length 4 + 1 - (k + 1) + 1) k = (-1, k, true) := by rw [prU, hwp]
          rw [hpr2] at hpr
          subst hpr
          replace hln : sliceLen τ2 an = some 0 := hln
          simp only [go_sem, c0, lW0, hln, z0, z00, t11, t12, t13, t15, zkk, zm]
        | [w] =>
          rw [hwp] at hln v2
          have hpr2 : prU WP l0 (min l0.length 4 + 1 - (k + 1) + 1) k = ((w : Int), k, true) := by rw [prU, hwp]
          rw [hpr2] at hpr
          subst hpr
          replace hln : sliceLen τ2 an = some 1 := hln
          obtain ⟨pv, Rv, hiv, Rv', hlv⟩ := v2.idxI (i := 0) (by simp)
          rw [show D.int IntKind.i64 ((0 : Nat) : Int) = D.int IntKind.i64 0 from rfl] at hiv
          replace hlv : loadK τ2 (some { kind := TK.int IntKind.i64, size := 1, bytes := 8, zero := some [A.d (D.int IntKind.i64 0)], zval := A.d (D.int IntKind.i64 0) }) pv = .val (.d (.int .i64 (w : Int))) τ2 [] Rv' := hlv
          have zw : ((w : Int) == (w : Int)) = true := by simp
          simp only [go_sem, c0, lW0, hln, z1, t11, t12, t13, t15, zkk, hiv, hlv, zw]
        | w1 :: w2 :: ws =>
          rw [hwp] at hln v2
          have hpr2 : prU WP l0 (min l0.length 4 + 1 - (k + 1) + 1) k = prU WP l0 (min l0.length 4 + 1 - (k + 1)) (k + 1) := by rw [prU, hwp]
          rw [hpr2] at hpr
          replace hln : sliceLen τ2 an = some (ws.length + 2) := hln
          have y0 : (((ws.length + 2 : Nat) : Int) == 0) = false := by rw [beq_eq_false_iff_ne]; omega
          have y1 : (((ws.length + 2 : Nat) : Int) == 1) = false := by rw [beq_eq_false_iff_ne]; omega
          simp only [go_sem, c0, lW0, hln, y0, y1, t15, wrap_succ' (show k < 5 by omega) (by omega)]
          refine ih _ _ _ _ (by omega) ⟨k + 1, rfl, by omega, rfl, v1, hpr, ?_, ?_, ?_, ?_, ?_, ?_, ?_⟩
          all_goals (simp only [go_sem, t1, t2, t7, t11, t12, t13, t15])
      · obtain rfl : k = min l0.length 4 + 1 := by omega
        rw [Nat.sub_self] at hpr
        replace hpr : ((-1 : Int), 0, false) = pr := hpr
        subst hpr
        by_cases h4 : l0.length < 4
        · have d1 : decide (((min l0.length 4 + 1 : Nat) : Int) ≤ (l0.length : Int)) = false := decide_eq_false (by omega)
          simp only [go_sem, t2, t15, d1, t11, t12, t13, z0, zm]
        · have d2 : decide (((min l0.length 4 + 1 : Nat) : Int) ≤ 4) = false := decide_eq_false (by omega)
          by_cases h5 : l0.length = 4
          · have d1 : decide (((min l0.length 4 + 1 : Nat) : Int) ≤ (l0.length : Int)) = false := decide_eq_false (by omega)
            simp only [go_sem, t2, t15, d1, t11, t12, t13, z0, zm]
          · have d1 : decide (((min l0.length 4 + 1 : Nat) : Int) ≤ (l0.length : Int)) = true := decide_eq_true (by omega)
            simp only [go_sem, t2, t15, d1, d2, t11, t12, t13, z0, zm]
    all_goals first | (simp only [go_sem]; done) | (simp only [go_sem]; rfl)
end Go.Am

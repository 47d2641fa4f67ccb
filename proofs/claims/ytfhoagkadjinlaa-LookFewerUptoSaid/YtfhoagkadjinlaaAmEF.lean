/- Part EF of a proof that runs a program's calls on a small machine whose values bear no addresses: no conditions. -/
import Derived.Test.YtfhoagkadjinlaaAmO6
set_option autoImplicit false
set_option linter.unusedSimpArgs false
set_option linter.unusedVariables false
set_option linter.unusedSectionVars false
namespace Go.Am
open Go Go.Proofs
theorem nptr_eq30 {σ : St} : binA (XX mdE) σ .eql 30 (.d .nptr) (.d .nptr) = some (.d (.bool true)) := by
  unfold binA eqT; simp only [ti30]; rfl
theorem nptr_eq49 {σ : St} : binA (XX mdE) σ .eql 49 (.d .nptr) (.d .nptr) = some (.d (.bool true)) := by
  unfold binA eqT; simp only [ti49]; rfl
theorem ways_E {lo kt km : Nat} {ra ba rea : A} {tb : List Nat} {g : Gr} {bh : Nat → List Nat} {rch : Nat → Bool} (hs : SmallG g) (hc : checkP g = 0) (hB : BhOk (newN g).N g.rules.length rch bh) {s : Nat} (hsN : s < (newN g).N.es.length) {z : Bool} {l : List Int} (hL : l.length ≤ 4) (σ : St) (hT : TbK lo kt km ra ba rea tb g.rules.length (newN g).N (newX g) bh rch σ) :
    ∃ a σ' W, CallsTo (XX mdE) (.func 14 []) [.ptr kt 0, .d (.int .i64 (s : Int)), .d (.slc z (intsD l))] σ (.tup [a, .d (.int .i64 0)]) σ' W ∧ ∃ bs, TbK lo kt km ra ba rea tb g.rules.length (newN g).N (newX g) bh rch σ' ∧ RowN 1 σ' a (intsD (natsI (waysP l (newN g).N (newX g) bh rch s))) bs ∧ (∀ k ∈ bs, σ.n ≤ k) ∧ σ.n ≤ σ'.n ∧ (∀ k, k < σ.n → k ≠ km → σ'.get k = σ.get k) ∧ ∀ k ∈ W, k = km ∨ σ.n ≤ k :=
  waysM_c (kq := kt) rfl rfl rfl rfl rfl rfl rfl rfl rfl hs hc hL (fun n s hs => by
    obtain ⟨t, r, e, q1, q2, q3, q4, q5, -⟩ := (hB.mem n s).1 hs
    rw [← q5]; exact ((newN_G (GOk.of hc)).ed t r q1 e q2).2.2.2.1) hB.len hsN σ hT TokA.data ⟨hT.t.tab.lt _ hT.t.tab.kt, fun e => hT.t.km.2.2 (e ▸ hT.t.tab.kt)⟩
set_option maxRecDepth 8000 in
set_option maxHeartbeats 16000000 in
theorem fewerL_call (g : Gr) (hg : SmallG g) (hL : g.rules.length < 1000000000) (st : Int) (z : Bool) (l0 : List Int) (hl0 : l0.length < 1000000000) : ∃ σ' T, CallsTo (XX mdE) (.func 4 []) [g.a, .d (.int .i64 st), .d (.slc z (intsD l0))] St.empty (.d (.bool true)) σ' T := by
  refine ⟨St.empty, [], CallsTo.cut0 rfl fn4 (by simp) rfl ?_⟩
  simp only [Try.f4, Option.getD_some]
  simp only [go_sem, Gr.a]
  refine ⟨_, _, _, works_E _, ?_⟩
  simp only [go_sem]
  refine ⟨_, _, _, deep_E g _ hg hL, ?_⟩
  cases hd : deepG g with
  | true => simp only [go_sem]
  | false =>
  obtain ⟨a, σ1, W1, hc1, a1, a2, a3, a4⟩ := lookNew_c (fz := mdE) new_E rfl rfl rfl rfl rfl rfl rfl rfl g hg (St.empty.push (.cells g.c))
  have gx := (a2 0 (by simp [St.n_push, St.empty])).trans (show (St.empty.push (.cells g.c)).get 0 = .cells g.c from St.get_push_eq)
  have lW1 : low 0 W1 = [] := low_all fun k hk => Nat.zero_le _
  have lW0 : ∀ W, low 0 W = [] := fun W => low_all fun k hk => Nat.zero_le _
  have n0 : St.empty.n = 0 := rfl
  simp only [go_sem]
  refine ⟨_, _, _, hc1, ?_⟩
  rcases a4 with ⟨hc, rfl⟩ | ⟨hc, kt, km, ra, ba, rea, tb, bh, rch, rfl, hT0, hm, hB⟩
  · have c1 : (checkP g != 0) = true := by simpa using hc
    have hv : newV g = (.nptr, checkP g) := by unfold newV; rw [if_pos c1]
    have hn := new_E g σ1 hg
    rw [hv] at hn
    simp only [go_sem, lW0, n0, gx]
    refine ⟨_, _, _, hn, ?_⟩
    simp only [go_sem, c1, nptr_eq30, nptr_eq49]
  · have h := GOk.of hc
    have hN := newN_G h
    have hv : newV g = (netP' (newN g).N (newX g), 0) := by unfold newV; rw [hc]; rfl
    have hn := new_E g σ1 hg
    rw [hv] at hn
    have c0 : ((0 : Int) != 0) = false := rfl
    have hpos : (newN g).N.es ≠ [] := newN_ne h
    simp only [go_sem, lW0, n0, gx]
    refine ⟨_, _, _, hn, ?_⟩
    simp only [go_sem, c0]
    refine ⟨_, _, _, states_E (newX g) hpos _, ?_⟩
    have hlen0 : 0 < (newN g).N.es.length := List.length_pos_iff.2 hpos
    have hF := newN_fits h
    obtain ⟨b1, b2⟩ := bring_lt (i := st) (n := ((newN g).N.es.length : Int)) (by omega) (by have := hF.e; omega)
    obtain ⟨s, hsb⟩ : ∃ s : Nat, bringP st ((newN g).N.es.length : Int) = (s : Int) := ⟨_, (Int.toNat_of_nonneg b1).symm⟩
    have hbr := bring_call (fz := mdE) rfl st ((newN g).N.es.length : Int) σ1
    rw [hsb] at hbr b2
    have hsN : s < (newN g).N.es.length := by omega
    simp only [go_sem]
    refine ⟨_, _, _, hbr, ?_⟩
    have hmin : min l0.length 4 ≤ l0.length := Nat.min_le_left _ _
    have hmn : minmax false [.d (.int .i64 (l0.length : Int)), .d (.int .i64 4)] = some (.d (.int .i64 ((min l0.length 4 : Nat) : Int))) := minA (b := 4)
    simp only [go_sem, hmn, hmin, lW0]
    have hl1 : (l0.take (min l0.length 4)).length = min l0.length 4 := by rw [List.length_take]; omega
    generalize hl : l0.take (min l0.length 4) = l at *
    have hl4 : l.length ≤ 4 := by omega
    have hTK : TbK (St.empty.push (.cells g.c)).n kt km ra ba rea tb g.rules.length (newN g).N (newX g) bh rch σ1 := ⟨hT0, [], [], ⟨hm, fun k v hk => (by cases hk), fun k hk => (by cases hk)⟩⟩
    obtain ⟨aw, τ1, W2, hcw, bsw, u1, u2, u3, u4, u5, u6⟩ := ways_E hg hc hB hsN (z := true) (l := []) (by simp) σ1 hTK
    refine ⟨_, _, _, hcw, ?_⟩
    simp only [go_sem, c0, lW0]
    have hwle : ∀ (l : List Int), (waysP l (newN g).N (newX g) bh rch s).length ≤ 1000000 := fun l => by
      have hget : (newN g).N.es[s]? = some (newN g).N.es[s] := by simp [hsN]
      rw [waysP_wI hget]
      have h1 := wI_len (P := fun (j : Nat) => rch ((newN g).N.rule s).toNat = true ∧ ∃ e, (newN g).N.es[s][j]? = some e ∧ AlwP l (newN g).N (newX g) bh e) (i := (newN g).N.es[s].length)
      have h2 := hF.l _ (List.getElem_mem hsN)
      omega
    clear hcw u3 u5 u6 u4 hTK hc1 hbr hn gx hmn hmin hm
    refine Ev.loop_ind (fun m tm τ W => ∃ (k : Nat) (was : A) (bw : List Nat), m = l.length + 1 - k ∧ 1 ≤ k ∧ k ≤ l.length + 1 ∧ W = [] ∧ TbK (St.empty.push (.cells g.c)).n kt km ra ba rea tb g.rules.length (newN g).N (newX g) bh rch τ ∧ RowN 1 τ was (intsD (natsI (waysP (l.take (k - 1)) (newN g).N (newX g) bh rch s))) bw ∧
      tm.at 1 = .d (.int .i64 (s : Int)) ∧ tm.at 2 = .d (.slc z (intsD l)) ∧ tm.at 7 = .ptr kt 0 ∧ tm.at 11 = was ∧ tm.at 13 = .d (.int .i64 (k : Int))) ?_ l.length _ _ _ ⟨1, aw, bsw, by omega, Nat.le_refl _, by omega, rfl, u1, u2, ?_, ?_, ?_, ?_, ?_⟩
    · rintro m tm τ W ⟨k, was, bw, rfl, hk1, hk2, rfl, hT, hw, t1, t2, t7, t11, t13⟩ ih
      by_cases hlt : k ≤ l.length
      · have d1 : decide ((k : Int) ≤ (l.length : Int)) = true := by simp; omega
        obtain ⟨an, τ2, W2, hcn, bn, v1, v2, v3, v4, v5, v6⟩ := ways_E hg hc hB hsN (z := z) (l := l.take k) (by rw [List.length_take]; omega) τ hT
        have hw2 := hw.stay (τ := τ2) v4 fun b hb => v5 b (hw.1.lt hb) fun e => by
          obtain ⟨M, mb, hK⟩ := hT.k
          exact (hw.1.nmap hK.cell) (e ▸ hb)
        have hfew := waysP_fewer (l := l.take k) (X := newX g) (bh := bh) (rch := rch) (s := s) hN (m := k - 1) (by rw [List.length_take]; omega)
        rw [List.take_take, Nat.min_eq_left (by omega)] at hfew
        have hinc := waysP_inc (l := l.take k) (N := (newN g).N) (X := newX g) (bh := bh) (rch := rch) (s := s)
        have hwl1 := hwle (l.take k)
        have hwl2 := hwle (l.take (k - 1))
        generalize waysP (l.take (k - 1)) (newN g).N (newX g) bh rch s = ws at hfew hw2 hwl2
        generalize hnw : waysP (l.take k) (newN g).N (newX g) bh rch s = ns at hfew v2 hinc hwl1
        have hnd : ns.Nodup := hinc.imp fun h => Nat.ne_of_lt h
        have hle : ns.length ≤ ws.length := hnd.length_le_of_subset hfew
        have hln := v2.1.len
        rw [intsD_len, natsI_len] at hln
        have hlw := hw2.1.len
        rw [intsD_len, natsI_len] at hlw
        have d2 : decide ((ns.length : Int) > (ws.length : Int)) = false := by simp; omega
        simp only [go_sem, t1, t2, t7, t11, t13, d1, hlt]
        refine ⟨_, _, _, hcn, ?_⟩
        simp only [go_sem, t11, c0, hln, hlw, d2, lW0]
        have natl : ∀ (js : List Nat) (i : Nat) (h : i < js.length), (natsI js)[i]? = some (js[i] : Int) := fun js i h => by simp [natsI, h]
        refine Ev.loop_ind (fun m tm τ W => ∃ (j : Nat), m = ns.length - j ∧ j ≤ ns.length ∧ W = [] ∧ τ = τ2 ∧ tm.at 1 = .d (.int .i64 (s : Int)) ∧ tm.at 2 = .d (.slc z (intsD l)) ∧ tm.at 7 = .ptr kt 0 ∧ tm.at 11 = was ∧ tm.at 13 = .d (.int .i64 (k : Int)) ∧ tm.at 14 = an ∧ tm.at 16 = .d (.int .i64 (j : Int))) ?_ ns.length _ _ _ ⟨0, rfl, Nat.zero_le _, rfl, rfl, ?_, ?_, ?_, ?_, ?_, ?_, ?_⟩
        · clear t1 t2 t7 t11 t13
          rintro m tm τ' W ⟨j, rfl, hj, rfl, rfl, t1, t2, t7, t11, t13, t14, t16⟩ ih2
          by_cases hjl : j < ns.length
          · obtain ⟨pv, Rv, hiv, Rv', hlv⟩ := v2.idxI hjl
            have hhas := has_c (fz := mdE) rfl (hw2.1.sl (by omega)) (by rw [natsI_len]; omega) (ns[j] : Int)
            have hmem : decide ((ns[j] : Int) ∈ natsI ws) = true := by
              rw [decide_eq_true_eq]
              exact List.mem_map.2 ⟨ns[j], hfew _ (List.getElem_mem hjl), rfl⟩
            rw [hmem] at hhas
            have wr := wrap_succ' hjl (by omega)
            by_cases hj0 : j = 0
            · subst hj0
              have d3 : decide (((0 : Nat) : Int) > 0) = false := rfl
              simp only [go_sem, t1, t2, t7, t11, t13, t14, t16, hln, dec_lt' hjl, hiv, hlv]
              refine ⟨_, _, _, hhas, ?_⟩
              simp only [go_sem, d3, lW0, t16]
              refine ⟨drawOk_rel [] [] rfl (by kernel_rfl) rfl (by simp), ?_⟩
              simp only [go_sem, t16, wr]
              refine ih2 _ _ _ _ (by omega) ⟨0 + 1, rfl, hjl, rfl, rfl, ?_, ?_, ?_, ?_, ?_, ?_, ?_⟩
              all_goals (simp only [go_sem, t1, t2, t7, t11, t13, t14, t16])
            · obtain ⟨i, rfl⟩ : ∃ i, j = i + 1 := ⟨j - 1, by omega⟩
              obtain ⟨pu, Ru, hiu, Ru', hlu⟩ := v2.idxI (i := i) (by omega)
              have d3 : decide (((i + 1 : Nat) : Int) > 0) = true := decide_eq_true (by omega)
              have wp : IntKind.i64.wrap (((i + 1 : Nat) : Int) - 1) = (i : Int) := by rw [wrap_small (by omega) (by omega)]; omega
              have d4 : decide ((ns[i + 1] : Int) ≤ (ns[i]'(by omega) : Int)) = false := by
                have := List.pairwise_iff_getElem.1 hinc i (i + 1) (by omega) hjl (by omega)
                simp; omega
              simp only [go_sem, t1, t2, t7, t11, t13, t14, t16, hln, dec_lt' hjl, hiv, hlv]
              refine ⟨_, _, _, hhas, ?_⟩
              simp only [go_sem, d3, lW0, t14, t16, hiv, hlv, wp, hiu, hlu, d4]
              refine ⟨drawOk_rel [] [] rfl (by kernel_rfl) rfl (by simp), ?_⟩
              simp only [go_sem, t16, wr]
              refine ih2 _ _ _ _ (by omega) ⟨i + 1 + 1, rfl, hjl, rfl, rfl, ?_, ?_, ?_, ?_, ?_, ?_, ?_⟩
              all_goals (simp only [go_sem, t1, t2, t7, t11, t13, t14, t16])
          · obtain rfl : j = ns.length := by omega
            simp only [go_sem, t14, t16, hln, dec_ge' hjl, t13, wrap_succ' (show k < 5 by omega) (by omega)]
            refine ih _ _ _ _ (by omega) ⟨k + 1, an, bn, rfl, by omega, by omega, rfl, v1, ?_, ?_, ?_, ?_, ?_, ?_⟩
            · rw [Nat.add_sub_cancel, hnw]; exact v2
            all_goals (simp only [go_sem, t1, t2, t7, t11, t13, t14, t16])
        all_goals first | (simp only [go_sem, t1, t2, t7, t11, t13]; done) | (simp only [go_sem, t1, t2, t7, t11, t13]; rfl)
      · have d1 : decide ((k : Int) ≤ (l.length : Int)) = false := by simp; omega
        simp only [go_sem, t1, t2, t7, t11, t13, d1]
    all_goals first | (simp only [go_sem]; done) | (simp only [go_sem]; rfl)
end Go.Am

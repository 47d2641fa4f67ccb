/- Part KF of a proof that runs a program's calls on a small machine whose values bear no addresses: no conditions. -/
import Derived.Test.YtlcadkgpojjokaaAmKE
import Derived.Test.YtlcadkgpojjokaaAmMP
set_option autoImplicit false
set_option linter.unusedSimpArgs false
set_option linter.unusedVariables false
set_option linter.unusedSectionVars false
namespace Go.Am
open Go Go.Proofs
variable {fz : Nat → Md}
noncomputable def wayV (l : List Int) (N : Nv) (X : Nx) (B : List Nat) (e : Eg) : Nat :=
  if e.kind = 0 then farV l N X e.to B else if e.kind = 1 then (if l[0]? = some e.num then 1 + farV (l.drop 1) N X e.to B else 0) else farV l N X (X.ent e.num.toNat) (e.to :: B)
noncomputable def wayL (l : List Int) (N : Nv) (X : Nx) (B : List Nat) (r : List Eg) : List Int := r.map fun e => ((wayV l N X B e : Nat) : Int)
theorem ints_catA (σ : St) (z : Bool) (l : List Int) : sliceCells σ (.d (.slc z (intsD l))) = some (l.map fun n => A.d (.int .i64 n)) ∧ sliceLen σ (.d (.slc z (intsD l))) = some l.length := by
  refine ⟨?_, len_ints⟩
  rw [sliceCells_d, ints_flat]
theorem frzW {σ : St} {lo n : Nat} {a : A} {d : D} (hc : a.isCell = true) (h : freeze σ lo n a = some d) : freezeW σ lo n a = some (.d d) := by
  cases a <;> first | (simp [A.isCell] at hc; done) | (simp only [freezeW, h])
theorem RowN.snoc {τ : St} {ra : A} {L : List Int} {bs : List Nat} (v : Int) (h : RowN 1 τ ra (intsD L) bs) (hL : L.length < 1000000) : ∃ ra' τ2 T bs', appendA 1 8 (τ.push (.cells [.d (.int .i64 v)])) ra (.row τ.n 0 1 1) = .val ra' τ2 T [] ∧ RowN 1 τ2 ra' (intsD (L ++ [v])) bs' ∧ τ.n ≤ τ2.n ∧
    (∀ k, k < τ.n → k ∉ bs → τ2.get k = τ.get k) ∧ (∀ k ∈ T, k ∈ bs ∨ τ.n ≤ k) ∧ (∀ k ∈ bs', k ∈ bs ∨ τ.n ≤ k) := by
  have hsl1 : sliceCells (τ.push (.cells [.d (.int .i64 v)])) (.row τ.n 0 1 1) = some [.d (.int .i64 v)] := by rw [sliceCells_row St.get_push_eq (by simp)]; rfl
  have h1 : RowN 1 (τ.push (.cells [.d (.int .i64 v)])) ra (intsD L) bs := h.stay (by rw [St.n_push]; omega) fun k hk => St.get_push_ne (h.1.lt hk)
  obtain ⟨ra', τ2, T, b1', happ, hR2, hK⟩ := h1.app (b := 8) (x := .row τ.n 0 1 1) (ys := [[.int .i64 v]]) hsl1 (by rw [sliceLen_row, St.get_push_eq]; rfl) (by simp) (by rw [intsD_len]; simp; omega) (by rw [intsD_len]; simp; omega)
  have hrt : intsD L ++ [[D.int .i64 v]] = intsD (L ++ [v]) := by unfold intsD; rw [List.map_append]; rfl
  rw [hrt] at hR2
  refine ⟨ra', τ2, T, b1', happ, hR2, by have := hK.n; rw [St.n_push] at this; omega, fun k q1 q2 => by rw [hK.same k (by rw [St.n_push]; omega) q2, St.get_push_ne q1], fun k hk => ?_, fun k hk => ?_⟩
  · rcases hK.w k hk with q | q
    · exact .inl q
    · rw [St.n_push] at q; exact .inr (by omega)
  · rcases hK.o k hk with q | q
    · exact .inl q
    · rw [St.n_push] at q; exact .inr (by omega)
set_option maxHeartbeats 16000000 in
theorem ways_c (h14 : fz 14 = .ice) (h13 : fz 13 = .cut) (h43 : fz 43 = .cut) (h42 : fz 42 = .cut) (h44 : fz 44 = .cut) (h74 : fz 74 = .cut) (h45 : fz 45 = .cut) (h75 : fz 75 = .cut) (h41 : fz 41 = .cut) (h86 : fz 86 = .cut) (h73 : fz 73 = .ice) (h85 : fz 85 = .keep) (h46 : fz 46 = .ice) (h76 : fz 76 = .keep)
    {zt zb : Bool} {g : Gr} {l : List Int} (hg : SmallG g) (hc : checkP g = 0) (hL : l.length ≤ 1000) {s : Nat} {B : List Nat} (hs : SpOk (newN g).N s B) (hBl : B.length ≤ 1000) {r : List Eg} (hget : (newN g).N.es[s]? = some r) (σ : St) :
    CallsTo (XX fz) (.func 14 []) [simA (newN g).N (newX g), .agg [.d (.int .i64 (s : Int)), .d (.slc zb (intsD (natsI B)))], .d (.slc zt (intsD l))] σ (.tup [.d (slD (wayL l (newN g).N (newX g) B r)), .d (.int .i64 0)]) σ [] := by
  have h := GOk.of hc
  have hN := newN_G h
  have hF := newN_fits h
  have hel := hF.e
  have hsN := hs.st
  have hrl : r.length ≤ 10000 := hF.l _ (List.mem_of_getElem? hget)
  have hed := hN.ed s _ hget
  have hbl := hs.ln
  have hfar : ∀ {l' : List Int} {z : Bool} (a : Nat) (B' : List Nat) (z' : Bool) (ρ : St), l'.length ≤ 1000 → a < (newN g).N.es.length → (∀ b ∈ B', b < (newN g).N.es.length) → B'.length < 1000000000 → IsFar l' (newN g).N (newX g) a B' (farV l' (newN g).N (newX g) a B') ∧ CallsTo (XX fz) (.func 41 []) [.d (.vptr (simC (newN g).N (newX g) (clD (newN g).N)) 0), .d (.int .i64 (a : Int)), .d (.slc z' (intsD (natsI B'))), .d (.slc z (intsD l'))] ρ (.d (.int .i64 ((farV l' (newN g).N (newX g) a B' : Nat) : Int))) ρ [] :=
    fun a B' z' ρ h1 h2 h3 h4 => far_c h41 h86 h73 h85 hg hc h1 h2 h3 h4 _ _ (.inl ⟨z', rfl⟩)
  refine CallsTo.ice0 h14 fn14 (by simp) ?_
  simp only [Try.f14, Option.getD_some]
  have c0 : ((0 : Int) != 0) = false := rfl
  have ies := fun (ρ : St) => index_es (σ := ρ) (kd := .i64) hget
  simp only [go_sem, ↓reduceIte, Int.reduceEq, Nat.reduceBEq, Int.reduceBEq, Int.reduceBNe, Int.reduceLT, Int.reduceLE, Nat.reduceAdd, Nat.reducePow, Nat.reduceEqDiff, Nat.reduceLT, Nat.reduceLeDiff, Nat.reduceMul, Nat.reduceSub]
  refine ⟨_, _, _, check13_c h13 h43 h42 h44 h74 h45 h75 hN hF hs (kr := σ.n + 1) (kM := σ.n + 1) (.inl ⟨zb, rfl⟩), ?_⟩
  have hv : ∀ (ρ : St) (cs : List D) (o : Nat), True := fun _ _ _ => trivial
  simp only [go_sem, ↓reduceIte, Int.reduceEq, Nat.reduceBEq, Int.reduceBEq, Int.reduceBNe, Int.reduceLT, Int.reduceLE, Nat.reduceAdd, Nat.reducePow, Nat.reduceEqDiff, Nat.reduceLT, Nat.reduceLeDiff, Nat.reduceMul, Nat.reduceSub, c0, simA, simC_map, ies, len_rw]
  refine ⟨drawOk_rel [] [] rfl (by kernel_rfl) rfl (by simp), ?_⟩
  have hs0 : (σ.push (.cells [.d (.int .i64 (s : Int)), .d (.slc zb (intsD (natsI B)))])).get σ.n = .cells [.d (.int .i64 (s : Int)), .d (.slc zb (intsD (natsI B)))] := St.get_push_eq
  have hn0 : σ.n + 1 ≤ (σ.push (.cells [.d (.int .i64 (s : Int)), .d (.slc zb (intsD (natsI B)))])).n := by rw [St.n_push]; omega
  generalize (σ.push (.cells [.d (.int .i64 (s : Int)), .d (.slc zb (intsD (natsI B)))])) = τ0 at hs0 hn0
  have hwl : (wayL l (newN g).N (newX g) B r).length = r.length := by simp [wayL]
  refine Ev.loop_ind (fun m tm τ W => ∃ (i : Nat) (ra : A) (bs : List Nat), m = r.length - i ∧ i ≤ r.length ∧ W = [] ∧ σ.n + 1 ≤ τ.n ∧ τ.get σ.n = .cells [.d (.int .i64 (s : Int)), .d (.slc zb (intsD (natsI B)))] ∧ RowN 1 τ ra (intsD ((wayL l (newN g).N (newX g) B r).take i)) bs ∧ (∀ k ∈ bs, σ.n + 1 ≤ k) ∧
    tm.at 9 = ra ∧ tm.at 0 = simA (newN g).N (newX g) ∧ tm.at 2 = .d (.slc zt (intsD l)) ∧ tm.at 4 = .ptr σ.n 0 ∧ tm.at 27 = .d (rowD r) ∧ tm.at 28 = .d (.int .i64 (r.length : Int)) ∧ tm.at 29 = .d (.int .i64 (i : Int))) ?_ r.length _ _ _ ⟨0, .d (.slc true []), [], rfl, Nat.zero_le _, rfl, hn0, hs0, RowN.nil, (fun k hk => by cases hk), ?_, ?_, ?_, ?_, ?_, ?_, ?_⟩
  · clear hs0 hn0
    rintro m tm τ W ⟨i, ra, bs, rfl, hi, rfl, hn, hsc, hra, hbs, t9, t0, t2, t4, t27, t28, t29⟩ ih
    by_cases hlj : i < r.length
    · have hge : r[i]? = some r[i] := by simp [hlj]
      have htake : (wayL l (newN g).N (newX g) B r).take (i + 1) = (wayL l (newN g).N (newX g) B r).take i ++ [((wayV l (newN g).N (newX g) B r[i] : Nat) : Int)] := by
        rw [List.take_succ_eq_append_getElem (by omega)]; simp [wayL]
      have hem := List.getElem_mem hlj
      generalize r[i] = e at hge hem htake
      obtain ⟨k1, k2, k3, k4, k5, k6⟩ := hed e hem
      have irw := fun (ρ : St) => index_rw (σ := ρ) (kd := .i64) hge
      have lze : low σ.n [τ.n] = [] := by rw [low_cons_ge (by omega)]; rfl
      have w1 := wrap_succ' hlj (show r.length < 1000000000 by omega)
      have hgk : ∀ k, k < τ.n → ((τ.push (.cells [.d (.int .i64 0), .d (.int .i64 0), .d (.int .i64 0)])).set τ.n (.cells [.d (.int .i64 e.kind), .d (.int .i64 e.num), .d (.int .i64 (e.to : Int))])).get k = τ.get k := fun k hk => by
        rw [St.get_set_ne (by omega), St.get_push_ne hk]
      have hec : ((τ.push (.cells [.d (.int .i64 0), .d (.int .i64 0), .d (.int .i64 0)])).set τ.n (.cells [.d (.int .i64 e.kind), .d (.int .i64 e.num), .d (.int .i64 (e.to : Int))])).get τ.n = .cells [.d (.int .i64 e.kind), .d (.int .i64 e.num), .d (.int .i64 (e.to : Int))] := St.get_set_eq
      have hn1 : ((τ.push (.cells [.d (.int .i64 0), .d (.int .i64 0), .d (.int .i64 0)])).set τ.n (.cells [.d (.int .i64 e.kind), .d (.int .i64 e.num), .d (.int .i64 (e.to : Int))])).n = τ.n + 1 := by simp only [St.n_set, St.n_push]
      have ne1 : σ.n ≠ τ.n := by omega
      simp only [go_sem, ↓reduceIte, Int.reduceEq, Nat.reduceBEq, Int.reduceBEq, Int.reduceBNe, Int.reduceLT, Int.reduceLE, Nat.reduceAdd, Nat.reducePow, Nat.reduceEqDiff, Nat.reduceLT, Nat.reduceLeDiff, Nat.reduceMul, Nat.reduceSub, t0, t2, t4, t9, t27, t28, t29, dec_lt' hlj, irw, Eg.D_c, lze]
      have hsc1 := (hgk σ.n (by omega)).trans hsc
      have hra1 := hra.stay (by rw [hn1]; omega) fun k hk => hgk k (hra.1.lt hk)
      generalize ((τ.push (.cells [.d (.int .i64 0), .d (.int .i64 0), .d (.int .i64 0)])).set τ.n (.cells [.d (.int .i64 e.kind), .d (.int .i64 e.num), .d (.int .i64 (e.to : Int))])) = τ1 at hec hn1 hsc1 hra1
      by_cases e0 : e.kind = 0
      · have q0 : (e.kind == 0) = true := by rw [e0]; rfl
        have hwv : wayV l (newN g).N (newX g) B e = farV l (newN g).N (newX g) e.to B := by unfold wayV; rw [if_pos e0]
        simp only [go_sem, ↓reduceIte, Int.reduceEq, Nat.reduceBEq, Int.reduceBEq, Int.reduceBNe, Int.reduceLT, Int.reduceLE, Nat.reduceAdd, Nat.reducePow, Nat.reduceEqDiff, Nat.reduceLT, Nat.reduceLeDiff, Nat.reduceMul, Nat.reduceSub, t0, t2, t4, t9, q0, hec, hsc1, ne1]
        refine ⟨_, _, _, (hfar e.to B zb _ hL k4 hs.bs (by omega)).2, ?_⟩
        rw [← hwv]
        simp only [go_sem, ↓reduceIte, Int.reduceEq, Nat.reduceBEq, Int.reduceBEq, Int.reduceBNe, Int.reduceLT, Int.reduceLE, Nat.reduceAdd, Nat.reducePow, Nat.reduceEqDiff, Nat.reduceLT, Nat.reduceLeDiff, Nat.reduceMul, Nat.reduceSub, t9]
        obtain ⟨ra', τ2, T, bs', happ, hR2, hn2, hg2, hT, hb2⟩ := (hra1).snoc (((wayV l (newN g).N (newX g) B e : Nat) : Int)) (by rw [List.length_take]; omega)
        have q1 := hR2.1.cell
        have q2 := hR2.1.cells
        have lT : low σ.n T = [] := low_all fun k hk => by rcases hT k hk with q | q; (have := hbs k q; omega); omega
        simp only [go_sem, ↓reduceIte, Int.reduceEq, Nat.reduceBEq, Int.reduceBEq, Int.reduceBNe, Int.reduceLT, Int.reduceLE, Nat.reduceAdd, Nat.reducePow, Nat.reduceEqDiff, Nat.reduceLT, Nat.reduceLeDiff, Nat.reduceMul, Nat.reduceSub, t9, t29, happ, q1, q2, lT, w1]
        rw [← htake] at hR2
        refine ih _ _ _ _ (by omega) ⟨i + 1, ra', bs', rfl, hlj, rfl, by omega, (hg2 _ (by omega) fun q => by have := hbs _ q; omega).trans hsc1, hR2, fun k hk => by rcases hb2 k hk with q | q; (exact hbs k q); omega, ?_, ?_, ?_, ?_, ?_, ?_, ?_⟩
        all_goals first | (simp only [go_sem, ↓reduceIte, Int.reduceEq, Nat.reduceBEq, Int.reduceBEq, Int.reduceBNe, Int.reduceLT, Int.reduceLE, Nat.reduceAdd, Nat.reducePow, Nat.reduceEqDiff, Nat.reduceLT, Nat.reduceLeDiff, Nat.reduceMul, Nat.reduceSub, t0, t2, t4, t27, t28]; done) | (simp only [go_sem, ↓reduceIte, Int.reduceEq, Nat.reduceBEq, Int.reduceBEq, Int.reduceBNe, Int.reduceLT, Int.reduceLE, Nat.reduceAdd, Nat.reducePow, Nat.reduceEqDiff, Nat.reduceLT, Nat.reduceLeDiff, Nat.reduceMul, Nat.reduceSub]; rfl)
      have q0 : (e.kind == 0) = false := by simpa using e0
      by_cases e1 : e.kind = 1
      · have q1 : (e.kind == 1) = true := by rw [e1]; rfl
        by_cases hl0 : l.length = 0
        · have d0 : decide ((l.length : Int) > 0) = false := by rw [decide_eq_false_iff_not]; omega
          have hwv : wayV l (newN g).N (newX g) B e = 0 := by unfold wayV; rw [if_neg e0, if_pos e1, if_neg]; rw [List.length_eq_zero_iff.1 hl0]; simp
          simp only [go_sem, ↓reduceIte, Int.reduceEq, Nat.reduceBEq, Int.reduceBEq, Int.reduceBNe, Int.reduceLT, Int.reduceLE, Nat.reduceAdd, Nat.reducePow, Nat.reduceEqDiff, Nat.reduceLT, Nat.reduceLeDiff, Nat.reduceMul, Nat.reduceSub, t0, t2, t4, t9, q0, q1, hec, hsc1, ne1, d0]
          refine ⟨drawOk_rel [] [] rfl (by kernel_rfl) rfl (by simp), ?_⟩
          have htake : (wayL l (newN g).N (newX g) B r).take (i + 1) = (wayL l (newN g).N (newX g) B r).take i ++ [0] := by rw [htake, hwv]; rfl
          obtain ⟨ra', τ2, T, bs', happ, hR2, hn2, hg2, hT, hb2⟩ := (hra1).snoc 0 (by rw [List.length_take]; omega)
          have q1 := hR2.1.cell
          have q2 := hR2.1.cells
          have lT : low σ.n T = [] := low_all fun k hk => by rcases hT k hk with q | q; (have := hbs k q; omega); omega
          simp only [go_sem, ↓reduceIte, Int.reduceEq, Nat.reduceBEq, Int.reduceBEq, Int.reduceBNe, Int.reduceLT, Int.reduceLE, Nat.reduceAdd, Nat.reducePow, Nat.reduceEqDiff, Nat.reduceLT, Nat.reduceLeDiff, Nat.reduceMul, Nat.reduceSub, t9, t29, happ, q1, q2, lT, w1]
          rw [← htake] at hR2
          refine ih _ _ _ _ (by omega) ⟨i + 1, ra', bs', rfl, hlj, rfl, by omega, (hg2 _ (by omega) fun q => by have := hbs _ q; omega).trans hsc1, hR2, fun k hk => by rcases hb2 k hk with q | q; (exact hbs k q); omega, ?_, ?_, ?_, ?_, ?_, ?_, ?_⟩
          all_goals first | (simp only [go_sem, ↓reduceIte, Int.reduceEq, Nat.reduceBEq, Int.reduceBEq, Int.reduceBNe, Int.reduceLT, Int.reduceLE, Nat.reduceAdd, Nat.reducePow, Nat.reduceEqDiff, Nat.reduceLT, Nat.reduceLeDiff, Nat.reduceMul, Nat.reduceSub, t0, t2, t4, t27, t28]; done) | (simp only [go_sem, ↓reduceIte, Int.reduceEq, Nat.reduceBEq, Int.reduceBEq, Int.reduceBNe, Int.reduceLT, Int.reduceLE, Nat.reduceAdd, Nat.reducePow, Nat.reduceEqDiff, Nat.reduceLT, Nat.reduceLeDiff, Nat.reduceMul, Nat.reduceSub]; rfl)
        have d0 : decide ((l.length : Int) > 0) = true := by rw [decide_eq_true_iff]; omega
        have hlp : 0 < l.length := by omega
        have in0 : ∀ ρ : St, indexD ρ 1 (intsD l) 0 = .val (.d (.vptr [.int .i64 l[0]] 0)) ρ [] [] := fun ρ => index_ints (σ := ρ) (z := zt) (i := 0) hlp
        by_cases hq : l[0] = e.num
        · have c4 : (l[0] == e.num) = true := by rw [hq]; simp
          have hsome : l[0]? = some e.num := by rw [List.getElem?_eq_getElem hlp, hq]
          have hwv : wayV l (newN g).N (newX g) B e = 1 + farV (l.drop 1) (newN g).N (newX g) e.to B := by unfold wayV; rw [if_neg e0, if_pos e1, if_pos hsome]
          have sl0 := fun (ρ : St) => slD1 (σ := ρ) (z := zt) (l := l) (ek := .int .i64) (eb := 8) (ez := some [.d (.int .i64 0)]) (ezv := .d (.int .i64 0)) hlp
          obtain ⟨hf1, hf2⟩ := hfar (l' := l.drop 1) (z := zt) e.to B zb τ1 (by rw [List.length_drop]; omega) k4 hs.bs (by omega)
          have hfl : farV (l.drop 1) (newN g).N (newX g) e.to B ≤ 1000 := by have := PgB.len hf1.1 (Nat.zero_le _); rw [List.length_drop] at this; omega
          have ww : IntKind.i64.wrap (1 + ((farV (l.drop 1) (newN g).N (newX g) e.to B : Nat) : Int)) = ((wayV l (newN g).N (newX g) B e : Nat) : Int) := by rw [wrap_small (by omega) (by omega), hwv]; simp
          simp only [go_sem, ↓reduceIte, Int.reduceEq, Nat.reduceBEq, Int.reduceBEq, Int.reduceBNe, Int.reduceLT, Int.reduceLE, Nat.reduceAdd, Nat.reducePow, Nat.reduceEqDiff, Nat.reduceLT, Nat.reduceLeDiff, Nat.reduceMul, Nat.reduceSub, t0, t2, t4, t9, q0, q1, hec, hsc1, ne1, d0, in0, c4]
          refine ⟨drawOk_rel [] [] rfl (by kernel_rfl) rfl (by simp), ?_⟩
          simp only [go_sem, ↓reduceIte, Int.reduceEq, Nat.reduceBEq, Int.reduceBEq, Int.reduceBNe, Int.reduceLT, Int.reduceLE, Nat.reduceAdd, Nat.reducePow, Nat.reduceEqDiff, Nat.reduceLT, Nat.reduceLeDiff, Nat.reduceMul, Nat.reduceSub, t0, t2, t4, t9, hec, hsc1, ne1, sl0]
          refine ⟨_, _, _, hf2, ?_⟩
          simp only [go_sem, ↓reduceIte, Int.reduceEq, Nat.reduceBEq, Int.reduceBEq, Int.reduceBNe, Int.reduceLT, Int.reduceLE, Nat.reduceAdd, Nat.reducePow, Nat.reduceEqDiff, Nat.reduceLT, Nat.reduceLeDiff, Nat.reduceMul, Nat.reduceSub, ww, t9, t29]
          refine ⟨drawOk_rel [7] [] rfl (by kernel_rfl) rfl (by simp), ?_⟩
          obtain ⟨ra', τ2, T, bs', happ, hR2, hn2, hg2, hT, hb2⟩ := (hra1).snoc (((wayV l (newN g).N (newX g) B e : Nat) : Int)) (by rw [List.length_take]; omega)
          have q1 := hR2.1.cell
          have q2 := hR2.1.cells
          have lT : low σ.n T = [] := low_all fun k hk => by rcases hT k hk with q | q; (have := hbs k q; omega); omega
          simp only [go_sem, ↓reduceIte, Int.reduceEq, Nat.reduceBEq, Int.reduceBEq, Int.reduceBNe, Int.reduceLT, Int.reduceLE, Nat.reduceAdd, Nat.reducePow, Nat.reduceEqDiff, Nat.reduceLT, Nat.reduceLeDiff, Nat.reduceMul, Nat.reduceSub, t9, t29, happ, q1, q2, lT, w1]
          rw [← htake] at hR2
          refine ih _ _ _ _ (by omega) ⟨i + 1, ra', bs', rfl, hlj, rfl, by omega, (hg2 _ (by omega) fun q => by have := hbs _ q; omega).trans hsc1, hR2, fun k hk => by rcases hb2 k hk with q | q; (exact hbs k q); omega, ?_, ?_, ?_, ?_, ?_, ?_, ?_⟩
          all_goals first | (simp only [go_sem, ↓reduceIte, Int.reduceEq, Nat.reduceBEq, Int.reduceBEq, Int.reduceBNe, Int.reduceLT, Int.reduceLE, Nat.reduceAdd, Nat.reducePow, Nat.reduceEqDiff, Nat.reduceLT, Nat.reduceLeDiff, Nat.reduceMul, Nat.reduceSub, t0, t2, t4, t27, t28]; done) | (simp only [go_sem, ↓reduceIte, Int.reduceEq, Nat.reduceBEq, Int.reduceBEq, Int.reduceBNe, Int.reduceLT, Int.reduceLE, Nat.reduceAdd, Nat.reducePow, Nat.reduceEqDiff, Nat.reduceLT, Nat.reduceLeDiff, Nat.reduceMul, Nat.reduceSub]; rfl)
        · have c4 : (l[0] == e.num) = false := by simpa using hq
          have hno : ¬ l[0]? = some e.num := by rw [List.getElem?_eq_getElem hlp]; simpa using hq
          have hwv : wayV l (newN g).N (newX g) B e = 0 := by unfold wayV; rw [if_neg e0, if_pos e1, if_neg hno]
          simp only [go_sem, ↓reduceIte, Int.reduceEq, Nat.reduceBEq, Int.reduceBEq, Int.reduceBNe, Int.reduceLT, Int.reduceLE, Nat.reduceAdd, Nat.reducePow, Nat.reduceEqDiff, Nat.reduceLT, Nat.reduceLeDiff, Nat.reduceMul, Nat.reduceSub, t0, t2, t4, t9, q0, q1, hec, hsc1, ne1, d0, in0, c4]
          refine ⟨drawOk_rel [] [] rfl (by kernel_rfl) rfl (by simp), ?_⟩
          have htake : (wayL l (newN g).N (newX g) B r).take (i + 1) = (wayL l (newN g).N (newX g) B r).take i ++ [0] := by rw [htake, hwv]; rfl
          obtain ⟨ra', τ2, T, bs', happ, hR2, hn2, hg2, hT, hb2⟩ := (hra1).snoc 0 (by rw [List.length_take]; omega)
          have q1 := hR2.1.cell
          have q2 := hR2.1.cells
          have lT : low σ.n T = [] := low_all fun k hk => by rcases hT k hk with q | q; (have := hbs k q; omega); omega
          simp only [go_sem, ↓reduceIte, Int.reduceEq, Nat.reduceBEq, Int.reduceBEq, Int.reduceBNe, Int.reduceLT, Int.reduceLE, Nat.reduceAdd, Nat.reducePow, Nat.reduceEqDiff, Nat.reduceLT, Nat.reduceLeDiff, Nat.reduceMul, Nat.reduceSub, t9, t29, happ, q1, q2, lT, w1]
          rw [← htake] at hR2
          refine ih _ _ _ _ (by omega) ⟨i + 1, ra', bs', rfl, hlj, rfl, by omega, (hg2 _ (by omega) fun q => by have := hbs _ q; omega).trans hsc1, hR2, fun k hk => by rcases hb2 k hk with q | q; (exact hbs k q); omega, ?_, ?_, ?_, ?_, ?_, ?_, ?_⟩
          all_goals first | (simp only [go_sem, ↓reduceIte, Int.reduceEq, Nat.reduceBEq, Int.reduceBEq, Int.reduceBNe, Int.reduceLT, Int.reduceLE, Nat.reduceAdd, Nat.reducePow, Nat.reduceEqDiff, Nat.reduceLT, Nat.reduceLeDiff, Nat.reduceMul, Nat.reduceSub, t0, t2, t4, t27, t28]; done) | (simp only [go_sem, ↓reduceIte, Int.reduceEq, Nat.reduceBEq, Int.reduceBEq, Int.reduceBNe, Int.reduceLT, Int.reduceLE, Nat.reduceAdd, Nat.reducePow, Nat.reduceEqDiff, Nat.reduceLT, Nat.reduceLeDiff, Nat.reduceMul, Nat.reduceSub]; rfl)
      have q1 : (e.kind == 1) = false := by simpa using e1
      have e2 : e.kind = 2 := by omega
      have q2 : (e.kind == 2) = true := by rw [e2]; rfl
      have hR := k6 e2
      have hnn := Int.toNat_of_nonneg k3
      have in2 := fun (ρ : St) => index_sl (σ := ρ) (kd := .i64) (l := (newX g).en) (i := e.num.toNat) (by rw [hN.enl]; exact hR)
      rw [(hN.en _ hR).2.1, hnn] at in2
      have ne2 : τ.n ≠ τ1.n := by omega
      have ne3 : σ.n ≠ τ1.n := by omega
      simp only [go_sem, ↓reduceIte, Int.reduceEq, Nat.reduceBEq, Int.reduceBEq, Int.reduceBNe, Int.reduceLT, Int.reduceLE, Nat.reduceAdd, Nat.reducePow, Nat.reduceEqDiff, Nat.reduceLT, Nat.reduceLeDiff, Nat.reduceMul, Nat.reduceSub, t0, t2, t4, t9, q0, q1, q2, hec, hsc1, ne1, simC_map, in2, ne2, ne3]
      have hwv : wayV l (newN g).N (newX g) B e = farV l (newN g).N (newX g) ((newX g).ent e.num.toNat) (e.to :: B) := by unfold wayV; rw [if_neg e0, if_neg e1]
      have hG : ∀ k, k < τ1.n → ((τ1.push (.cells [.d (.int .i64 (e.to : Int))])).push (.cells [.row τ1.n 0 1 1, .d (.slc zb (intsD (natsI B)))])).get k = τ1.get k := fun k hk => by
        rw [St.get_push_ne (by rw [St.n_push]; omega), St.get_push_ne hk]
      have hGr : ((τ1.push (.cells [.d (.int .i64 (e.to : Int))])).push (.cells [.row τ1.n 0 1 1, .d (.slc zb (intsD (natsI B)))])).get τ1.n = .cells [.d (.int .i64 (e.to : Int))] := by rw [St.get_push_ne (by rw [St.n_push]; omega), St.get_push_eq]
      have hGs : ((τ1.push (.cells [.d (.int .i64 (e.to : Int))])).push (.cells [.row τ1.n 0 1 1, .d (.slc zb (intsD (natsI B)))])).get (τ1.n + 1) = .cells [.row τ1.n 0 1 1, .d (.slc zb (intsD (natsI B)))] := St.get_push_eq' (by rw [St.n_push])
      have hGn : ((τ1.push (.cells [.d (.int .i64 (e.to : Int))])).push (.cells [.row τ1.n 0 1 1, .d (.slc zb (intsD (natsI B)))])).n = τ1.n + 2 := by simp only [St.n_push]
      generalize ((τ1.push (.cells [.d (.int .i64 (e.to : Int))])).push (.cells [.row τ1.n 0 1 1, .d (.slc zb (intsD (natsI B)))])) = τ2 at hG hGr hGs hGn
      have hcat := concat_c (fz := fz) h46 h76 [[(e.to : Int)], natsI B] [.row τ1.n 0 1 1, .d (.slc zb (intsD (natsI B)))] (by simp) (by simp [natsI]; omega) (τ1.n + 1) τ2 hGs (by omega) (fun i hi => by
        match i, hi with
        | 0, _ => exact ⟨_, rfl, fun ρ hρ => by
            have hr : ρ.get τ1.n = _ := (hρ _ (by omega)).trans hGr
            exact ⟨by rw [sliceCells_row hr (by simp)]; rfl, by rw [sliceLen_row, hr]; rfl⟩⟩
        | 1, _ => exact ⟨_, rfl, fun ρ _ => ints_catA ρ zb (natsI B)⟩)
      have hcat : CallsTo (XX fz) (.func 46 []) [.row (τ1.n + 1) 0 2 1] τ2 (.d (.slc false (intsD (natsI (e.to :: B))))) τ2 [] := by
        have : slD [[(e.to : Int)], natsI B].flatten = .slc false (intsD (natsI (e.to :: B))) := by simp [slD, natsI]
        rw [← this]; exact hcat
      refine ⟨_, _, _, hcat, ?_⟩
      have hsp := hs.call hN hget hem e2 (by omega)
      refine ⟨_, _, _, (hfar ((newX g).ent e.num.toNat) (e.to :: B) false τ2 hL (hN.en _ hR).1 hsp.bs (by have := hsp.ln; omega)).2, ?_⟩
      refine ⟨drawOk_rel [16, 18] [(16, 0), (16, 1), (16, 2), (16, 3), (16, 4), (16, 5), (16, 6), (16, 7), (16, 8), (16, 9), (16, 17)] rfl (by kernel_rfl) rfl (by simp [meets]), ?_⟩
      rw [← hwv]
      have hra1 := hra1.stay (by rw [hGn]; omega) fun k hk => hG k (hra1.1.lt hk)
      have hsc1 := (hG σ.n (by omega)).trans hsc1
      obtain ⟨ra', τ2, T, bs', happ, hR2, hn2, hg2, hT, hb2⟩ := (hra1).snoc (((wayV l (newN g).N (newX g) B e : Nat) : Int)) (by rw [List.length_take]; omega)
      have q1 := hR2.1.cell
      have q2 := hR2.1.cells
      have lT : low σ.n T = [] := low_all fun k hk => by rcases hT k hk with q | q; (have := hbs k q; omega); omega
      simp only [go_sem, ↓reduceIte, Int.reduceEq, Nat.reduceBEq, Int.reduceBEq, Int.reduceBNe, Int.reduceLT, Int.reduceLE, Nat.reduceAdd, Nat.reducePow, Nat.reduceEqDiff, Nat.reduceLT, Nat.reduceLeDiff, Nat.reduceMul, Nat.reduceSub, t9, t29, happ, q1, q2, lT, w1]
      rw [← htake] at hR2
      refine ih _ _ _ _ (by omega) ⟨i + 1, ra', bs', rfl, hlj, rfl, by omega, (hg2 _ (by omega) fun q => by have := hbs _ q; omega).trans hsc1, hR2, fun k hk => by rcases hb2 k hk with q | q; (exact hbs k q); omega, ?_, ?_, ?_, ?_, ?_, ?_, ?_⟩
      all_goals first | (simp only [go_sem, ↓reduceIte, Int.reduceEq, Nat.reduceBEq, Int.reduceBEq, Int.reduceBNe, Int.reduceLT, Int.reduceLE, Nat.reduceAdd, Nat.reducePow, Nat.reduceEqDiff, Nat.reduceLT, Nat.reduceLeDiff, Nat.reduceMul, Nat.reduceSub, t0, t2, t4, t27, t28]; done) | (simp only [go_sem, ↓reduceIte, Int.reduceEq, Nat.reduceBEq, Int.reduceBEq, Int.reduceBNe, Int.reduceLT, Int.reduceLE, Nat.reduceAdd, Nat.reducePow, Nat.reduceEqDiff, Nat.reduceLT, Nat.reduceLeDiff, Nat.reduceMul, Nat.reduceSub]; rfl)
    · have him : i = r.length := by omega
      subst him
      rw [List.take_of_length_le (by omega)] at hra
      have f2 := hra.freeze (lo := σ.n) (n := fzDepth) (fun k hk => by have := hbs k hk; omega) (by rw [intsD_len]; unfold fzDepth; omega)
      have f3 := frzW hra.1.cell f2
      rw [isE] at f3
      simp only [go_sem, ↓reduceIte, Int.reduceEq, Nat.reduceBEq, Int.reduceBEq, Int.reduceBNe, Int.reduceLT, Int.reduceLE, Nat.reduceAdd, Nat.reducePow, Nat.reduceEqDiff, Nat.reduceLT, Nat.reduceLeDiff, Nat.reduceMul, Nat.reduceSub, t9, t27, t28, t29, dec_ge' hlj]
      rw [f3]; rfl
  all_goals first | rfl | (simp only [go_sem, ↓reduceIte, Int.reduceEq, Nat.reduceBEq, Int.reduceBEq, Int.reduceBNe, Int.reduceLT, Int.reduceLE, Nat.reduceAdd, Nat.reducePow, Nat.reduceEqDiff, Nat.reduceLT, Nat.reduceLeDiff, Nat.reduceMul, Nat.reduceSub]; done) | (simp only [go_sem, ↓reduceIte, Int.reduceEq, Nat.reduceBEq, Int.reduceBEq, Int.reduceBNe, Int.reduceLT, Int.reduceLE, Nat.reduceAdd, Nat.reducePow, Nat.reduceEqDiff, Nat.reduceLT, Nat.reduceLeDiff, Nat.reduceMul, Nat.reduceSub]; rfl)
end Go.Am
namespace Go.Am
open Go Go.Proofs
variable {fz : Nat → Md}
theorem maxA2 {a b : Int} : minmax true [.d (.int .i64 a), .d (.int .i64 b)] = some (.d (.int .i64 (max a b))) := by
  have : (if b > a then b else a) = max a b := by rw [Int.max_def]; split <;> split <;> omega
  rw [← this]; rfl
def mxL (l : List Int) : Int := (l.drop 1).foldl max (l.getD 0 0)
theorem foldmax_le : ∀ (l : List Int) (a : Int), a ≤ l.foldl max a ∧ ∀ x ∈ l, x ≤ l.foldl max a
  | [], a => ⟨Int.le_refl _, fun x hx => by cases hx⟩
  | y :: l, a => by
    obtain ⟨h1, h2⟩ := foldmax_le l (max a y)
    refine ⟨by rw [List.foldl_cons]; omega, fun x hx => ?_⟩
    rw [List.foldl_cons]
    rcases List.mem_cons.1 hx with rfl | hx
    · omega
    · exact h2 x hx
theorem foldmax_mem : ∀ (l : List Int) (a : Int), l.foldl max a = a ∨ l.foldl max a ∈ l
  | [], a => .inl rfl
  | y :: l, a => by
    rw [List.foldl_cons]
    rcases foldmax_mem l (max a y) with h | h
    · rw [h]
      rcases Int.le_total a y with q | q
      · rw [Int.max_eq_right q]; exact .inr (by simp)
      · exact .inl (Int.max_eq_left q)
    · exact .inr (by simp [h])
theorem mxL_mem {l : List Int} (h : 0 < l.length) : mxL l ∈ l := by
  cases l with
  | nil => simp at h
  | cons x l =>
    unfold mxL
    rcases foldmax_mem l x with q | q
    · simp only [List.drop_one, List.tail_cons, List.getD_cons_zero]; rw [q]; simp
    · simp only [List.drop_one, List.tail_cons, List.getD_cons_zero]; exact List.mem_cons_of_mem _ q
theorem mxL_le {l : List Int} {x : Int} (hx : x ∈ l) : x ≤ mxL l := by
  cases l with
  | nil => cases hx
  | cons y l =>
    unfold mxL
    simp only [List.drop_one, List.tail_cons, List.getD_cons_zero]
    obtain ⟨h1, h2⟩ := foldmax_le l y
    rcases List.mem_cons.1 hx with rfl | hx
    · exact h1
    · exact h2 x hx
theorem max_c (h47 : fz 47 = .cut) {l : List Int} (h0 : 0 < l.length) (hl : l.length < 1000000) (z : Bool) (σ : St) : CallsTo (XX fz) (.func 47 []) [.d (.slc z (intsD l))] σ (.d (.int .i64 (mxL l))) σ [] := by
  refine CallsTo.cut0 h47 fn47 (by simp) rfl ?_
  simp only [Try.f47, Option.getD_some]
  have d0 : decide ((l.length : Int) < 1) = false := by rw [decide_eq_false_iff_not]; omega
  have in0 : ∀ ρ : St, indexD ρ 1 (intsD l) 0 = .val (.d (.vptr [.int .i64 l[0]] 0)) ρ [] [] := fun ρ => index_ints (σ := ρ) (z := z) (i := 0) h0
  have e0 : l[0] = ((l.take 1).drop 1).foldl max (l.getD 0 0) := by
    cases l with
    | nil => simp at h0
    | cons x l => rfl
  rw [e0] at in0
  simp only [go_sem, ↓reduceIte, Int.reduceEq, Nat.reduceBEq, Int.reduceBEq, Int.reduceBNe, Int.reduceLT, Int.reduceLE, Nat.reduceAdd, Nat.reducePow, Nat.reduceEqDiff, Nat.reduceLT, Nat.reduceLeDiff, Nat.reduceMul, Nat.reduceSub, d0, in0]
  refine Ev.loop_ind (fun m tm τ W => ∃ i : Nat, m = l.length - i ∧ 1 ≤ i ∧ i ≤ l.length ∧ W = [] ∧ tm.at 0 = .d (.slc z (intsD l)) ∧ tm.at 3 = .d (.int .i64 (((l.take i).drop 1).foldl max (l.getD 0 0))) ∧ tm.at 4 = .d (.int .i64 (i : Int))) ?_ (l.length - 1) _ _ _ ⟨1, rfl, Nat.le_refl _, h0, rfl, ?_, ?_, ?_⟩
  · rintro m tm τ W ⟨i, rfl, hi1, hi, rfl, t0, t3, t4⟩ ih
    by_cases hlt : i < l.length
    · have inx := fun (ρ : St) => index_ints (σ := ρ) (z := z) hlt
      have hd : ((l.take (i + 1)).drop 1).foldl max (l.getD 0 0) = max (((l.take i).drop 1).foldl max (l.getD 0 0)) l[i] := by
        rw [List.take_succ_eq_append_getElem hlt, List.drop_append_of_le_length (by rw [List.length_take]; omega), List.foldl_append]; rfl
      simp only [go_sem, ↓reduceIte, Int.reduceEq, Nat.reduceBEq, Int.reduceBEq, Int.reduceBNe, Int.reduceLT, Int.reduceLE, Nat.reduceAdd, Nat.reducePow, Nat.reduceEqDiff, Nat.reduceLT, Nat.reduceLeDiff, Nat.reduceMul, Nat.reduceSub, t0, t3, t4, dec_lt' hlt, inx, o_maxA, maxA2, ← hd, wrap_succ' hlt (show l.length < 1000000000 by omega)]
      refine ih _ _ _ _ (by omega) ⟨i + 1, rfl, by omega, hlt, rfl, ?_, ?_, ?_⟩
      all_goals (simp only [go_sem, ↓reduceIte, Int.reduceEq, Nat.reduceBEq, Int.reduceBEq, Int.reduceBNe, Int.reduceLT, Int.reduceLE, Nat.reduceAdd, Nat.reducePow, Nat.reduceEqDiff, Nat.reduceLT, Nat.reduceLeDiff, Nat.reduceMul, Nat.reduceSub, t0])
    · obtain rfl : i = l.length := by omega
      rw [List.take_length] at t3
      simp only [go_sem, ↓reduceIte, Int.reduceEq, Nat.reduceBEq, Int.reduceBEq, Int.reduceBNe, Int.reduceLT, Int.reduceLE, Nat.reduceAdd, Nat.reducePow, Nat.reduceEqDiff, Nat.reduceLT, Nat.reduceLeDiff, Nat.reduceMul, Nat.reduceSub, t0, t3, t4, dec_ge' hlt, mxL]
  all_goals first | rfl | (simp only [go_sem, ↓reduceIte, Int.reduceEq, Nat.reduceBEq, Int.reduceBEq, Int.reduceBNe, Int.reduceLT, Int.reduceLE, Nat.reduceAdd, Nat.reducePow, Nat.reduceEqDiff, Nat.reduceLT, Nat.reduceLeDiff, Nat.reduceMul, Nat.reduceSub]; done) | (simp only [go_sem, ↓reduceIte, Int.reduceEq, Nat.reduceBEq, Int.reduceBEq, Int.reduceBNe, Int.reduceLT, Int.reduceLE, Nat.reduceAdd, Nat.reducePow, Nat.reduceEqDiff, Nat.reduceLT, Nat.reduceLeDiff, Nat.reduceMul, Nat.reduceSub]; rfl) | skip
theorem index48_c (h48 : fz 48 = .cut) {l : List Int} {v : Int} (hv : v ∈ l) (hl : l.length < 1000000) (z : Bool) (σ : St) : ∃ i : Nat, i < l.length ∧ l[i]? = some v ∧ (∀ j, j < i → l[j]? ≠ some v) ∧ CallsTo (XX fz) (.func 48 []) [.d (.slc z (intsD l)), .d (.int .i64 v)] σ (.d (.int .i64 (i : Int))) σ [] := by
  have key := CallsTo.cutN (X := XX fz) (f := 48) (cap := []) (args := [.d (.slc z (intsD l)), .d (.int .i64 v)]) (σ := σ) (P := fun a => ∃ i : Nat, i < l.length ∧ l[i]? = some v ∧ (∀ j, j < i → l[j]? ≠ some v) ∧ a = .d (.int .i64 (i : Int))) h48 fn48 (by simp) ?_
  · obtain ⟨a, h1, i, h2, h3, h4, rfl⟩ := key
    exact ⟨i, h2, h3, h4, h1⟩
  simp only [Try.f48, Option.getD_some]
  simp only [go_sem, ↓reduceIte, Int.reduceEq, Nat.reduceBEq, Int.reduceBEq, Int.reduceBNe, Int.reduceLT, Int.reduceLE, Nat.reduceAdd, Nat.reducePow, Nat.reduceEqDiff, Nat.reduceLT, Nat.reduceLeDiff, Nat.reduceMul, Nat.reduceSub]
  refine Ev.loop_ind (fun m tm τ W => ∃ i : Nat, m = l.length - i ∧ i ≤ l.length ∧ W = [] ∧ (∀ j, j < i → l[j]? ≠ some v) ∧ tm.at 0 = .d (.slc z (intsD l)) ∧ tm.at 1 = .d (.int .i64 v) ∧ tm.at 7 = .d (.int .i64 (l.length : Int)) ∧ tm.at 8 = .d (.int .i64 (i : Int))) ?_ l.length _ _ _ ⟨0, rfl, Nat.zero_le _, rfl, (fun j hj => absurd hj (Nat.not_lt_zero _)), ?_, ?_, ?_, ?_⟩
  · rintro m tm τ W ⟨i, rfl, hi, rfl, hno, t0, t1, t7, t8⟩ ih
    by_cases hlt : i < l.length
    · have inx := fun (ρ : St) => index_ints (σ := ρ) (z := z) hlt
      by_cases hq : v = l[i]
      · have c1 : (v == l[i]) = true := by simpa using hq
        simp only [go_sem, ↓reduceIte, Int.reduceEq, Nat.reduceBEq, Int.reduceBEq, Int.reduceBNe, Int.reduceLT, Int.reduceLE, Nat.reduceAdd, Nat.reducePow, Nat.reduceEqDiff, Nat.reduceLT, Nat.reduceLeDiff, Nat.reduceMul, Nat.reduceSub, t0, t1, t7, t8, dec_lt' hlt, inx, c1]
        exact ⟨rfl, i, hlt, by rw [List.getElem?_eq_getElem hlt, hq], hno, rfl⟩
      · have c1 : (v == l[i]) = false := by simpa using hq
        simp only [go_sem, ↓reduceIte, Int.reduceEq, Nat.reduceBEq, Int.reduceBEq, Int.reduceBNe, Int.reduceLT, Int.reduceLE, Nat.reduceAdd, Nat.reducePow, Nat.reduceEqDiff, Nat.reduceLT, Nat.reduceLeDiff, Nat.reduceMul, Nat.reduceSub, t0, t1, t7, t8, dec_lt' hlt, inx, c1, wrap_succ' hlt (show l.length < 1000000000 by omega)]
        refine ih _ _ _ _ (by omega) ⟨i + 1, rfl, hlt, rfl, fun j hj => ?_, ?_, ?_, ?_, ?_⟩
        · rcases Nat.lt_or_ge j i with q | q
          · exact hno j q
          · obtain rfl : j = i := by omega
            rw [List.getElem?_eq_getElem hlt]; intro e; cases e; exact hq rfl
        all_goals (simp only [go_sem, ↓reduceIte, Int.reduceEq, Nat.reduceBEq, Int.reduceBEq, Int.reduceBNe, Int.reduceLT, Int.reduceLE, Nat.reduceAdd, Nat.reducePow, Nat.reduceEqDiff, Nat.reduceLT, Nat.reduceLeDiff, Nat.reduceMul, Nat.reduceSub, t0, t1, t7])
    · obtain ⟨j, hj, e⟩ := List.mem_iff_getElem.1 hv
      exact absurd (by rw [List.getElem?_eq_getElem hj, e]) (hno j (by omega))
  all_goals first | rfl | (simp only [go_sem, ↓reduceIte, Int.reduceEq, Nat.reduceBEq, Int.reduceBEq, Int.reduceBNe, Int.reduceLT, Int.reduceLE, Nat.reduceAdd, Nat.reducePow, Nat.reduceEqDiff, Nat.reduceLT, Nat.reduceLeDiff, Nat.reduceMul, Nat.reduceSub]; done) | (simp only [go_sem, ↓reduceIte, Int.reduceEq, Nat.reduceBEq, Int.reduceBEq, Int.reduceBNe, Int.reduceLT, Int.reduceLE, Nat.reduceAdd, Nat.reducePow, Nat.reduceEqDiff, Nat.reduceLT, Nat.reduceLeDiff, Nat.reduceMul, Nat.reduceSub]; rfl) | skip
end Go.Am
namespace Go.Am
open Go Go.Proofs
theorem wayV_NE {g : Gr} (hg : SmallG g) (hc : checkP g = 0) {l : List Int} (hL : l.length ≤ 1000) {s : Nat} {B : List Nat} (hs : SpOk (newN g).N s B) (hB : B.length ≤ 1000) {r : List Eg} (hget : (newN g).N.es[s]? = some r) {e : Eg} (he : e ∈ r) :
    NE l (newN g).N (newX g) B e (wayV l (newN g).N (newX g) B e) := by
  have hN := newN_G (GOk.of hc)
  obtain ⟨k1, k2, k3, k4, k5, k6⟩ := hN.ed s _ hget e he
  have v := fun (l : List Int) (hL : l.length ≤ 1000) {s : Nat} {B : List Nat} (hs : SpOk (newN g).N s B) => (viable_L (zt := true) (l := l) hg hc hL hs (σ := St.empty) (ba := .d (.slc true (intsD (natsI B)))) (.inl ⟨true, rfl⟩)).1
  unfold wayV NE
  by_cases e0 : e.kind = 0
  · rw [if_pos e0]; exact .inl ⟨e0, v l hL (hs.move k4 k5)⟩
  rw [if_neg e0]
  by_cases e1 : e.kind = 1
  · rw [if_pos e1]
    by_cases hq : l[0]? = some e.num
    · rw [if_pos hq]
      exact .inr (.inr (.inl ⟨e1, hq, _, Nat.add_comm _ _, v (l.drop 1) (by rw [List.length_drop]; omega) (hs.move k4 k5)⟩))
    · rw [if_neg hq]; exact .inr (.inr (.inr ⟨e1, hq, rfl⟩))
  · rw [if_neg e1]
    have e2 : e.kind = 2 := by omega
    exact .inr (.inl ⟨e2, v l hL (hs.call hN hget he e2 (by omega))⟩)
theorem wayL_max {g : Gr} (hg : SmallG g) (hc : checkP g = 0) {l : List Int} (hL : l.length ≤ 1000) {s : Nat} {B : List Nat} (hs : SpOk (newN g).N s B) (hB : B.length ≤ 1000) {r : List Eg} (hget : (newN g).N.es[s]? = some r) (h0 : r ≠ []) :
    IsG l (newN g).N (newX g) s B (mxL (wayL l (newN g).N (newX g) B r)).toNat ∧ 0 ≤ mxL (wayL l (newN g).N (newX g) B r) := by
  have hN := newN_G (GOk.of hc)
  have hne : 0 < (wayL l (newN g).N (newX g) B r).length := by
    unfold wayL; rw [List.length_map]; exact List.length_pos_iff.2 h0
  obtain ⟨e, he, hee⟩ := List.mem_map.1 (mxL_mem hne)
  have hee : ((wayV l (newN g).N (newX g) B e : Nat) : Int) = mxL (wayL l (newN g).N (newX g) B r) := hee
  refine ⟨IsG.row hN hget h0 (fun e' he' n hn => ?_) ⟨e, he, ?_⟩ (fun e' he' => ⟨_, wayV_NE hg hc hL hs hB hget he'⟩), by omega⟩
  · rw [hn.eq (wayV_NE hg hc hL hs hB hget he')]
    have := mxL_le (l := wayL l (newN g).N (newX g) B r) (x := ((wayV l (newN g).N (newX g) B e' : Nat) : Int)) (List.mem_map.2 ⟨e', he', rfl⟩)
    omega
  · rw [← hee, Int.toNat_natCast]; exact wayV_NE hg hc hL hs hB hget he
theorem ways_L {zt zb : Bool} {g : Gr} {l : List Int} (hg : SmallG g) (hc : checkP g = 0) (hL : l.length ≤ 1000) {s : Nat} {B : List Nat} (hs : SpOk (newN g).N s B) (hBl : B.length ≤ 1000) {r : List Eg} (hget : (newN g).N.es[s]? = some r) (σ : St) :
    CallsTo (XX mdL) (.func 14 []) [simA (newN g).N (newX g), .agg [.d (.int .i64 (s : Int)), .d (.slc zb (intsD (natsI B)))], .d (.slc zt (intsD l))] σ (.tup [.d (slD (wayL l (newN g).N (newX g) B r)), .d (.int .i64 0)]) σ [] :=
  ways_c rfl rfl rfl rfl rfl rfl rfl rfl rfl rfl rfl rfl rfl rfl hg hc hL hs hBl hget σ
def ChoV (L : List Int) (a : A) : Prop := (L = [] ∧ a = .tup [.d (.int .i64 (-1)), .d (.int .i64 0), .d (.int .i64 0)]) ∨ (∃ i : Nat, i < L.length ∧ L[i]? = some (mxL L) ∧ (∀ j, j < i → L[j]? ≠ some (mxL L)) ∧ a = .tup [.d (.int .i64 (i : Int)), .d (.int .i64 (mxL L)), .d (.int .i64 0)])
theorem choose_L {zt zb : Bool} {g : Gr} {l : List Int} (hg : SmallG g) (hc : checkP g = 0) (hL : l.length ≤ 1000) {s : Nat} {B : List Nat} (hs : SpOk (newN g).N s B) (hBl : B.length ≤ 1000) {r : List Eg} (hget : (newN g).N.es[s]? = some r) (σ : St) :
    ∃ a, CallsTo (XX mdL) (.func 15 []) [simA (newN g).N (newX g), .agg [.d (.int .i64 (s : Int)), .d (.slc zb (intsD (natsI B)))], .d (.slc zt (intsD l))] σ a σ [] ∧ ChoV (wayL l (newN g).N (newX g) B r) a := by
  have hrl : r.length ≤ 10000 := (newN_fits (GOk.of hc)).l _ (List.mem_of_getElem? hget)
  refine CallsTo.cutN (cap := []) rfl fn15 (by simp) ?_
  simp only [Try.f15, Option.getD_some]
  simp only [go_sem, ↓reduceIte, Int.reduceEq, Nat.reduceBEq, Int.reduceBEq, Int.reduceBNe, Int.reduceLT, Int.reduceLE, Nat.reduceAdd, Nat.reducePow, Nat.reduceEqDiff, Nat.reduceLT, Nat.reduceLeDiff, Nat.reduceMul, Nat.reduceSub]
  refine ⟨_, _, _, ways_L hg hc hL hs hBl hget _, ?_⟩
  have c0 : ((0 : Int) != 0) = false := rfl
  have hwl : (wayL l (newN g).N (newX g) B r).length = r.length := by simp [wayL]
  have hlen : ∀ ρ : St, sliceLen ρ (.d (slD (wayL l (newN g).N (newX g) B r))) = some r.length := fun ρ => by rw [len_sl, hwl]
  generalize wayL l (newN g).N (newX g) B r = L at hwl hlen ⊢
  by_cases hr0 : r.length = 0
  · have c1 : ((r.length : Int) == 0) = true := by rw [hr0]; rfl
    simp only [go_sem, ↓reduceIte, Int.reduceEq, Nat.reduceBEq, Int.reduceBEq, Int.reduceBNe, Int.reduceLT, Int.reduceLE, Nat.reduceAdd, Nat.reducePow, Nat.reduceEqDiff, Nat.reduceLT, Nat.reduceLeDiff, Nat.reduceMul, Nat.reduceSub, c0, hlen, c1]
    exact ⟨rfl, .inl ⟨List.length_eq_zero_iff.1 (by omega), rfl⟩⟩
  · have c1 : ((r.length : Int) == 0) = false := by rw [beq_eq_false_iff_ne]; omega
    have hLp : 0 < L.length := by omega
    simp only [go_sem, ↓reduceIte, Int.reduceEq, Nat.reduceBEq, Int.reduceBEq, Int.reduceBNe, Int.reduceLT, Int.reduceLE, Nat.reduceAdd, Nat.reducePow, Nat.reduceEqDiff, Nat.reduceLT, Nat.reduceLeDiff, Nat.reduceMul, Nat.reduceSub, c0, hlen, c1]
    refine ⟨_, _, _, max_c rfl hLp (by omega) _ _, ?_⟩
    obtain ⟨i, h1, h2, h3, h4⟩ := index48_c (fz := mdL) rfl (mxL_mem hLp) (by omega) L.isEmpty (σ.push (.cells [.d (.int .i64 (s : Int)), .d (.slc zb (intsD (natsI B)))]))
    simp only [go_sem, ↓reduceIte, Int.reduceEq, Nat.reduceBEq, Int.reduceBEq, Int.reduceBNe, Int.reduceLT, Int.reduceLE, Nat.reduceAdd, Nat.reducePow, Nat.reduceEqDiff, Nat.reduceLT, Nat.reduceLeDiff, Nat.reduceMul, Nat.reduceSub]
    refine ⟨_, _, _, h4, ?_⟩
    simp only [go_sem, ↓reduceIte, Int.reduceEq, Nat.reduceBEq, Int.reduceBEq, Int.reduceBNe, Int.reduceLT, Int.reduceLE, Nat.reduceAdd, Nat.reducePow, Nat.reduceEqDiff, Nat.reduceLT, Nat.reduceLeDiff, Nat.reduceMul, Nat.reduceSub]
    exact ⟨rfl, .inr ⟨i, h1, h2, h3, rfl⟩⟩
end Go.Am
namespace Go.Am
open Go Go.Proofs
theorem mx_fold {L : List Int} (h : ∀ x ∈ L, 0 ≤ x) (h0 : 0 < L.length) : L.foldl max 0 = mxL L := by
  cases L with
  | nil => simp at h0
  | cons x L =>
    have := h x (by simp)
    rw [List.foldl_cons, Int.max_eq_right this]; rfl
set_option maxHeartbeats 32000000 in
theorem some_call (g : Gr) (hg : SmallG g) (hL : g.rules.length < 1000000000) (zw : Bool) (way : List Int) (hw : way.length < 1000000000) (z : Bool) (l0 : List Int) (hl0 : l0.length < 1000000000) : ∃ σ' T, CallsTo (XX mdL) (.func 5 []) [g.a, .d (.slc zw (intsD way)), .d (.slc z (intsD l0))] St.empty (.d (.bool true)) σ' T := by
  refine ⟨St.empty, [], CallsTo.cut0 rfl fn5 (by simp) rfl ?_⟩
  simp only [Try.f5, Option.getD_some]
  simp only [go_sem, ↓reduceIte, Int.reduceEq, Nat.reduceBEq, Int.reduceBEq, Int.reduceBNe, Int.reduceLT, Int.reduceLE, Nat.reduceAdd, Nat.reducePow, Nat.reduceEqDiff, Nat.reduceLT, Nat.reduceLeDiff, Nat.reduceMul, Nat.reduceSub, Gr.a]
  refine ⟨_, _, _, works_L _, ?_⟩
  simp only [go_sem, ↓reduceIte, Int.reduceEq, Nat.reduceBEq, Int.reduceBEq, Int.reduceBNe, Int.reduceLT, Int.reduceLE, Nat.reduceAdd, Nat.reducePow, Nat.reduceEqDiff, Nat.reduceLT, Nat.reduceLeDiff, Nat.reduceMul, Nat.reduceSub]
  refine ⟨_, _, _, deep_L g _ hg hL, ?_⟩
  cases hd : deepG g with
  | true => simp only [go_sem, ↓reduceIte, Int.reduceEq, Nat.reduceBEq, Int.reduceBEq, Int.reduceBNe, Int.reduceLT, Int.reduceLE, Nat.reduceAdd, Nat.reducePow, Nat.reduceEqDiff, Nat.reduceLT, Nat.reduceLeDiff, Nat.reduceMul, Nat.reduceSub]
  | false =>
  have hmin : min l0.length 30 ≤ l0.length := Nat.min_le_left _ _
  have hm30 : min l0.length 30 ≤ 30 := Nat.min_le_right _ _
  have hmn : minmax false [.d (.int .i64 (l0.length : Int)), .d (.int .i64 30)] = some (.d (.int .i64 ((min l0.length 30 : Nat) : Int))) := minA (b := 30)
  have hl1 : (l0.take (min l0.length 30)).length = min l0.length 30 := by rw [List.length_take]; omega
  simp only [go_sem, ↓reduceIte, Int.reduceEq, Nat.reduceBEq, Int.reduceBEq, Int.reduceBNe, Int.reduceLT, Int.reduceLE, Nat.reduceAdd, Nat.reducePow, Nat.reduceEqDiff, Nat.reduceLT, Nat.reduceLeDiff, Nat.reduceMul, Nat.reduceSub, hmn, hmin]
  generalize hl : l0.take (min l0.length 30) = l at *
  have hl30 : l.length ≤ 30 := by omega
  obtain ⟨r, hcall, hr⟩ := stand_c hg (zw := zw) hw hL (((St.empty.push (.cells g.c))))
  refine ⟨_, _, _, hcall, ?_⟩
  rcases hr with ⟨hc, rfl⟩ | ⟨hc, s, B, zb, hs, hB, rfl⟩
  · have c1 : (checkP g != 0) = true := by simpa using hc
    simp only [go_sem, ↓reduceIte, Int.reduceEq, Nat.reduceBEq, Int.reduceBEq, Int.reduceBNe, Int.reduceLT, Int.reduceLE, Nat.reduceAdd, Nat.reducePow, Nat.reduceEqDiff, Nat.reduceLT, Nat.reduceLeDiff, Nat.reduceMul, Nat.reduceSub, stNo, eq_sn]
    refine ⟨_, _, _, check_L g _ hg, ?_⟩
    simp only [go_sem, ↓reduceIte, Int.reduceEq, Nat.reduceBEq, Int.reduceBEq, Int.reduceBNe, Int.reduceLT, Int.reduceLE, Nat.reduceAdd, Nat.reducePow, Nat.reduceEqDiff, Nat.reduceLT, Nat.reduceLeDiff, Nat.reduceMul, Nat.reduceSub, c1]
  · have c0 : ((0 : Int) != 0) = false := rfl
    have h := GOk.of hc
    have hN := newN_G h
    have hF := newN_fits h
    have hel := hF.e
    have hsN := hs.st
    have hget : (newN g).N.es[s]? = some (newN g).N.es[s] := by simp [hsN]
    have hrl := hF.l _ (List.getElem_mem hsN)
    have hed := hN.ed s _ hget
    generalize (newN g).N.es[s] = r at hget hrl hed
    have ds0 : decide ((s : Int) < 0) = false := by rw [decide_eq_false_iff_not]; omega
    have ds1 : decide ((s : Int) ≥ ((newN g).N.es.length : Int)) = false := by rw [decide_eq_false_iff_not]; omega
    simp only [go_sem, ↓reduceIte, Int.reduceEq, Nat.reduceBEq, Int.reduceBEq, Int.reduceBNe, Int.reduceLT, Int.reduceLE, Nat.reduceAdd, Nat.reducePow, Nat.reduceEqDiff, Nat.reduceLT, Nat.reduceLeDiff, Nat.reduceMul, Nat.reduceSub, stAt, simA, eq_sp, netA, netC3]
    have gN : (((((St.empty.push (.cells g.c)).push (.cells [.d (.slc true []), .d (.slc true []), .d (.slc true [])])).push (.cells [.d (.int .i64 0), .d (.slc true [])])).set (St.empty.n + 1) (.cells [.d (newN g).N.esD, .d (slD (newX g).en), .d (slD (newX g).lv)])).set (St.empty.n + 2) (.cells [.d (.int .i64 (s : Int)), .d (.slc zb (intsD (natsI B)))])).get (St.empty.n + 1) = .cells [.d (newN g).N.esD, .d (slD (newX g).en), .d (slD (newX g).lv)] := by
      rw [St.get_set_ne (by omega), St.get_set_eq]
    have gP : (((((St.empty.push (.cells g.c)).push (.cells [.d (.slc true []), .d (.slc true []), .d (.slc true [])])).push (.cells [.d (.int .i64 0), .d (.slc true [])])).set (St.empty.n + 1) (.cells [.d (newN g).N.esD, .d (slD (newX g).en), .d (slD (newX g).lv)])).set (St.empty.n + 2) (.cells [.d (.int .i64 (s : Int)), .d (.slc zb (intsD (natsI B)))])).get (St.empty.n + 2) = .cells [.d (.int .i64 (s : Int)), .d (.slc zb (intsD (natsI B)))] := St.get_set_eq
    have gn : (((((St.empty.push (.cells g.c)).push (.cells [.d (.slc true []), .d (.slc true []), .d (.slc true [])])).push (.cells [.d (.int .i64 0), .d (.slc true [])])).set (St.empty.n + 1) (.cells [.d (newN g).N.esD, .d (slD (newX g).en), .d (slD (newX g).lv)])).set (St.empty.n + 2) (.cells [.d (.int .i64 (s : Int)), .d (.slc zb (intsD (natsI B)))])).n = St.empty.n + 3 := by simp only [St.n_set, St.n_push]
    generalize (((((St.empty.push (.cells g.c)).push (.cells [.d (.slc true []), .d (.slc true []), .d (.slc true [])])).push (.cells [.d (.int .i64 0), .d (.slc true [])])).set (St.empty.n + 1) (.cells [.d (newN g).N.esD, .d (slD (newX g).en), .d (slD (newX g).lv)])).set (St.empty.n + 2) (.cells [.d (.int .i64 (s : Int)), .d (.slc zb (intsD (natsI B)))])) = τ0 at gN gP gn
    have hv := (viable_L (zt := z) (l := l) hg hc (by omega) hs (σ := τ0) (ba := .d (.slc zb (intsD (natsI B)))) (.inl ⟨zb, rfl⟩))
    have hlen := fun (ρ : St) => len_es (N := (newN g).N) (σ := ρ)
    have ies := fun (ρ : St) => index_es (σ := ρ) (kd := .i64) hget
    refine ⟨_, _, _, hv.2, ?_⟩
    have hall := hv.1
    simp only [go_sem, ↓reduceIte, Int.reduceEq, Nat.reduceBEq, Int.reduceBEq, Int.reduceBNe, Int.reduceLT, Int.reduceLE, Nat.reduceAdd, Nat.reducePow, Nat.reduceEqDiff, Nat.reduceLT, Nat.reduceLeDiff, Nat.reduceMul, Nat.reduceSub, viaV, gN, gP]
    generalize farV l (newN g).N (newX g) s B = all at hall ⊢
    refine ⟨_, _, _, ways_L hg hc (by omega) hs (by omega) hget _, ?_⟩
    simp only [go_sem, ↓reduceIte, Int.reduceEq, Nat.reduceBEq, Int.reduceBEq, Int.reduceBNe, Int.reduceLT, Int.reduceLE, Nat.reduceAdd, Nat.reducePow, Nat.reduceEqDiff, Nat.reduceLT, Nat.reduceLeDiff, Nat.reduceMul, Nat.reduceSub, gN, gP]
    obtain ⟨ca, hca, hcv⟩ := choose_L (zt := z) (zb := zb) (l := l) hg hc (by omega) hs (by omega) hget τ0
    refine ⟨_, _, _, hca, ?_⟩
    have hwl : (wayL l (newN g).N (newX g) B r).length = r.length := by simp [wayL]
    have hmx := fun h0 => wayL_max (l := l) hg hc (by omega) hs (by omega) hget h0
    have hpos : ∀ x ∈ wayL l (newN g).N (newX g) B r, 0 ≤ x := fun x hx => by
      obtain ⟨e, -, rfl⟩ := List.mem_map.1 hx; omega
    generalize wayL l (newN g).N (newX g) B r = L at hwl hcv hmx hpos ⊢
    have hlenL : ∀ ρ : St, sliceLen ρ (.d (slD L)) = some r.length := fun ρ => by rw [len_sl, hwl]
    have c2 : ((r.length : Int) != (r.length : Int)) = false := by simp
    rcases hcv with ⟨hL0, rfl⟩ | ⟨w, w1, w2, w3, rfl⟩
    · have hr0 : r.length = 0 := by rw [← hwl, hL0]; rfl
      have c1 : ((r.length : Int) == 0) = true := by rw [hr0]; rfl
      have c3 : ((-1 : Int) == -1) = true := rfl
      have c4 : ((0 : Int) == 0) = true := rfl
      simp only [go_sem, ↓reduceIte, Int.reduceEq, Nat.reduceBEq, Int.reduceBEq, Int.reduceBNe, Int.reduceLT, Int.reduceLE, Nat.reduceAdd, Nat.reducePow, Nat.reduceEqDiff, Nat.reduceLT, Nat.reduceLeDiff, Nat.reduceMul, Nat.reduceSub, c0, gN, gP, ds0, ds1, hlen, ies, len_rw, hlenL, c2, c1, c3, c4]
      done
    · have hr0 : 0 < r.length := by omega
      have c1 : ((r.length : Int) == 0) = false := by rw [beq_eq_false_iff_ne]; omega
      obtain ⟨hm1, hm2⟩ := hmx (List.length_pos_iff.1 hr0)
      have hae := hall.eq hm1
      have hall2 : (all : Int) = mxL L := by rw [hae, Int.toNat_of_nonneg hm2]
      have hfold := mx_fold hpos (by omega)
      simp only [go_sem, ↓reduceIte, Int.reduceEq, Nat.reduceBEq, Int.reduceBEq, Int.reduceBNe, Int.reduceLT, Int.reduceLE, Nat.reduceAdd, Nat.reducePow, Nat.reduceEqDiff, Nat.reduceLT, Nat.reduceLeDiff, Nat.reduceMul, Nat.reduceSub, c0, gN, gP, ds0, ds1, hlen, ies, len_rw, hlenL, c2, c1]
      have hrl2 : r.length < 1000000000 := by omega
      clear hlen ies gN gP gn hmx hv hget hed hcall hca
      refine Ev.loop_ind (fun m tm τ W => ∃ i : Nat, m = r.length - i ∧ i ≤ r.length ∧ W = [] ∧ tm.at 12 = .d (slD L) ∧ tm.at 14 = .d (.int .i64 (w : Int)) ∧ tm.at 15 = .d (.int .i64 (mxL L)) ∧ tm.at 10 = .d (.int .i64 (mxL L)) ∧ tm.at 17 = .d (.int .i64 ((L.take i).foldl max 0)) ∧ tm.at 18 = .d (.int .i64 (i : Int))) ?_ r.length _ _ _ ⟨0, rfl, Nat.zero_le _, rfl, ?_, ?_, ?_, ?_, ?_, ?_⟩
      · rintro m tm τ W ⟨i, rfl, hi, rfl, t12, t14, t15, t10, t17, t18⟩ ih
        by_cases hlt : i < r.length
        · have hltL : i < L.length := by omega
          have inx := fun (ρ : St) => index_ints (σ := ρ) (z := L.isEmpty) hltL
          have inx : ∀ ρ : St, indexK ρ 1 (.d (slD L)) (.d (.int .i64 (i : Int))) = .val (.d (.vptr [.int .i64 L[i]] 0)) ρ [] [] := inx
          have hd : (L.take (i + 1)).foldl max 0 = max ((L.take i).foldl max 0) L[i] := by
            rw [List.take_succ_eq_append_getElem hltL, List.foldl_append]; rfl
          simp only [go_sem, ↓reduceIte, Int.reduceEq, Nat.reduceBEq, Int.reduceBEq, Int.reduceBNe, Int.reduceLT, Int.reduceLE, Nat.reduceAdd, Nat.reducePow, Nat.reduceEqDiff, Nat.reduceLT, Nat.reduceLeDiff, Nat.reduceMul, Nat.reduceSub, t12, t14, t15, t10, t17, t18, hlenL, dec_lt' hlt, inx, o_maxA, maxA2, ← hd, wrap_succ' hlt hrl2]
          refine ih _ _ _ _ (by omega) ⟨i + 1, rfl, hlt, rfl, ?_, ?_, ?_, ?_, ?_, ?_⟩
          all_goals (simp only [go_sem, ↓reduceIte, Int.reduceEq, Nat.reduceBEq, Int.reduceBEq, Int.reduceBNe, Int.reduceLT, Int.reduceLE, Nat.reduceAdd, Nat.reducePow, Nat.reduceEqDiff, Nat.reduceLT, Nat.reduceLeDiff, Nat.reduceMul, Nat.reduceSub, t12, t14, t15, t10])
        · obtain rfl : i = r.length := by omega
          rw [List.take_of_length_le (by omega), hfold] at t17
          have b1 : (mxL L != mxL L) = false := by simp
          have b2 : decide ((w : Int) < 0) = false := by rw [decide_eq_false_iff_not]; omega
          have b3 : decide ((w : Int) ≥ (r.length : Int)) = false := by rw [decide_eq_false_iff_not]; omega
          have inw : ∀ ρ : St, indexK ρ 1 (.d (slD L)) (.d (.int .i64 (w : Int))) = .val (.d (.vptr [.int .i64 L[w]] 0)) ρ [] [] := fun ρ => index_ints (σ := ρ) (z := L.isEmpty) w1
          have hLw : L[w] = mxL L := by rw [List.getElem?_eq_getElem w1] at w2; simpa using w2
          rw [hLw] at inw
          simp only [go_sem, ↓reduceIte, Int.reduceEq, Nat.reduceBEq, Int.reduceBEq, Int.reduceBNe, Int.reduceLT, Int.reduceLE, Nat.reduceAdd, Nat.reducePow, Nat.reduceEqDiff, Nat.reduceLT, Nat.reduceLeDiff, Nat.reduceMul, Nat.reduceSub, t12, t14, t15, t10, t17, t18, hlenL, dec_ge' hlt, b1, b2, b3, inw]
          refine Ev.loop_ind (fun m tm τ W => ∃ i : Nat, m = w - i ∧ i ≤ w ∧ W = [] ∧ tm.at 12 = .d (slD L) ∧ tm.at 14 = .d (.int .i64 (w : Int)) ∧ tm.at 17 = .d (.int .i64 (mxL L)) ∧ tm.at 19 = .d (.int .i64 (i : Int))) ?_ w _ _ _ ⟨0, rfl, Nat.zero_le _, rfl, ?_, ?_, ?_, ?_⟩
          · clear ih t12 t14 t15 t10 t17 t18
            rintro m tm τ W ⟨i, rfl, hi, rfl, t12, t14, t17, t19⟩ ih
            by_cases hlt2 : i < w
            · have hltL : i < L.length := by omega
              have inx : ∀ ρ : St, indexK ρ 1 (.d (slD L)) (.d (.int .i64 (i : Int))) = .val (.d (.vptr [.int .i64 L[i]] 0)) ρ [] [] := fun ρ => index_ints (σ := ρ) (z := L.isEmpty) hltL
              have hno := w3 i hlt2
              rw [List.getElem?_eq_getElem hltL] at hno
              have c5 : (L[i] == mxL L) = false := by simpa using hno
              simp only [go_sem, ↓reduceIte, Int.reduceEq, Nat.reduceBEq, Int.reduceBEq, Int.reduceBNe, Int.reduceLT, Int.reduceLE, Nat.reduceAdd, Nat.reducePow, Nat.reduceEqDiff, Nat.reduceLT, Nat.reduceLeDiff, Nat.reduceMul, Nat.reduceSub, t12, t14, t17, t19, dec_lt' hlt2, inx, c5, wrap_succ' hlt2 (show w < 1000000000 by omega)]
              refine ih _ _ _ _ (by omega) ⟨i + 1, rfl, hlt2, rfl, ?_, ?_, ?_, ?_⟩
              all_goals (simp only [go_sem, ↓reduceIte, Int.reduceEq, Nat.reduceBEq, Int.reduceBEq, Int.reduceBNe, Int.reduceLT, Int.reduceLE, Nat.reduceAdd, Nat.reducePow, Nat.reduceEqDiff, Nat.reduceLT, Nat.reduceLeDiff, Nat.reduceMul, Nat.reduceSub, t12, t14, t17])
            · simp only [go_sem, ↓reduceIte, Int.reduceEq, Nat.reduceBEq, Int.reduceBEq, Int.reduceBNe, Int.reduceLT, Int.reduceLE, Nat.reduceAdd, Nat.reducePow, Nat.reduceEqDiff, Nat.reduceLT, Nat.reduceLeDiff, Nat.reduceMul, Nat.reduceSub, t12, t14, t17, t19, dec_ge' hlt2]
          all_goals first | (simp only [go_sem, ↓reduceIte, Int.reduceEq, Nat.reduceBEq, Int.reduceBEq, Int.reduceBNe, Int.reduceLT, Int.reduceLE, Nat.reduceAdd, Nat.reducePow, Nat.reduceEqDiff, Nat.reduceLT, Nat.reduceLeDiff, Nat.reduceMul, Nat.reduceSub, t12, t14, t17]; done) | (simp only [go_sem, ↓reduceIte, Int.reduceEq, Nat.reduceBEq, Int.reduceBEq, Int.reduceBNe, Int.reduceLT, Int.reduceLE, Nat.reduceAdd, Nat.reducePow, Nat.reduceEqDiff, Nat.reduceLT, Nat.reduceLeDiff, Nat.reduceMul, Nat.reduceSub]; rfl)
      all_goals first | (simp only [go_sem, ↓reduceIte, Int.reduceEq, Nat.reduceBEq, Int.reduceBEq, Int.reduceBNe, Int.reduceLT, Int.reduceLE, Nat.reduceAdd, Nat.reducePow, Nat.reduceEqDiff, Nat.reduceLT, Nat.reduceLeDiff, Nat.reduceMul, Nat.reduceSub]; done) | (simp only [go_sem, ↓reduceIte, Int.reduceEq, Nat.reduceBEq, Int.reduceBEq, Int.reduceBNe, Int.reduceLT, Int.reduceLE, Nat.reduceAdd, Nat.reducePow, Nat.reduceEqDiff, Nat.reduceLT, Nat.reduceLeDiff, Nat.reduceMul, Nat.reduceSub, hall2]; done) | (simp only [go_sem, ↓reduceIte, Int.reduceEq, Nat.reduceBEq, Int.reduceBEq, Int.reduceBNe, Int.reduceLT, Int.reduceLE, Nat.reduceAdd, Nat.reducePow, Nat.reduceEqDiff, Nat.reduceLT, Nat.reduceLeDiff, Nat.reduceMul, Nat.reduceSub]; rfl)
end Go.Am

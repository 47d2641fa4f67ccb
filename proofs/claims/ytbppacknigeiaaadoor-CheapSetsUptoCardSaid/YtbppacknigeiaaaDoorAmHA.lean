/- Part HA of a proof that runs a program's calls on a small machine whose values bear no addresses: no conditions. -/
import Derived.Test.YtbppacknigeiaaaDoorAmH9
set_option autoImplicit false
set_option linter.unusedSimpArgs false
set_option linter.unusedVariables false
set_option linter.unusedSectionVars false
namespace Go.Am
open Go Go.Proofs
variable {fz : Nat → Md}
theorem back_c (h79 : fz 79 = .keep) (a : A) (σ : St) (ha : a.cells = some [a]) : CallsTo (XX fz) (.func 79 []) [a] σ (.func 99 [.ptr σ.n 0]) (σ.push (.cells [a])) [] := by
  refine CallsTo.ofQ fn79 (by simp) ?_
  simp only [Tryd.f79, Option.getD_some]
  simp only [go_sem, ↓reduceIte, Int.reduceEq, Nat.reduceBEq, Int.reduceBEq, Nat.reduceAdd, Nat.reduceEqDiff, Nat.reduceLT, Nat.reduceSub, ha]
  have : (XX fz).fz 79 = .keep := h79
  simp [leaveCall, this]
structure KeptT (σ : St) (own : List Nat) (σ' : St) (W : List Nat) : Prop where
  n : σ.n ≤ σ'.n
  same : ∀ k, k < σ.n → k ∉ W → σ'.get k = σ.get k
  w : ∀ k, k ∈ W → k ∈ own ∨ σ.n ≤ k
theorem KeptT.refl {σ : St} {own : List Nat} : KeptT σ own σ [] := ⟨Nat.le_refl _, fun _ _ _ => rfl, fun _ h => by cases h⟩
theorem KeptT.call {σ σ1 σ2 : St} {own W T : List Nat} (h : KeptT σ own σ1 W) (g : KeptT σ1 own σ2 T) : KeptT σ own σ2 (W ++ low σ.n T) where
  n := Nat.le_trans h.n g.n
  same k h1 h2 := by
    rw [List.mem_append, not_or, mem_low] at h2
    rw [g.same k (Nat.lt_of_lt_of_le h1 h.n) fun hj => h2.2 ⟨hj, h1⟩]; exact h.same k h1 h2.1
  w k hk := by
    rcases List.mem_append.1 hk with hk | hk
    · exact h.w k hk
    · obtain ⟨q1, q2⟩ := mem_low.1 hk
      rcases g.w k q1 with q | q
      · exact .inl q
      · have := h.n; omega
def RunT (X : X) (f : A) (args : List A) (σ : St) (r : A) (P : St → List Nat → Prop) : Prop :=
  ∃ σ' T, CallsTo X f args σ r σ' T ∧ P σ' T
theorem RunT.yld {X : X} {σ : St} {l : Nat} {args : List A} {L : ALoop} {r : A} {P : St → List Nat → Prop} (hL : σ.get l = .loop L) (hl : args.length = L.params.size ∧ L.params.all (· < L.nt) = true)
    (e : Ev X L.fn L.nt (some l) σ.n [.code L.assign, .beginRound, .code L.body] (setParams L.params.toList args L.tm) σ [] (YQ fun jump σ1 W1 => ∃ L', σ1.get l = .loop L' ∧ r = .d (.bool jump.isNone) ∧
      P (σ1.set l (.loop { L' with st := if jump.isNone then .ready else .over, pending := jump })) (W1 ++ [l]))) :
    RunT X (.yld l) args σ r P := by
  obtain ⟨n, o, hn, hq⟩ := e
  cases o with
  | ret _ _ _ => exact hq.elim
  | leave j σ1 W1 =>
    obtain ⟨L', h1, rfl, h2⟩ := hq
    exact ⟨_, _, CallsTo.yld hL hl ⟨n, _, hn, j, σ1, W1, L', rfl, h1, rfl, rfl, rfl⟩, h2⟩
theorem RunT.keep {X : X} {f : Nat} {cap args : List A} {F : AFn} {r : A} {σ : St} {P : St → List Nat → Prop} (hz : X.fz f = .keep) (hF : X.fn f = some F) (hl : args.length + cap.length ≤ F.nt)
    (e : Ev X f F.nt none σ.n [.code F.body] (initTm (args ++ cap) 0 .nil) σ [] (RetQ X F.results fun a σ1 W1 => a = r ∧ P σ1 W1)) : RunT X (.func f cap) args σ r P := by
  obtain ⟨n, o, hn, hq⟩ := e
  cases o with
  | leave _ _ _ => exact hq.elim
  | ret tm σ1 W1 =>
    unfold RetQ at hq
    dsimp only at hq
    split at hq
    · rename_i l hl'
      obtain ⟨rfl, h5⟩ := hq
      exact ⟨σ1, W1, CallsTo.ofQ hF hl ⟨n, _, hn, by unfold RetQ; dsimp only; rw [hl']; simp [leaveCall, hz]⟩, h5⟩
    · exact hq.elim
noncomputable def bkR : Array Nat × Code × Code := ((rangesOf (Tryd.f42.body.getD .skip))[0]?).getD default
noncomputable def bkL (tm : Tm) : ALoop := ⟨42, 128, tm, bkR.1, bkR.2.1, bkR.2.2, .ready, none⟩
structure BkI (g : Gr) (nl : List Bool) (ks k1 k2 k3 : Nat) (F : List Nat) (n0 kl : Nat) (tm : Tm) (r : HR × Nat × Bool) (τ : St) : Prop where
  l : τ.get kl = .loop (bkL tm)
  b0 : τ.get n0 = .cells [.ptr ks 0]
  b2 : τ.get (n0 + 2) = .cells [.d (.int .u64 r.2.1)]
  b3 : τ.get (n0 + 3) = .cells [.d (.bool r.2.2)]
  sm : SM g nl ks k1 k2 k3 F r.1.1 r.1.2 τ
  lt : kl < τ.n
set_option maxHeartbeats 8000000 in
theorem bk_round (h69 : fz 69 = .cut) {g : Gr} {nl : List Bool} {ks k1 k2 k3 : Nat} {F : List Nat} (hF : Lt64 F) (ht : g.tokens ≤ 64) (hd : Apart ks k1 k2 k3) {y : Ex} {l : List Ex} (hx : SmallE y) (ho : okE g.tokens g.rules.length y)
    (ih : BhC fz g nl ks k1 k2 k3 F y) {b : Nat} {s : HR} {n0 kl : Nat} {tm : Tm} (t3 : tm.at 3 = .ptr n0 0) (t5 : tm.at 5 = .ptr (n0 + 2) 0) (t6 : tm.at 6 = .ptr (n0 + 3) 0) (l0 : ks < n0) (l1 : k1 < n0) (l2 : k2 < n0) (l3 : k3 < n0) (lk : n0 + 3 < kl)
    {τ : St} (i : Int) (hb : (bhS F nl l b s).2.1 < 2 ^ 64) (hs : HrI g.rules.length (bhS F nl l b s).1) (hI : BkI g nl ks k1 k2 k3 F n0 kl tm (bhS F nl l b s) τ) :
    RunT (XX fz) (.yld kl) [.d (.int .i64 i), y.a] τ (.d (.bool true)) (fun τ' T => KeptT τ [kl, n0 + 2, n0 + 3, k2, k3] τ' T ∧ BkI g nl ks k1 k2 k3 F n0 kl tm (bhS F nl (y :: l) b s) τ') := by
  obtain ⟨g1, b0, b2, b3, hm, hkl⟩ := hI
  refine RunT.yld g1 ⟨rfl, by kernel_rfl⟩ ?_
  generalize hK : YQ _ = K
  have w1 : (bkL tm).fn = 42 := rfl
  have w2 : (bkL tm).nt = 128 := rfl
  have w3 : (bkL tm).tm = tm := rfl
  have w4 : (bkL tm).params = #[87, 88] := rfl
  have w5 : (bkL tm).assign = bkR.2.1 := rfl
  have w6 : (bkL tm).body = bkR.2.2 := rfl
  have w7 : (bkL tm).st = .ready := rfl
  have a0 : n0 ≠ τ.n := by omega
  have a2 : n0 + 2 ≠ τ.n := by omega
  have a3 : n0 + 3 ≠ τ.n := by omega
  have a4 : kl ≠ τ.n := by omega
  have c0 : n0 ≠ kl := by omega
  have c2 : n0 + 2 ≠ kl := by omega
  have c3 : n0 + 3 ≠ kl := by omega
  simp only [w1, w2, w3, w4, w5, w6, bkR, Tryd.f42, rangesOf, Option.getD_some, List.append_nil, List.nil_append, List.getElem?_cons_zero, List.cons_append]
  simp only [go_sem, ↓reduceIte, Int.reduceEq, Nat.reduceBEq, Int.reduceBEq, Nat.reduceAdd, Nat.reduceEqDiff, Nat.reduceLT, Nat.reduceSub, Ex.a, t3, t5, t6, w7, g1, b0, b2, b3, a0, a2, a3, a4, c0, c2, c3, Ne.symm a0, Ne.symm a2, Ne.symm a3, Ne.symm a4, Ne.symm c0, Ne.symm c2, Ne.symm c3]
  generalize hτ1 : ((τ.push (Blk.cells [A.d (D.int IntKind.i64 0), A.d (D.int IntKind.i64 0), A.d (D.slc true [])])).set τ.n (Blk.cells y.c)).set kl _ = τ1
  have n1 : τ1.n = τ.n + 1 := by rw [← hτ1]; simp only [St.n_set, St.n_push]
  have o1 : ∀ k, k < τ.n → k ≠ kl → τ1.get k = τ.get k := fun k hk h => by rw [← hτ1, St.get_set_ne h, St.get_set_ne (by omega), St.get_push_ne hk]
  have gk : τ1.get kl = .loop { bkL tm with st := .busy } := by rw [← hτ1, St.get_set_eq]
  have gy : τ1.get τ.n = .cells y.c := by rw [← hτ1, St.get_set_ne (by omega), St.get_set_eq]
  clear hτ1
  have hm1 : SM g nl ks k1 k2 k3 F (bhS F nl l b s).1.1 (bhS F nl l b s).1.2 τ1 :=
    ⟨(o1 _ hm.ls (by omega)).trans hm.s, (o1 _ hm.l1 (by omega)).trans hm.f, (o1 _ hm.l2 (by omega)).trans hm.h, (o1 _ hm.l3 (by omega)).trans hm.r, hm.fl, hm.hl, hm.rl, hm.nl, by omega, by omega, by omega, by omega⟩
  obtain ⟨ρ, T, hc, rn, rM, rw', rsm⟩ := ih _ _ τ1 hb hs hm1
  refine ⟨_, _, _, hc, ?_⟩
  have keep : ∀ k, k < τ1.n → k ≠ k2 → k ≠ k3 → ρ.get k = τ1.get k := fun k hk h2 h3 => rM.same k hk fun q => by
    rcases rw' k q with q | q
    · exact h2 q
    · exact h3 q
  have d0 : ρ.get n0 = .cells [.ptr ks 0] := ((keep _ (by omega) (by omega) (by omega)).trans (o1 _ (by omega) (by omega))).trans b0
  have d2 : ρ.get (n0 + 2) = .cells [.d (.int .u64 (bhS F nl l b s).2.1)] := ((keep _ (by omega) (by omega) (by omega)).trans (o1 _ (by omega) (by omega))).trans b2
  have d3 : ρ.get (n0 + 3) = .cells [.d (.bool (bhS F nl l b s).2.2)] := ((keep _ (by omega) (by omega) (by omega)).trans (o1 _ (by omega) (by omega))).trans b3
  have dk : ρ.get kl = .loop { bkL tm with st := .busy } := (keep _ (by omega) (by omega) (by omega)).trans gk
  have dy : ρ.get τ.n = .cells y.c := (keep _ (by omega) (by omega) (by omega)).trans gy
  have hlt := bgE_lt (nl := nl) hF ht y ho
  have how := or_w hlt hb
  have lt1 : low τ.n [kl] = [kl] := by rw [low_cons_lt hkl]; rfl
  have lt2 : low τ.n [n0 + 2] = [n0 + 2] := by rw [low_cons_lt (by omega)]; rfl
  have lt3 : low τ.n [n0 + 3] = [n0 + 3] := by rw [low_cons_lt (by omega)]; rfl
  have p1 : ∀ (f : Bool), SM g nl ks k1 k2 k3 F (bhE F nl y (bhS F nl l b s).2.1 (bhS F nl l b s).1).1.1 (bhE F nl y (bhS F nl l b s).2.1 (bhS F nl l b s).1).1.2 (ρ.set (n0 + 3) (.cells [.d (.bool f)])) := fun f =>
    ⟨by rw [St.get_set_ne (by omega)]; exact rsm.s, by rw [St.get_set_ne (by omega)]; exact rsm.f, by rw [St.get_set_ne (by omega)]; exact rsm.h, by rw [St.get_set_ne (by omega)]; exact rsm.r, rsm.fl, rsm.hl, rsm.rl, rsm.nl, rsm.ls, rsm.l1, rsm.l2, rsm.l3⟩
  generalize hr : bhS F nl l b s = r at *
  have fin : ∀ (f : Bool) (v : Int) (φ : St) (W : List Nat), f = ((bhE F nl y r.2.1 r.1).2 || r.2.2) → v = (((if (bgE F nl y).2 = true then (bgE F nl y).1 ||| r.2.1 else (bgE F nl y).1) : Nat) : Int) → φ = (ρ.set (n0 + 3) (.cells [.d (.bool f)])).set (n0 + 2) (.cells [.d (.int .u64 v)]) →
      W = low τ.n [kl] ++ low τ.n T ++ low τ.n [n0 + 3] ++ low τ.n [n0 + 2] → K (.leave none φ W) := by
    rintro f v φ W rfl rfl rfl rfl
    rw [← hK, yq_leave]
    have fr : ∀ k, k ≠ n0 + 2 → k ≠ n0 + 3 → k ≠ kl → ∀ b1 b2 b3, (((ρ.set (n0 + 3) b1).set (n0 + 2) b2).set kl b3).get k = ρ.get k := fun k h1 h2 h3 b1 b2 b3 => by
      rw [St.get_set_ne h3, St.get_set_ne h1, St.get_set_ne h2]
    refine ⟨_, by rw [St.get_set_ne (by omega), St.get_set_ne (by omega)]; exact dk, rfl, ⟨by simp only [St.n_set]; omega, fun k hk ho => ?_, fun k hk => ?_⟩, ?_⟩
    · simp only [List.mem_append, mem_low, List.mem_cons, List.not_mem_nil, or_false, not_or, not_and] at ho
      obtain ⟨⟨⟨⟨h1, h2⟩, h3⟩, h4⟩, h5⟩ := ho
      rw [fr k (fun q => h4 q hk) (fun q => h3 q hk) h5, rM.same k (by omega) fun q => h2 q hk, o1 k hk h5]
    · left
      simp only [List.mem_append, mem_low, List.mem_cons, List.not_mem_nil, or_false] at hk ⊢
      rcases hk with (((hk | hk) | hk) | hk) | hk
      · exact .inl hk.1
      · exact .inr (.inr (.inr (rw' k hk.1)))
      · exact .inr (.inr (.inl hk.1))
      · exact .inr (.inl hk.1)
      · exact .inl hk
    · have hbs : bhS F nl (y :: l) b s = ((bhE F nl y r.2.1 r.1).1, (if (bgE F nl y).2 = true then (bgE F nl y).1 ||| r.2.1 else (bgE F nl y).1), (bhE F nl y r.2.1 r.1).2 || r.2.2) := by rw [bhS, hr]
      rw [hbs]
      refine ⟨by rw [St.get_set_eq]; rfl, ?_, ?_, ?_, ?_, by simp only [St.n_set]; omega⟩
      · rw [fr _ (by omega) (by omega) (by omega)]; exact d0
      · rw [St.get_set_ne (by omega), St.get_set_eq]
      · rw [St.get_set_ne (by omega), St.get_set_ne (by omega), St.get_set_eq]
      · exact ⟨by rw [fr _ (by omega) (by omega) (by omega)]; exact rsm.s, by rw [fr _ (by omega) (by omega) (by omega)]; exact rsm.f, by rw [fr _ (by omega) (by omega) (by omega)]; exact rsm.h, by rw [fr _ (by omega) (by omega) (by omega)]; exact rsm.r, rsm.fl, rsm.hl, rsm.rl, rsm.nl, by simp only [St.n_set]; omega, by simp only [St.n_set]; omega, by simp only [St.n_set]; omega, by simp only [St.n_set]; omega⟩
  cases hf : (bhE F nl y r.2.1 r.1).2 with
  | true =>
    simp only [go_sem, ↓reduceIte, Int.reduceEq, Nat.reduceBEq, Int.reduceBEq, Nat.reduceAdd, Nat.reduceEqDiff, Nat.reduceLT, Nat.reduceSub, t3, t5, t6, d0, d2, d3, dk, dy, a0, a2, a3, a4, c0, c2, c3, Ne.symm a0, Ne.symm a2, Ne.symm a3, Ne.symm a4, Ne.symm c0, Ne.symm c2, Ne.symm c3]
    refine ⟨_, _, _, begin_c h69 hF ht y _ hx ho (p1 true), ?_⟩
    cases hnl : (bgE F nl y).2 with
    | true =>
      simp only [go_sem, ↓reduceIte, Int.reduceEq, Nat.reduceBEq, Int.reduceBEq, Nat.reduceAdd, Nat.reduceEqDiff, Nat.reduceLT, Nat.reduceSub, t3, t5, t6, d0, d2, d3, dk, dy, a0, a2, a3, a4, c0, c2, c3, Ne.symm a0, Ne.symm a2, Ne.symm a3, Ne.symm a4, Ne.symm c0, Ne.symm c2, Ne.symm c3]
      exact fin _ _ _ _ (by rw [hf]; rfl) (by rw [if_pos hnl]; exact how) rfl rfl
    | false =>
      simp only [go_sem, ↓reduceIte, Int.reduceEq, Nat.reduceBEq, Int.reduceBEq, Nat.reduceAdd, Nat.reduceEqDiff, Nat.reduceLT, Nat.reduceSub, t3, t5, t6, d0, d2, d3, dk, dy, a0, a2, a3, a4, c0, c2, c3, Ne.symm a0, Ne.symm a2, Ne.symm a3, Ne.symm a4, Ne.symm c0, Ne.symm c2, Ne.symm c3]
      exact fin _ _ _ _ (by rw [hf]; rfl) (by rw [if_neg (by rw [hnl]; simp)]) rfl rfl
  | false =>
    simp only [go_sem, ↓reduceIte, Int.reduceEq, Nat.reduceBEq, Int.reduceBEq, Nat.reduceAdd, Nat.reduceEqDiff, Nat.reduceLT, Nat.reduceSub, t3, t5, t6, d0, d2, d3, dk, dy, a0, a2, a3, a4, c0, c2, c3, Ne.symm a0, Ne.symm a2, Ne.symm a3, Ne.symm a4, Ne.symm c0, Ne.symm c2, Ne.symm c3]
    refine ⟨_, _, _, begin_c h69 hF ht y _ hx ho (p1 _), ?_⟩
    cases hnl : (bgE F nl y).2 with
    | true =>
      simp only [go_sem, ↓reduceIte, Int.reduceEq, Nat.reduceBEq, Int.reduceBEq, Nat.reduceAdd, Nat.reduceEqDiff, Nat.reduceLT, Nat.reduceSub, t3, t5, t6, d0, d2, d3, dk, dy, a0, a2, a3, a4, c0, c2, c3, Ne.symm a0, Ne.symm a2, Ne.symm a3, Ne.symm a4, Ne.symm c0, Ne.symm c2, Ne.symm c3]
      exact fin _ _ _ _ (by rw [hf]; rfl) (by rw [if_pos hnl]; exact how) rfl rfl
    | false =>
      simp only [go_sem, ↓reduceIte, Int.reduceEq, Nat.reduceBEq, Int.reduceBEq, Nat.reduceAdd, Nat.reduceEqDiff, Nat.reduceLT, Nat.reduceSub, t3, t5, t6, d0, d2, d3, dk, dy, a0, a2, a3, a4, c0, c2, c3, Ne.symm a0, Ne.symm a2, Ne.symm a3, Ne.symm a4, Ne.symm c0, Ne.symm c2, Ne.symm c3]
      exact fin _ _ _ _ (by rw [hf]; rfl) (by rw [if_neg (by rw [hnl]; simp)]) rfl rfl
end Go.Am
namespace Go.Am
open Go Go.Proofs
variable {fz : Nat → Md}
set_option maxHeartbeats 8000000 in
theorem back_run (h69 : fz 69 = .cut) (h99 : fz 99 = .keep) {g : Gr} {nl : List Bool} {ks k1 k2 k3 : Nat} {F : List Nat} (hF : Lt64 F) (ht : g.tokens ≤ 64) (hd : Apart ks k1 k2 k3) {x : Ex} (hx : SmallE x) (ho : okE g.tokens g.rules.length x)
    (ih : ∀ y ∈ x.l, BhC fz g nl ks k1 k2 k3 F y) {b : Nat} {s : HR} (hb : b < 2 ^ 64) (hs : HrI g.rules.length s) {n0 kl kb : Nat} {tm : Tm} (t3 : tm.at 3 = .ptr n0 0) (t5 : tm.at 5 = .ptr (n0 + 2) 0) (t6 : tm.at 6 = .ptr (n0 + 3) 0) (l0 : ks < n0) (l1 : k1 < n0) (l2 : k2 < n0) (l3 : k3 < n0) (lk : n0 + 3 < kl) (lb : n0 + 3 < kb) (hkb : kb ≠ kl)
    {τ : St} (hI : BkI g nl ks k1 k2 k3 F n0 kl tm (bhS F nl [] b s) τ) (gb : τ.get kb = .cells [x.ld]) (hkn : kb < τ.n) :
    RunT (XX fz) (.func 99 [.ptr kb 0]) [.yld kl] τ (.tup []) (fun τ' T => KeptT τ [kl, n0 + 2, n0 + 3, k2, k3] τ' T ∧ BkI g nl ks k1 k2 k3 F n0 kl tm (bhS F nl x.l b s) τ') := by
  have hlen := hx.len
  have hsub : ∀ i, (∀ y ∈ x.l.drop i, (bgE F nl y).1 < 2 ^ 64 ∧ ∀ b s, b < 2 ^ 64 → HrI g.rules.length s → HrG g.rules.length s (bhE F nl y b s).1 (bhE F nl y b s).2) := fun i y hy => by
    have hy' := List.mem_of_mem_drop hy
    exact ⟨bgE_lt hF ht y (ho.sub hy'), fun b s hb hs => bhE_ok hF ht y b s (ho.sub hy') hb hs⟩
  refine RunT.keep h99 fn99 (by simp) ?_
  simp only [Tryd.f99, Option.getD_some]
  have wl : IntKind.i64.wrap ((x.l.length : Int) - 1) = (x.l.length : Int) - 1 := wrap_small (by omega) (by omega)
  simp only [go_sem, ↓reduceIte, Int.reduceEq, Nat.reduceBEq, Int.reduceBEq, Nat.reduceAdd, Nat.reduceEqDiff, Nat.reduceLT, Nat.reduceSub, gb, wl, Ex.len_ld]
  refine Ev.loop_ind (fun m tm' σ W => ∃ i, m = i ∧ i ≤ x.l.length ∧ KeptT τ [kl, n0 + 2, n0 + 3, k2, k3] σ W ∧ BkI g nl ks k1 k2 k3 F n0 kl tm (bhS F nl (x.l.drop i) b s) σ ∧ tm'.at 0 = .yld kl ∧ tm'.at 1 = .ptr kb 0 ∧ tm'.at 3 = .d (.int .i64 ((i : Int) - 1))) ?_ x.l.length _ _ _ ⟨_, rfl, Nat.le_refl _, KeptT.refl, by rw [List.drop_length]; exact hI, ?_, ?_, ?_⟩
  · rintro m tm' σ W ⟨i, rfl, hi, hK, hB, t0, t1, u3⟩ ihl
    cases m with
    | zero =>
      have c : decide (((0 : Nat) : Int) - 1 ≥ 0) = false := by simp
      simp only [go_sem, ↓reduceIte, Int.reduceEq, Nat.reduceBEq, Int.reduceBEq, Nat.reduceAdd, Nat.reduceEqDiff, Nat.reduceLT, Nat.reduceSub, t0, t1, u3, c]
      exact ⟨hK, hB⟩
    | succ i =>
      have hl : i < x.l.length := by omega
      have hget : x.l[i]? = some x.l[i] := by simp [hl]
      have hmem : x.l[i] ∈ x.l := List.getElem_mem hl
      have e1 : (((i + 1 : Nat) : Int) - 1) = (i : Int) := by omega
      rw [e1] at u3
      have c : decide ((i : Int) ≥ 0) = true := by simp
      have hkW : kb ∉ W := fun h => by
        rcases hK.w kb h with h | h
        · simp only [List.mem_cons, List.not_mem_nil, or_false] at h; omega
        · omega
      have hgb : σ.get kb = .cells [x.ld] := (hK.same kb hkn hkW).trans gb
      obtain ⟨p1, p2⟩ := bhS_ok (n := g.rules.length) (x.l.drop (i + 1)) b s (hsub _) hb hs
      simp only [go_sem, ↓reduceIte, Int.reduceEq, Nat.reduceBEq, Int.reduceBEq, Nat.reduceAdd, Nat.reduceEqDiff, Nat.reduceLT, Nat.reduceSub, t0, t1, u3, c, hgb, Ex.index_ld hget]
      obtain ⟨σ', T, hc, hK', hB'⟩ := bk_round h69 hF ht hd (hx.sub hmem) (ho.sub hmem) (ih _ hmem) t3 t5 t6 l0 l1 l2 l3 lk (i : Int) p2 p1.i hB
      refine ⟨_, _, _, hc, ?_⟩
      have wl : IntKind.i64.wrap ((i : Int) - 1) = (i : Int) - 1 := wrap_small (by omega) (by omega)
      simp only [go_sem, ↓reduceIte, Int.reduceEq, Nat.reduceBEq, Int.reduceBEq, Nat.reduceAdd, Nat.reduceEqDiff, Nat.reduceLT, Nat.reduceSub, t0, t1, u3, wl]
      refine ihl i _ _ _ (by omega) ⟨i, rfl, by omega, hK.call hK', ?_, ?_, ?_, ?_⟩
      · rw [List.drop_eq_getElem_cons hl]; exact hB'
      all_goals (simp only [go_sem, ↓reduceIte, Int.reduceEq, Nat.reduceBEq, Int.reduceBEq, Nat.reduceAdd, Nat.reduceEqDiff, Nat.reduceLT, Nat.reduceSub, t0, t1])
  all_goals first | rfl | (simp only [go_sem, ↓reduceIte, Int.reduceEq, Nat.reduceBEq, Int.reduceBEq, Nat.reduceAdd, Nat.reduceEqDiff, Nat.reduceLT, Nat.reduceSub]; done) | (simp only [go_sem, ↓reduceIte, Int.reduceEq, Nat.reduceBEq, Int.reduceBEq, Nat.reduceAdd, Nat.reduceEqDiff, Nat.reduceLT, Nat.reduceSub]; rfl)
set_option maxHeartbeats 8000000 in
theorem behind_seq (h42 : fz 42 = .cut) (h69 : fz 69 = .cut) (h79 : fz 79 = .keep) (h99 : fz 99 = .keep) {g : Gr} {nl : List Bool} {ks k1 k2 k3 : Nat} {F : List Nat} (hF : Lt64 F) (ht : g.tokens ≤ 64) (hd : Apart ks k1 k2 k3) (x : Ex) (hx : SmallE x) (ho : okE g.tokens g.rules.length x) (kx : x.kind = 3)
    (ih : ∀ y ∈ x.l, BhC fz g nl ks k1 k2 k3 F y) : BhC fz g nl ks k1 k2 k3 F x := by
  intro b s σ hb hs hm
  refine bh_of h42 hm ?_
  have hls := hm.ls
  have hl1 := hm.l1
  have hl2 := hm.l2
  have hl3 := hm.l3
  have e2 : (x.kind == 2) = false := by simp [kx]
  have e3 : (x.kind == 3) = true := by simp [kx]
  have e : bhE F nl x b s = ((bhS F nl x.l b s).1, (bhS F nl x.l b s).2.2) := by
    rw [bhE_eq, if_neg (by omega), if_pos kx]
  generalize hK : BhK g nl ks k1 k2 k3 F (bhE F nl x b s) σ = K
  simp only [Tryd.f42, Option.getD_some]
  simp only [go_sem, ↓reduceIte, Int.reduceEq, Nat.reduceBEq, Int.reduceBEq, Nat.reduceAdd, Nat.reduceEqDiff, Nat.reduceLT, Nat.reduceSub, Ex.a, e2, e3]
  generalize hσ0 : ((((σ.push (Blk.cells [A.ptr ks 0])).push (Blk.cells x.c)).push (Blk.cells [A.d (D.int IntKind.u64 ↑b)])).push (Blk.cells [A.d (D.bool false)])) = σ0
  have n0 : σ0.n = σ.n + 4 := by rw [← hσ0]; simp only [St.n_push]
  have o0 : ∀ k, k < σ.n → σ0.get k = σ.get k := fun k hk => by
    rw [← hσ0, St.get_push_ne (by simp only [St.n_push]; omega), St.get_push_ne (by simp only [St.n_push]; omega), St.get_push_ne (by simp only [St.n_push]; omega), St.get_push_ne hk]
  have b0 : σ0.get σ.n = .cells [.ptr ks 0] := by rw [← hσ0]; simp only [go_sem, ↓reduceIte, Int.reduceEq, Nat.reduceBEq, Int.reduceBEq, Nat.reduceAdd, Nat.reduceEqDiff, Nat.reduceLT, Nat.reduceSub]
  have b2 : σ0.get (σ.n + 2) = .cells [.d (.int .u64 b)] := by rw [← hσ0]; simp only [go_sem, ↓reduceIte, Int.reduceEq, Nat.reduceBEq, Int.reduceBEq, Nat.reduceAdd, Nat.reduceEqDiff, Nat.reduceLT, Nat.reduceSub]
  have b3 : σ0.get (σ.n + 3) = .cells [.d (.bool false)] := by rw [← hσ0]; simp only [go_sem, ↓reduceIte, Int.reduceEq, Nat.reduceBEq, Int.reduceBEq, Nat.reduceAdd, Nat.reduceEqDiff, Nat.reduceLT, Nat.reduceSub]
  clear hσ0
  have hm0 := hm.stay (τ := σ0) (by omega) o0
  refine ⟨_, _, _, back_c h79 x.ld σ0 rfl, ?_⟩
  simp only [go_sem, ↓reduceIte, Int.reduceEq, Nat.reduceBEq, Int.reduceBEq, Nat.reduceAdd, Nat.reduceEqDiff, Nat.reduceLT, Nat.reduceSub]
  generalize htm : FT.set _ 86 (A.func 99 [A.ptr σ0.n 0]) = tm
  have t3 : Tm.at tm 3 = .ptr σ.n 0 := by rw [← htm]; simp only [go_sem, ↓reduceIte, Int.reduceEq, Nat.reduceBEq, Int.reduceBEq, Nat.reduceAdd, Nat.reduceEqDiff, Nat.reduceLT, Nat.reduceSub]
  have t5 : Tm.at tm 5 = .ptr (σ.n + 2) 0 := by rw [← htm]; simp only [go_sem, ↓reduceIte, Int.reduceEq, Nat.reduceBEq, Int.reduceBEq, Nat.reduceAdd, Nat.reduceEqDiff, Nat.reduceLT, Nat.reduceSub]
  have t6 : Tm.at tm 6 = .ptr (σ.n + 3) 0 := by rw [← htm]; simp only [go_sem, ↓reduceIte, Int.reduceEq, Nat.reduceBEq, Int.reduceBEq, Nat.reduceAdd, Nat.reduceEqDiff, Nat.reduceLT, Nat.reduceSub]
  have t86 : Tm.at tm 86 = .func 99 [.ptr σ0.n 0] := by rw [← htm]; simp only [go_sem, ↓reduceIte, Int.reduceEq, Nat.reduceBEq, Int.reduceBEq, Nat.reduceAdd, Nat.reduceEqDiff, Nat.reduceLT, Nat.reduceSub]
  clear htm
  generalize hσ1 : σ0.push (.cells [x.ld]) = σ1
  have n1 : σ1.n = σ.n + 5 := by rw [← hσ1, St.n_push]; omega
  have gb : σ1.get σ0.n = .cells [x.ld] := by rw [← hσ1, St.get_push_eq]
  have o1 : ∀ k, k < σ0.n → σ1.get k = σ0.get k := fun k hk => by rw [← hσ1, St.get_push_ne hk]
  clear hσ1
  have hm1 := hm0.stay (τ := σ1.push (.loop (bkL tm))) (by simp only [St.n_push]; omega) fun k hk => by rw [St.get_push_ne (by omega)]; exact o1 k hk
  obtain ⟨σ2, T, hc, hKp, hB⟩ := back_run h69 h99 hF ht hd hx ho ih hb hs (n0 := σ.n) (kl := σ1.n) (kb := σ0.n) t3 t5 t6 hls hl1 hl2 hl3 (by omega) (by omega) (by omega) (τ := σ1.push (.loop (bkL tm)))
    ⟨St.get_push_eq, by rw [St.get_push_ne (by omega), o1 _ (by omega)]; exact b0, by rw [St.get_push_ne (by omega), o1 _ (by omega), bhS]; exact b2, by rw [St.get_push_ne (by omega), o1 _ (by omega), bhS]; exact b3, by rw [bhS]; exact hm1, by rw [St.n_push]; omega⟩
    (by rw [St.get_push_ne (by omega)]; exact gb) (by rw [St.n_push]; omega)
  refine Ev.range (r := .tup []) (σ2 := σ2) (T := T) (L := bkL tm) rfl ?_ hB.l (by intro h; cases h) ?_
  · rw [show ev tm (.tmp 86) = Tm.at tm 86 from rfl, t86]; exact hc
  rw [show ((bkL tm).pending.map Item.code).toList = [] from rfl]
  have lz3 : low σ.n [σ.n + 3] = [] := by rw [low_cons_ge (by omega)]; rfl
  have u3 : σ.n + 3 ≠ σ1.n := by omega
  simp only [go_sem, ↓reduceIte, Int.reduceEq, Nat.reduceBEq, Int.reduceBEq, Nat.reduceAdd, Nat.reduceEqDiff, Nat.reduceLT, Nat.reduceSub, t3, t5, t6, hB.b3, lz3, u3, Ne.symm u3]
  have hTw : ∀ k ∈ low σ.n T, k = k2 ∨ k = k3 := fun k hk => by
    obtain ⟨h1, h2⟩ := mem_low.1 hk
    rcases hKp.w k h1 with h | h
    · simp only [List.mem_cons, List.not_mem_nil, or_false] at h; omega
    · rw [St.n_push] at h; omega
  have hn2 := hKp.n
  rw [St.n_push] at hn2
  have hsm := hB.sm
  have fr : ∀ k, k < σ.n → ∀ b1 b2, ((σ2.set σ1.n b1).set (σ.n + 3) b2).get k = σ2.get k := fun k hk b1 b2 => by rw [St.get_set_ne (by omega), St.get_set_ne (by omega)]
  rw [← hK, e]
  refine ⟨rfl, ⟨by simp only [St.n_set]; omega, fun k hk h => ?_, fun k hk => (mem_low.1 hk).2⟩, hTw, ?_⟩
  · rw [fr k hk, hKp.same k (by rw [St.n_push]; omega) fun q => h (mem_low.2 ⟨q, hk⟩), St.get_push_ne (by omega), o1 k (by omega), o0 k hk]
  · exact ⟨by rw [fr _ hls]; exact hsm.s, by rw [fr _ hl1]; exact hsm.f, by rw [fr _ hl2]; exact hsm.h, by rw [fr _ hl3]; exact hsm.r, hsm.fl, hsm.hl, hsm.rl, hsm.nl, by simp only [St.n_set]; omega, by simp only [St.n_set]; omega, by simp only [St.n_set]; omega, by simp only [St.n_set]; omega⟩
theorem behind_c (h42 : fz 42 = .cut) (h69 : fz 69 = .cut) (h79 : fz 79 = .keep) (h99 : fz 99 = .keep) {g : Gr} {nl : List Bool} {ks k1 k2 k3 : Nat} {F : List Nat} (hF : Lt64 F) (ht : g.tokens ≤ 64) (hd : Apart ks k1 k2 k3) (x : Ex) (hx : SmallE x) (ho : okE g.tokens g.rules.length x) : BhC fz g nl ks k1 k2 k3 F x := by
  have ih : ∀ y ∈ x.l, BhC fz g nl ks k1 k2 k3 F y := fun y hy => behind_c h42 h69 h79 h99 hF ht hd y (hx.sub hy) (ho.sub hy)
  by_cases k2' : x.kind = 2
  · exact behind_call h42 hd x ho k2'
  by_cases k3' : x.kind = 3
  · exact behind_seq h42 h69 h79 h99 hF ht hd x hx ho k3' ih
  by_cases k5' : x.kind = 5
  · exact behind_star h42 h69 hF ht hd x hx ho k5' ih
  exact behind_rest h42 hF ht hd x hx ho k2' k3' k5' ih
termination_by x
decreasing_by exact Ex.sub_lt hy
end Go.Am

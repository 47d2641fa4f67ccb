/- Part KE of a proof that runs a program's calls on a small machine whose values bear no addresses: no conditions. -/
import Derived.Test.YtlcadkgpojjokaaAmK9
import Derived.Test.YtlcadkgpojjokaaAmKD
set_option autoImplicit false
set_option linter.unusedSimpArgs false
set_option linter.unusedVariables false
set_option linter.unusedSectionVars false
namespace Go.Am
open Go Go.Proofs
section
variable {l : List Int} {N : Nv} {X : Nx}
theorem Gw.le {s i k : Nat} {B : List Nat} (h : Gw l N X s B i k) : i ≤ k := by
  induction h with
  | here => exact Nat.le_refl _
  | tok _ _ _ _ _ ih => omega
  | free _ _ _ _ ih => exact ih
  | call _ _ _ _ ih => exact ih
  | leave _ _ ih => exact ih
theorem Gw.len {s i k : Nat} {B : List Nat} (h : Gw l N X s B i k) : i ≤ l.length → k ≤ l.length := by
  induction h with
  | here => exact id
  | tok _ _ _ ht _ ih => intro _; exact ih (List.getElem?_eq_some_iff.1 ht).1
  | free _ _ _ _ ih => exact ih
  | call _ _ _ _ ih => exact ih
  | leave _ _ ih => exact ih
theorem Gw.dropTo {s i k : Nat} {B : List Nat} (h : Gw (l.drop 1) N X s B i k) : Gw l N X s B (i + 1) (k + 1) := by
  induction h with
  | here => exact .here _ _ _
  | tok h1 h2 h3 h4 _ ih => exact .tok h1 h2 h3 (by rw [List.getElem?_drop, Nat.add_comm] at h4; exact h4) ih
  | free h1 h2 h3 _ ih => exact .free h1 h2 h3 ih
  | call h1 h2 h3 _ ih => exact .call h1 h2 h3 ih
  | leave h1 _ ih => exact .leave h1 ih
theorem Gw.ofDrop {s j k : Nat} {B : List Nat} (h : Gw l N X s B j k) : 1 ≤ j → Gw (l.drop 1) N X s B (j - 1) (k - 1) := by
  induction h with
  | here => exact fun _ => .here _ _ _
  | @tok s i k B r e h1 h2 h3 h4 _ ih =>
    intro q
    have := ih (by omega)
    rw [show i + 1 - 1 = i - 1 + 1 by omega] at this
    exact .tok h1 h2 h3 (by rw [List.getElem?_drop, show 1 + (i - 1) = i by omega]; exact h4) this
  | free h1 h2 h3 _ ih => exact fun q => .free h1 h2 h3 (ih q)
  | call h1 h2 h3 _ ih => exact fun q => .call h1 h2 h3 (ih q)
  | leave h1 _ ih => exact fun q => .leave h1 (ih q)
def IsG (l : List Int) (N : Nv) (X : Nx) (a : Nat) (B : List Nat) (m : Nat) : Prop := Gw l N X a B 0 m ∧ ∀ k, Gw l N X a B 0 k → k ≤ m
theorem IsG.eq {a m n : Nat} {B : List Nat} (h : IsG l N X a B m) (k : IsG l N X a B n) : m = n := Nat.le_antisymm (k.2 _ h.1) (h.2 _ k.1)
theorem IsFar.g {R : Nat} (hN : NetG N X R) {a m : Nat} {B : List Nat} (ha : a < N.es.length) (hB : ∀ b ∈ B, b < N.es.length) (h : IsFar l N X a B m) : IsG l N X a B m :=
  ⟨Gw.of hN ha hB h.1, fun k hk => h.2 k (hk.to hN)⟩
end
end Go.Am
namespace Go.Am
open Go Go.Proofs
theorem eq_sn {σ : St} : binA (XX mdL) σ .eql 28 (.d .nptr) (.d .nptr) = some (.d (.bool true)) := by
  unfold binA eqT; simp only [ti28]; rfl
theorem viable_L {zt : Bool} {g : Gr} {l : List Int} (hg : SmallG g) (hc : checkP g = 0) (hL : l.length ≤ 1000) {s : Nat} {B : List Nat} (hs : SpOk (newN g).N s B) {σ : St} {ba : A} (hpa : PlA σ.n σ.n σ ba B) :
    IsG l (newN g).N (newX g) s B (farV l (newN g).N (newX g) s B) ∧ CallsTo (XX mdL) (.func 12 []) [simA (newN g).N (newX g), .agg [.d (.int .i64 (s : Int)), ba], .d (.slc zt (intsD l))] σ (viaV l (newN g).N (newX g) s B) σ [] := by
  obtain ⟨h1, h2⟩ := viable_c (fz := mdL) (zt := zt) rfl rfl rfl rfl rfl rfl rfl rfl rfl rfl rfl rfl hg hc hL hs hpa
  exact ⟨h1.g (newN_G (GOk.of hc)) hs.st hs.bs, h2⟩
end Go.Am
namespace Go.Am
open Go Go.Proofs
section
variable {l : List Int} {N : Nv} {X : Nx} {s : Nat} {B : List Nat}
def NE (l : List Int) (N : Nv) (X : Nx) (B : List Nat) (e : Eg) (n : Nat) : Prop := (e.kind = 0 ∧ IsG l N X e.to B n) ∨ (e.kind = 2 ∧ IsG l N X (X.ent e.num.toNat) (e.to :: B) n) ∨
  (e.kind = 1 ∧ l[0]? = some e.num ∧ ∃ f, n = f + 1 ∧ IsG (l.drop 1) N X e.to B f) ∨ (e.kind = 1 ∧ l[0]? ≠ some e.num ∧ n = 0)
theorem lvS_end {R : Nat} (hN : NetG N X R) (hs : s < N.es.length) (h : s = lvS N X s) : N.es[s]? = some [] := by
  rw [h]; exact hN.lv0 _ (hN.rr s hs).2
theorem IsG.row {R : Nat} (hN : NetG N X R) {r : List Eg} {m : Nat} (hr : N.es[s]? = some r) (hne : r ≠ []) (hle : ∀ e ∈ r, ∀ n, NE l N X B e n → n ≤ m) (hex : ∃ e ∈ r, NE l N X B e m) (hall : ∀ e ∈ r, ∃ n, NE l N X B e n) : IsG l N X s B m := by
  refine ⟨?_, fun k hk => ?_⟩
  · obtain ⟨e, he, h⟩ := hex
    rcases h with ⟨h1, h2⟩ | ⟨h1, h2⟩ | ⟨h1, h2, f, rfl, h3⟩ | ⟨h1, h2, rfl⟩
    · exact .free hr he h1 h2.1
    · exact .call hr he h1 h2.1
    · exact .tok hr he h1 h2 h3.1.dropTo
    · exact .here _ _ _
  · cases hk with
    | here => exact Nat.zero_le _
    | @free _ _ _ _ _ e h1 h2 h3 h4 =>
      rw [hr] at h1; cases h1
      obtain ⟨n, hn⟩ := hall e h2
      refine Nat.le_trans ?_ (hle e h2 n hn)
      rcases hn with ⟨q1, q2⟩ | ⟨q1, -⟩ | ⟨q1, -⟩ | ⟨q1, -⟩
      · exact q2.2 _ h4
      all_goals omega
    | @tok _ _ _ _ _ e h1 h2 h3 h4 h5 =>
      rw [hr] at h1; cases h1
      obtain ⟨n, hn⟩ := hall e h2
      refine Nat.le_trans ?_ (hle e h2 n hn)
      rcases hn with ⟨q1, -⟩ | ⟨q1, -⟩ | ⟨q1, -, f, rfl, q2⟩ | ⟨q1, q2, -⟩
      · omega
      · omega
      · have := q2.2 _ (h5.ofDrop (Nat.le_refl _)); omega
      · exact absurd h4 q2
    | @call _ _ _ _ _ e h1 h2 h3 h4 =>
      rw [hr] at h1; cases h1
      obtain ⟨n, hn⟩ := hall e h2
      refine Nat.le_trans ?_ (hle e h2 n hn)
      rcases hn with ⟨q1, -⟩ | ⟨q1, q2⟩ | ⟨q1, -⟩ | ⟨q1, -⟩
      · omega
      · exact q2.2 _ h4
      all_goals omega
    | leave h1 h2 =>
      have hs : s < N.es.length := (List.getElem?_eq_some_iff.1 hr).1
      rw [lvS_end hN hs h1] at hr
      cases hr; exact absurd rfl hne
theorem NE.eq {e : Eg} {n m : Nat} (h : NE l N X B e n) (k : NE l N X B e m) : n = m := by
  rcases h with ⟨q1, q2⟩ | ⟨q1, q2⟩ | ⟨q1, q2, f, rfl, q3⟩ | ⟨q1, q2, rfl⟩ <;> rcases k with ⟨p1, p2⟩ | ⟨p1, p2⟩ | ⟨p1, p2, f', rfl, p3⟩ | ⟨p1, p2, rfl⟩
  all_goals first | omega | exact q2.eq p2 | (rw [q3.eq p3]) | rfl | exact absurd p2 q2 | exact absurd q2 p2
theorem IsG.one {R : Nat} (hN : NetG N X R) {e : Eg} {m : Nat} (hr : N.es[s]? = some [e]) (h : NE l N X B e m) : IsG l N X s B m :=
  IsG.row hN hr (by simp) (fun e' he n hn => by simp at he; subst he; exact Nat.le_of_eq (hn.eq h)) ⟨e, by simp, h⟩ fun e' he => by simp at he; subst he; exact ⟨m, h⟩
theorem IsG.end0 (hr : N.es[s]? = some []) : IsG l N X s [] 0 :=
  ⟨.here _ _ _, fun k hk => by
    cases hk with
    | here => exact Nat.le_refl _
    | free h1 h2 => rw [hr] at h1; cases h1; cases h2
    | tok h1 h2 => rw [hr] at h1; cases h1; cases h2
    | call h1 h2 => rw [hr] at h1; cases h1; cases h2⟩
theorem IsG.back {R : Nat} (hN : NetG N X R) {b f : Nat} (hr : N.es[s]? = some []) (h : IsG l N X b B f) : IsG l N X s (b :: B) f :=
  ⟨.leave (hN.row s hr) h.1, fun k hk => by
    cases hk with
    | here => exact Nat.zero_le _
    | free h1 h2 => rw [hr] at h1; cases h1; cases h2
    | tok h1 h2 => rw [hr] at h1; cases h1; cases h2
    | call h1 h2 => rw [hr] at h1; cases h1; cases h2
    | leave _ h2 => exact h.2 _ h2⟩
end
end Go.Am
namespace Go.Am
open Go Go.Proofs
theorem nasCons {σ : St} {n : Nat} {z : Bool} {B : List Nat} (hl : B.length < 1000000) : ∃ a' τ' T, appendA 1 8 (σ.push (.cells [.d (.int .i64 (n : Int))])) (.row σ.n 0 1 1) (.d (.slc z (intsD (natsI B)))) = .val a' τ' T [] ∧ (∀ k, k < σ.n → PlA k k τ' a' (n :: B)) ∧
    (∀ k, k < σ.n → τ'.get k = σ.get k) ∧ σ.n ≤ τ'.n ∧ (∀ k ∈ T, σ.n ≤ k) ∧ a'.cells = some [a'] ∧ a'.isCell = true := by
  unfold appendA
  have e1 : sliceCells (σ.push (.cells [.d (.int .i64 (n : Int))])) (.d (.slc z (intsD (natsI B)))) = some (nasA B) := by
    show some _ = _
    rw [nasA_D]
  have e2 : sliceLen (σ.push (.cells [.d (.int .i64 (n : Int))])) (.d (.slc z (intsD (natsI B)))) = some B.length := by
    rw [len_ints, natsI_len]
  rw [e1, e2]
  dsimp only
  rw [if_neg (by rw [nasA_len, nasA_cell]; simp)]
  rw [St.get_push_eq]
  dsimp only
  rw [if_neg (by simp)]
  by_cases h0 : B.length = 0
  · rw [if_pos h0]
    have hB : B = [] := List.length_eq_zero_iff.1 h0
    subst hB
    exact ⟨_, _, _, rfl, fun k hk => .inr ⟨σ.n, rfl, by rw [St.get_push_eq]; rfl, by omega, by omega, by rw [St.n_push]; omega⟩, fun k hk => St.get_push_ne hk, by rw [St.n_push]; omega, (fun k hk => by cases hk), rfl, rfl⟩
  · rw [if_neg h0, if_pos (by omega)]
    refine ⟨_, _, _, rfl, fun k hk => .inr ⟨σ.n + 1, ?_, ?_, by omega, by omega, by simp only [St.n_push, St.n_set]; omega⟩, fun k hk => ?_, by simp only [St.n_push, St.n_set]; omega, (fun k hk => by simp at hk; omega), rfl, rfl⟩
    · simp only [St.n_push, St.n_set, List.length_cons]; rw [Nat.add_comm 1 B.length]
    · rw [St.get_push_eq' (by simp only [St.n_set, St.n_push])]
      simp [nasA]
    · rw [St.get_push_ne (by simp only [St.n_set, St.n_push]; omega), St.get_set_ne (by omega), St.get_push_ne hk]
theorem slD1 {σ : St} {z : Bool} {l : List Int} {eb : Nat} {ez : Option (List A)} {ezv : A} {ek : TK} (h : 1 ≤ l.length) : sliceD σ z (intsD l) (some (.d (.int .i64 1))) none (some ⟨ek, 1, eb, ez, ezv⟩) = .val (.d (.slc z (intsD (l.drop 1)))) σ [] [] := by
  have := sliceD_lo (σ := σ) (z := z) (l := l) (n := 1) (kd := .i64) (ek := ek) (eb := eb) (ez := ez) (ezv := ezv)
  rw [if_pos h] at this
  exact this
set_option maxHeartbeats 32000000 in
theorem token_call (g : Gr) (hg : SmallG g) (hL : g.rules.length < 1000000000) (zw : Bool) (way : List Int) (hw : way.length < 1000000000) (z : Bool) (l0 : List Int) (hl0 : l0.length < 1000000000) : ∃ σ' T, CallsTo (XX mdL) (.func 4 []) [g.a, .d (.slc zw (intsD way)), .d (.slc z (intsD l0))] St.empty (.d (.bool true)) σ' T := by
  refine ⟨St.empty, [], CallsTo.cut0 rfl fn4 (by simp) rfl ?_⟩
  simp only [Try.f4, Option.getD_some]
  simp only [go_sem, ↓reduceIte, Int.reduceEq, Nat.reduceBEq, Int.reduceBEq, Int.reduceBNe, Int.reduceLT, Int.reduceLE, Nat.reduceAdd, Nat.reducePow, Nat.reduceEqDiff, Nat.reduceLT, Nat.reduceLeDiff, Nat.reduceMul, Nat.reduceSub, Gr.a]
  refine ⟨_, _, _, works_L _, ?_⟩
  simp only [go_sem, ↓reduceIte, Int.reduceEq, Nat.reduceBEq, Int.reduceBEq, Int.reduceBNe, Int.reduceLT, Int.reduceLE, Nat.reduceAdd, Nat.reducePow, Nat.reduceEqDiff, Nat.reduceLT, Nat.reduceLeDiff, Nat.reduceMul, Nat.reduceSub]
  refine ⟨_, _, _, deep_L g _ hg hL, ?_⟩
  cases hd : deepG g with
  | true => simp only [go_sem, ↓reduceIte, Int.reduceEq, Nat.reduceBEq, Int.reduceBEq, Int.reduceBNe, Int.reduceLT, Int.reduceLE, Nat.reduceAdd, Nat.reducePow, Nat.reduceEqDiff, Nat.reduceLT, Nat.reduceLeDiff, Nat.reduceMul, Nat.reduceSub]
  | false =>
  have hmin : min l0.length 30 ≤ l0.length := Nat.min_le_left _ _
  have hm30 : min l0.length 30 ≤ 30 := Nat.min_le_right _ _
  have hmn : minmax false [.d (.int .i64 (l0.length : Int)), .d (.int .i64 30)] = some (.d (.int .i64 ((min l0.length 30 : Nat) : Int))) := minA (b := 30)
  have hl1 : (l0.take (min l0.length 30)).length = min l0.length 30 := by rw [List.length_take]; omega
  simp only [go_sem, ↓reduceIte, Int.reduceEq, Nat.reduceBEq, Int.reduceBEq, Int.reduceBNe, Int.reduceLT, Int.reduceLE, Nat.reduceAdd, Nat.reducePow, Nat.reduceEqDiff, Nat.reduceLT, Nat.reduceLeDiff, Nat.reduceMul, Nat.reduceSub, hmn, hmin]
  generalize hl : l0.take (min l0.length 30) = l at *
  have hl30 : l.length ≤ 30 := by omega
  obtain ⟨r, hcall, hr⟩ := stand_c hg (zw := zw) hw hL (((St.empty.push (.cells g.c))))
  refine ⟨_, _, _, hcall, ?_⟩
  rcases hr with ⟨hc, rfl⟩ | ⟨hc, s, B, zb, hs, hB, rfl⟩
  · have c1 : (checkP g != 0) = true := by simpa using hc
    simp only [go_sem, ↓reduceIte, Int.reduceEq, Nat.reduceBEq, Int.reduceBEq, Int.reduceBNe, Int.reduceLT, Int.reduceLE, Nat.reduceAdd, Nat.reducePow, Nat.reduceEqDiff, Nat.reduceLT, Nat.reduceLeDiff, Nat.reduceMul, Nat.reduceSub, stNo, eq_sn]
    refine ⟨_, _, _, check_L g _ hg, ?_⟩
    simp only [go_sem, ↓reduceIte, Int.reduceEq, Nat.reduceBEq, Int.reduceBEq, Int.reduceBNe, Int.reduceLT, Int.reduceLE, Nat.reduceAdd, Nat.reducePow, Nat.reduceEqDiff, Nat.reduceLT, Nat.reduceLeDiff, Nat.reduceMul, Nat.reduceSub, c1]
  · have c0 : ((0 : Int) != 0) = false := rfl
    have h := GOk.of hc
    have hN := newN_G h
    have hF := newN_fits h
    have hel := hF.e
    have hsN := hs.st
    have hget : (newN g).N.es[s]? = some (newN g).N.es[s] := by simp [hsN]
    have hrl := hF.l _ (List.getElem_mem hsN)
    have hed := hN.ed s _ hget
    generalize (newN g).N.es[s] = r at hget hrl hed
    have ds0 : decide ((s : Int) < 0) = false := by rw [decide_eq_false_iff_not]; omega
    have ds1 : decide ((s : Int) ≥ ((newN g).N.es.length : Int)) = false := by rw [decide_eq_false_iff_not]; omega
    simp only [go_sem, ↓reduceIte, Int.reduceEq, Nat.reduceBEq, Int.reduceBEq, Int.reduceBNe, Int.reduceLT, Int.reduceLE, Nat.reduceAdd, Nat.reducePow, Nat.reduceEqDiff, Nat.reduceLT, Nat.reduceLeDiff, Nat.reduceMul, Nat.reduceSub, stAt, simA, eq_sp, netA, netC3]
    have gN : (((((St.empty.push (.cells g.c)).push (.cells [.d (.slc true []), .d (.slc true []), .d (.slc true [])])).push (.cells [.d (.int .i64 0), .d (.slc true [])])).set (St.empty.n + 1) (.cells [.d (newN g).N.esD, .d (slD (newX g).en), .d (slD (newX g).lv)])).set (St.empty.n + 2) (.cells [.d (.int .i64 (s : Int)), .d (.slc zb (intsD (natsI B)))])).get (St.empty.n + 1) = .cells [.d (newN g).N.esD, .d (slD (newX g).en), .d (slD (newX g).lv)] := by
      rw [St.get_set_ne (by omega), St.get_set_eq]
    have gP : (((((St.empty.push (.cells g.c)).push (.cells [.d (.slc true []), .d (.slc true []), .d (.slc true [])])).push (.cells [.d (.int .i64 0), .d (.slc true [])])).set (St.empty.n + 1) (.cells [.d (newN g).N.esD, .d (slD (newX g).en), .d (slD (newX g).lv)])).set (St.empty.n + 2) (.cells [.d (.int .i64 (s : Int)), .d (.slc zb (intsD (natsI B)))])).get (St.empty.n + 2) = .cells [.d (.int .i64 (s : Int)), .d (.slc zb (intsD (natsI B)))] := St.get_set_eq
    have gn : (((((St.empty.push (.cells g.c)).push (.cells [.d (.slc true []), .d (.slc true []), .d (.slc true [])])).push (.cells [.d (.int .i64 0), .d (.slc true [])])).set (St.empty.n + 1) (.cells [.d (newN g).N.esD, .d (slD (newX g).en), .d (slD (newX g).lv)])).set (St.empty.n + 2) (.cells [.d (.int .i64 (s : Int)), .d (.slc zb (intsD (natsI B)))])).n = St.empty.n + 3 := by simp only [St.n_set, St.n_push]
    generalize (((((St.empty.push (.cells g.c)).push (.cells [.d (.slc true []), .d (.slc true []), .d (.slc true [])])).push (.cells [.d (.int .i64 0), .d (.slc true [])])).set (St.empty.n + 1) (.cells [.d (newN g).N.esD, .d (slD (newX g).en), .d (slD (newX g).lv)])).set (St.empty.n + 2) (.cells [.d (.int .i64 (s : Int)), .d (.slc zb (intsD (natsI B)))])) = τ0 at gN gP gn
    have hv := fun (σ : St) (zt : Bool) (l : List Int) (hl : l.length ≤ 30) => viable_L (zt := zt) (l := l) hg hc (by omega) hs (σ := σ) (ba := .d (.slc zb (intsD (natsI B)))) (.inl ⟨zb, rfl⟩)
    have hlen := fun (ρ : St) => len_es (N := (newN g).N) (σ := ρ)
    simp only [go_sem, ↓reduceIte, Int.reduceEq, Nat.reduceBEq, Int.reduceBEq, Int.reduceBNe, Int.reduceLT, Int.reduceLE, Nat.reduceAdd, Nat.reducePow, Nat.reduceEqDiff, Nat.reduceLT, Nat.reduceLeDiff, Nat.reduceMul, Nat.reduceSub, gN, gP, ds0, ds1, hlen]
    refine ⟨_, _, _, (hv _ z l hl30).2, ?_⟩
    have hall := (hv St.empty z l hl30).1
    have ies := fun (ρ : St) => index_es (σ := ρ) (kd := .i64) hget
    simp only [go_sem, ↓reduceIte, Int.reduceEq, Nat.reduceBEq, Int.reduceBEq, Int.reduceBNe, Int.reduceLT, Int.reduceLE, Nat.reduceAdd, Nat.reducePow, Nat.reduceEqDiff, Nat.reduceLT, Nat.reduceLeDiff, Nat.reduceMul, Nat.reduceSub, viaV, gN, gP, ies, c0, len_rw]
    generalize farV l (newN g).N (newX g) s B = all at hall ⊢
    by_cases hr2 : 1 < r.length
    · have d1 : decide ((r.length : Int) > 1) = true := by rw [decide_eq_true_iff]; omega
      simp only [go_sem, ↓reduceIte, Int.reduceEq, Nat.reduceBEq, Int.reduceBEq, Int.reduceBNe, Int.reduceLT, Int.reduceLE, Nat.reduceAdd, Nat.reducePow, Nat.reduceEqDiff, Nat.reduceLT, Nat.reduceLeDiff, Nat.reduceMul, Nat.reduceSub, d1]
    have d1 : decide ((r.length : Int) > 1) = false := by rw [decide_eq_false_iff_not]; omega
    by_cases hr0 : r.length = 0
    · have d2 : ((r.length : Int) == 0) = true := by rw [hr0]; rfl
      have hr : r = [] := List.length_eq_zero_iff.1 hr0
      have hget0 : (newN g).N.es[s]? = some [] := by rw [hget, hr]
      have hbl : ∀ ρ : St, sliceLen ρ (.d (.slc zb (intsD (natsI B)))) = some B.length := fun ρ => by rw [len_ints, natsI_len]
      by_cases hB0 : B.length = 0
      · have hBe : B = [] := List.length_eq_zero_iff.1 hB0
        have d3 : ((B.length : Int) == 0) = true := by rw [hB0]; rfl
        have hall0 : all = 0 := hall.eq (by rw [hBe]; exact IsG.end0 hget0)
        have d4 : ((all : Int) == 0) = true := by rw [hall0]; rfl
        simp only [go_sem, ↓reduceIte, Int.reduceEq, Nat.reduceBEq, Int.reduceBEq, Int.reduceBNe, Int.reduceLT, Int.reduceLE, Nat.reduceAdd, Nat.reducePow, Nat.reduceEqDiff, Nat.reduceLT, Nat.reduceLeDiff, Nat.reduceMul, Nat.reduceSub, d1, d2, len_rw, gP, hbl, d3, d4]
      · have d3 : ((B.length : Int) == 0) = false := by rw [beq_eq_false_iff_ne]; omega
        have hb0 : 0 < B.length := by omega
        obtain ⟨b, B', hBe⟩ : ∃ b B', B = b :: B' := by
          cases B with
          | nil => simp at hb0
          | cons b B' => exact ⟨b, B', rfl⟩
        have in0 : ∀ ρ : St, indexD ρ 1 (intsD (natsI B)) 0 = .val (.d (.vptr [.int .i64 (b : Int)] 0)) ρ [] [] := fun ρ => by rw [hBe]; exact index_ints (σ := ρ) (z := zb) (l := natsI (b :: B')) (i := 0) (by simp [natsI])
        have sl0 := fun (ρ : St) => slD1 (σ := ρ) (z := zb) (l := natsI B) (ek := .int .i64) (eb := 8) (ez := some [.d (.int .i64 0)]) (ezv := .d (.int .i64 0)) (by rw [natsI_len]; exact hb0)
        have hdr : (natsI B).drop 1 = natsI B' := by rw [hBe]; rfl
        have hv2 := viable_L (zt := z) (l := l) hg hc (by omega) (s := b) (B := B') (by rw [hBe] at hs; exact hs.tail) (σ := τ0) (ba := .d (.slc zb (intsD (natsI B')))) (.inl ⟨zb, rfl⟩)
        have hall2 := hv2.1.back hN hget0
        rw [← hBe] at hall2
        have d5 := hall2.eq hall
        simp only [go_sem, ↓reduceIte, Int.reduceEq, Nat.reduceBEq, Int.reduceBEq, Int.reduceBNe, Int.reduceLT, Int.reduceLE, Nat.reduceAdd, Nat.reducePow, Nat.reduceEqDiff, Nat.reduceLT, Nat.reduceLeDiff, Nat.reduceMul, Nat.reduceSub, d1, d2, len_rw, gP, hbl, d3, in0, sl0, hdr]
        refine ⟨_, _, _, hv2.2, ?_⟩
        simp only [go_sem, ↓reduceIte, Int.reduceEq, Nat.reduceBEq, Int.reduceBEq, Int.reduceBNe, Int.reduceLT, Int.reduceLE, Nat.reduceAdd, Nat.reducePow, Nat.reduceEqDiff, Nat.reduceLT, Nat.reduceLeDiff, Nat.reduceMul, Nat.reduceSub, viaV, d5]
        exact drawOk_rel [10] [] rfl (by kernel_rfl) rfl (by simp)
    · have d2 : ((r.length : Int) == 0) = false := by rw [beq_eq_false_iff_ne]; omega
      obtain ⟨e, hre⟩ : ∃ e, r = [e] := by
        match r, hr0, hr2 with
        | [e], _, _ => exact ⟨e, rfl⟩
        | [], h, _ => exact absurd rfl h
        | _ :: _ :: _, _, h => exact absurd (by simp) h
      have hr0g : r[0]? = some e := by rw [hre]; rfl
      have irw := fun (ρ : St) => index_rw (σ := ρ) (kd := .i64) (i := 0) (r := r) (e := e) hr0g
      have irw : ∀ ρ : St, indexK ρ 3 (.d (rowD r)) (.d (.int .i64 0)) = .val (.d (.vptr e.D 0)) ρ [] [] := irw
      have hgk : ∀ k, k < τ0.n → ((τ0.push (.cells [.d (.int .i64 0), .d (.int .i64 0), .d (.int .i64 0)])).set τ0.n (.cells [.d (.int .i64 e.kind), .d (.int .i64 e.num), .d (.int .i64 (e.to : Int))])).get k = τ0.get k := fun k hk => by
        rw [St.get_set_ne (by omega), St.get_push_ne hk]
      have hec : ((τ0.push (.cells [.d (.int .i64 0), .d (.int .i64 0), .d (.int .i64 0)])).set τ0.n (.cells [.d (.int .i64 e.kind), .d (.int .i64 e.num), .d (.int .i64 (e.to : Int))])).get τ0.n = .cells [.d (.int .i64 e.kind), .d (.int .i64 e.num), .d (.int .i64 (e.to : Int))] := St.get_set_eq
      have hn1 : ((τ0.push (.cells [.d (.int .i64 0), .d (.int .i64 0), .d (.int .i64 0)])).set τ0.n (.cells [.d (.int .i64 e.kind), .d (.int .i64 e.num), .d (.int .i64 (e.to : Int))])).n = τ0.n + 1 := by simp only [St.n_set, St.n_push]
      have lz3 : low St.empty.n [τ0.n] = [] := by rw [low_cons_ge (by omega)]; rfl
      simp only [go_sem, ↓reduceIte, Int.reduceEq, Nat.reduceBEq, Int.reduceBEq, Int.reduceBNe, Int.reduceLT, Int.reduceLE, Nat.reduceAdd, Nat.reducePow, Nat.reduceEqDiff, Nat.reduceLT, Nat.reduceLeDiff, Nat.reduceMul, Nat.reduceSub, d1, d2, len_rw, irw, Eg.D_c, lz3]
      have gN1 := (hgk (St.empty.n + 1) (by omega)).trans gN
      have gP1 := (hgk (St.empty.n + 2) (by omega)).trans gP
      generalize ((τ0.push (.cells [.d (.int .i64 0), .d (.int .i64 0), .d (.int .i64 0)])).set τ0.n (.cells [.d (.int .i64 e.kind), .d (.int .i64 e.num), .d (.int .i64 (e.to : Int))])) = τ1 at gN1 gP1 hec hn1
      have ne2 : St.empty.n + 2 ≠ τ0.n := by omega
      have hgk2 : ∀ k, k < τ1.n → ((τ1.push (.cells [.d (.int .i64 0), .d (.slc true [])])).set τ1.n (.cells [.d (.int .i64 (e.to : Int)), .d (.slc zb (intsD (natsI B)))])).get k = τ1.get k := fun k hk => by
        rw [St.get_set_ne (by omega), St.get_push_ne hk]
      have hpc : ((τ1.push (.cells [.d (.int .i64 0), .d (.slc true [])])).set τ1.n (.cells [.d (.int .i64 (e.to : Int)), .d (.slc zb (intsD (natsI B)))])).get τ1.n = .cells [.d (.int .i64 (e.to : Int)), .d (.slc zb (intsD (natsI B)))] := St.get_set_eq
      have hn2 : ((τ1.push (.cells [.d (.int .i64 0), .d (.slc true [])])).set τ1.n (.cells [.d (.int .i64 (e.to : Int)), .d (.slc zb (intsD (natsI B)))])).n = τ1.n + 1 := by simp only [St.n_set, St.n_push]
      have lz4 : low St.empty.n [τ1.n] = [] := by rw [low_cons_ge (by omega)]; rfl
      simp only [go_sem, ↓reduceIte, Int.reduceEq, Nat.reduceBEq, Int.reduceBEq, Int.reduceBNe, Int.reduceLT, Int.reduceLE, Nat.reduceAdd, Nat.reducePow, Nat.reduceEqDiff, Nat.reduceLT, Nat.reduceLeDiff, Nat.reduceMul, Nat.reduceSub, gP, gP1, ne2, hec, lz4]
      have ne3 : τ0.n ≠ τ1.n := by omega
      have gN2 := (hgk2 (St.empty.n + 1) (by omega)).trans gN1
      have gP2 := (hgk2 (St.empty.n + 2) (by omega)).trans gP1
      have gE2 := (hgk2 τ0.n (by omega)).trans hec
      generalize ((τ1.push (.cells [.d (.int .i64 0), .d (.slc true [])])).set τ1.n (.cells [.d (.int .i64 (e.to : Int)), .d (.slc zb (intsD (natsI B)))])) = τ2 at gN2 gP2 gE2 hpc hn2
      have hem : e ∈ r := by rw [hre]; simp
      obtain ⟨k1, k2, k3, k4, k5, k6⟩ := hed e hem
      have hget1 : (newN g).N.es[s]? = some [e] := by rw [hget, hre]
      by_cases hk2 : e.kind = 2
      · have c2 : (e.kind == 2) = true := by rw [hk2]; rfl
        have c1 : (e.kind == 1) = false := by rw [hk2]; rfl
        have hR := k6 hk2
        have hnn := Int.toNat_of_nonneg k3
        have d4 : decide (e.num < 0) = false := by rw [decide_eq_false_iff_not]; omega
        have d5 : decide (e.num ≥ (g.rules.length : Int)) = false := by rw [decide_eq_false_iff_not]; omega
        have len1 : ∀ ρ : St, sliceLen ρ (.d (slD (newX g).en)) = some g.rules.length := fun ρ => by rw [len_sl, hN.enl]
        have in2 := fun (ρ : St) => index_sl (σ := ρ) (kd := .i64) (l := (newX g).en) (i := e.num.toNat) (by rw [hN.enl]; exact hR)
        rw [(hN.en _ hR).2.1, hnn] at in2
        obtain ⟨a', τ3, T, happ, r1, r2, r3, r4, r5, r6⟩ := nasCons (σ := τ2) (n := e.to) (z := zb) (B := B) (by omega)
        have q3 : τ3.get τ1.n = _ := (r2 _ (by omega)).trans hpc
        have ne4 : τ0.n ≠ τ2.n := by omega
        have ne5 : St.empty.n + 1 ≠ τ2.n := by omega
        have ne6 : St.empty.n + 2 ≠ τ2.n := by omega
        have ne7 : τ1.n ≠ τ2.n := by omega
        have mT1 : St.empty.n + 1 ∉ T := fun hk => by have := r4 _ hk; omega
        have mT2 : St.empty.n + 2 ∉ T := fun hk => by have := r4 _ hk; omega
        have mT3 : τ0.n ∉ T := fun hk => by have := r4 _ hk; omega
        have mT4 : τ1.n ∉ T := fun hk => by have := r4 _ hk; omega
        have lT : low St.empty.n T = [] := low_all fun k hk => by have := r4 k hk; omega
        simp only [go_sem, ↓reduceIte, Int.reduceEq, Nat.reduceBEq, Int.reduceBEq, Int.reduceBNe, Int.reduceLT, Int.reduceLE, Nat.reduceAdd, Nat.reducePow, Nat.reduceEqDiff, Nat.reduceLT, Nat.reduceLeDiff, Nat.reduceMul, Nat.reduceSub, gP, gP1, gP2, gN2, gE2, hpc, ne3, c2, d4, d5, len1, in2, happ, r5, r6, q3, ne4, ne5, ne6, ne7, lT, lz4]
        refine ⟨drawOk_rel [11, 13] [(11, 0), (11, 1), (11, 2), (11, 3), (11, 4), (11, 5)] rfl (by kernel_rfl) rfl (by simp [meets]; refine ⟨fun k hk => ?_, fun k hk => ?_⟩ <;> (intro q; have := r4 k hk; omega)), ?_⟩
        have s0 := (r2 τ0.n (by omega)).trans gE2
        have s1 : (τ3.set τ1.n (.cells [.d (.int .i64 ((newX g).ent e.num.toNat : Int)), a'])).get τ0.n = _ := (St.get_set_ne ne3).trans s0
        have s2 : (τ3.set τ1.n (.cells [.d (.int .i64 ((newX g).ent e.num.toNat : Int)), a'])).get τ1.n = _ := St.get_set_eq
        have s3 : (τ3.set τ1.n (.cells [.d (.int .i64 ((newX g).ent e.num.toNat : Int)), a'])).n = τ3.n := by rw [St.n_set]
        have s4 := ((r1 τ1.n (by omega)).stay (τ := τ3.set τ1.n (.cells [.d (.int .i64 ((newX g).ent e.num.toNat : Int)), a'])) (by omega) fun k _ hk _ => St.get_set_ne hk)
        generalize (τ3.set τ1.n (.cells [.d (.int .i64 ((newX g).ent e.num.toNat : Int)), a'])) = τ4 at s1 s2 s3 s4
        have hv2 := viable_L (zt := z) (l := l) hg hc (by omega) (s := (newX g).ent e.num.toNat) (B := e.to :: B) (hs.call hN hget hem hk2 (by omega)) (σ := τ4) (ba := a') (s4.any (Nat.le_refl _) (Nat.le_refl _))
        have d6 := (IsG.one hN hget1 (.inr (.inl ⟨hk2, hv2.1⟩))).eq hall
        simp only [go_sem, ↓reduceIte, Int.reduceEq, Nat.reduceBEq, Int.reduceBEq, Int.reduceBNe, Int.reduceLT, Int.reduceLE, Nat.reduceAdd, Nat.reducePow, Nat.reduceEqDiff, Nat.reduceLT, Nat.reduceLeDiff, Nat.reduceMul, Nat.reduceSub, s0, s1, s2, c1]
        refine ⟨_, _, _, hv2.2, ?_⟩
        simp only [go_sem, ↓reduceIte, Int.reduceEq, Nat.reduceBEq, Int.reduceBEq, Int.reduceBNe, Int.reduceLT, Int.reduceLE, Nat.reduceAdd, Nat.reducePow, Nat.reduceEqDiff, Nat.reduceLT, Nat.reduceLeDiff, Nat.reduceMul, Nat.reduceSub, viaV, d6]
      have c2 : (e.kind == 2) = false := by rw [beq_eq_false_iff_ne]; exact hk2
      by_cases hk1 : e.kind = 1
      · have c1 : (e.kind == 1) = true := by rw [hk1]; rfl
        by_cases hl0 : l.length = 0
        · have c3 : ((l.length : Int) == 0) = true := by rw [hl0]; rfl
          have hle : l = [] := List.length_eq_zero_iff.1 hl0
          have hall0 : 0 = all := (IsG.one hN hget1 (.inr (.inr (.inr ⟨hk1, by rw [hle]; simp, rfl⟩)))).eq hall
          have d6 : ((all : Int) == 0) = true := by rw [← hall0]; rfl
          simp only [go_sem, ↓reduceIte, Int.reduceEq, Nat.reduceBEq, Int.reduceBEq, Int.reduceBNe, Int.reduceLT, Int.reduceLE, Nat.reduceAdd, Nat.reducePow, Nat.reduceEqDiff, Nat.reduceLT, Nat.reduceLeDiff, Nat.reduceMul, Nat.reduceSub, gP, gP1, gP2, gN2, gE2, hpc, ne3, c2, c1, c3]
          refine ⟨drawOk_rel [] [] rfl (by kernel_rfl) rfl (by simp), ?_⟩
          simp only [go_sem, ↓reduceIte, Int.reduceEq, Nat.reduceBEq, Int.reduceBEq, Int.reduceBNe, Int.reduceLT, Int.reduceLE, Nat.reduceAdd, Nat.reducePow, Nat.reduceEqDiff, Nat.reduceLT, Nat.reduceLeDiff, Nat.reduceMul, Nat.reduceSub, d6]
        have c3 : ((l.length : Int) == 0) = false := by rw [beq_eq_false_iff_ne]; omega
        have hlp : 0 < l.length := by omega
        have in0 : ∀ ρ : St, indexD ρ 1 (intsD l) 0 = .val (.d (.vptr [.int .i64 l[0]] 0)) ρ [] [] := fun ρ => index_ints (σ := ρ) (z := z) (i := 0) hlp
        by_cases hq : l[0] = e.num
        · have c4 : (l[0] != e.num) = false := by rw [hq]; simp
          have sl0 := fun (ρ : St) => slD1 (σ := ρ) (z := z) (l := l) (ek := .int .i64) (eb := 8) (ez := some [.d (.int .i64 0)]) (ezv := .d (.int .i64 0)) hlp
          have hv2 := viable_L (zt := z) (l := l.drop 1) hg hc (by rw [List.length_drop]; omega) (s := e.to) (B := B) (hs.move k4 k5) (σ := τ2) (ba := .d (.slc zb (intsD (natsI B)))) (.inl ⟨zb, rfl⟩)
          have d6 := (IsG.one hN hget1 (.inr (.inr (.inl ⟨hk1, by rw [List.getElem?_eq_getElem hlp, hq], _, rfl, hv2.1⟩)))).eq hall
          have hal : all ≤ l.length := hall.1.len (Nat.zero_le _)
          have w1 : IntKind.i64.wrap (((farV (l.drop 1) (newN g).N (newX g) e.to B : Nat) : Int) + 1) = (all : Int) := by rw [wrap_small (by omega) (by omega)]; omega
          have c5 : ((all : Int) == (all : Int)) = true := by simp
          simp only [go_sem, ↓reduceIte, Int.reduceEq, Nat.reduceBEq, Int.reduceBEq, Int.reduceBNe, Int.reduceLT, Int.reduceLE, Nat.reduceAdd, Nat.reducePow, Nat.reduceEqDiff, Nat.reduceLT, Nat.reduceLeDiff, Nat.reduceMul, Nat.reduceSub, gP, gP1, gP2, gN2, gE2, hpc, ne3, c2, c1, c3, in0, c4]
          refine ⟨drawOk_rel [] [] rfl (by kernel_rfl) rfl (by simp), ?_⟩
          simp only [go_sem, ↓reduceIte, Int.reduceEq, Nat.reduceBEq, Int.reduceBEq, Int.reduceBNe, Int.reduceLT, Int.reduceLE, Nat.reduceAdd, Nat.reducePow, Nat.reduceEqDiff, Nat.reduceLT, Nat.reduceLeDiff, Nat.reduceMul, Nat.reduceSub, gP, gP1, gP2, gN2, gE2, hpc, ne3, sl0]
          refine ⟨_, _, _, hv2.2, ?_⟩
          simp only [go_sem, ↓reduceIte, Int.reduceEq, Nat.reduceBEq, Int.reduceBEq, Int.reduceBNe, Int.reduceLT, Int.reduceLE, Nat.reduceAdd, Nat.reducePow, Nat.reduceEqDiff, Nat.reduceLT, Nat.reduceLeDiff, Nat.reduceMul, Nat.reduceSub, viaV, w1, c5]
          exact drawOk_rel [4] [] rfl (by kernel_rfl) rfl (by simp)
        · have c4 : (l[0] != e.num) = true := by simpa using hq
          have hall0 : 0 = all := (IsG.one hN hget1 (.inr (.inr (.inr ⟨hk1, by rw [List.getElem?_eq_getElem hlp]; simpa using hq, rfl⟩)))).eq hall
          have d6 : ((all : Int) == 0) = true := by rw [← hall0]; rfl
          simp only [go_sem, ↓reduceIte, Int.reduceEq, Nat.reduceBEq, Int.reduceBEq, Int.reduceBNe, Int.reduceLT, Int.reduceLE, Nat.reduceAdd, Nat.reducePow, Nat.reduceEqDiff, Nat.reduceLT, Nat.reduceLeDiff, Nat.reduceMul, Nat.reduceSub, gP, gP1, gP2, gN2, gE2, hpc, ne3, c2, c1, c3, in0, c4]
          refine ⟨drawOk_rel [] [] rfl (by kernel_rfl) rfl (by simp), ?_⟩
          simp only [go_sem, ↓reduceIte, Int.reduceEq, Nat.reduceBEq, Int.reduceBEq, Int.reduceBNe, Int.reduceLT, Int.reduceLE, Nat.reduceAdd, Nat.reducePow, Nat.reduceEqDiff, Nat.reduceLT, Nat.reduceLeDiff, Nat.reduceMul, Nat.reduceSub, d6]
      · have c1 : (e.kind == 1) = false := by rw [beq_eq_false_iff_ne]; exact hk1
        have hk0 : e.kind = 0 := by omega
        have hv2 := viable_L (zt := z) (l := l) hg hc (by omega) (s := e.to) (B := B) (hs.move k4 k5) (σ := τ2) (ba := .d (.slc zb (intsD (natsI B)))) (.inl ⟨zb, rfl⟩)
        have d6 := (IsG.one hN hget1 (.inl ⟨hk0, hv2.1⟩)).eq hall
        simp only [go_sem, ↓reduceIte, Int.reduceEq, Nat.reduceBEq, Int.reduceBEq, Int.reduceBNe, Int.reduceLT, Int.reduceLE, Nat.reduceAdd, Nat.reducePow, Nat.reduceEqDiff, Nat.reduceLT, Nat.reduceLeDiff, Nat.reduceMul, Nat.reduceSub, gP, gP1, gP2, gN2, gE2, hpc, ne3, c2, c1]
        refine ⟨_, _, _, hv2.2, ?_⟩
        simp only [go_sem, ↓reduceIte, Int.reduceEq, Nat.reduceBEq, Int.reduceBEq, Int.reduceBNe, Int.reduceLT, Int.reduceLE, Nat.reduceAdd, Nat.reducePow, Nat.reduceEqDiff, Nat.reduceLT, Nat.reduceLeDiff, Nat.reduceMul, Nat.reduceSub, viaV, d6]
end Go.Am

/- Part V4 of a proof that runs a program's calls on a small machine whose values bear no addresses: no conditions. -/
import Derived.Test.YtahfdfpakikbpaaAmV1
set_option autoImplicit false
set_option linter.unusedSimpArgs false
set_option linter.unusedVariables false
set_option linter.unusedSectionVars false
namespace Go.Am
open Go Go.Proofs
variable {fz : Nat → Md}
theorem cp_kind (x : Ex) : x.cp.kind = x.kind := by cases x; rw [Ex.cp]; rfl
theorem cp_num (x : Ex) : x.cp.num = x.num := by cases x; rw [Ex.cp]; rfl
theorem cp_l (x : Ex) : x.cp.l = x.l.map Ex.cp := by cases x; rw [Ex.cp, cpL_map]; rfl
def cpS : Ex ⊕ List Ex → Ex ⊕ List Ex
  | .inl x => .inl x.cp
  | .inr xs => .inr (xs.map Ex.cp)
/-- the same in a grammar with a rule more -/
theorem Dx.to_ext {bs : List Ex} {z : Ex} {l : List Int} {w : Ex ⊕ List Ex} {i j : Nat} (h : Dx bs l w i j) : Dx (bs.map Ex.cp ++ [z]) l (cpS w) i j := by
  induction h with
  | tok h1 h2 => exact .tok (by rw [cp_kind]; exact h1) (by rw [cp_num]; exact h2)
  | @call x y i j h1 h2 _ ih =>
    refine .call (by rw [cp_kind]; exact h1) ?_ ih
    rw [cp_num, List.getElem?_append_left (by have := (List.getElem?_eq_some_iff.1 h2).1; simpa using this), List.getElem?_map, h2]; rfl
  | @alt x y i j h1 h2 _ ih => exact .alt (by rw [cp_kind]; exact h1) (by rw [cp_l]; exact List.mem_map.2 ⟨y, h2, rfl⟩) ih
  | opt0 h1 => exact .opt0 (by rw [cp_kind]; exact h1)
  | opt1 h1 h2 _ ih => exact .opt1 (by rw [cp_kind]; exact h1) (by rw [cp_l, h2]; rfl) ih
  | star0 h1 => exact .star0 (by rw [cp_kind]; exact h1)
  | star1 h1 h2 _ _ ih1 ih2 => exact .star1 (by rw [cp_kind]; exact h1) (by rw [cp_l, h2]; rfl) ih1 ih2
  | seq h1 _ ih => exact .seq (by rw [cp_kind]; exact h1) (by rw [cp_l]; exact ih)
  | nil => exact .nil
  | cons _ _ ih1 ih2 => exact .cons ih1 ih2
theorem Dx.of_ext {bs : List Ex} {z : Ex} {l : List Int} {t : Int} (hok : ∀ y ∈ bs, okE t bs.length y) {w' : Ex ⊕ List Ex} {i j : Nat} (h : Dx (bs.map Ex.cp ++ [z]) l w' i j) :
    (∀ x, w' = .inl (Ex.cp x) → okE t bs.length x → Dx bs l (.inl x) i j) ∧ (∀ xs, w' = .inr (xs.map Ex.cp) → (∀ x ∈ xs, okE t bs.length x) → Dx bs l (.inr xs) i j) := by
  induction h with
  | tok h1 h2 =>
    refine ⟨fun x e _ => ?_, fun xs e => by cases e⟩
    cases e; rw [cp_kind] at h1; rw [cp_num] at h2; exact .tok h1 h2
  | call h1 h2 _ ih =>
    refine ⟨fun x e ho => ?_, fun xs e => by cases e⟩
    cases e; rw [cp_kind] at h1
    have hr := ho.call h1
    rw [cp_num, List.getElem?_append_left (by simp; omega), List.getElem?_map] at h2
    have hb : bs[x.num.toNat]? = some (bs[x.num.toNat]'(by omega)) := by simp
    rw [hb] at h2; cases h2
    exact .call h1 hb (ih.1 _ rfl (hok _ (List.getElem_mem _)))
  | alt h1 h2 _ ih =>
    refine ⟨fun x e ho => ?_, fun xs e => by cases e⟩
    cases e; rw [cp_kind] at h1; rw [cp_l] at h2
    obtain ⟨y, hy, rfl⟩ := List.mem_map.1 h2
    exact .alt h1 hy (ih.1 y rfl (ho.sub hy))
  | opt0 h1 =>
    refine ⟨fun x e ho => ?_, fun xs e => by cases e⟩
    cases e; rw [cp_kind] at h1; exact .opt0 h1
  | opt1 h1 h2 _ ih =>
    refine ⟨fun x e ho => ?_, fun xs e => by cases e⟩
    cases e; rw [cp_kind] at h1
    obtain ⟨y, hy⟩ := ho.star (.inr h1)
    rw [cp_l, hy] at h2; cases h2
    exact .opt1 h1 hy (ih.1 y rfl (ho.sub (by rw [hy]; simp)))
  | star0 h1 =>
    refine ⟨fun x e ho => ?_, fun xs e => by cases e⟩
    cases e; rw [cp_kind] at h1; exact .star0 h1
  | star1 h1 h2 _ _ ih1 ih2 =>
    refine ⟨fun x e ho => ?_, fun xs e => by cases e⟩
    cases e; rw [cp_kind] at h1
    obtain ⟨y, hy⟩ := ho.star (.inl h1)
    rw [cp_l, hy] at h2; cases h2
    exact .star1 h1 hy (ih1.1 x rfl ho) (ih2.1 y rfl (ho.sub (by rw [hy]; simp)))
  | seq h1 _ ih =>
    refine ⟨fun x e ho => ?_, fun xs e => by cases e⟩
    cases e; rw [cp_kind] at h1
    exact .seq h1 (ih.2 x.l (by rw [cp_l]) fun y hy => ho.sub hy)
  | nil =>
    refine ⟨fun x e => (by cases e), fun xs e _ => ?_⟩
    cases xs with
    | nil => exact .nil
    | cons _ _ => simp at e
  | cons _ _ ih1 ih2 =>
    refine ⟨fun x e => (by cases e), fun xs e ho => ?_⟩
    cases xs with
    | nil => simp at e
    | cons x xs =>
      simp only [List.map_cons, Sum.inr.injEq, List.cons.injEq] at e
      obtain ⟨rfl, rfl⟩ := e
      exact .cons (ih1.1 x rfl (ho x (by simp))) (ih2.2 xs rfl fun z hz => ho z (by simp [hz]))
theorem der_ext {g : Gr} (hk : ChkOk g) {nm : ByteArray} {x y : Ex} (hy : y ∈ g.bodies) {l : List Int} {i j : Nat} : Der (g.ext nm x).bodies l y.cp i j ↔ Der g.bodies l y i j := by
  rw [ext_bodies]
  have hok : ∀ y ∈ g.bodies, okE g.tokens g.bodies.length y := fun y hy => by rw [bodies_len]; exact hk.ok y hy
  exact ⟨fun h => (Dx.of_ext hok h).1 y rfl (hok y hy), fun h => Dx.to_ext h⟩
def altX (a b : Int) : Ex := .mk 4 0 false [exC a, exC b]
def seq1 (a : Int) : Ex := .mk 3 0 false [exC a]
def optX (a : Int) : Ex := .mk 6 0 false [seq1 a]
def starX (a : Int) : Ex := .mk 5 0 false [seq1 a]
section
variable {g : Gr} {nm : ByteArray} {x : Ex}
theorem ext_at {a : Nat} (ha : a < g.rules.length) : ∃ y, g.bodies[a]? = some y ∧ y ∈ g.bodies ∧ (g.ext nm x).bodies[a]? = some y.cp := by
  have hbn := bodies_len g
  have hy : g.bodies[a]? = some (g.bodies[a]'(by omega)) := by simp
  exact ⟨_, hy, List.getElem_mem _, by rw [ext_bodies, List.getElem?_append_left (by simp; omega), List.getElem?_map, hy]; rfl⟩
theorem ext_last : (g.ext nm x).bodies[g.rules.length]? = some x := by
  have hbn := bodies_len g
  rw [ext_bodies, List.getElem?_append_right (by simp; omega)]; simp [hbn]
theorem der_call {l : List Int} {a : Nat} {y : Ex} (hy : (g.ext nm x).bodies[a]? = some y) {i j : Nat} : Der (g.ext nm x).bodies l (exC a) i j ↔ Der (g.ext nm x).bodies l y i j := der_2 (x := exC a) rfl (by simpa [exC, Ex.num] using hy)
theorem der_seq1 {l : List Int} {a : Nat} {y : Ex} (hy : (g.ext nm x).bodies[a]? = some y) {i j : Nat} : Der (g.ext nm x).bodies l (seq1 a) i j ↔ Der (g.ext nm x).bodies l y i j := by
  rw [der_s (x := seq1 a) (by simp [seq1, Ex.kind])]
  exact DerL.one.trans (der_call hy)
end
theorem alt_law {g : Gr} (hg : checkP g = 0) {nm : ByteArray} {a b : Nat} (h : checkP (g.ext nm (altX a b)) = 0) (ha : a < g.rules.length) (hb : b < g.rules.length) (l : List Int) (hl : l.length ≤ 20) :
    derV (g.ext nm (altX a b)) g.rules.length l = (derV g a l || derV g b l) ∧ derE (g.ext nm (altX a b)) g.rules.length l = 0 := by
  have hk := chk_iff.1 hg
  obtain ⟨ya, h1, h2, h3⟩ := ext_at (g := g) (nm := nm) (x := altX a b) ha
  obtain ⟨yb, h4, h5, h6⟩ := ext_at (g := g) (nm := nm) (x := altX a b) hb
  have en := derV_at (rule := g.rules.length) (l := l) h ext_last (by omega)
  refine ⟨?_, en.2⟩
  rw [en.1, (derV_at hg h1 (by omega)).1, (derV_at hg h4 (by omega)).1, Bool.eq_iff_iff, Bool.or_eq_true, derB_iff, derB_iff, derB_iff, der_4 (x := altX a b) rfl]
  constructor
  · rintro ⟨y, hy, hd⟩
    have hy : y = exC a ∨ y = exC b := by simpa [altX, Ex.l] using hy
    rcases hy with rfl | rfl
    · exact .inl ((der_ext hk h2).1 ((der_call h3).1 hd))
    · exact .inr ((der_ext hk h5).1 ((der_call h6).1 hd))
  · rintro (hd | hd)
    · exact ⟨exC a, by simp [altX, Ex.l], (der_call h3).2 ((der_ext hk h2).2 hd)⟩
    · exact ⟨exC b, by simp [altX, Ex.l], (der_call h6).2 ((der_ext hk h5).2 hd)⟩
theorem opt_law {g : Gr} (hg : checkP g = 0) {nm : ByteArray} {a : Nat} (h : checkP (g.ext nm (optX a)) = 0) (ha : a < g.rules.length) (l : List Int) (hl : l.length ≤ 20) :
    derV (g.ext nm (optX a)) g.rules.length l = (derV g a l || ((l.length : Int) == 0)) ∧ derE (g.ext nm (optX a)) g.rules.length l = 0 := by
  have hk := chk_iff.1 hg
  obtain ⟨ya, h1, h2, h3⟩ := ext_at (g := g) (nm := nm) (x := optX a) ha
  have en := derV_at (rule := g.rules.length) (l := l) h ext_last (by omega)
  refine ⟨?_, en.2⟩
  rw [en.1, (derV_at hg h1 (by omega)).1, Bool.eq_iff_iff, Bool.or_eq_true, derB_iff, derB_iff, der_6 (x := optX a) rfl (y := seq1 a) rfl, der_seq1 h3, der_ext hk h2]
  simp only [beq_iff_eq, or_comm]
  constructor
  · rintro (h | h)
    · exact .inl (by omega)
    · exact .inr h
  · rintro (h | h)
    · exact .inl (by omega)
    · exact .inr h
theorem star_law {g : Gr} {nm : ByteArray} {a : Nat} (h : checkP (g.ext nm (starX a)) = 0) (ha : a < g.rules.length) (l : List Int) (hl : l.length ≤ 20) :
    derV (g.ext nm (starX a)) g.rules.length l = (((l.length : Int) == 0) || (List.range l.length).any fun k => derV (g.ext nm (starX a)) a (l.take (k + 1)) && derV (g.ext nm (starX a)) g.rules.length (l.drop (k + 1))) ∧
    derE (g.ext nm (starX a)) g.rules.length l = 0 := by
  obtain ⟨ya, h1, h2, h3⟩ := ext_at (g := g) (nm := nm) (x := starX a) ha
  have ea := fun k => derV_at (rule := a) (l := l.take k) h h3 (by rw [List.length_take]; omega)
  have eb := fun k => derV_at (rule := g.rules.length) (l := l.drop k) h ext_last (by rw [List.length_drop]; omega)
  have en := derV_at (rule := g.rules.length) (l := l) h ext_last (by omega)
  refine ⟨?_, en.2⟩
  rw [en.1]
  simp only [fun k => (ea k).1, fun k => (eb k).1]
  rw [Bool.eq_iff_iff, Bool.or_eq_true, derB_iff, List.any_eq_true]
  have cy : ∀ i j, Der (g.ext nm (starX a)).bodies l (seq1 a) i j ↔ Der (g.ext nm (starX a)).bodies l ya.cp i j := fun i j => der_seq1 h3
  generalize (g.ext nm (starX a)).bodies = B at cy ⊢
  constructor
  · intro hd
    have key : l.length = 0 ∨ ∃ k, 1 ≤ k ∧ Der B l (seq1 a) 0 k ∧ Der B l (starX a) k l.length := by
      refine star_closed (x := starX a) rfl (y := seq1 a) rfl (fun j => j = 0 ∨ ∃ k, 1 ≤ k ∧ Der B l (seq1 a) 0 k ∧ Der B l (starX a) k j) (.inl rfl) (fun m j hm hd => ?_) hd
      rcases hm with rfl | ⟨k, k1, k2, k3⟩
      · by_cases hj : j = 0
        · exact .inl hj
        · exact .inr ⟨j, by omega, hd, .star0 rfl⟩
      · exact .inr ⟨k, k1, k2, .star1 rfl rfl k3 hd⟩
    rcases key with h0 | ⟨k, k1, k2, k3⟩
    · left; simp [h0]
    · right
      have hk : k ≤ l.length := k2.len (Nat.zero_le _)
      refine ⟨k - 1, List.mem_range.2 (by omega), ?_⟩
      rw [show k - 1 + 1 = k by omega, Bool.and_eq_true, derB_iff, derB_iff, List.length_take, Nat.min_eq_left hk, der_take, der_drop hk]
      exact ⟨(cy _ _).1 k2, k3⟩
  · rintro (h0 | ⟨k, hk, hd⟩)
    · have : l.length = 0 := by have := beq_iff_eq.1 h0; omega
      rw [this]; exact .star0 rfl
    · have hk : k + 1 ≤ l.length := by have := List.mem_range.1 hk; omega
      rw [Bool.and_eq_true, derB_iff, derB_iff, List.length_take, Nat.min_eq_left hk, der_take, der_drop hk] at hd
      refine star_closed (x := starX a) rfl (y := seq1 a) rfl (fun j => Der B l (starX a) 0 j) ?_ (fun m j hm hd => .star1 rfl rfl hm hd) hd.2
      exact .star1 rfl rfl (.star0 rfl) ((cy _ _).2 hd.1)
/-! options and stars in memory -/
set_option maxHeartbeats 1000000 in
theorem c40 (h40 : fz 40 = .keep) (h37 : fz 37 = .cut) {k m N : Nat} {σ : St} {x : Ex} (hk : k < σ.n) (hx : Frz N σ [.d (.int .i64 3), .d (.int .i64 0), .row k 0 m 3] x) :
    ∃ c σ', CallsTo (XX fz) (.func 40 []) [.row k 0 m 3] σ (.agg c) σ' [] ∧ Ext σ σ' ∧ Frz (N + 7) σ' c (.mk 6 0 false [x]) := by
  have key := CallsTo.keepP (X := XX fz) (f := 40) (cap := []) (args := [.row k 0 m 3]) (σ := σ) (P := fun r σ' => ∃ c, r = .agg c ∧ Ext σ σ' ∧ Frz (N + 7) σ' c (.mk 6 0 false [x])) h40 fn40 (by simp) ?_
  · obtain ⟨r, σ', hc, c, rfl, h1, h2⟩ := key
    exact ⟨c, σ', hc, h1, h2⟩
  simp only [Try.f40, Option.getD_some]
  simp only [go_sem, ↓reduceIte, Int.reduceEq, Nat.reduceBEq, Option.some.injEq, Bool.true_eq_false, Bool.false_eq_true, Int.reduceBEq, Int.reduceBNe, Int.reduceLT, Int.reduceLE, Nat.add_assoc, Nat.reduceAdd, Nat.reducePow, Nat.zero_le, Nat.reduceEqDiff, Nat.reduceLT, Nat.reduceLeDiff, Nat.reduceMul, Nat.reduceSub, Nat.add_left_cancel_iff, Nat.lt_irrefl, Nat.le_refl, Nat.add_eq_left, Nat.left_eq_add, beq_self_eq_true]
  refine ⟨_, _, _, c37 h37 (by simp only [St.n_push]; omega), ?_⟩
  have hc : ∀ k m, (A.row k 0 m 3).isCell = true := fun _ _ => rfl
  have hcs : ∀ k m, (A.row k 0 m 3).cells = some [A.row k 0 m 3] := fun _ _ => rfl
  simp only [go_sem, ↓reduceIte, Int.reduceEq, Nat.reduceBEq, Option.some.injEq, Bool.true_eq_false, Bool.false_eq_true, Int.reduceBEq, Int.reduceBNe, Int.reduceLT, Int.reduceLE, Nat.add_assoc, Nat.reduceAdd, Nat.reducePow, Nat.zero_le, Nat.reduceEqDiff, Nat.reduceLT, Nat.reduceLeDiff, Nat.reduceMul, Nat.reduceSub, Nat.add_left_cancel_iff, Nat.lt_irrefl, Nat.le_refl, Nat.add_eq_left, Nat.left_eq_add, beq_self_eq_true, hc, hcs]
  refine ⟨_, rfl, ?_, ?_⟩
  · exact (((Ext.refl σ).push).push).set (Nat.le_refl _)
  · refine Frz.row (N := N) (css := [[.d (.int .i64 3), .d (.int .i64 0), .row k 0 m 3]]) (xs := [x]) ?_ ?_ rfl fun i c y hi hy => ?_
    · rw [St.get_set_ne (by omega)]; exact St.get_push_eq' (by simp [St.n_push])
    · simp only [St.n_set, St.n_push]; omega
    · match i, hi, hy with
      | 0, hi, hy => cases hi; cases hy; exact hx.mono ((((Ext.refl σ).push).push).set (Nat.le_refl _))
      | i + 1, hi, _ => simp at hi
set_option maxHeartbeats 1000000 in
theorem c41 (h41 : fz 41 = .keep) (h37 : fz 37 = .cut) {k m N : Nat} {σ : St} {x : Ex} (hk : k < σ.n) (hx : Frz N σ [.d (.int .i64 3), .d (.int .i64 0), .row k 0 m 3] x) :
    ∃ c σ', CallsTo (XX fz) (.func 41 []) [.row k 0 m 3] σ (.agg c) σ' [] ∧ Ext σ σ' ∧ Frz (N + 7) σ' c (.mk 5 0 false [x]) := by
  have key := CallsTo.keepP (X := XX fz) (f := 41) (cap := []) (args := [.row k 0 m 3]) (σ := σ) (P := fun r σ' => ∃ c, r = .agg c ∧ Ext σ σ' ∧ Frz (N + 7) σ' c (.mk 5 0 false [x])) h41 fn41 (by simp) ?_
  · obtain ⟨r, σ', hc, c, rfl, h1, h2⟩ := key
    exact ⟨c, σ', hc, h1, h2⟩
  simp only [Try.f41, Option.getD_some]
  simp only [go_sem, ↓reduceIte, Int.reduceEq, Nat.reduceBEq, Option.some.injEq, Bool.true_eq_false, Bool.false_eq_true, Int.reduceBEq, Int.reduceBNe, Int.reduceLT, Int.reduceLE, Nat.add_assoc, Nat.reduceAdd, Nat.reducePow, Nat.zero_le, Nat.reduceEqDiff, Nat.reduceLT, Nat.reduceLeDiff, Nat.reduceMul, Nat.reduceSub, Nat.add_left_cancel_iff, Nat.lt_irrefl, Nat.le_refl, Nat.add_eq_left, Nat.left_eq_add, beq_self_eq_true]
  refine ⟨_, _, _, c37 h37 (by simp only [St.n_push]; omega), ?_⟩
  have hc : ∀ k m, (A.row k 0 m 3).isCell = true := fun _ _ => rfl
  have hcs : ∀ k m, (A.row k 0 m 3).cells = some [A.row k 0 m 3] := fun _ _ => rfl
  simp only [go_sem, ↓reduceIte, Int.reduceEq, Nat.reduceBEq, Option.some.injEq, Bool.true_eq_false, Bool.false_eq_true, Int.reduceBEq, Int.reduceBNe, Int.reduceLT, Int.reduceLE, Nat.add_assoc, Nat.reduceAdd, Nat.reducePow, Nat.zero_le, Nat.reduceEqDiff, Nat.reduceLT, Nat.reduceLeDiff, Nat.reduceMul, Nat.reduceSub, Nat.add_left_cancel_iff, Nat.lt_irrefl, Nat.le_refl, Nat.add_eq_left, Nat.left_eq_add, beq_self_eq_true, hc, hcs]
  refine ⟨_, rfl, ?_, ?_⟩
  · exact (((Ext.refl σ).push).push).set (Nat.le_refl _)
  · refine Frz.row (N := N) (css := [[.d (.int .i64 3), .d (.int .i64 0), .row k 0 m 3]]) (xs := [x]) ?_ ?_ rfl fun i c y hi hy => ?_
    · rw [St.get_set_ne (by omega)]; exact St.get_push_eq' (by simp [St.n_push])
    · simp only [St.n_set, St.n_push]; omega
    · match i, hi, hy with
      | 0, hi, hy => cases hi; cases hy; exact hx.mono ((((Ext.refl σ).push).push).set (Nat.le_refl _))
      | i + 1, hi, _ => simp at hi
end Go.Am
namespace Go.Am
open Go Go.Proofs
def Code.rn : Nat → Code → Code
  | 0, c => c
  | n + 1, c => Code.r (Code.rn n c)
theorem exC_c (n : Int) : (exC n).c = [.d (.int .i64 2), .d (.int .i64 n), .d (.slc true [])] := rfl
abbrev QT : Out → Prop := RetQ (XX mdL) [.tmp 6] fun a _ W1 => a = .d (.bool true) ∧ W1 = []
theorem frz_seq1 {σ : St} {k : Nat} {a : Int} (hk : σ.get k = .cells [.d (.int .i64 2), .d (.int .i64 a), .d (.slc true [])]) (hlt : k < σ.n) : Frz 7 σ [.d (.int .i64 3), .d (.int .i64 0), .row k 0 1 3] (seq1 a) :=
  Frz.row (N := 0) (css := [(exC a).c]) (xs := [exC a]) hk hlt rfl fun i c x hc hx => by
    match i, hc, hx with
    | 0, hc, hx => cases hc; cases hx; exact Frz.data _ _
    | i + 1, hc, _ => simp at hc
theorem small_star (a : Int) : SmallE (starX a) := by unfold SmallE starX seq1 exC; simp [Ex.sz]
theorem small_opt (a : Int) : SmallE (optX a) := by unfold SmallE optX seq1 exC; simp [Ex.sz]
theorem small_alt (a b : Int) : SmallE (altX a b) := by unfold SmallE altX exC; simp [Ex.sz]

set_option maxHeartbeats 8000000 in
theorem alt_star {g : Gr} (hg : SmallG g) (hL : g.rules.length < 2000000) {a : Nat} (ha' : a < g.rules.length) {z : Bool} {l' : List Int} (hl20 : l'.length ≤ 20) {lo : Nat} {τ : St} {tm : Tm} (hn : lo < τ.n) (g0 : τ.get lo = .cells g.c)
    (t2 : tm.at 2 = .d (.slc z (intsD l'))) (t3 : tm.at 3 = .ptr lo 0) (t7 : tm.at 7 = .d (.int .i64 a)) (t9 : tm.at 9 = .d (.int .i64 g.rules.length)) :
    Ev (XX mdL) 8 190 none lo [.code (Code.rn 13 (Try.f8.body.getD .skip))] tm τ [] QT := by
  simp only [Code.rn, Code.r, Try.f8, Option.getD_some, QT]
  simp only [go_sem, ↓reduceIte, Int.reduceEq, Nat.reduceBEq, Option.some.injEq, Bool.true_eq_false, Bool.false_eq_true, Int.reduceBEq, Int.reduceBNe, Int.reduceLT, Int.reduceLE, Nat.add_assoc, Nat.reduceAdd, Nat.reducePow, Nat.zero_le, Nat.reduceEqDiff, Nat.reduceLT, Nat.reduceLeDiff, Nat.reduceMul, Nat.reduceSub, Nat.add_left_cancel_iff, Nat.lt_irrefl, Nat.le_refl, Nat.add_eq_left, Nat.left_eq_add, beq_self_eq_true, Int.reduceToNat, Nat.mul_one, Nat.zero_mul, Nat.zero_add, Nat.add_zero, Nat.one_mul, t3, g0, t7]
  refine ⟨_, _, _, c38 rfl a _, ?_⟩
  simp only [go_sem, ↓reduceIte, Int.reduceEq, Nat.reduceBEq, Option.some.injEq, Bool.true_eq_false, Bool.false_eq_true, Int.reduceBEq, Int.reduceBNe, Int.reduceLT, Int.reduceLE, Nat.add_assoc, Nat.reduceAdd, Nat.reducePow, Nat.zero_le, Nat.reduceEqDiff, Nat.reduceLT, Nat.reduceLeDiff, Nat.reduceMul, Nat.reduceSub, Nat.add_left_cancel_iff, Nat.lt_irrefl, Nat.le_refl, Nat.add_eq_left, Nat.left_eq_add, beq_self_eq_true, Int.reduceToNat, Nat.mul_one, Nat.zero_mul, Nat.zero_add, Nat.add_zero, Nat.one_mul, exC_c]
  have hFz := frz_seq1 (σ := τ.push (.cells [.d (.int .i64 2), .d (.int .i64 a), .d (.slc true [])])) (k := τ.n) (a := a) St.get_push_eq (by simp [St.n_push])
  obtain ⟨c, σ2, hc2, hE2, hF2⟩ := c41 (fz := mdL) rfl rfl (by simp [St.n_push]) hFz
  refine ⟨_, _, _, hc2, ?_⟩
  obtain ⟨xa, σ3, hbc, hE3, hLn⟩ := behind_L (x := starX a) hg hL hF2 (by omega) (small_star a)
  refine ⟨_, _, _, hbc, ?_⟩
  have n2 := hE2.n
  simp only [St.n_push] at n2
  have n3 := hE3.n
  have g3 : σ3.get lo = .cells g.c := by rw [hE3.g lo (by omega), hE2.g lo (by simp only [St.n_push]; omega), St.get_push_ne hn]; exact g0
  obtain ⟨kx, mx, rfl, hkx⟩ := id hLn.form
  have rc : (A.row kx 0 mx 4).cells = some [A.row kx 0 mx 4] := rfl
  have rcc : (A.row kx 0 mx 4).isCell = true := rfl
  simp only [go_sem, ↓reduceIte, Int.reduceEq, Nat.reduceBEq, Option.some.injEq, Bool.true_eq_false, Bool.false_eq_true, Int.reduceBEq, Int.reduceBNe, Int.reduceLT, Int.reduceLE, Nat.add_assoc, Nat.reduceAdd, Nat.reducePow, Nat.zero_le, Nat.reduceEqDiff, Nat.reduceLT, Nat.reduceLeDiff, Nat.reduceMul, Nat.reduceSub, Nat.add_left_cancel_iff, Nat.lt_irrefl, Nat.le_refl, Nat.add_eq_left, Nat.left_eq_add, beq_self_eq_true, Int.reduceToNat, Nat.mul_one, Nat.zero_mul, Nat.zero_add, Nat.add_zero, Nat.one_mul, rc, rcc]
  refine ⟨drawOk_rel [2, 4, 5, 10] [(2, 0), (2, 9), (4, 0), (4, 9), (5, 9), (10, 8)] rfl (by kernel_rfl) rfl (by simp [meets]), ?_⟩
  have lz3 : low lo [σ3.n] = [] := by rw [low_cons_ge (by omega)]; rfl
  cases hcx : (checkP (g.ext moreB (starX a)) == 0) with
  | false => simp only [go_sem, ↓reduceIte, Int.reduceEq, Nat.reduceBEq, Option.some.injEq, Bool.true_eq_false, Bool.false_eq_true, Int.reduceBEq, Int.reduceBNe, Int.reduceLT, Int.reduceLE, Nat.add_assoc, Nat.reduceAdd, Nat.reducePow, Nat.zero_le, Nat.reduceEqDiff, Nat.reduceLT, Nat.reduceLeDiff, Nat.reduceMul, Nat.reduceSub, Nat.add_left_cancel_iff, Nat.lt_irrefl, Nat.le_refl, Nat.add_eq_left, Nat.left_eq_add, beq_self_eq_true, Int.reduceToNat, Nat.mul_one, Nat.zero_mul, Nat.zero_add, Nat.add_zero, Nat.one_mul, hcx, lz3]
  | true =>
  have hcx' : checkP (g.ext moreB (starX a)) = 0 := by simpa using hcx
  simp only [go_sem, ↓reduceIte, Int.reduceEq, Nat.reduceBEq, Option.some.injEq, Bool.true_eq_false, Bool.false_eq_true, Int.reduceBEq, Int.reduceBNe, Int.reduceLT, Int.reduceLE, Nat.add_assoc, Nat.reduceAdd, Nat.reducePow, Nat.zero_le, Nat.reduceEqDiff, Nat.reduceLT, Nat.reduceLeDiff, Nat.reduceMul, Nat.reduceSub, Nat.add_left_cancel_iff, Nat.lt_irrefl, Nat.le_refl, Nat.add_eq_left, Nat.left_eq_add, beq_self_eq_true, Int.reduceToNat, Nat.mul_one, Nat.zero_mul, Nat.zero_add, Nat.add_zero, Nat.one_mul, hcx, lz3, t2]
  obtain ⟨law1, law2⟩ := star_law hcx' ha' l' hl20
  have hXs : SmallG (g.ext moreB (starX a)) := Gr.ext_small hg (small_star a)
  generalize hτ : (σ3.push (Blk.cells [A.d (D.int IntKind.i64 0), A.d (D.slc true [])])).set σ3.n (Blk.cells [A.d (D.int IntKind.i64 (g.ext moreB (starX a)).tokens), A.row kx 0 mx 4]) = τ2
  have hEτ : Ext σ3 τ2 := by rw [← hτ]; exact ((Ext.refl σ3).push).set (Nat.le_refl _)
  have hLτ := hLn.mono hEτ
  have q0 : τ2.get lo = .cells g.c := (hEτ.g _ (by omega)).trans g3
  have q3 : τ2.get σ3.n = .cells [A.d (D.int IntKind.i64 (g.ext moreB (starX a)).tokens), A.row kx 0 mx 4] := by rw [← hτ, St.get_set_eq]
  obtain ⟨Wf, w1, ws, wl⟩ : ∃ Wf : Nat → Bool, Wf 1 = ((l'.length : Int) == 0) ∧ (∀ j, 1 ≤ j → Wf (j + 1) = (Wf j || (derV (g.ext moreB (starX a)) a (l'.take j) && derV (g.ext moreB (starX a)) g.rules.length (l'.drop j)))) ∧ Wf (l'.length + 1) = derV (g.ext moreB (starX a)) g.rules.length l' := by
    refine ⟨fun j => ((l'.length : Int) == 0) || (List.range (j - 1)).any fun k => derV (g.ext moreB (starX a)) a (l'.take (k + 1)) && derV (g.ext moreB (starX a)) g.rules.length (l'.drop (k + 1)), by simp, fun j hj => ?_, ?_⟩
    · obtain ⟨i, rfl⟩ : ∃ i, j = i + 1 := ⟨j - 1, by omega⟩
      simp only [Nat.add_sub_cancel]
      rw [List.range_succ, List.any_append]; simp [Bool.or_assoc]
    · rw [law1]; simp
  clear law1
  generalize hR : derV (g.ext moreB (starX a)) g.rules.length l' = R at wl
  refine Ev.loop_ind (fun m tm τ' W => ∃ j : Nat, m = l'.length + 1 - j ∧ 1 ≤ j ∧ j ≤ l'.length + 1 ∧ W = [] ∧ τ' = τ2 ∧ tm.at 2 = .d (.slc z (intsD l')) ∧ tm.at 3 = .ptr lo 0 ∧ tm.at 7 = .d (.int .i64 a) ∧ tm.at 9 = .d (.int .i64 g.rules.length) ∧ tm.at 22 = .ptr σ3.n 0 ∧
    tm.at 24 = .d (.bool (Wf j)) ∧ tm.at 25 = .d (.int .i64 (j : Int))) ?_ l'.length _ _ _ ⟨1, by omega, by omega, by omega, rfl, rfl, ?_, ?_, ?_, ?_, ?_, ?_, ?_⟩
  · rintro m tm τ' W ⟨j, rfl, h1j, hj, rfl, rfl, t2, t3, t7, t9, t22, t24, t25⟩ ih
    by_cases hlt : j ≤ l'.length
    · have hdec : decide ((j : Int) ≤ (l'.length : Int)) = true := by simpa using hlt
      simp only [go_sem, ↓reduceIte, Int.reduceEq, Nat.reduceBEq, Option.some.injEq, Bool.true_eq_false, Bool.false_eq_true, Int.reduceBEq, Int.reduceBNe, Int.reduceLT, Int.reduceLE, Nat.add_assoc, Nat.reduceAdd, Nat.reducePow, Nat.zero_le, Nat.reduceEqDiff, Nat.reduceLT, Nat.reduceLeDiff, Nat.reduceMul, Nat.reduceSub, Nat.add_left_cancel_iff, Nat.lt_irrefl, Nat.le_refl, Nat.add_eq_left, Nat.left_eq_add, beq_self_eq_true, Int.reduceToNat, Nat.mul_one, Nat.zero_mul, Nat.zero_add, Nat.add_zero, Nat.one_mul, t2, t7, t9, t22, t25, hdec, hlt, q3]
      refine ⟨_, _, _, derives_lent hLτ hXs a z (l'.take j) (by rw [List.length_take]; omega), ?_⟩
      simp only [go_sem, ↓reduceIte, Int.reduceEq, Nat.reduceBEq, Option.some.injEq, Bool.true_eq_false, Bool.false_eq_true, Int.reduceBEq, Int.reduceBNe, Int.reduceLT, Int.reduceLE, Nat.add_assoc, Nat.reduceAdd, Nat.reducePow, Nat.zero_le, Nat.reduceEqDiff, Nat.reduceLT, Nat.reduceLeDiff, Nat.reduceMul, Nat.reduceSub, Nat.add_left_cancel_iff, Nat.lt_irrefl, Nat.le_refl, Nat.add_eq_left, Nat.left_eq_add, beq_self_eq_true, Int.reduceToNat, Nat.mul_one, Nat.zero_mul, Nat.zero_add, Nat.add_zero, Nat.one_mul]
      refine ⟨rfl, ?_⟩
      simp only [go_sem, ↓reduceIte, Int.reduceEq, Nat.reduceBEq, Option.some.injEq, Bool.true_eq_false, Bool.false_eq_true, Int.reduceBEq, Int.reduceBNe, Int.reduceLT, Int.reduceLE, Nat.add_assoc, Nat.reduceAdd, Nat.reducePow, Nat.zero_le, Nat.reduceEqDiff, Nat.reduceLT, Nat.reduceLeDiff, Nat.reduceMul, Nat.reduceSub, Nat.add_left_cancel_iff, Nat.lt_irrefl, Nat.le_refl, Nat.add_eq_left, Nat.left_eq_add, beq_self_eq_true, Int.reduceToNat, Nat.mul_one, Nat.zero_mul, Nat.zero_add, Nat.add_zero, Nat.one_mul, t2, t7, t9, t22, t25, hlt, q3]
      refine ⟨_, _, _, derives_lent hLτ hXs g.rules.length z (l'.drop j) (by rw [List.length_drop]; omega), ?_⟩
      simp only [go_sem, ↓reduceIte, Int.reduceEq, Nat.reduceBEq, Option.some.injEq, Bool.true_eq_false, Bool.false_eq_true, Int.reduceBEq, Int.reduceBNe, Int.reduceLT, Int.reduceLE, Nat.add_assoc, Nat.reduceAdd, Nat.reducePow, Nat.zero_le, Nat.reduceEqDiff, Nat.reduceLT, Nat.reduceLeDiff, Nat.reduceMul, Nat.reduceSub, Nat.add_left_cancel_iff, Nat.lt_irrefl, Nat.le_refl, Nat.add_eq_left, Nat.left_eq_add, beq_self_eq_true, Int.reduceToNat, Nat.mul_one, Nat.zero_mul, Nat.zero_add, Nat.add_zero, Nat.one_mul]
      refine ⟨rfl, ?_⟩
      have hw : IntKind.i64.wrap ((j : Int) + 1) = ((j + 1 : Nat) : Int) := wrap_succ' (n := 1000) (by omega) (by omega)
      have hs := ws j h1j
      revert hs
      cases c1 : Wf j <;> cases c2 : derV (g.ext moreB (starX a)) a (l'.take j) <;> cases c3 : derV (g.ext moreB (starX a)) g.rules.length (l'.drop j)
      all_goals
        intro hs
        rw [c1] at t24
        simp only [Bool.or_true, Bool.or_false, Bool.or_self, Bool.and_self, Bool.and_true, Bool.and_false] at hs
        simp only [go_sem, ↓reduceIte, Int.reduceEq, Nat.reduceBEq, Option.some.injEq, Bool.true_eq_false, Bool.false_eq_true, Int.reduceBEq, Int.reduceBNe, Int.reduceLT, Int.reduceLE, Nat.add_assoc, Nat.reduceAdd, Nat.reducePow, Nat.zero_le, Nat.reduceEqDiff, Nat.reduceLT, Nat.reduceLeDiff, Nat.reduceMul, Nat.reduceSub, Nat.add_left_cancel_iff, Nat.lt_irrefl, Nat.le_refl, Nat.add_eq_left, Nat.left_eq_add, beq_self_eq_true, Int.reduceToNat, Nat.mul_one, Nat.zero_mul, Nat.zero_add, Nat.add_zero, Nat.one_mul, t24, t25, hw]
        exact ih _ _ _ _ (by omega) ⟨j + 1, rfl, by omega, by omega, rfl, rfl, by simp only [go_sem, ↓reduceIte, Int.reduceEq, Nat.reduceBEq, Option.some.injEq, Bool.true_eq_false, Bool.false_eq_true, Int.reduceBEq, Int.reduceBNe, Int.reduceLT, Int.reduceLE, Nat.add_assoc, Nat.reduceAdd, Nat.reducePow, Nat.zero_le, Nat.reduceEqDiff, Nat.reduceLT, Nat.reduceLeDiff, Nat.reduceMul, Nat.reduceSub, Nat.add_left_cancel_iff, Nat.lt_irrefl, Nat.le_refl, Nat.add_eq_left, Nat.left_eq_add, beq_self_eq_true, Int.reduceToNat, Nat.mul_one, Nat.zero_mul, Nat.zero_add, Nat.add_zero, Nat.one_mul, t2], by simp only [go_sem, ↓reduceIte, Int.reduceEq, Nat.reduceBEq, Option.some.injEq, Bool.true_eq_false, Bool.false_eq_true, Int.reduceBEq, Int.reduceBNe, Int.reduceLT, Int.reduceLE, Nat.add_assoc, Nat.reduceAdd, Nat.reducePow, Nat.zero_le, Nat.reduceEqDiff, Nat.reduceLT, Nat.reduceLeDiff, Nat.reduceMul, Nat.reduceSub, Nat.add_left_cancel_iff, Nat.lt_irrefl, Nat.le_refl, Nat.add_eq_left, Nat.left_eq_add, beq_self_eq_true, Int.reduceToNat, Nat.mul_one, Nat.zero_mul, Nat.zero_add, Nat.add_zero, Nat.one_mul, t3], by simp only [go_sem, ↓reduceIte, Int.reduceEq, Nat.reduceBEq, Option.some.injEq, Bool.true_eq_false, Bool.false_eq_true, Int.reduceBEq, Int.reduceBNe, Int.reduceLT, Int.reduceLE, Nat.add_assoc, Nat.reduceAdd, Nat.reducePow, Nat.zero_le, Nat.reduceEqDiff, Nat.reduceLT, Nat.reduceLeDiff, Nat.reduceMul, Nat.reduceSub, Nat.add_left_cancel_iff, Nat.lt_irrefl, Nat.le_refl, Nat.add_eq_left, Nat.left_eq_add, beq_self_eq_true, Int.reduceToNat, Nat.mul_one, Nat.zero_mul, Nat.zero_add, Nat.add_zero, Nat.one_mul, t7], by simp only [go_sem, ↓reduceIte, Int.reduceEq, Nat.reduceBEq, Option.some.injEq, Bool.true_eq_false, Bool.false_eq_true, Int.reduceBEq, Int.reduceBNe, Int.reduceLT, Int.reduceLE, Nat.add_assoc, Nat.reduceAdd, Nat.reducePow, Nat.zero_le, Nat.reduceEqDiff, Nat.reduceLT, Nat.reduceLeDiff, Nat.reduceMul, Nat.reduceSub, Nat.add_left_cancel_iff, Nat.lt_irrefl, Nat.le_refl, Nat.add_eq_left, Nat.left_eq_add, beq_self_eq_true, Int.reduceToNat, Nat.mul_one, Nat.zero_mul, Nat.zero_add, Nat.add_zero, Nat.one_mul, t9], by simp only [go_sem, ↓reduceIte, Int.reduceEq, Nat.reduceBEq, Option.some.injEq, Bool.true_eq_false, Bool.false_eq_true, Int.reduceBEq, Int.reduceBNe, Int.reduceLT, Int.reduceLE, Nat.add_assoc, Nat.reduceAdd, Nat.reducePow, Nat.zero_le, Nat.reduceEqDiff, Nat.reduceLT, Nat.reduceLeDiff, Nat.reduceMul, Nat.reduceSub, Nat.add_left_cancel_iff, Nat.lt_irrefl, Nat.le_refl, Nat.add_eq_left, Nat.left_eq_add, beq_self_eq_true, Int.reduceToNat, Nat.mul_one, Nat.zero_mul, Nat.zero_add, Nat.add_zero, Nat.one_mul, t22], by rw [hs]; simp only [go_sem, ↓reduceIte, Int.reduceEq, Nat.reduceBEq, Option.some.injEq, Bool.true_eq_false, Bool.false_eq_true, Int.reduceBEq, Int.reduceBNe, Int.reduceLT, Int.reduceLE, Nat.add_assoc, Nat.reduceAdd, Nat.reducePow, Nat.zero_le, Nat.reduceEqDiff, Nat.reduceLT, Nat.reduceLeDiff, Nat.reduceMul, Nat.reduceSub, Nat.add_left_cancel_iff, Nat.lt_irrefl, Nat.le_refl, Nat.add_eq_left, Nat.left_eq_add, beq_self_eq_true, Int.reduceToNat, Nat.mul_one, Nat.zero_mul, Nat.zero_add, Nat.add_zero, Nat.one_mul, t24], by simp only [go_sem, ↓reduceIte, Int.reduceEq, Nat.reduceBEq, Option.some.injEq, Bool.true_eq_false, Bool.false_eq_true, Int.reduceBEq, Int.reduceBNe, Int.reduceLT, Int.reduceLE, Nat.add_assoc, Nat.reduceAdd, Nat.reducePow, Nat.zero_le, Nat.reduceEqDiff, Nat.reduceLT, Nat.reduceLeDiff, Nat.reduceMul, Nat.reduceSub, Nat.add_left_cancel_iff, Nat.lt_irrefl, Nat.le_refl, Nat.add_eq_left, Nat.left_eq_add, beq_self_eq_true, Int.reduceToNat, Nat.mul_one, Nat.zero_mul, Nat.zero_add, Nat.add_zero, Nat.one_mul]⟩
    · have hdec : decide ((j : Int) ≤ (l'.length : Int)) = false := by simpa using hlt
      obtain rfl : j = l'.length + 1 := by omega
      rw [wl] at t24
      simp only [go_sem, ↓reduceIte, Int.reduceEq, Nat.reduceBEq, Option.some.injEq, Bool.true_eq_false, Bool.false_eq_true, Int.reduceBEq, Int.reduceBNe, Int.reduceLT, Int.reduceLE, Nat.add_assoc, Nat.reduceAdd, Nat.reducePow, Nat.zero_le, Nat.reduceEqDiff, Nat.reduceLT, Nat.reduceLeDiff, Nat.reduceMul, Nat.reduceSub, Nat.add_left_cancel_iff, Nat.lt_irrefl, Nat.le_refl, Nat.add_eq_left, Nat.left_eq_add, beq_self_eq_true, Int.reduceToNat, Nat.mul_one, Nat.zero_mul, Nat.zero_add, Nat.add_zero, Nat.one_mul, t2, t3, t7, t9, t22, t25, hdec, q0, q3]
      refine ⟨_, _, _, derives_lent hLτ hXs g.rules.length z l' (by omega), ?_⟩
      rw [hR]
      cases R <;> simp only [go_sem, ↓reduceIte, Int.reduceEq, Nat.reduceBEq, Option.some.injEq, Bool.true_eq_false, Bool.false_eq_true, Int.reduceBEq, Int.reduceBNe, Int.reduceLT, Int.reduceLE, Nat.add_assoc, Nat.reduceAdd, Nat.reducePow, Nat.zero_le, Nat.reduceEqDiff, Nat.reduceLT, Nat.reduceLeDiff, Nat.reduceMul, Nat.reduceSub, Nat.add_left_cancel_iff, Nat.lt_irrefl, Nat.le_refl, Nat.add_eq_left, Nat.left_eq_add, beq_self_eq_true, Int.reduceToNat, Nat.mul_one, Nat.zero_mul, Nat.zero_add, Nat.add_zero, Nat.one_mul, law2, t24]
  · simp only [go_sem, ↓reduceIte, Int.reduceEq, Nat.reduceBEq, Option.some.injEq, Bool.true_eq_false, Bool.false_eq_true, Int.reduceBEq, Int.reduceBNe, Int.reduceLT, Int.reduceLE, Nat.add_assoc, Nat.reduceAdd, Nat.reducePow, Nat.zero_le, Nat.reduceEqDiff, Nat.reduceLT, Nat.reduceLeDiff, Nat.reduceMul, Nat.reduceSub, Nat.add_left_cancel_iff, Nat.lt_irrefl, Nat.le_refl, Nat.add_eq_left, Nat.left_eq_add, beq_self_eq_true, Int.reduceToNat, Nat.mul_one, Nat.zero_mul, Nat.zero_add, Nat.add_zero, Nat.one_mul, t2]
  · simp only [go_sem, ↓reduceIte, Int.reduceEq, Nat.reduceBEq, Option.some.injEq, Bool.true_eq_false, Bool.false_eq_true, Int.reduceBEq, Int.reduceBNe, Int.reduceLT, Int.reduceLE, Nat.add_assoc, Nat.reduceAdd, Nat.reducePow, Nat.zero_le, Nat.reduceEqDiff, Nat.reduceLT, Nat.reduceLeDiff, Nat.reduceMul, Nat.reduceSub, Nat.add_left_cancel_iff, Nat.lt_irrefl, Nat.le_refl, Nat.add_eq_left, Nat.left_eq_add, beq_self_eq_true, Int.reduceToNat, Nat.mul_one, Nat.zero_mul, Nat.zero_add, Nat.add_zero, Nat.one_mul, t3]
  · simp only [go_sem, ↓reduceIte, Int.reduceEq, Nat.reduceBEq, Option.some.injEq, Bool.true_eq_false, Bool.false_eq_true, Int.reduceBEq, Int.reduceBNe, Int.reduceLT, Int.reduceLE, Nat.add_assoc, Nat.reduceAdd, Nat.reducePow, Nat.zero_le, Nat.reduceEqDiff, Nat.reduceLT, Nat.reduceLeDiff, Nat.reduceMul, Nat.reduceSub, Nat.add_left_cancel_iff, Nat.lt_irrefl, Nat.le_refl, Nat.add_eq_left, Nat.left_eq_add, beq_self_eq_true, Int.reduceToNat, Nat.mul_one, Nat.zero_mul, Nat.zero_add, Nat.add_zero, Nat.one_mul, t7]
  · simp only [go_sem, ↓reduceIte, Int.reduceEq, Nat.reduceBEq, Option.some.injEq, Bool.true_eq_false, Bool.false_eq_true, Int.reduceBEq, Int.reduceBNe, Int.reduceLT, Int.reduceLE, Nat.add_assoc, Nat.reduceAdd, Nat.reducePow, Nat.zero_le, Nat.reduceEqDiff, Nat.reduceLT, Nat.reduceLeDiff, Nat.reduceMul, Nat.reduceSub, Nat.add_left_cancel_iff, Nat.lt_irrefl, Nat.le_refl, Nat.add_eq_left, Nat.left_eq_add, beq_self_eq_true, Int.reduceToNat, Nat.mul_one, Nat.zero_mul, Nat.zero_add, Nat.add_zero, Nat.one_mul, t9]
  · simp only [go_sem, ↓reduceIte, Int.reduceEq, Nat.reduceBEq, Option.some.injEq, Bool.true_eq_false, Bool.false_eq_true, Int.reduceBEq, Int.reduceBNe, Int.reduceLT, Int.reduceLE, Nat.add_assoc, Nat.reduceAdd, Nat.reducePow, Nat.zero_le, Nat.reduceEqDiff, Nat.reduceLT, Nat.reduceLeDiff, Nat.reduceMul, Nat.reduceSub, Nat.add_left_cancel_iff, Nat.lt_irrefl, Nat.le_refl, Nat.add_eq_left, Nat.left_eq_add, beq_self_eq_true, Int.reduceToNat, Nat.mul_one, Nat.zero_mul, Nat.zero_add, Nat.add_zero, Nat.one_mul]
  · simp only [go_sem, ↓reduceIte, Int.reduceEq, Nat.reduceBEq, Option.some.injEq, Bool.true_eq_false, Bool.false_eq_true, Int.reduceBEq, Int.reduceBNe, Int.reduceLT, Int.reduceLE, Nat.add_assoc, Nat.reduceAdd, Nat.reducePow, Nat.zero_le, Nat.reduceEqDiff, Nat.reduceLT, Nat.reduceLeDiff, Nat.reduceMul, Nat.reduceSub, Nat.add_left_cancel_iff, Nat.lt_irrefl, Nat.le_refl, Nat.add_eq_left, Nat.left_eq_add, beq_self_eq_true, Int.reduceToNat, Nat.mul_one, Nat.zero_mul, Nat.zero_add, Nat.add_zero, Nat.one_mul, w1]
  · simp only [go_sem, ↓reduceIte, Int.reduceEq, Nat.reduceBEq, Option.some.injEq, Bool.true_eq_false, Bool.false_eq_true, Int.reduceBEq, Int.reduceBNe, Int.reduceLT, Int.reduceLE, Nat.add_assoc, Nat.reduceAdd, Nat.reducePow, Nat.zero_le, Nat.reduceEqDiff, Nat.reduceLT, Nat.reduceLeDiff, Nat.reduceMul, Nat.reduceSub, Nat.add_left_cancel_iff, Nat.lt_irrefl, Nat.le_refl, Nat.add_eq_left, Nat.left_eq_add, beq_self_eq_true, Int.reduceToNat, Nat.mul_one, Nat.zero_mul, Nat.zero_add, Nat.add_zero, Nat.one_mul]; rfl

set_option maxHeartbeats 8000000 in
theorem alt_opt {g : Gr} (hg : SmallG g) (hc0 : checkP g = 0) (hL : g.rules.length < 2000000) {a : Nat} (ha' : a < g.rules.length) {z : Bool} {l' : List Int} (hl20 : l'.length ≤ 20) {lo : Nat} {τ : St} {tm : Tm} (hn : lo < τ.n) (g0 : τ.get lo = .cells g.c)
    (t2 : tm.at 2 = .d (.slc z (intsD l'))) (t3 : tm.at 3 = .ptr lo 0) (t7 : tm.at 7 = .d (.int .i64 a)) (t9 : tm.at 9 = .d (.int .i64 g.rules.length)) (t10 : tm.at 10 = .d (.bool (derV g a l'))) :
    Ev (XX mdL) 8 190 none lo [.code (Code.rn 11 (Try.f8.body.getD .skip))] tm τ [] QT := by
  have rest : ∀ {τ : St} {tm : Tm}, lo < τ.n → τ.get lo = .cells g.c → tm.at 2 = .d (.slc z (intsD l')) → tm.at 3 = .ptr lo 0 → tm.at 7 = .d (.int .i64 a) → tm.at 9 = .d (.int .i64 g.rules.length) →
    Ev (XX mdL) 8 190 none lo [.code (Code.rn 13 (Try.f8.body.getD .skip))] tm τ [] QT := fun a1 a2 a3 a4 a5 a6 => alt_star hg hL ha' hl20 a1 a2 a3 a4 a5 a6
  have hbody : Code.rn 11 (Try.f8.body.getD .skip) = .seq (Code.l (Code.rn 11 (Try.f8.body.getD .skip))) (.seq (Code.l (Code.rn 12 (Try.f8.body.getD .skip))) (Code.rn 13 (Try.f8.body.getD .skip))) := rfl
  rw [hbody]
  generalize Code.rn 13 (Try.f8.body.getD .skip) = B at rest
  simp only [Code.rn, Code.r, Code.l, Try.f8, Option.getD_some, QT] at rest ⊢
  simp only [go_sem, ↓reduceIte, Int.reduceEq, Nat.reduceBEq, Option.some.injEq, Bool.true_eq_false, Bool.false_eq_true, Int.reduceBEq, Int.reduceBNe, Int.reduceLT, Int.reduceLE, Nat.add_assoc, Nat.reduceAdd, Nat.reducePow, Nat.zero_le, Nat.reduceEqDiff, Nat.reduceLT, Nat.reduceLeDiff, Nat.reduceMul, Nat.reduceSub, Nat.add_left_cancel_iff, Nat.lt_irrefl, Nat.le_refl, Nat.add_eq_left, Nat.left_eq_add, beq_self_eq_true, Int.reduceToNat, Nat.mul_one, Nat.zero_mul, Nat.zero_add, Nat.add_zero, Nat.one_mul, t3, g0, t7]
  refine ⟨_, _, _, c38 rfl a _, ?_⟩
  simp only [go_sem, ↓reduceIte, Int.reduceEq, Nat.reduceBEq, Option.some.injEq, Bool.true_eq_false, Bool.false_eq_true, Int.reduceBEq, Int.reduceBNe, Int.reduceLT, Int.reduceLE, Nat.add_assoc, Nat.reduceAdd, Nat.reducePow, Nat.zero_le, Nat.reduceEqDiff, Nat.reduceLT, Nat.reduceLeDiff, Nat.reduceMul, Nat.reduceSub, Nat.add_left_cancel_iff, Nat.lt_irrefl, Nat.le_refl, Nat.add_eq_left, Nat.left_eq_add, beq_self_eq_true, Int.reduceToNat, Nat.mul_one, Nat.zero_mul, Nat.zero_add, Nat.add_zero, Nat.one_mul, exC_c]
  have hFz := frz_seq1 (σ := τ.push (.cells [.d (.int .i64 2), .d (.int .i64 a), .d (.slc true [])])) (k := τ.n) (a := a) St.get_push_eq (by simp [St.n_push])
  obtain ⟨c, σ2, hc2, hE2, hF2⟩ := c40 (fz := mdL) rfl rfl (by simp [St.n_push]) hFz
  refine ⟨_, _, _, hc2, ?_⟩
  obtain ⟨xa, σ3, hbc, hE3, hLn⟩ := behind_L (x := optX a) hg hL hF2 (by omega) (small_opt a)
  refine ⟨_, _, _, hbc, ?_⟩
  have n2 := hE2.n
  simp only [St.n_push] at n2
  have n3 := hE3.n
  have g3 : σ3.get lo = .cells g.c := by rw [hE3.g lo (by omega), hE2.g lo (by simp only [St.n_push]; omega), St.get_push_ne hn]; exact g0
  obtain ⟨kx, mx, rfl, hkx⟩ := id hLn.form
  have rc : (A.row kx 0 mx 4).cells = some [A.row kx 0 mx 4] := rfl
  have rcc : (A.row kx 0 mx 4).isCell = true := rfl
  simp only [go_sem, ↓reduceIte, Int.reduceEq, Nat.reduceBEq, Option.some.injEq, Bool.true_eq_false, Bool.false_eq_true, Int.reduceBEq, Int.reduceBNe, Int.reduceLT, Int.reduceLE, Nat.add_assoc, Nat.reduceAdd, Nat.reducePow, Nat.zero_le, Nat.reduceEqDiff, Nat.reduceLT, Nat.reduceLeDiff, Nat.reduceMul, Nat.reduceSub, Nat.add_left_cancel_iff, Nat.lt_irrefl, Nat.le_refl, Nat.add_eq_left, Nat.left_eq_add, beq_self_eq_true, Int.reduceToNat, Nat.mul_one, Nat.zero_mul, Nat.zero_add, Nat.add_zero, Nat.one_mul, rc, rcc]
  refine ⟨drawOk_rel [2, 4, 5, 10] [(2, 0), (2, 9), (4, 0), (4, 9), (5, 9), (10, 8)] rfl (by kernel_rfl) rfl (by simp [meets]), ?_⟩
  have lz3 : low lo [σ3.n] = [] := by rw [low_cons_ge (by omega)]; rfl
  generalize hτ : (σ3.push (Blk.cells [A.d (D.int IntKind.i64 0), A.d (D.slc true [])])).set σ3.n (Blk.cells [A.d (D.int IntKind.i64 (g.ext moreB (optX a)).tokens), A.row kx 0 mx 4]) = τ2
  have hEτ : Ext σ3 τ2 := by rw [← hτ]; exact ((Ext.refl σ3).push).set (Nat.le_refl _)
  have hLτ := hLn.mono hEτ
  have q0 : τ2.get lo = .cells g.c := (hEτ.g _ (by omega)).trans g3
  have q3 : τ2.get σ3.n = .cells [A.d (D.int IntKind.i64 (g.ext moreB (optX a)).tokens), A.row kx 0 mx 4] := by rw [← hτ, St.get_set_eq]
  have qn : lo < τ2.n := by have := hEτ.n; omega
  cases hcx : (checkP (g.ext moreB (optX a)) == 0) with
  | false =>
    simp only [go_sem, ↓reduceIte, Int.reduceEq, Nat.reduceBEq, Option.some.injEq, Bool.true_eq_false, Bool.false_eq_true, Int.reduceBEq, Int.reduceBNe, Int.reduceLT, Int.reduceLE, Nat.add_assoc, Nat.reduceAdd, Nat.reducePow, Nat.zero_le, Nat.reduceEqDiff, Nat.reduceLT, Nat.reduceLeDiff, Nat.reduceMul, Nat.reduceSub, Nat.add_left_cancel_iff, Nat.lt_irrefl, Nat.le_refl, Nat.add_eq_left, Nat.left_eq_add, beq_self_eq_true, Int.reduceToNat, Nat.mul_one, Nat.zero_mul, Nat.zero_add, Nat.add_zero, Nat.one_mul, hcx, lz3]
    exact rest qn q0 (by simp only [go_sem, ↓reduceIte, Int.reduceEq, Nat.reduceBEq, Option.some.injEq, Bool.true_eq_false, Bool.false_eq_true, Int.reduceBEq, Int.reduceBNe, Int.reduceLT, Int.reduceLE, Nat.add_assoc, Nat.reduceAdd, Nat.reducePow, Nat.zero_le, Nat.reduceEqDiff, Nat.reduceLT, Nat.reduceLeDiff, Nat.reduceMul, Nat.reduceSub, Nat.add_left_cancel_iff, Nat.lt_irrefl, Nat.le_refl, Nat.add_eq_left, Nat.left_eq_add, beq_self_eq_true, Int.reduceToNat, Nat.mul_one, Nat.zero_mul, Nat.zero_add, Nat.add_zero, Nat.one_mul, t2]) (by simp only [go_sem, ↓reduceIte, Int.reduceEq, Nat.reduceBEq, Option.some.injEq, Bool.true_eq_false, Bool.false_eq_true, Int.reduceBEq, Int.reduceBNe, Int.reduceLT, Int.reduceLE, Nat.add_assoc, Nat.reduceAdd, Nat.reducePow, Nat.zero_le, Nat.reduceEqDiff, Nat.reduceLT, Nat.reduceLeDiff, Nat.reduceMul, Nat.reduceSub, Nat.add_left_cancel_iff, Nat.lt_irrefl, Nat.le_refl, Nat.add_eq_left, Nat.left_eq_add, beq_self_eq_true, Int.reduceToNat, Nat.mul_one, Nat.zero_mul, Nat.zero_add, Nat.add_zero, Nat.one_mul, t3]) (by simp only [go_sem, ↓reduceIte, Int.reduceEq, Nat.reduceBEq, Option.some.injEq, Bool.true_eq_false, Bool.false_eq_true, Int.reduceBEq, Int.reduceBNe, Int.reduceLT, Int.reduceLE, Nat.add_assoc, Nat.reduceAdd, Nat.reducePow, Nat.zero_le, Nat.reduceEqDiff, Nat.reduceLT, Nat.reduceLeDiff, Nat.reduceMul, Nat.reduceSub, Nat.add_left_cancel_iff, Nat.lt_irrefl, Nat.le_refl, Nat.add_eq_left, Nat.left_eq_add, beq_self_eq_true, Int.reduceToNat, Nat.mul_one, Nat.zero_mul, Nat.zero_add, Nat.add_zero, Nat.one_mul, t7]) (by simp only [go_sem, ↓reduceIte, Int.reduceEq, Nat.reduceBEq, Option.some.injEq, Bool.true_eq_false, Bool.false_eq_true, Int.reduceBEq, Int.reduceBNe, Int.reduceLT, Int.reduceLE, Nat.add_assoc, Nat.reduceAdd, Nat.reducePow, Nat.zero_le, Nat.reduceEqDiff, Nat.reduceLT, Nat.reduceLeDiff, Nat.reduceMul, Nat.reduceSub, Nat.add_left_cancel_iff, Nat.lt_irrefl, Nat.le_refl, Nat.add_eq_left, Nat.left_eq_add, beq_self_eq_true, Int.reduceToNat, Nat.mul_one, Nat.zero_mul, Nat.zero_add, Nat.add_zero, Nat.one_mul, t9])
  | true =>
  have hcx' : checkP (g.ext moreB (optX a)) = 0 := by simpa using hcx
  simp only [go_sem, ↓reduceIte, Int.reduceEq, Nat.reduceBEq, Option.some.injEq, Bool.true_eq_false, Bool.false_eq_true, Int.reduceBEq, Int.reduceBNe, Int.reduceLT, Int.reduceLE, Nat.add_assoc, Nat.reduceAdd, Nat.reducePow, Nat.zero_le, Nat.reduceEqDiff, Nat.reduceLT, Nat.reduceLeDiff, Nat.reduceMul, Nat.reduceSub, Nat.add_left_cancel_iff, Nat.lt_irrefl, Nat.le_refl, Nat.add_eq_left, Nat.left_eq_add, beq_self_eq_true, Int.reduceToNat, Nat.mul_one, Nat.zero_mul, Nat.zero_add, Nat.add_zero, Nat.one_mul, hcx, lz3, t2, t9, q3]
  obtain ⟨law1, law2⟩ := opt_law hc0 hcx' ha' l' hl20
  have hXs : SmallG (g.ext moreB (optX a)) := Gr.ext_small hg (small_opt a)
  refine ⟨_, _, _, derives_lent hLτ hXs g.rules.length z l' (by omega), ?_⟩
  rw [law1, law2]
  revert t10
  cases c1 : derV g a l' <;> cases c2 : ((l'.length : Int) == 0) <;> intro t10
  all_goals
    simp only [go_sem, ↓reduceIte, Int.reduceEq, Nat.reduceBEq, Option.some.injEq, Bool.true_eq_false, Bool.false_eq_true, Int.reduceBEq, Int.reduceBNe, Int.reduceLT, Int.reduceLE, Nat.add_assoc, Nat.reduceAdd, Nat.reducePow, Nat.zero_le, Nat.reduceEqDiff, Nat.reduceLT, Nat.reduceLeDiff, Nat.reduceMul, Nat.reduceSub, Nat.add_left_cancel_iff, Nat.lt_irrefl, Nat.le_refl, Nat.add_eq_left, Nat.left_eq_add, beq_self_eq_true, Int.reduceToNat, Nat.mul_one, Nat.zero_mul, Nat.zero_add, Nat.add_zero, Nat.one_mul, t2, t10, c2, Bool.or_true, Bool.or_false, Bool.or_self]
    exact rest qn q0 (by simp only [go_sem, ↓reduceIte, Int.reduceEq, Nat.reduceBEq, Option.some.injEq, Bool.true_eq_false, Bool.false_eq_true, Int.reduceBEq, Int.reduceBNe, Int.reduceLT, Int.reduceLE, Nat.add_assoc, Nat.reduceAdd, Nat.reducePow, Nat.zero_le, Nat.reduceEqDiff, Nat.reduceLT, Nat.reduceLeDiff, Nat.reduceMul, Nat.reduceSub, Nat.add_left_cancel_iff, Nat.lt_irrefl, Nat.le_refl, Nat.add_eq_left, Nat.left_eq_add, beq_self_eq_true, Int.reduceToNat, Nat.mul_one, Nat.zero_mul, Nat.zero_add, Nat.add_zero, Nat.one_mul, t2]) (by simp only [go_sem, ↓reduceIte, Int.reduceEq, Nat.reduceBEq, Option.some.injEq, Bool.true_eq_false, Bool.false_eq_true, Int.reduceBEq, Int.reduceBNe, Int.reduceLT, Int.reduceLE, Nat.add_assoc, Nat.reduceAdd, Nat.reducePow, Nat.zero_le, Nat.reduceEqDiff, Nat.reduceLT, Nat.reduceLeDiff, Nat.reduceMul, Nat.reduceSub, Nat.add_left_cancel_iff, Nat.lt_irrefl, Nat.le_refl, Nat.add_eq_left, Nat.left_eq_add, beq_self_eq_true, Int.reduceToNat, Nat.mul_one, Nat.zero_mul, Nat.zero_add, Nat.add_zero, Nat.one_mul, t3]) (by simp only [go_sem, ↓reduceIte, Int.reduceEq, Nat.reduceBEq, Option.some.injEq, Bool.true_eq_false, Bool.false_eq_true, Int.reduceBEq, Int.reduceBNe, Int.reduceLT, Int.reduceLE, Nat.add_assoc, Nat.reduceAdd, Nat.reducePow, Nat.zero_le, Nat.reduceEqDiff, Nat.reduceLT, Nat.reduceLeDiff, Nat.reduceMul, Nat.reduceSub, Nat.add_left_cancel_iff, Nat.lt_irrefl, Nat.le_refl, Nat.add_eq_left, Nat.left_eq_add, beq_self_eq_true, Int.reduceToNat, Nat.mul_one, Nat.zero_mul, Nat.zero_add, Nat.add_zero, Nat.one_mul, t7]) (by simp only [go_sem, ↓reduceIte, Int.reduceEq, Nat.reduceBEq, Option.some.injEq, Bool.true_eq_false, Bool.false_eq_true, Int.reduceBEq, Int.reduceBNe, Int.reduceLT, Int.reduceLE, Nat.add_assoc, Nat.reduceAdd, Nat.reducePow, Nat.zero_le, Nat.reduceEqDiff, Nat.reduceLT, Nat.reduceLeDiff, Nat.reduceMul, Nat.reduceSub, Nat.add_left_cancel_iff, Nat.lt_irrefl, Nat.le_refl, Nat.add_eq_left, Nat.left_eq_add, beq_self_eq_true, Int.reduceToNat, Nat.mul_one, Nat.zero_mul, Nat.zero_add, Nat.add_zero, Nat.one_mul, t9])

set_option maxHeartbeats 8000000 in
theorem alt_call (g : Gr) (hg : SmallG g) (hL : g.rules.length < 2000000) (t0 t1 : Int) (z : Bool) (l : List Int) (hl : l.length < 2000000) (σ : St) :
    CallsTo (XX mdL) (.func 8 []) [g.a, pairA t0 t1, .d (.slc z (intsD l))] σ (.d (.bool true)) σ [] := by
  refine CallsTo.cut0 rfl fn8 (by simp) rfl ?_
  have rest : ∀ (hc0 : checkP g = 0) {a : Nat} (ha' : a < g.rules.length) {l' : List Int} (hl20 : l'.length ≤ 20) {τ : St} {tm : Tm} (hn : σ.n < τ.n) (g0 : τ.get σ.n = .cells g.c)
    (t2 : tm.at 2 = .d (.slc z (intsD l'))) (t3 : tm.at 3 = .ptr σ.n 0) (t7 : tm.at 7 = .d (.int .i64 a)) (t9 : tm.at 9 = .d (.int .i64 g.rules.length)) (t10 : tm.at 10 = .d (.bool (derV g a l'))),
    Ev (XX mdL) 8 190 none σ.n [.code (Code.rn 11 (Try.f8.body.getD .skip))] tm τ [] QT := fun a0 _ a1 _ a2 _ _ a3 a4 a5 a6 a7 a8 a9 => alt_opt hg a0 hL a1 a2 a3 a4 a5 a6 a7 a8 a9
  have hbody : Try.f8.body.getD .skip = .seq (Code.l (Try.f8.body.getD .skip)) (.seq (Code.l (Code.rn 1 (Try.f8.body.getD .skip))) (.seq (Code.l (Code.rn 2 (Try.f8.body.getD .skip))) (.seq (Code.l (Code.rn 3 (Try.f8.body.getD .skip))) (.seq (Code.l (Code.rn 4 (Try.f8.body.getD .skip))) (.seq (Code.l (Code.rn 5 (Try.f8.body.getD .skip))) (.seq (Code.l (Code.rn 6 (Try.f8.body.getD .skip))) (.seq (Code.l (Code.rn 7 (Try.f8.body.getD .skip))) (.seq (Code.l (Code.rn 8 (Try.f8.body.getD .skip))) (.seq (Code.l (Code.rn 9 (Try.f8.body.getD .skip))) (.seq (Code.l (Code.rn 10 (Try.f8.body.getD .skip))) (Code.rn 11 (Try.f8.body.getD .skip)))))))))))) := rfl
  rw [hbody]
  generalize Code.rn 11 (Try.f8.body.getD .skip) = B at rest
  simp only [Code.rn, Code.r, Code.l, Try.f8, Option.getD_some, QT] at rest ⊢
  simp only [go_sem, ↓reduceIte, Int.reduceEq, Nat.reduceBEq, Option.some.injEq, Bool.true_eq_false, Bool.false_eq_true, Int.reduceBEq, Int.reduceBNe, Int.reduceLT, Int.reduceLE, Nat.add_assoc, Nat.reduceAdd, Nat.reducePow, Nat.zero_le, Nat.reduceEqDiff, Nat.reduceLT, Nat.reduceLeDiff, Nat.reduceMul, Nat.reduceSub, Nat.add_left_cancel_iff, Nat.lt_irrefl, Nat.le_refl, Nat.add_eq_left, Nat.left_eq_add, beq_self_eq_true, Int.reduceToNat, Nat.mul_one, Nat.zero_mul, Nat.zero_add, Nat.add_zero, Nat.one_mul, Gr.a, pairA]
  refine ⟨_, _, _, works_L _, ?_⟩
  simp only [go_sem, ↓reduceIte, Int.reduceEq, Nat.reduceBEq, Option.some.injEq, Bool.true_eq_false, Bool.false_eq_true, Int.reduceBEq, Int.reduceBNe, Int.reduceLT, Int.reduceLE, Nat.add_assoc, Nat.reduceAdd, Nat.reducePow, Nat.zero_le, Nat.reduceEqDiff, Nat.reduceLT, Nat.reduceLeDiff, Nat.reduceMul, Nat.reduceSub, Nat.add_left_cancel_iff, Nat.lt_irrefl, Nat.le_refl, Nat.add_eq_left, Nat.left_eq_add, beq_self_eq_true, Int.reduceToNat, Nat.mul_one, Nat.zero_mul, Nat.zero_add, Nat.add_zero, Nat.one_mul]
  refine ⟨_, _, _, deep_L g _ hg (by omega), ?_⟩
  cases hd : deepG g with
  | true => simp only [go_sem, ↓reduceIte, Int.reduceEq, Nat.reduceBEq, Option.some.injEq, Bool.true_eq_false, Bool.false_eq_true, Int.reduceBEq, Int.reduceBNe, Int.reduceLT, Int.reduceLE, Nat.add_assoc, Nat.reduceAdd, Nat.reducePow, Nat.zero_le, Nat.reduceEqDiff, Nat.reduceLT, Nat.reduceLeDiff, Nat.reduceMul, Nat.reduceSub, Nat.add_left_cancel_iff, Nat.lt_irrefl, Nat.le_refl, Nat.add_eq_left, Nat.left_eq_add, beq_self_eq_true, Int.reduceToNat, Nat.mul_one, Nat.zero_mul, Nat.zero_add, Nat.add_zero, Nat.one_mul]
  | false =>
  simp only [go_sem, ↓reduceIte, Int.reduceEq, Nat.reduceBEq, Option.some.injEq, Bool.true_eq_false, Bool.false_eq_true, Int.reduceBEq, Int.reduceBNe, Int.reduceLT, Int.reduceLE, Nat.add_assoc, Nat.reduceAdd, Nat.reducePow, Nat.zero_le, Nat.reduceEqDiff, Nat.reduceLT, Nat.reduceLeDiff, Nat.reduceMul, Nat.reduceSub, Nat.add_left_cancel_iff, Nat.lt_irrefl, Nat.le_refl, Nat.add_eq_left, Nat.left_eq_add, beq_self_eq_true, Int.reduceToNat, Nat.mul_one, Nat.zero_mul, Nat.zero_add, Nat.add_zero, Nat.one_mul]
  refine ⟨_, _, _, check_L hg _, ?_⟩
  cases hc : (checkP g != 0) with
  | true => simp only [go_sem, ↓reduceIte, Int.reduceEq, Nat.reduceBEq, Option.some.injEq, Bool.true_eq_false, Bool.false_eq_true, Int.reduceBEq, Int.reduceBNe, Int.reduceLT, Int.reduceLE, Nat.add_assoc, Nat.reduceAdd, Nat.reducePow, Nat.zero_le, Nat.reduceEqDiff, Nat.reduceLT, Nat.reduceLeDiff, Nat.reduceMul, Nat.reduceSub, Nat.add_left_cancel_iff, Nat.lt_irrefl, Nat.le_refl, Nat.add_eq_left, Nat.left_eq_add, beq_self_eq_true, Int.reduceToNat, Nat.mul_one, Nat.zero_mul, Nat.zero_add, Nat.add_zero, Nat.one_mul, hc]
  | false =>
  have hc' : checkP g = 0 := by simpa using hc
  have hk := chk_iff.1 hc'
  have hpos := hk.pos
  have hle := hk.le
  simp only [go_sem, ↓reduceIte, Int.reduceEq, Nat.reduceBEq, Option.some.injEq, Bool.true_eq_false, Bool.false_eq_true, Int.reduceBEq, Int.reduceBNe, Int.reduceLT, Int.reduceLE, Nat.add_assoc, Nat.reduceAdd, Nat.reducePow, Nat.zero_le, Nat.reduceEqDiff, Nat.reduceLT, Nat.reduceLeDiff, Nat.reduceMul, Nat.reduceSub, Nat.add_left_cancel_iff, Nat.lt_irrefl, Nat.le_refl, Nat.add_eq_left, Nat.left_eq_add, beq_self_eq_true, Int.reduceToNat, Nat.mul_one, Nat.zero_mul, Nat.zero_add, Nat.add_zero, Nat.one_mul, hc]
  refine ⟨_, _, _, bring_call rfl t0 _ _, ?_⟩
  obtain ⟨b1, b2⟩ := bring_lt (i := t0) (n := (g.rules.length : Int)) (by omega) (by omega)
  obtain ⟨a, ha⟩ := Int.eq_ofNat_of_zero_le b1
  have ha' : a < g.rules.length := by omega
  simp only [go_sem, ↓reduceIte, Int.reduceEq, Nat.reduceBEq, Option.some.injEq, Bool.true_eq_false, Bool.false_eq_true, Int.reduceBEq, Int.reduceBNe, Int.reduceLT, Int.reduceLE, Nat.add_assoc, Nat.reduceAdd, Nat.reducePow, Nat.zero_le, Nat.reduceEqDiff, Nat.reduceLT, Nat.reduceLeDiff, Nat.reduceMul, Nat.reduceSub, Nat.add_left_cancel_iff, Nat.lt_irrefl, Nat.le_refl, Nat.add_eq_left, Nat.left_eq_add, beq_self_eq_true, Int.reduceToNat, Nat.mul_one, Nat.zero_mul, Nat.zero_add, Nat.add_zero, Nat.one_mul, ha]
  refine ⟨_, _, _, bring_call rfl t1 _ _, ?_⟩
  obtain ⟨b3, b4⟩ := bring_lt (i := t1) (n := (g.rules.length : Int)) (by omega) (by omega)
  obtain ⟨b, hb⟩ := Int.eq_ofNat_of_zero_le b3
  have hb' : b < g.rules.length := by omega
  have hmin : minmax false [.d (.int .i64 (l.length : Int)), .d (.int .i64 20)] = some (.d (.int .i64 ((min l.length 20 : Nat) : Int))) := minA (b := 20)
  have hmn : min l.length 20 ≤ l.length := Nat.min_le_left _ _
  simp only [go_sem, ↓reduceIte, Int.reduceEq, Nat.reduceBEq, Option.some.injEq, Bool.true_eq_false, Bool.false_eq_true, Int.reduceBEq, Int.reduceBNe, Int.reduceLT, Int.reduceLE, Nat.add_assoc, Nat.reduceAdd, Nat.reducePow, Nat.zero_le, Nat.reduceEqDiff, Nat.reduceLT, Nat.reduceLeDiff, Nat.reduceMul, Nat.reduceSub, Nat.add_left_cancel_iff, Nat.lt_irrefl, Nat.le_refl, Nat.add_eq_left, Nat.left_eq_add, beq_self_eq_true, Int.reduceToNat, Nat.mul_one, Nat.zero_mul, Nat.zero_add, Nat.add_zero, Nat.one_mul, hb]
  refine ⟨rfl, ?_⟩
  simp only [go_sem, ↓reduceIte, Int.reduceEq, Nat.reduceBEq, Option.some.injEq, Bool.true_eq_false, Bool.false_eq_true, Int.reduceBEq, Int.reduceBNe, Int.reduceLT, Int.reduceLE, Nat.add_assoc, Nat.reduceAdd, Nat.reducePow, Nat.zero_le, Nat.reduceEqDiff, Nat.reduceLT, Nat.reduceLeDiff, Nat.reduceMul, Nat.reduceSub, Nat.add_left_cancel_iff, Nat.lt_irrefl, Nat.le_refl, Nat.add_eq_left, Nat.left_eq_add, beq_self_eq_true, Int.reduceToNat, Nat.mul_one, Nat.zero_mul, Nat.zero_add, Nat.add_zero, Nat.one_mul, hmin, hmn]
  have hl20 : (l.take (min l.length 20)).length ≤ 20 := by rw [List.length_take]; omega
  generalize hl' : l.take (min l.length 20) = l' at hl20
  have ea : derE g a l' = 0 := by
    obtain ⟨y, h1, -⟩ := ext_at (g := g) (nm := moreB) (x := altX a b) ha'
    exact (derV_at hc' h1 (by omega)).2
  refine ⟨_, _, _, derives_L hg a z l' (by omega) _, ?_⟩
  simp only [go_sem, ↓reduceIte, Int.reduceEq, Nat.reduceBEq, Option.some.injEq, Bool.true_eq_false, Bool.false_eq_true, Int.reduceBEq, Int.reduceBNe, Int.reduceLT, Int.reduceLE, Nat.add_assoc, Nat.reduceAdd, Nat.reducePow, Nat.zero_le, Nat.reduceEqDiff, Nat.reduceLT, Nat.reduceLeDiff, Nat.reduceMul, Nat.reduceSub, Nat.add_left_cancel_iff, Nat.lt_irrefl, Nat.le_refl, Nat.add_eq_left, Nat.left_eq_add, beq_self_eq_true, Int.reduceToNat, Nat.mul_one, Nat.zero_mul, Nat.zero_add, Nat.add_zero, Nat.one_mul]
  refine ⟨_, _, _, derives_L hg b z l' (by omega) _, ?_⟩
  simp only [go_sem, ↓reduceIte, Int.reduceEq, Nat.reduceBEq, Option.some.injEq, Bool.true_eq_false, Bool.false_eq_true, Int.reduceBEq, Int.reduceBNe, Int.reduceLT, Int.reduceLE, Nat.add_assoc, Nat.reduceAdd, Nat.reducePow, Nat.zero_le, Nat.reduceEqDiff, Nat.reduceLT, Nat.reduceLeDiff, Nat.reduceMul, Nat.reduceSub, Nat.add_left_cancel_iff, Nat.lt_irrefl, Nat.le_refl, Nat.add_eq_left, Nat.left_eq_add, beq_self_eq_true, Int.reduceToNat, Nat.mul_one, Nat.zero_mul, Nat.zero_add, Nat.add_zero, Nat.one_mul]
  refine ⟨_, _, _, c38 rfl a _, ?_⟩
  refine ⟨_, _, _, c38 rfl b _, ?_⟩
  simp only [go_sem, ↓reduceIte, Int.reduceEq, Nat.reduceBEq, Option.some.injEq, Bool.true_eq_false, Bool.false_eq_true, Int.reduceBEq, Int.reduceBNe, Int.reduceLT, Int.reduceLE, Nat.add_assoc, Nat.reduceAdd, Nat.reducePow, Nat.zero_le, Nat.reduceEqDiff, Nat.reduceLT, Nat.reduceLeDiff, Nat.reduceMul, Nat.reduceSub, Nat.add_left_cancel_iff, Nat.lt_irrefl, Nat.le_refl, Nat.add_eq_left, Nat.left_eq_add, beq_self_eq_true, Int.reduceToNat, Nat.mul_one, Nat.zero_mul, Nat.zero_add, Nat.add_zero, Nat.one_mul, exC_c]
  generalize hσ2 : ((σ.push (Blk.cells g.c)).push (Blk.cells [A.d (D.int IntKind.i64 t0), A.d (D.int IntKind.i64 t1)])).push (Blk.cells [A.d (D.int IntKind.i64 2), A.d (D.int IntKind.i64 (a : Int)), A.d (D.slc true []), A.d (D.int IntKind.i64 2), A.d (D.int IntKind.i64 (b : Int)), A.d (D.slc true [])]) = σ2
  have n2 : σ2.n = σ.n + 3 := by rw [← hσ2]; rfl
  have g2 : σ2.get (σ.n + 2) = .cells [A.d (D.int IntKind.i64 2), A.d (D.int IntKind.i64 (a : Int)), A.d (D.slc true []), A.d (D.int IntKind.i64 2), A.d (D.int IntKind.i64 (b : Int)), A.d (D.slc true [])] := by rw [← hσ2]; exact St.get_push_eq' (by simp [St.n_push])
  have g0 : σ2.get σ.n = .cells g.c := by rw [← hσ2]; simp [St.get_push, St.n_push]; intro h; omega
  have hFz : Frz 10 σ2 [.d (.int .i64 4), .d (.int .i64 0), .row (σ.n + 2) 0 2 3] (altX a b) := Frz.row (N := 0) (css := [(exC a).c, (exC b).c]) (xs := [exC a, exC b]) g2 (by omega) rfl fun i c x hc hx => by
    match i, hc, hx with
    | 0, hc, hx => cases hc; cases hx; exact Frz.data _ _
    | 1, hc, hx => cases hc; cases hx; exact Frz.data _ _
    | i + 2, hc, _ => simp at hc
  refine ⟨_, _, _, c39 rfl (by omega), ?_⟩
  obtain ⟨xa, σ3, hbc, hE3, hLn⟩ := behind_L (x := altX a b) hg hL hFz (by omega) (small_alt a b)
  refine ⟨_, _, _, hbc, ?_⟩
  have n3 := hE3.n
  have g3 : σ3.get σ.n = .cells g.c := (hE3.g σ.n (by omega)).trans g0
  obtain ⟨kx, mx, rfl, hkx⟩ := id hLn.form
  have rc : (A.row kx 0 mx 4).cells = some [A.row kx 0 mx 4] := rfl
  have rcc : (A.row kx 0 mx 4).isCell = true := rfl
  simp only [go_sem, ↓reduceIte, Int.reduceEq, Nat.reduceBEq, Option.some.injEq, Bool.true_eq_false, Bool.false_eq_true, Int.reduceBEq, Int.reduceBNe, Int.reduceLT, Int.reduceLE, Nat.add_assoc, Nat.reduceAdd, Nat.reducePow, Nat.zero_le, Nat.reduceEqDiff, Nat.reduceLT, Nat.reduceLeDiff, Nat.reduceMul, Nat.reduceSub, Nat.add_left_cancel_iff, Nat.lt_irrefl, Nat.le_refl, Nat.add_eq_left, Nat.left_eq_add, beq_self_eq_true, Int.reduceToNat, Nat.mul_one, Nat.zero_mul, Nat.zero_add, Nat.add_zero, Nat.one_mul, rc, rcc]
  refine ⟨drawOk_rel [2, 4, 6, 7, 12] [(2, 0), (2, 3), (2, 11), (4, 0), (4, 11), (6, 0), (6, 11), (7, 11), (12, 10)] rfl (by kernel_rfl) rfl (by simp [meets]), ?_⟩
  have lz3 : low σ.n [σ3.n] = [] := by rw [low_cons_ge (by omega)]; rfl
  generalize hτ : (σ3.push (Blk.cells [A.d (D.int IntKind.i64 0), A.d (D.slc true [])])).set σ3.n (Blk.cells [A.d (D.int IntKind.i64 (g.ext moreB (altX a b)).tokens), A.row kx 0 mx 4]) = τ2
  have hEτ : Ext σ3 τ2 := by rw [← hτ]; exact ((Ext.refl σ3).push).set (Nat.le_refl _)
  have hLτ := hLn.mono hEτ
  have q0 : τ2.get σ.n = .cells g.c := (hEτ.g _ (by omega)).trans g3
  have q3 : τ2.get σ3.n = .cells [A.d (D.int IntKind.i64 (g.ext moreB (altX a b)).tokens), A.row kx 0 mx 4] := by rw [← hτ, St.get_set_eq]
  have qn : σ.n < τ2.n := by have := hEτ.n; omega
  cases hcx : (checkP (g.ext moreB (altX a b)) == 0) with
  | false =>
    simp only [go_sem, ↓reduceIte, Int.reduceEq, Nat.reduceBEq, Option.some.injEq, Bool.true_eq_false, Bool.false_eq_true, Int.reduceBEq, Int.reduceBNe, Int.reduceLT, Int.reduceLE, Nat.add_assoc, Nat.reduceAdd, Nat.reducePow, Nat.zero_le, Nat.reduceEqDiff, Nat.reduceLT, Nat.reduceLeDiff, Nat.reduceMul, Nat.reduceSub, Nat.add_left_cancel_iff, Nat.lt_irrefl, Nat.le_refl, Nat.add_eq_left, Nat.left_eq_add, beq_self_eq_true, Int.reduceToNat, Nat.mul_one, Nat.zero_mul, Nat.zero_add, Nat.add_zero, Nat.one_mul, hcx, lz3]
    exact rest hc' ha' hl20 qn q0 (by simp only [go_sem, ↓reduceIte, Int.reduceEq, Nat.reduceBEq, Option.some.injEq, Bool.true_eq_false, Bool.false_eq_true, Int.reduceBEq, Int.reduceBNe, Int.reduceLT, Int.reduceLE, Nat.add_assoc, Nat.reduceAdd, Nat.reducePow, Nat.zero_le, Nat.reduceEqDiff, Nat.reduceLT, Nat.reduceLeDiff, Nat.reduceMul, Nat.reduceSub, Nat.add_left_cancel_iff, Nat.lt_irrefl, Nat.le_refl, Nat.add_eq_left, Nat.left_eq_add, beq_self_eq_true, Int.reduceToNat, Nat.mul_one, Nat.zero_mul, Nat.zero_add, Nat.add_zero, Nat.one_mul]) (by simp only [go_sem, ↓reduceIte, Int.reduceEq, Nat.reduceBEq, Option.some.injEq, Bool.true_eq_false, Bool.false_eq_true, Int.reduceBEq, Int.reduceBNe, Int.reduceLT, Int.reduceLE, Nat.add_assoc, Nat.reduceAdd, Nat.reducePow, Nat.zero_le, Nat.reduceEqDiff, Nat.reduceLT, Nat.reduceLeDiff, Nat.reduceMul, Nat.reduceSub, Nat.add_left_cancel_iff, Nat.lt_irrefl, Nat.le_refl, Nat.add_eq_left, Nat.left_eq_add, beq_self_eq_true, Int.reduceToNat, Nat.mul_one, Nat.zero_mul, Nat.zero_add, Nat.add_zero, Nat.one_mul]) (by simp only [go_sem, ↓reduceIte, Int.reduceEq, Nat.reduceBEq, Option.some.injEq, Bool.true_eq_false, Bool.false_eq_true, Int.reduceBEq, Int.reduceBNe, Int.reduceLT, Int.reduceLE, Nat.add_assoc, Nat.reduceAdd, Nat.reducePow, Nat.zero_le, Nat.reduceEqDiff, Nat.reduceLT, Nat.reduceLeDiff, Nat.reduceMul, Nat.reduceSub, Nat.add_left_cancel_iff, Nat.lt_irrefl, Nat.le_refl, Nat.add_eq_left, Nat.left_eq_add, beq_self_eq_true, Int.reduceToNat, Nat.mul_one, Nat.zero_mul, Nat.zero_add, Nat.add_zero, Nat.one_mul]) (by simp only [go_sem, ↓reduceIte, Int.reduceEq, Nat.reduceBEq, Option.some.injEq, Bool.true_eq_false, Bool.false_eq_true, Int.reduceBEq, Int.reduceBNe, Int.reduceLT, Int.reduceLE, Nat.add_assoc, Nat.reduceAdd, Nat.reducePow, Nat.zero_le, Nat.reduceEqDiff, Nat.reduceLT, Nat.reduceLeDiff, Nat.reduceMul, Nat.reduceSub, Nat.add_left_cancel_iff, Nat.lt_irrefl, Nat.le_refl, Nat.add_eq_left, Nat.left_eq_add, beq_self_eq_true, Int.reduceToNat, Nat.mul_one, Nat.zero_mul, Nat.zero_add, Nat.add_zero, Nat.one_mul]) (by simp only [go_sem, ↓reduceIte, Int.reduceEq, Nat.reduceBEq, Option.some.injEq, Bool.true_eq_false, Bool.false_eq_true, Int.reduceBEq, Int.reduceBNe, Int.reduceLT, Int.reduceLE, Nat.add_assoc, Nat.reduceAdd, Nat.reducePow, Nat.zero_le, Nat.reduceEqDiff, Nat.reduceLT, Nat.reduceLeDiff, Nat.reduceMul, Nat.reduceSub, Nat.add_left_cancel_iff, Nat.lt_irrefl, Nat.le_refl, Nat.add_eq_left, Nat.left_eq_add, beq_self_eq_true, Int.reduceToNat, Nat.mul_one, Nat.zero_mul, Nat.zero_add, Nat.add_zero, Nat.one_mul])
  | true =>
  have hcx' : checkP (g.ext moreB (altX a b)) = 0 := by simpa using hcx
  simp only [go_sem, ↓reduceIte, Int.reduceEq, Nat.reduceBEq, Option.some.injEq, Bool.true_eq_false, Bool.false_eq_true, Int.reduceBEq, Int.reduceBNe, Int.reduceLT, Int.reduceLE, Nat.add_assoc, Nat.reduceAdd, Nat.reducePow, Nat.zero_le, Nat.reduceEqDiff, Nat.reduceLT, Nat.reduceLeDiff, Nat.reduceMul, Nat.reduceSub, Nat.add_left_cancel_iff, Nat.lt_irrefl, Nat.le_refl, Nat.add_eq_left, Nat.left_eq_add, beq_self_eq_true, Int.reduceToNat, Nat.mul_one, Nat.zero_mul, Nat.zero_add, Nat.add_zero, Nat.one_mul, hcx, lz3, q3]
  obtain ⟨law1, law2⟩ := alt_law hc' hcx' ha' hb' l' hl20
  have hXs : SmallG (g.ext moreB (altX a b)) := Gr.ext_small hg (small_alt a b)
  refine ⟨_, _, _, derives_lent hLτ hXs g.rules.length z l' (by omega), ?_⟩
  rw [law1, law2]
  have rest' := fun {tm} (h2 : Tm.at tm 2 = _) h3 h7 h9 h10 => rest hc' ha' hl20 (tm := tm) qn q0 h2 h3 h7 h9 h10
  cases c1 : derV g a l' <;> cases c2 : derV g b l'
  all_goals
    rw [c1] at rest'
    simp only [go_sem, ↓reduceIte, Int.reduceEq, Nat.reduceBEq, Option.some.injEq, Bool.true_eq_false, Bool.false_eq_true, Int.reduceBEq, Int.reduceBNe, Int.reduceLT, Int.reduceLE, Nat.add_assoc, Nat.reduceAdd, Nat.reducePow, Nat.zero_le, Nat.reduceEqDiff, Nat.reduceLT, Nat.reduceLeDiff, Nat.reduceMul, Nat.reduceSub, Nat.add_left_cancel_iff, Nat.lt_irrefl, Nat.le_refl, Nat.add_eq_left, Nat.left_eq_add, beq_self_eq_true, Int.reduceToNat, Nat.mul_one, Nat.zero_mul, Nat.zero_add, Nat.add_zero, Nat.one_mul, Bool.or_true, Bool.or_false, Bool.or_self]
    exact rest' (by simp only [go_sem, ↓reduceIte, Int.reduceEq, Nat.reduceBEq, Option.some.injEq, Bool.true_eq_false, Bool.false_eq_true, Int.reduceBEq, Int.reduceBNe, Int.reduceLT, Int.reduceLE, Nat.add_assoc, Nat.reduceAdd, Nat.reducePow, Nat.zero_le, Nat.reduceEqDiff, Nat.reduceLT, Nat.reduceLeDiff, Nat.reduceMul, Nat.reduceSub, Nat.add_left_cancel_iff, Nat.lt_irrefl, Nat.le_refl, Nat.add_eq_left, Nat.left_eq_add, beq_self_eq_true, Int.reduceToNat, Nat.mul_one, Nat.zero_mul, Nat.zero_add, Nat.add_zero, Nat.one_mul]) (by simp only [go_sem, ↓reduceIte, Int.reduceEq, Nat.reduceBEq, Option.some.injEq, Bool.true_eq_false, Bool.false_eq_true, Int.reduceBEq, Int.reduceBNe, Int.reduceLT, Int.reduceLE, Nat.add_assoc, Nat.reduceAdd, Nat.reducePow, Nat.zero_le, Nat.reduceEqDiff, Nat.reduceLT, Nat.reduceLeDiff, Nat.reduceMul, Nat.reduceSub, Nat.add_left_cancel_iff, Nat.lt_irrefl, Nat.le_refl, Nat.add_eq_left, Nat.left_eq_add, beq_self_eq_true, Int.reduceToNat, Nat.mul_one, Nat.zero_mul, Nat.zero_add, Nat.add_zero, Nat.one_mul]) (by simp only [go_sem, ↓reduceIte, Int.reduceEq, Nat.reduceBEq, Option.some.injEq, Bool.true_eq_false, Bool.false_eq_true, Int.reduceBEq, Int.reduceBNe, Int.reduceLT, Int.reduceLE, Nat.add_assoc, Nat.reduceAdd, Nat.reducePow, Nat.zero_le, Nat.reduceEqDiff, Nat.reduceLT, Nat.reduceLeDiff, Nat.reduceMul, Nat.reduceSub, Nat.add_left_cancel_iff, Nat.lt_irrefl, Nat.le_refl, Nat.add_eq_left, Nat.left_eq_add, beq_self_eq_true, Int.reduceToNat, Nat.mul_one, Nat.zero_mul, Nat.zero_add, Nat.add_zero, Nat.one_mul]) (by simp only [go_sem, ↓reduceIte, Int.reduceEq, Nat.reduceBEq, Option.some.injEq, Bool.true_eq_false, Bool.false_eq_true, Int.reduceBEq, Int.reduceBNe, Int.reduceLT, Int.reduceLE, Nat.add_assoc, Nat.reduceAdd, Nat.reducePow, Nat.zero_le, Nat.reduceEqDiff, Nat.reduceLT, Nat.reduceLeDiff, Nat.reduceMul, Nat.reduceSub, Nat.add_left_cancel_iff, Nat.lt_irrefl, Nat.le_refl, Nat.add_eq_left, Nat.left_eq_add, beq_self_eq_true, Int.reduceToNat, Nat.mul_one, Nat.zero_mul, Nat.zero_add, Nat.add_zero, Nat.one_mul]) (by simp only [go_sem, ↓reduceIte, Int.reduceEq, Nat.reduceBEq, Option.some.injEq, Bool.true_eq_false, Bool.false_eq_true, Int.reduceBEq, Int.reduceBNe, Int.reduceLT, Int.reduceLE, Nat.add_assoc, Nat.reduceAdd, Nat.reducePow, Nat.zero_le, Nat.reduceEqDiff, Nat.reduceLT, Nat.reduceLeDiff, Nat.reduceMul, Nat.reduceSub, Nat.add_left_cancel_iff, Nat.lt_irrefl, Nat.le_refl, Nat.add_eq_left, Nat.left_eq_add, beq_self_eq_true, Int.reduceToNat, Nat.mul_one, Nat.zero_mul, Nat.zero_add, Nat.add_zero, Nat.one_mul])
end Go.Am

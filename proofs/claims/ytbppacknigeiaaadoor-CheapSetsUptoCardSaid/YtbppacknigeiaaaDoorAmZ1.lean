/- Part Z1 of a proof that runs a program's calls on a small machine whose values bear no addresses: no conditions. -/
import Derived.Test.YtbppacknigeiaaaDoorAmY6
import Derived.Test.YtbppacknigeiaaaDoorAmH0
import Derived.Test.YtbppacknigeiaaaDoorAmU1
import Derived.Test.YtbppacknigeiaaaDoorAmH3
set_option autoImplicit false
set_option linter.unusedSimpArgs false
set_option linter.unusedVariables false
set_option linter.unusedSectionVars false
namespace Go.Am
open Go Go.Proofs
mutual
theorem partsE_is : ∀ (x : Ex) (d : Nat), d ≤ 32 → 1 ≤ partsE x d ∧ partsE x d ≤ 1000 * ((d : Int) + 1) ∧ (dOkE x d = true → x.sz < 1000 → partsE x d = x.sz) ∧ (dOkE x d = false ∨ 1000 ≤ x.sz → 1000 ≤ partsE x d)
  | .mk k n z l, 0, _ => by
    rw [show ((0 : Nat) : Int) = 0 from rfl, partsE, if_pos rfl, dOkE]
    exact ⟨by omega, by omega, (fun h => by cases h), (fun _ => by omega)⟩
  | .mk k n z l, d + 1, h => by
    rw [partsE, if_neg (by omega), wrapS (by omega) (by omega), show (((d + 1 : Nat) : Int) - 1) = (d : Int) by omega, dOkE, sz_mk]
    obtain ⟨h1, h2, h3, h4⟩ := partsL_is l d 1 (by omega) (by omega) (by omega)
    rw [show ((1 : Nat) : Int) = 1 from rfl] at h1 h2 h3 h4
    refine ⟨h1, by omega, fun a b => ?_, fun a => h4 ?_⟩
    · rw [h3 a (by omega)]
    · exact a
theorem partsL_is : ∀ (l : List Ex) (d many : Nat), d ≤ 31 → 1 ≤ many → many ≤ 999 + 1000 * (d + 1) → 1 ≤ partsL l d many ∧ partsL l d many ≤ 999 + 1000 * ((d : Int) + 1) ∧ (dOkL l d = true → many + szL l < 1000 → partsL l d many = ((many + szL l : Nat) : Int)) ∧ (dOkL l d = false ∨ 1000 ≤ many + szL l → 1000 ≤ partsL l d many)
  | [], d, many, h1, h2, h3 => by
    rw [partsL, dOkL]
    refine ⟨by omega, by omega, fun _ _ => by simp [szL], fun h => ?_⟩
    rcases h with h | h
    · cases h
    · simp [szL] at h; omega
  | x :: l, d, many, h1, h2, h3 => by
    rw [partsL, dOkL, szL_cons]
    obtain ⟨p1, p2, p3, p4⟩ := partsE_is x d (by omega)
    by_cases hm : many < 1000
    · rw [if_pos (by omega), wrapS (by omega) (by omega)]
      obtain ⟨v, hv⟩ : ∃ v : Nat, (many : Int) + partsE x d = (v : Int) := ⟨_, (Int.toNat_of_nonneg (by omega)).symm⟩
      obtain ⟨q1, q2, q3, q4⟩ := partsL_is l d v h1 (by omega) (by omega)
      rw [hv]
      refine ⟨q1, q2, fun a b => ?_, fun a => q4 ?_⟩
      · rw [Bool.and_eq_true] at a
        have := p3 a.1 (by omega)
        rw [q3 a.2 (by omega)]
        congr 1; omega
      · by_cases hx : dOkE x d = true ∧ x.sz < 1000
        · have := p3 hx.1 hx.2
          rcases a with a | a
          · rw [hx.1, Bool.true_and] at a; exact .inl a
          · exact .inr (by omega)
        · right
          have : 1000 ≤ partsE x d := p4 (by
            cases hd : dOkE x d with
            | false => exact .inl rfl
            | true => exact .inr (Nat.le_of_not_lt fun h => hx ⟨hd, h⟩))
          omega
    · rw [if_neg (by omega)]
      exact ⟨by omega, by omega, fun _ b => by omega, fun _ => by omega⟩
end
theorem limL_is : ∀ (l : List Ex) (many : Nat), many ≤ 40000 → (limL l many > 512 ↔ ¬ (dOkL l 32 = true ∧ many + szL l ≤ 512))
  | [], many, _ => by rw [limL, dOkL]; simp [szL]; omega
  | x :: l, many, h => by
    rw [limL, dOkL, szL_cons]
    obtain ⟨p1, p2, p3, p4⟩ := partsE_is x 32 (by omega)
    have e32 : ((32 : Nat) : Int) = 32 := rfl
    rw [e32] at p1 p2 p3 p4
    by_cases hm : many ≤ 512
    · rw [if_pos (by omega), wrapS (by omega) (by omega)]
      obtain ⟨v, hv⟩ : ∃ v : Nat, (many : Int) + partsE x 32 = (v : Int) := ⟨_, (Int.toNat_of_nonneg (by omega)).symm⟩
      rw [hv]
      rw [limL_is l v (by omega)]
      by_cases hx : dOkE x 32 = true ∧ x.sz < 1000
      · have := p3 hx.1 hx.2
        rw [hx.1, Bool.true_and]
        constructor
        · rintro h ⟨a, b⟩; exact h ⟨a, by omega⟩
        · rintro h ⟨a, b⟩; exact h ⟨a, by omega⟩
      · have : 1000 ≤ partsE x 32 := p4 (by
          cases hd : dOkE x 32 with
          | false => exact .inl rfl
          | true => exact .inr (Nat.le_of_not_lt fun h => hx ⟨hd, h⟩))
        refine ⟨fun _ ⟨a, b⟩ => hx ⟨by rw [Bool.and_eq_true] at a; exact a.1, by omega⟩, fun _ ⟨a, b⟩ => by omega⟩
    · rw [if_neg (by omega)]
      exact ⟨fun _ ⟨a, b⟩ => by omega, fun _ => by omega⟩
theorem lim_is (g : Gr) : limP g = ((decide ((g.rules.length : Int) > 32) || decide (g.tokens > 64)) || decide (sizesL g.bodies 512 < 0)) := by
  unfold limP
  split
  · rename_i h; rw [h, Bool.true_or]
  · rename_i h
    have h' : (decide ((g.rules.length : Int) > 32) || decide (g.tokens > 64)) = false := by simpa using h
    rw [h', Bool.false_or]
    have a := limL_is g.bodies 0 (by omega)
    have b := sizesL_is g.bodies 512 (by omega)
    have e0 : ((0 : Nat) : Int) = 0 := rfl
    have e1 : ((512 : Nat) : Int) = 512 := rfl
    rw [e0, Nat.zero_add] at a
    rw [e1] at b
    rw [decide_eq_decide, a, b]
theorem rigL_eq (t : Int) (r : Nat) (l : List Ex) : rigL t r l = l.all (rigE t r) := by
  induction l with
  | nil => rw [rigL]; rfl
  | cons x l ih => rw [rigL, ih, List.all_cons]
theorem rightL_eq (t : Int) (r : Nat) (l : List Ex) : rightL t r l = l.all (rightE t r) := by
  induction l with
  | nil => rw [rightL]; rfl
  | cons x l ih => rw [rightL, ih, List.all_cons]
theorem rig_is {t : Int} {r : Nat} : ∀ x : Ex, x.sz ≤ 512 → rigE t r x = rightE t r x := fun x hs => by
  have hsub : rigL t r x.l = rightL t r x.l := by
    rw [rigL_eq, rightL_eq]
    have : ∀ l : List Ex, (∀ y ∈ l, rigE t r y = rightE t r y) → l.all (rigE t r) = l.all (rightE t r) := by
      intro l
      induction l with
      | nil => intro _; rfl
      | cons a l ih => intro h; rw [List.all_cons, List.all_cons, h a (by simp), ih fun y hy => h y (by simp [hy])]
    exact this _ fun y hy => rig_is y (by have := Ex.sz_sub hy; omega)
  have hlen : x.l.length < 512 := by have := x.len_lt; omega
  have hr : rightE t r x = (rightC x.num x.l.length (rightN t r x.kind) && rightL t r x.l) := by cases x; rw [rightE]; rfl
  rw [rigE_eq, hr, hsub]
  have key : (!rigH1 x.kind x.num (mostN t r x.kind) && !rigH2 x.kind x.l.length) = rightC x.num x.l.length (rightN t r x.kind) := by
    unfold rigH1 rigH2 mostN
    generalize x.l.length = m at hlen
    generalize x.num = n
    generalize x.kind = k
    by_cases k0 : k = 0
    · subst k0; simp [rightN, rightC] <;> first | done | (rw [Bool.eq_iff_iff]; simp; try omega)
    by_cases k1 : k = 1
    · subst k1; simp [rightN, rightC] <;> first | done | (rw [Bool.eq_iff_iff]; simp; try omega)
    by_cases k2 : k = 2
    · subst k2; simp [rightN, rightC] <;> first | done | (rw [Bool.eq_iff_iff]; simp; try omega)
    by_cases k3 : k = 3
    · subst k3; simp [rightN, rightC] <;> first | done | (rw [Bool.eq_iff_iff]; simp; try omega)
    by_cases k4 : k = 4
    · subst k4; simp [rightN, rightC] <;> first | done | (rw [Bool.eq_iff_iff]; simp; try omega)
    by_cases k5 : k = 5
    · subst k5; simp [rightN, rightC] <;> first | done | (rw [Bool.eq_iff_iff]; simp; try omega)
    by_cases k6 : k = 6
    · subst k6; simp [rightN, rightC] <;> first | done | (rw [Bool.eq_iff_iff]; simp; try omega)
    have : rightN t r k = none := by unfold rightN; simp [k0, k1, k2, k3, k4, k5, k6]
    rw [this, rightC]
    have : decide (k < 0) = true ∨ decide (k > 6) = true := by
      simp only [decide_eq_true_eq]; omega
    rcases this with h | h <;> rw [h] <;> simp
  rw [key]
termination_by x => x
decreasing_by exact Ex.sub_lt hy
theorem rigAll_is {g : Gr} (h : limP g = false) : (∀ y ∈ g.bodies, rigE g.tokens g.rules.length y = rightE g.tokens g.rules.length y) := fun y hy => by
  rw [lim_is, Bool.or_eq_false_iff, decide_eq_false_iff_not] at h
  have b := sizesL_is g.bodies 512 (by omega)
  have e1 : ((512 : Nat) : Int) = 512 := rfl
  rw [e1] at b
  have : dOkL g.bodies 32 = true ∧ szL g.bodies ≤ 512 := Classical.byContradiction fun hc => h.2 (b.2 hc)
  exact rig_is y (by have := szL_mem hy; omega)
end Go.Am
namespace Go.Am
open Go Go.Proofs
def LeB (s s' : List Bool) : Prop := ∀ j, s.getD j false = true → s'.getD j false = true
theorem getD_setB {s : List Bool} {n j : Nat} {v : Bool} (hn : n < s.length) : (s.set n v).getD j false = if j = n then v else s.getD j false := by
  rw [List.getD_eq_getElem?_getD, List.getElem?_set]
  by_cases e : n = j
  · subst e; rw [if_pos rfl, if_pos rfl, if_pos hn]; rfl
  · rw [if_neg e, if_neg (Ne.symm e), List.getD_eq_getElem?_getD]
theorem LeB.trans {a b c : List Bool} (h : LeB a b) (h2 : LeB b c) : LeB a c := fun j hj => h2 j (h j hj)
section
variable {tok : Bool} {t : Int} {bs : List Ex} (hok : ∀ y ∈ bs, okE t bs.length y)
include hok
theorem canE_le {a b : List Bool} (h : LeB a b) {m : Nat} {x : Ex} (hx : bs[m]? = some x) (hc : canE tok (qOf a) x = true) : canE tok (qOf b) x = true :=
  canE_mono (fun m _ _ hm => h m.toNat hm) x (hok x (List.mem_of_getElem? hx)) hc
def InvB (tok : Bool) (bs : List Ex) (out : List Bool) : Prop := ∀ m x, bs[m]? = some x → out.getD m false = true → canE tok (qOf out) x = true
theorem stepB {out : List Bool} {i : Nat} {x : Ex} (hl : out.length = bs.length) (hx : bs[i]? = some x) (hi : InvB tok bs out) : LeB out (out.set i (canE tok (qOf out) x)) ∧ InvB tok bs (out.set i (canE tok (qOf out) x)) := by
  have hlt : i < out.length := by rw [hl]; exact (List.getElem?_eq_some_iff.1 hx).1
  have hle : LeB out (out.set i (canE tok (qOf out) x)) := fun j hj => by
    rw [getD_setB hlt]
    split
    · rename_i e; subst e; exact hi _ _ hx hj
    · exact hj
  refine ⟨hle, fun m y hy hm => ?_⟩
  rw [getD_setB hlt] at hm
  split at hm
  · rename_i e; subst e; rw [hx] at hy; cases hy; exact canE_le hok hle hx hm
  · exact canE_le hok hle hy (hi _ _ hy hm)
theorem passB : ∀ (l : List Ex) (i : Nat) (out : List Bool), (∀ k x, l[k]? = some x → bs[i + k]? = some x) → out.length = bs.length → InvB tok bs out →
    LeB out (rPass tok l i out) ∧ InvB tok bs (rPass tok l i out) ∧ ∀ k x, l[k]? = some x → canE tok (qOf out) x = true → (rPass tok l i out).getD (i + k) false = true
  | [], i, out, _, _, hi => ⟨fun _ h => h, hi, fun k x h => by simp at h⟩
  | x :: l, i, out, hs, hl, hi => by
    have hx := hs 0 x rfl
    obtain ⟨s1, s2⟩ := stepB hok hl hx hi
    obtain ⟨p1, p2, p3⟩ := passB l (i + 1) (out.set i (canE tok (qOf out) x)) (fun k y hk => by rw [show i + 1 + k = i + (k + 1) by omega]; exact hs (k + 1) y (by simpa using hk)) (by rw [List.length_set]; exact hl) s2
    rw [rPass]
    refine ⟨s1.trans p1, p2, fun k y hk hc => ?_⟩
    cases k with
    | zero =>
      simp at hk; subst hk
      refine p1 _ ?_
      rw [getD_setB (by rw [hl]; exact (List.getElem?_eq_some_iff.1 hx).1), Nat.add_zero, if_pos rfl]; exact hc
    | succ k =>
      rw [show i + (k + 1) = i + 1 + k by omega]
      have hk' : l[k]? = some y := by simpa using hk
      exact p3 k y hk' (canE_le hok s1 (hs (k + 1) y hk) hc)
theorem closedB {out : List Bool} (h : ∀ m x, bs[m]? = some x → canE tok (qOf out) x = true → out.getD m false = true) : LeB (growsP tok bs) out := by
  refine growsP_inv (P := fun o => LeB o out) (fun j hj => by rw [rep_getD] at hj; cases hj) fun o k x hk hlt hp hc j hj => ?_
  rw [getD_setB hlt] at hj
  split at hj
  · rename_i e; subst e; exact h _ _ hk (canE_le hok hp hk hc)
  · exact hp j hj
theorem rFB : ∀ (c : Nat) (out : List Bool), out.length = bs.length → InvB tok bs out → LeB out (rF tok bs c out) ∧ (LeB (growsP tok bs) (rF tok bs c out) ∨ out.count true + c ≤ (rF tok bs c out).count true)
  | 0, out, _, _ => ⟨fun _ h => h, .inr (by rw [rF]; omega)⟩
  | c + 1, out, hl, hi => by
    obtain ⟨p1, p2, p3⟩ := passB hok bs 0 out (fun k x h => by rw [Nat.zero_add]; exact h) hl hi
    obtain ⟨r1, r2⟩ := rFB c (rPass tok bs 0 out) (by rw [rPass_len]; exact hl) p2
    rw [rF]
    refine ⟨p1.trans r1, ?_⟩
    by_cases hc : ∀ m x, bs[m]? = some x → canE tok (qOf out) x = true → out.getD m false = true
    · exact .inl (((closedB hok hc).trans p1).trans r1)
    · refine r2.imp id fun h => ?_
      simp only [Classical.not_forall] at hc
      obtain ⟨m, x, hx, hcx, hm⟩ := hc
      have := countT_lt (rPass_len tok bs 0 out) p1 (m := m) (by have := p3 m x hx hcx; rwa [Nat.zero_add] at this) (by simpa using hm)
      omega
theorem rF_le (c : Nat) (out : List Bool) (hl : out.length = bs.length) (h : LeB out (growsP tok bs)) : LeB (rF tok bs c out) (growsP tok bs) := by
  have hp : ∀ (l : List Ex) (i : Nat) (out : List Bool), (∀ k x, l[k]? = some x → bs[i + k]? = some x) → out.length = bs.length → LeB out (growsP tok bs) → LeB (rPass tok l i out) (growsP tok bs) := by
    intro l
    induction l with
    | nil => intro i out _ _ h; exact h
    | cons x l ih =>
      intro i out hs hl h
      rw [rPass]
      have hx := hs 0 x rfl
      refine ih _ _ (fun k y hk => by rw [show i + 1 + k = i + (k + 1) by omega]; exact hs (k + 1) y (by simpa using hk)) (by rw [List.length_set]; exact hl) fun j hj => ?_
      rw [getD_setB (by rw [hl]; exact (List.getElem?_eq_some_iff.1 hx).1)] at hj
      split at hj
      · rename_i e; subst e; exact growsP_closed tok bs hx (canE_le hok h hx hj)
      · exact h j hj
  induction c generalizing out with
  | zero => exact h
  | succ c ih => rw [rF]; exact ih _ (by rw [rPass_len]; exact hl) (hp bs 0 out (fun k x h => by rw [Nat.zero_add]; exact h) hl h)
theorem rnd_is : rndP tok bs = growsP tok bs := by
  have h1 : LeB (rndP tok bs) (growsP tok bs) := rF_le hok _ _ (by simp) fun j hj => by rw [rep_getD] at hj; cases hj
  obtain ⟨-, h2⟩ := rFB (tok := tok) hok bs.length (List.replicate bs.length false) (by simp) fun m x _ hj => by rw [rep_getD] at hj; cases hj
  have h3 : LeB (growsP tok bs) (rndP tok bs) := by
    rcases h2 with h | h
    · exact h
    · intro j hj
      have hle := List.count_le_length (a := true) (l := rndP tok bs)
      have hlen := rndP_len tok bs
      have : (rndP tok bs).count true = (rndP tok bs).length := by unfold rndP at hle hlen ⊢; omega
      have hall := List.count_eq_length.1 this
      have hjl : j < (rndP tok bs).length := by
        rw [hlen, ← growsP_len tok bs]
        exact Nat.lt_of_not_le fun hh => by rw [List.getD_eq_getElem?_getD, List.getElem?_eq_none hh] at hj; cases hj
      have := hall _ (List.getElem_mem hjl)
      simp [hjl, ← this]
  refine List.ext_getElem (by rw [rndP_len, growsP_len]) fun i hi hi' => ?_
  have e1 : (rndP tok bs).getD i false = (rndP tok bs)[i] := by simp [hi]
  have e2 : (growsP tok bs).getD i false = (growsP tok bs)[i] := by simp [hi']
  have a := h1 i; have b := h3 i
  rw [e1, e2] at a b
  cases hh : (rndP tok bs)[i] with
  | true => rw [a hh]
  | false => cases hg : (growsP tok bs)[i] with
    | true => rw [hh] at b; exact (b hg)
    | false => rfl
end
end Go.Am
namespace Go.Am
open Go Go.Proofs
inductive RP (bs : List Ex) (q : Int → Bool) : Nat → Nat → Prop
  | one {i j : Nat} {x : Ex} : bs[i]? = some x → Beg q x j → RP bs q i j
  | snoc {i k j : Nat} {x : Ex} : RP bs q i k → bs[k]? = some x → Beg q x j → RP bs q i j
theorem RP.trans {bs : List Ex} {q : Int → Bool} {i k j : Nat} (h : RP bs q i k) (h2 : RP bs q k j) : RP bs q i j := by
  induction h2 with
  | one hx hb => exact .snoc h hx hb
  | snoc _ hx hb ih => exact .snoc ih hx hb
section
variable {t : Int} {bs : List Ex} {q : Int → Bool} (hok : ∀ y ∈ bs, okE t bs.length y)
include hok
theorem RP.lt {i j : Nat} (h : RP bs q i j) : j < bs.length := by
  cases h with
  | one hx hb => exact beg_lt hb (hok _ (List.mem_of_getElem? hx))
  | snoc _ hx hb => exact beg_lt hb (hok _ (List.mem_of_getElem? hx))
theorem begs_rp {i j : Nat} {x : Ex} (hx : bs[i]? = some x) : (begs bs q x).getD j false = true ↔ RP bs q i j := by
  have h := begs_df (q := q) hok (hok x (List.mem_of_getElem? hx))
  constructor
  · intro hj
    rcases h.min (RP bs q i) (fun n hn => .one hx hn) (fun n y m hn hy hb => .snoc hn hy hb) j hj with hh | hh
    · rw [rep_getD] at hh; cases hh
    · exact hh
  · intro hr
    induction hr with
    | one hy hb => rw [hx] at hy; cases hy; exact h.direct _ hb
    | snoc _ hy hb ih => exact h.clos _ _ _ ih rep_getD hy hb
theorem leftL_rp : leftL bs q 0 bs = false ↔ ∀ i, ¬ RP bs q i i := by
  rw [leftL_iff]
  constructor
  · intro h i hi
    have hl := hi.lt hok
    have hx : bs[i]? = some bs[i] := by simp [hl]
    have := h i _ hx
    rw [Nat.zero_add, (begs_rp hok hx).2 hi] at this; cases this
  · intro h k x hx
    rw [Nat.zero_add]
    cases e : (begs bs q x).getD k false with
    | false => rfl
    | true => exact absurd ((begs_rp hok hx).1 e) (h k)
end
def bitL (L : List Nat) (i j : Nat) : Prop := (gN L i).testBit j = true
def LeL (L L' : List Nat) : Prop := ∀ i j, bitL L i j → bitL L' i j
theorem LeL.trans {a b c : List Nat} (h : LeL a b) (h2 : LeL b c) : LeL a c := fun i j hj => h2 i j (h i j hj)
theorem stepK_bit {L : List Nat} {i k i' j : Nat} (hi : i < L.length) : bitL (stepK i L k) i' j ↔ bitL L i' j ∨ (i' = i ∧ bitL L i k ∧ bitL L k j) := by
  unfold stepK bitL
  split
  · rename_i h
    rw [gN_set hi]
    split
    · rename_i e; subst e
      rw [Nat.testBit_or, Bool.or_eq_true]
      exact ⟨fun hh => hh.imp id fun hh => ⟨rfl, h, hh⟩, fun hh => hh.imp id fun hh => hh.2.2⟩
    · rename_i e
      exact ⟨.inl, fun hh => hh.elim id fun hh => absurd hh.1 e⟩
  · rename_i h
    exact ⟨.inl, fun hh => hh.elim id fun hh => absurd hh.2.1 h⟩
theorem foldN_hit {α : Type} {f : α → Nat → α} {P Q : α → Prop} {n k : Nat} (hP : ∀ a j, j < n → P a → P (f a j)) (hQ : ∀ a j, j < n → Q a → Q (f a j)) (hh : ∀ a, P a → Q (f a k)) :
    ∀ (c i : Nat) (a : α), i + c ≤ n → i ≤ k → k < i + c → P a → Q (foldN f c i a)
  | 0, i, a, _, h1, h2, _ => by omega
  | c + 1, i, a, h, h1, h2, hp => by
    rw [foldN]
    by_cases e : i = k
    · subst e
      exact foldN_inv (P := Q) c (i + 1) _ (hh a hp) fun a j _ hj hq => hQ a j (by omega) hq
    · exact foldN_hit hP hQ hh c (i + 1) _ (by omega) (by omega) (by omega) (hP a i (by omega) hp)
def Up (n : Nat) (L X : List Nat) : Prop := LOk n X ∧ LeL L X
theorem Up.step {n : Nat} {L X : List Nat} (h : Up n L X) {i k : Nat} (hi : i < n) : Up n L (stepK i X k) := ⟨h.1.step hi, fun a b hab => (stepK_bit (by rw [h.1.1]; exact hi)).2 (.inl (h.2 a b hab))⟩
theorem Up.stepI {n : Nat} {L X : List Nat} (h : Up n L X) {i : Nat} (hi : i < n) : Up n L (stepI n X i) := foldN_inv (P := Up n L) n 0 X h fun _ _ _ _ h => h.step hi
theorem Up.round {n : Nat} {L X : List Nat} (h : Up n L X) : Up n L (roundL n X) := foldN_inv (P := Up n L) n 0 X h fun _ _ _ hj h => h.stepI (by omega)
theorem round_hit {n : Nat} {L : List Nat} (hL : LOk n L) {i k j : Nat} (hi : i < n) (hk : k < n) (h1 : bitL L i k) (h2 : bitL L k j) : bitL (roundL n L) i j := by
  have hz : Up n L L := ⟨hL, fun _ _ h => h⟩
  have hQs : ∀ (a : List Nat) (i' k' : Nat), i' < n → Up n L a ∧ bitL a i j → Up n L (stepK i' a k') ∧ bitL (stepK i' a k') i j := fun a i' k' hi' h =>
    ⟨h.1.step hi', (stepK_bit (by rw [h.1.1.1]; exact hi')).2 (.inl h.2)⟩
  have hQi : ∀ (a : List Nat) (i' : Nat), i' < n → Up n L a ∧ bitL a i j → Up n L (stepI n a i') ∧ bitL (stepI n a i') i j := fun a i' hi' h =>
    foldN_inv (P := fun a => Up n L a ∧ bitL a i j) n 0 a h fun a k' _ _ h => hQs a i' k' hi' h
  refine (foldN_hit (f := stepI n) (P := Up n L) (Q := fun a => Up n L a ∧ bitL a i j) (n := n) (k := i) (fun a i' hi' h => h.stepI hi') hQi (fun a ha => ?_) n 0 L (by omega) (by omega) (by omega) hz).2
  exact foldN_hit (f := stepK i) (P := Up n L) (Q := fun a => Up n L a ∧ bitL a i j) (n := n) (k := k) (fun a k' _ h => h.step hi) (fun a k' _ h => hQs a i k' hi h)
    (fun a ha => ⟨ha.step hi, (stepK_bit (by rw [ha.1.1]; exact hi)).2 (.inr ⟨rfl, ha.2 _ _ h1, ha.2 _ _ h2⟩)⟩) n 0 a (by omega) (by omega) (by omega) ha
section
variable {t : Int} {bs : List Ex} {q : Int → Bool}
def SndL (bs : List Ex) (q : Int → Bool) (n : Nat) (X : List Nat) : Prop := LOk n X ∧ ∀ i j, bitL X i j → RP bs q i j
theorem SndL.step {n : Nat} {X : List Nat} (h : SndL bs q n X) {i k : Nat} (hi : i < n) : SndL bs q n (stepK i X k) := ⟨h.1.step hi, fun a b hab => by
  rcases (stepK_bit (by rw [h.1.1]; exact hi)).1 hab with hh | ⟨rfl, h1, h2⟩
  · exact h.2 _ _ hh
  · exact (h.2 _ _ h1).trans (h.2 _ _ h2)⟩
theorem SndL.stepI {n : Nat} {X : List Nat} (h : SndL bs q n X) {i : Nat} (hi : i < n) : SndL bs q n (stepI n X i) := foldN_inv (P := SndL bs q n) n 0 X h fun _ _ _ _ h => h.step hi
theorem SndL.round {n : Nat} {X : List Nat} (h : SndL bs q n X) : SndL bs q n (roundL n X) := foldN_inv (P := SndL bs q n) n 0 X h fun _ _ _ hj h => h.stepI (by omega)
def rowB (n : Nat) (P : Nat) : List Bool := (List.range n).map P.testBit
theorem rowB_len (n P : Nat) : (rowB n P).length = n := by simp [rowB]
theorem rowB_get {n P j : Nat} : (rowB n P).getD j false = true ↔ j < n ∧ P.testBit j = true := by
  unfold rowB
  by_cases h : j < n
  · simp [h]
  · simp [h]
variable (hok : ∀ y ∈ bs, okE t bs.length y)
include hok
def FullR (bs : List Ex) (q : Int → Bool) (L : List Nat) (i : Nat) : Prop := ∀ j, RP bs q i j → bitL L i j
theorem closeB : ∀ (c s : Nat) (L : List Nat), SndL bs q bs.length L → (∀ i x j, bs[i]? = some x → Beg q x j → bitL L i j) →
    LeL L (foldN (fun L _ => roundL bs.length L) c s L) ∧ SndL bs q bs.length (foldN (fun L _ => roundL bs.length L) c s L) ∧ ∀ i, i < bs.length → FullR bs q (foldN (fun L _ => roundL bs.length L) c s L) i ∨ (rowB bs.length (gN L i)).count true + c ≤ (rowB bs.length (gN (foldN (fun L _ => roundL bs.length L) c s L) i)).count true
  | 0, s, L, hs, h0 => ⟨fun _ _ h => h, hs, fun i hi => .inr (by rw [foldN]; omega)⟩
  | c + 1, s, L, hs, h0 => by
    have hu := Up.round (n := bs.length) (L := L) (X := L) ⟨hs.1, fun _ _ h => h⟩
    obtain ⟨r1, r2, r3⟩ := closeB c (s + 1) (roundL bs.length L) hs.round fun i x j hx hb => hu.2 _ _ (h0 i x j hx hb)
    rw [foldN]
    refine ⟨hu.2.trans r1, r2, fun i hi => ?_⟩
    by_cases hc : ∀ k j, bitL L i k → bitL L k j → bitL L i j
    · left
      intro j hr
      refine r1 _ _ (hu.2 _ _ ?_)
      clear r3 r2 r1
      induction hr with
      | one hx hb => exact h0 _ _ _ hx hb
      | snoc _ hx hb ih => exact hc _ _ ih (h0 _ _ _ hx hb)
    · refine (r3 i hi).imp id fun h => ?_
      simp only [Classical.not_forall] at hc
      obtain ⟨k, j, h1, h2, h3⟩ := hc
      have hk : k < bs.length := (hs.2 _ _ h1).lt hok
      have hj : j < bs.length := (hs.2 _ _ h2).lt hok
      have := countT_lt (s := rowB bs.length (gN L i)) (s' := rowB bs.length (gN (roundL bs.length L) i)) (m := j) (by rw [rowB_len, rowB_len])
        (fun m hm => rowB_get.2 ⟨(rowB_get.1 hm).1, hu.2 _ _ (rowB_get.1 hm).2⟩) (rowB_get.2 ⟨hj, round_hit hs.1 hi hk h1 h2⟩)
        (by cases e : (rowB bs.length (gN L i)).getD j false with
            | false => rfl
            | true => exact absurd (rowB_get.1 e).2 h3)
      omega
theorem close_rp {i j : Nat} (hi : i < bs.length) : bitL (closeL bs.length (bs.map (bgnE q))) i j ↔ RP bs q i j := by
  have hg : ∀ i x, bs[i]? = some x → gN (bs.map (bgnE q)) i = bgnE q x := fun i x hx => by unfold gN; rw [List.getD_eq_getElem?_getD, List.getElem?_map, hx]; rfl
  have hn : ∀ i, bs[i]? = none → gN (bs.map (bgnE q)) i = 0 := fun i hx => by unfold gN; rw [List.getD_eq_getElem?_getD, List.getElem?_map, hx]; rfl
  have hs : SndL bs q bs.length (bs.map (bgnE q)) := by
    refine ⟨⟨by rw [List.length_map], fun i => ?_⟩, fun i j hb => ?_⟩
    · cases hx : bs[i]? with
      | none => rw [hn i hx]; exact Nat.two_pow_pos _
      | some x => rw [hg i x hx]; exact bgnE_lt x (hok x (List.mem_of_getElem? hx))
    · unfold bitL at hb
      cases hx : bs[i]? with
      | none => rw [hn i hx, Nat.zero_testBit] at hb; cases hb
      | some x => rw [hg i x hx] at hb; exact .one hx ((bgnE_beg x (hok x (List.mem_of_getElem? hx))).1 hb)
  obtain ⟨-, r2, r3⟩ := closeB hok bs.length 0 _ hs fun i x j hx hb => by unfold bitL; rw [hg i x hx]; exact (bgnE_beg x (hok x (List.mem_of_getElem? hx))).2 hb
  refine ⟨r2.2 i j, fun hr => ?_⟩
  rcases r3 i hi with h | h
  · exact h j hr
  · have hlen := rowB_len bs.length (gN (closeL bs.length (bs.map (bgnE q))) i)
    have hle := List.count_le_length (a := true) (l := rowB bs.length (gN (closeL bs.length (bs.map (bgnE q))) i))
    have : (rowB bs.length (gN (closeL bs.length (bs.map (bgnE q))) i)).count true = (rowB bs.length (gN (closeL bs.length (bs.map (bgnE q))) i)).length := by unfold closeL at *; omega
    have hall := List.count_eq_length.1 this
    have hjl : j < (rowB bs.length (gN (closeL bs.length (bs.map (bgnE q))) i)).length := by rw [hlen]; exact hr.lt hok
    have := hall _ (List.getElem_mem hjl)
    exact (rowB_get.1 (show (rowB bs.length (gN (closeL bs.length (bs.map (bgnE q))) i)).getD j false = true by simp [hjl, ← this])).2
end
theorem anyN_iff {p : Nat → Bool} : ∀ (c i : Nat), anyN p c i = false ↔ ∀ j, i ≤ j → j < i + c → p j = false
  | 0, i => ⟨fun _ j h1 h2 => by omega, fun _ => rfl⟩
  | c + 1, i => by
    rw [anyN, Bool.or_eq_false_iff, anyN_iff c (i + 1)]
    constructor
    · rintro ⟨h1, h2⟩ j a b
      by_cases e : j = i
      · subst e; exact h1
      · exact h2 j (by omega) (by omega)
    · intro h
      exact ⟨h i (by omega) (by omega), fun j a b => h j (by omega) (by omega)⟩
theorem left_is {t : Int} {bs : List Ex} {q : Int → Bool} (hok : ∀ y ∈ bs, okE t bs.length y) : leftR q bs = leftL bs q 0 bs := by
  have : leftR q bs = false ↔ leftL bs q 0 bs = false := by
    rw [leftL_rp hok, leftR, anyN_iff]
    constructor
    · intro h i hr
      have hi := hr.lt hok
      have h1 := h i (by omega) (by omega)
      have h2 := (close_rp hok hi).2 hr
      unfold bitL at h2
      rw [h2] at h1; cases h1
    · intro h j _ hj
      cases e : (gN (closeL bs.length (bs.map (bgnE q))) j).testBit j with
      | false => rfl
      | true => exact absurd ((close_rp hok (by omega)).1 e) (h j)
  cases h1 : leftR q bs <;> cases h2 : leftL bs q 0 bs <;> simp_all
theorem bad_is {S : List Bool} {q : Int → Bool} : ∀ (l : List Ex) (i : Nat), S.length = i + l.length → badL S q l i = ((S.drop i).any (false == ·) || l.any (vainE q))
  | [], i, h => by rw [badL, List.drop_eq_nil_of_le (by simp at h; omega)]; rfl
  | x :: l, i, h => by
    simp only [List.length_cons] at h
    have hi : i < S.length := by omega
    rw [badL, bad_is l (i + 1) (by omega), List.drop_eq_getElem_cons hi, List.any_cons, List.any_cons]
    have e : S.getD i false = S[i] := by simp [hi]
    rw [e]
    cases S[i] <;> cases vainE q x <;> simp
theorem ok_of {g : Gr} (hl : limP g = false) (hr : g.bodies.all (rigE g.tokens g.rules.length) = true) : ∀ y ∈ g.bodies, okE g.tokens g.bodies.length y := fun y hy => by
  have := List.all_eq_true.1 hr y hy
  rw [rigAll_is hl y hy] at this
  rw [bodies_len]; exact this
theorem hok_g (g : Gr) : limP g = false → ∀ y ∈ g.bodies, rigE g.tokens g.rules.length y = true → okE g.tokens g.rules.length y := fun hl y hy h => by
  rw [rigAll_is hl y hy] at h; exact h
theorem all_congr {α : Type} {p q : α → Bool} : ∀ {l : List α}, (∀ y ∈ l, p y = q y) → l.all p = l.all q
  | [], _ => rfl
  | x :: l, h => by rw [List.all_cons, List.all_cons, h x (by simp), all_congr fun y hy => h y (by simp [hy])]
theorem chk2_is {g : Gr} (hok : ∀ y ∈ g.bodies, okE g.tokens g.bodies.length y) : chk2R g = check2P g := by
  unfold chk2R check2P
  rw [rnd_is hok, rnd_is hok, left_is hok, bad_is _ _ (by rw [growsP_len]; omega)]
  have e : g.bodies.any (vainE (qOf g.null)) = g.rules.any (fun r => vainE (qOf g.null) r.body) := by rw [Gr.bodies, List.any_map]; rfl
  rw [List.drop_zero]
  unfold Gr.some
  rw [← e]
  rfl
theorem chk_is (g : Gr) : chkR g = checkP g := by
  unfold chkR checkP
  cases hl : limP g with
  | true =>
    rw [if_pos rfl]
    rw [lim_is] at hl
    split
    · rfl
    · rename_i h
      rw [Bool.or_eq_true] at hl
      rw [if_pos (by simpa using hl.resolve_left h)]
  | false =>
    rw [if_neg (by simp), all_congr (rigAll_is hl)]
    have hl' := hl
    rw [lim_is, Bool.or_eq_false_iff, decide_eq_false_iff_not] at hl'
    rw [hl'.1, if_neg Bool.false_ne_true, if_neg hl'.2]
    split
    · rfl
    · cases hr : g.bodies.all (rightE g.tokens g.rules.length) with
      | false => rfl
      | true =>
        rw [if_neg (fun h => by cases h), if_neg (fun h => by cases h)]
        exact chk2_is (ok_of hl (by rw [all_congr (rigAll_is hl)]; exact hr))
theorem null_is {g : Gr} (h : chkR g = 0) : rndP false g.bodies = g.null := by
  unfold chkR at h
  cases hl : limP g with
  | true => rw [hl, if_pos rfl] at h; cases h
  | false =>
    rw [hl, if_neg (by simp)] at h
    split at h
    · cases h
    · cases hr : g.bodies.all (rigE g.tokens g.rules.length) with
      | false => rw [hr, if_pos rfl] at h; cases h
      | true => exact rnd_is (ok_of hl hr)
end Go.Am
namespace Go.Am
open Go Go.Proofs
mutual
theorem partsE_cp : ∀ (x : Ex) (d : Int), partsE x.cp d = partsE x d
  | .mk k n z l, d => by rw [Ex.cp, partsE, partsE, partsL_cp]
theorem partsL_cp : ∀ (l : List Ex) (d many : Int), partsL (Ex.cpL l) d many = partsL l d many
  | [], _, _ => by rw [Ex.cpL]
  | x :: l, d, many => by rw [Ex.cpL, partsL, partsL, partsE_cp, partsL_cp]
end
theorem limL_cp : ∀ (l : List Ex) (many : Int), limL (l.map Ex.cp) many = limL l many
  | [], _ => rfl
  | x :: l, many => by rw [List.map_cons, limL, limL, partsE_cp, limL_cp]
theorem cpL_len (l : List Ex) : (Ex.cpL l).length = l.length := by rw [cpL_map, List.length_map]
mutual
theorem rigE_cp (t : Int) (r : Nat) : ∀ x : Ex, rigE t r x.cp = rigE t r x
  | .mk k n z l => by rw [Ex.cp, rigE, rigE, rigL_cp, cpL_len]
theorem rigL_cp (t : Int) (r : Nat) : ∀ l : List Ex, rigL t r (Ex.cpL l) = rigL t r l
  | [] => by rw [Ex.cpL]
  | x :: l => by rw [Ex.cpL, rigL, rigL, rigE_cp, rigL_cp]
end
theorem headB_cp (q : Int → Bool) (l : List Ex) : headB q (Ex.cpL l) = headB q l := by
  cases l with
  | nil => rw [Ex.cpL]
  | cons x l => rw [Ex.cpL, headB, headB, canE_cp]
mutual
theorem vain_cp (q : Int → Bool) : ∀ x : Ex, vainE q x.cp = vainE q x
  | .mk k n z l => by rw [Ex.cp, vainE, vainE, vainL_cp, headB_cp]
theorem vainL_cp (q : Int → Bool) : ∀ l : List Ex, vainL q (Ex.cpL l) = vainL q l
  | [] => by rw [Ex.cpL]
  | x :: l => by rw [Ex.cpL, vainL, vainL, vain_cp, vainL_cp]
end
mutual
theorem bgnE_cp (q : Int → Bool) : ∀ x : Ex, bgnE q x.cp = bgnE q x
  | .mk k n z l => by rw [Ex.cp, bgnE, bgnE, bgnL_cp]
theorem bgnL_cp (q : Int → Bool) (k : Int) : ∀ (l : List Ex) (out : Nat), bgnL q k (Ex.cpL l) out = bgnL q k l out
  | [], _ => by rw [Ex.cpL]
  | x :: l, out => by rw [Ex.cpL, bgnL, bgnL, canE_cp, bgnE_cp, bgnL_cp]
end
theorem rPass_cp (tok : Bool) : ∀ (l : List Ex) (i : Nat) (out : List Bool), rPass tok (l.map Ex.cp) i out = rPass tok l i out
  | [], _, _ => rfl
  | x :: l, i, out => by rw [List.map_cons, rPass, rPass, canE_cp, rPass_cp]
theorem rF_cp (tok : Bool) (l : List Ex) : ∀ (n : Nat) (out : List Bool), rF tok (l.map Ex.cp) n out = rF tok l n out
  | 0, _ => rfl
  | n + 1, out => by rw [rF, rF, rPass_cp, rF_cp]
theorem rndP_cp (tok : Bool) (l : List Ex) : rndP tok (l.map Ex.cp) = rndP tok l := by rw [rndP, rndP, rF_cp, List.length_map]
theorem badL_cp (S : List Bool) (q : Int → Bool) : ∀ (l : List Ex) (i : Nat), badL S q (l.map Ex.cp) i = badL S q l i
  | [], _ => rfl
  | x :: l, i => by rw [List.map_cons, badL, badL, vain_cp, badL_cp]
theorem leftR_cp (q : Int → Bool) (l : List Ex) : leftR q (l.map Ex.cp) = leftR q l := by
  have : (l.map Ex.cp).map (bgnE q) = l.map (bgnE q) := by rw [List.map_map]; exact List.map_congr_left fun x _ => bgnE_cp q x
  rw [leftR, leftR, this, List.length_map]
theorem cp_bodies (g : Gr) : g.cp.bodies = g.bodies.map Ex.cp := by simp [Gr.cp, Gr.bodies, Ru.cp]
theorem cp_tok (g : Gr) : g.cp.tokens = g.tokens := rfl
theorem cp_len (g : Gr) : g.cp.rules.length = g.rules.length := by simp [Gr.cp]
theorem limP_cp (g : Gr) : limP g.cp = limP g := by rw [limP, limP, cp_bodies, cp_tok, cp_len, limL_cp]
theorem all_rig_cp (t : Int) (r : Nat) (l : List Ex) : (l.map Ex.cp).all (rigE t r) = l.all (rigE t r) := by
  rw [List.all_map]; exact all_congr fun y _ => rigE_cp t r y
theorem chkR_cp (g : Gr) : chkR g.cp = chkR g := by
  rw [chkR, chkR, limP_cp, cp_tok, cp_len, cp_bodies, all_rig_cp, chk2R, chk2R, cp_bodies, rndP_cp, rndP_cp, badL_cp, leftR_cp]
theorem cp_small {g : Gr} (h : SmallG g) : SmallG g.cp := fun r hr => by
  obtain ⟨r', h1, rfl⟩ := List.mem_map.1 hr
  have := h r' h1
  unfold SmallE at this ⊢
  rw [Ru.cp, cp_sz]; exact this
end Go.Am

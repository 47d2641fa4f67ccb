/- Part H6 of a proof that runs a program's calls on a small machine whose values bear no addresses: no conditions. -/
import Derived.Test.YtbppacknigeiaaaDoorAmH3
set_option autoImplicit false
set_option linter.unusedSimpArgs false
set_option linter.unusedVariables false
set_option linter.unusedSectionVars false
namespace Go.Am
open Go Go.Proofs
abbrev HR := List Nat × List Bool
mutual
/-- what a part's calls are told, and whether that was not known -/
def bhE (F : List Nat) (nl : List Bool) : Ex → Nat → HR → HR × Bool
  | .mk k n _ l, b, s =>
    if k = 2 then ((s.1.set n.toNat (s.1.getD n.toNat 0 ||| b), s.2.set n.toNat true), !s.2.getD n.toNat false || ((s.1.getD n.toNat 0 ||| b) != s.1.getD n.toNat 0))
    else if k = 3 then ((bhS F nl l b s).1, (bhS F nl l b s).2.2)
    else if k = 5 then bhH F nl l b s
    else bhA F nl l b s false
/-- of a sequence, the last part first: what stands ahead of it, too -/
def bhS (F : List Nat) (nl : List Bool) : List Ex → Nat → HR → HR × Nat × Bool
  | [], b, s => (s, b, false)
  | x :: l, b, s => ((bhE F nl x (bhS F nl l b s).2.1 (bhS F nl l b s).1).1, (if (bgE F nl x).2 = true then (bgE F nl x).1 ||| (bhS F nl l b s).2.1 else (bgE F nl x).1),
      (bhE F nl x (bhS F nl l b s).2.1 (bhS F nl l b s).1).2 || (bhS F nl l b s).2.2)
def bhH (F : List Nat) (nl : List Bool) : List Ex → Nat → HR → HR × Bool
  | [], _, s => (s, false)
  | x :: _, b, s => bhE F nl x (b ||| (bgE F nl x).1) s
def bhA (F : List Nat) (nl : List Bool) : List Ex → Nat → HR → Bool → HR × Bool
  | [], _, s, f => (s, f)
  | x :: l, b, s, f => bhA F nl l b (bhE F nl x b s).1 ((bhE F nl x b s).2 || f)
end
section
variable {F : List Nat} {nl : List Bool}
theorem bhE_eq (x : Ex) (b : Nat) (s : HR) : bhE F nl x b s = if x.kind = 2 then ((s.1.set x.num.toNat (s.1.getD x.num.toNat 0 ||| b), s.2.set x.num.toNat true), !s.2.getD x.num.toNat false || ((s.1.getD x.num.toNat 0 ||| b) != s.1.getD x.num.toNat 0))
    else if x.kind = 3 then ((bhS F nl x.l b s).1, (bhS F nl x.l b s).2.2)
    else if x.kind = 5 then bhH F nl x.l b s
    else bhA F nl x.l b s false := by
  cases x; rw [bhE]; rfl
structure HrI (n : Nat) (s : HR) : Prop where
  hl : s.1.length = n
  rl : s.2.length = n
  lt : Lt64 s.1
def hrM (s : HR) : Nat := mdMeas s.1 + s.2.countP fun b => !b
structure HrG (n : Nat) (s t : HR) (f : Bool) : Prop where
  i : HrI n t
  sub : SubL s.1 t.1
  rs : ∀ m, s.2.getD m false = true → t.2.getD m false = true
  same : f = false → t = s
  less : f = true → hrM t < hrM s
theorem HrG.refl {n : Nat} {s : HR} (h : HrI n s) : HrG n s s false := ⟨h, fun _ => Sub.refl _, fun _ h => h, fun _ => rfl, fun h => by cases h⟩
theorem HrG.le {n : Nat} {s t : HR} {f : Bool} (h : HrG n s t f) : hrM t ≤ hrM s := by
  cases f with
  | true => exact Nat.le_of_lt (h.less rfl)
  | false => rw [h.same rfl]; exact Nat.le_refl _
theorem HrG.trans {n : Nat} {s t u : HR} {f f' : Bool} (h : HrG n s t f) (k : HrG n t u f') : HrG n s u (f' || f) :=
  ⟨k.i, fun m => (h.sub m).trans (k.sub m), fun m e => k.rs m (h.rs m e), fun e => by
    rw [Bool.or_eq_false_iff] at e
    rw [k.same e.1, h.same e.2], fun e => by
    have h1 := h.le; have h2 := k.le
    rcases Bool.or_eq_true _ _ ▸ e with e | e
    · have := k.less e; omega
    · have := h.less e; omega⟩
theorem cnt_set : ∀ {R : List Bool} {m : Nat}, m < R.length → (R.set m true).countP (fun b => !b) + (if R.getD m false = true then 0 else 1) = R.countP fun b => !b
  | b :: R, 0, _ => by cases b <;> simp
  | b :: R, m + 1, h => by
    have := cnt_set (R := R) (m := m) (by simpa using h)
    simp only [List.set_cons_succ, List.countP_cons, List.getD_cons_succ] at this ⊢
    omega
theorem mdMeas_set : ∀ {H : List Nat} {m v : Nat}, m < H.length → Sub (H.getD m 0) v → mdMeas (H.set m v) ≤ mdMeas H
  | a :: H, 0, v, _, h => by
    have := pop_mono (a := a) (b := v) (by simpa using h)
    simp [mdMeas]; omega
  | a :: H, m + 1, v, hm, h => by
    have := mdMeas_set (H := H) (m := m) (v := v) (by simpa using hm) (by simpa using h)
    simp [mdMeas] at this ⊢; omega
theorem getD_setH {R : List Bool} {i n : Nat} {v : Bool} : (R.set i v).getD n false = if n = i ∧ i < R.length then v else R.getD n false := by
  rw [List.getD_eq_getElem?_getD, List.getD_eq_getElem?_getD]
  by_cases h : n = i
  · subst h
    by_cases hl : n < R.length
    · rw [List.getElem?_set_self hl, if_pos ⟨rfl, hl⟩]; rfl
    · rw [if_neg (by omega), List.getElem?_eq_none (by rw [List.length_set]; omega), List.getElem?_eq_none (by omega)]
  · rw [List.getElem?_set_ne (Ne.symm h), if_neg (by omega)]
theorem hr_call {n m b : Nat} {s : HR} (hb : b < 2 ^ 64) (hs : HrI n s) (hm : m < n) : HrG n s (s.1.set m (s.1.getD m 0 ||| b), s.2.set m true) (!s.2.getD m false || ((s.1.getD m 0 ||| b) != s.1.getD m 0)) := by
  have hml : m < s.1.length := by rw [hs.hl]; exact hm
  have hmr : m < s.2.length := by rw [hs.rl]; exact hm
  have hsub : Sub (s.1.getD m 0) (s.1.getD m 0 ||| b) := Sub.orl _ _
  have hlt := or_lt (hs.lt m) hb
  refine ⟨⟨by rw [List.length_set]; exact hs.hl, by rw [List.length_set]; exact hs.rl, fun k => ?_⟩, fun k => ?_, fun k hk => ?_, fun e => ?_, fun e => ?_⟩
  · show (s.1.set m _).getD k 0 < _
    rw [getD_setN]; split
    · exact hlt
    · exact hs.lt k
  · show Sub _ ((s.1.set m _).getD k 0)
    rw [getD_setN]; split
    · rename_i c; rw [c.1]; exact hsub
    · exact Sub.refl _
  · show (s.2.set m true).getD k false = true
    rw [getD_setH]; split
    · rfl
    · exact hk
  · rw [Bool.or_eq_false_iff] at e
    have e1 : s.2.getD m false = true := by simpa using e.1
    have e2 : s.1.getD m 0 ||| b = s.1.getD m 0 := by simpa using e.2
    rw [e2]
    have q1 : s.1.set m (s.1.getD m 0) = s.1 := by
      rw [List.getD_eq_getElem?_getD, List.getElem?_eq_getElem hml]; exact List.set_getElem_self _
    have q2 : s.2.set m true = s.2 := by
      rw [← e1, List.getD_eq_getElem?_getD, List.getElem?_eq_getElem hmr]; exact List.set_getElem_self _
    rw [q1, q2]
  · have c1 := cnt_set hmr
    have c2 := mdMeas_set (v := s.1.getD m 0 ||| b) hml hsub
    show mdMeas (s.1.set m _) + (s.2.set m true).countP _ < mdMeas s.1 + s.2.countP _
    rcases Bool.or_eq_true _ _ ▸ e with e | e
    · have e1 : s.2.getD m false = false := by simpa using e
      rw [e1] at c1; simp only [Bool.false_eq_true, if_false] at c1; omega
    · have e2 : s.1.getD m 0 ||| b ≠ s.1.getD m 0 := by simpa using e
      have p1 := pop_lt hsub (Ne.symm e2) hlt
      have p2 := pop_le (s.1.getD m 0 ||| b)
      have c3 := sum_setN (v := s.1.getD m 0 ||| b) hml (by omega)
      split at c1 <;> omega
theorem bhS_ok {n : Nat} : ∀ (l : List Ex) (b : Nat) (s : HR), (∀ y ∈ l, (bgE F nl y).1 < 2 ^ 64 ∧ ∀ b s, b < 2 ^ 64 → HrI n s → HrG n s (bhE F nl y b s).1 (bhE F nl y b s).2) → b < 2 ^ 64 → HrI n s →
    HrG n s (bhS F nl l b s).1 (bhS F nl l b s).2.2 ∧ (bhS F nl l b s).2.1 < 2 ^ 64
  | [], b, s, _, hb, hs => by rw [bhS]; exact ⟨HrG.refl hs, hb⟩
  | x :: l, b, s, hl, hb, hs => by
    obtain ⟨h1, h2⟩ := bhS_ok l b s (fun y hy => hl y (by simp [hy])) hb hs
    obtain ⟨h3, h4⟩ := hl x (by simp)
    rw [bhS]
    refine ⟨h1.trans (h4 _ _ h2 h1.i), ?_⟩
    dsimp only
    split
    · exact or_lt h3 h2
    · exact h3
theorem bhA_ok {n : Nat} : ∀ (l : List Ex) (b : Nat) (s0 s : HR) (f : Bool), (∀ y ∈ l, ∀ b s, b < 2 ^ 64 → HrI n s → HrG n s (bhE F nl y b s).1 (bhE F nl y b s).2) → b < 2 ^ 64 → HrG n s0 s f →
    HrG n s0 (bhA F nl l b s f).1 (bhA F nl l b s f).2
  | [], b, s0, s, f, _, hb, hs => by rw [bhA]; exact hs
  | x :: l, b, s0, s, f, hl, hb, hs => by
    rw [bhA]
    exact bhA_ok l b s0 _ _ (fun y hy => hl y (by simp [hy])) hb (hs.trans (hl x (by simp) _ _ hb hs.i))
theorem bhE_ok (hF : Lt64 F) {t : Int} {n : Nat} (ht : t ≤ 64) : ∀ (x : Ex) (b : Nat) (s : HR), okE t n x → b < 2 ^ 64 → HrI n s → HrG n s (bhE F nl x b s).1 (bhE F nl x b s).2 := fun x b s ho hb hs => by
  have hsub : ∀ y ∈ x.l, (bgE F nl y).1 < 2 ^ 64 ∧ ∀ b s, b < 2 ^ 64 → HrI n s → HrG n s (bhE F nl y b s).1 (bhE F nl y b s).2 := fun y hy => ⟨bgE_lt hF ht y (ho.sub hy), fun b s hb hs => bhE_ok hF ht y b s (ho.sub hy) hb hs⟩
  rw [bhE_eq]
  split
  · rename_i k2
    obtain ⟨h1, h2⟩ := ho.call k2
    exact hr_call hb hs (by omega)
  split
  · exact (bhS_ok x.l b s hsub hb hs).1
  split
  · cases hl : x.l with
    | nil => rw [bhH]; exact HrG.refl hs
    | cons y l =>
      obtain ⟨h1, h2⟩ := hsub y (by rw [hl]; simp)
      rw [bhH]
      exact h2 _ _ (or_lt hb h1) hs
  · exact bhA_ok x.l b s s false (fun y hy => (hsub y hy).2) hb (HrG.refl hs)
termination_by x => x
decreasing_by exact Ex.sub_lt hy
def fwAt (F : List Nat) (nl : List Bool) (s : HR) : Nat → List Ex → Option HR
  | _, [] => none
  | i, x :: l => if s.2.getD i false = true ∧ (bhE F nl x (s.1.getD i 0) s).2 = true then some (bhE F nl x (s.1.getD i 0) s).1 else fwAt F nl s (i + 1) l
def fwRun (F : List Nat) (nl : List Bool) (bs : List Ex) : Nat → HR → HR
  | 0, s => s
  | n + 1, s => match fwAt F nl s 0 bs with
    | some t => fwRun F nl bs n t
    | none => s
theorem fwAt_some (hF : Lt64 F) {t : Int} {n : Nat} (ht : t ≤ 64) {s u : HR} (hs : HrI n s) : ∀ {l : List Ex} {i : Nat}, (∀ y ∈ l, okE t n y) → fwAt F nl s i l = some u → HrG n s u true
  | [], i, _, h => by rw [fwAt] at h; cases h
  | x :: l, i, hl, h => by
    rw [fwAt] at h
    split at h
    · rename_i c
      cases h
      have := bhE_ok (nl := nl) hF ht x (s.1.getD i 0) s (hl x (by simp)) (hs.lt i) hs
      rw [c.2] at this; exact this
    · exact fwAt_some hF ht hs (fun y hy => hl y (by simp [hy])) h
theorem fwAt_none {s : HR} : ∀ {l : List Ex} {i : Nat}, fwAt F nl s i l = none → ∀ k x, l[k]? = some x → s.2.getD (i + k) false = true → (bhE F nl x (s.1.getD (i + k) 0) s).2 = false
  | [], i, _, k, x, hk, _ => by simp at hk
  | y :: l, i, h, k, x, hk, hr => by
    rw [fwAt] at h
    split at h
    · cases h
    · rename_i c
      cases k with
      | zero =>
        simp only [List.getElem?_cons_zero, Option.some.injEq] at hk; subst hk
        cases e : (bhE F nl y (s.1.getD (i + 0) 0) s).2 with
        | false => rfl
        | true => exact absurd ⟨hr, e⟩ c
      | succ k =>
        have := fwAt_none h k x (by simpa using hk)
        rw [show i + 1 + k = i + (k + 1) by omega] at this
        exact this hr
theorem fwRun_ok (hF : Lt64 F) {t : Int} {n : Nat} (ht : t ≤ 64) {bs : List Ex} (ho : ∀ y ∈ bs, okE t n y) : ∀ (m : Nat) (s : HR), HrI n s → hrM s ≤ m → HrI n (fwRun F nl bs m s) ∧ SubL s.1 (fwRun F nl bs m s).1 ∧ (∀ k, s.2.getD k false = true → (fwRun F nl bs m s).2.getD k false = true) ∧ fwAt F nl (fwRun F nl bs m s) 0 bs = none ∧ ∀ k, hrM s ≤ k → fwRun F nl bs k s = fwRun F nl bs m s
  | 0, s, h, hm => by
    have hn : fwAt F nl s 0 bs = none := by
      cases e : fwAt F nl s 0 bs with
      | none => rfl
      | some G => have := (fwAt_some hF ht h ho e).less rfl; omega
    refine ⟨h, fun _ => Sub.refl _, fun _ h => h, hn, fun k _ => ?_⟩
    cases k with
    | zero => rfl
    | succ k => simp only [fwRun, hn]
  | m + 1, s, h, hm => by
    rw [fwRun]
    cases e : fwAt F nl s 0 bs with
    | none =>
      refine ⟨h, fun _ => Sub.refl _, fun _ h => h, e, fun k _ => ?_⟩
      cases k with
      | zero => rfl
      | succ k => rw [fwRun, e]
    | some u =>
      have g := fwAt_some hF ht h ho e
      have g2 := g.less rfl
      obtain ⟨q1, q2, q3, q4, q5⟩ := fwRun_ok hF ht ho m u g.i (by omega)
      refine ⟨q1, fun k => (g.sub k).trans (q2 k), fun k hk => q3 k (g.rs k hk), q4, fun k hk => ?_⟩
      cases k with
      | zero => omega
      | succ k => rw [fwRun, e]; exact q5 k (by omega)
end
def fw0 (n : Nat) : HR := (fr0 n, (List.replicate n false).set 0 true)
def fwG (g : Gr) : HR := fwRun (frG g) g.null g.bodies 2080 (fw0 g.bodies.length)
theorem fw0_I (n : Nat) : HrI n (fw0 n) := ⟨by simp [fw0, fr0], by simp [fw0], fun m => by show (fr0 n).getD m 0 < _; rw [fr0_get]; omega⟩
theorem fw0_M (n : Nat) : hrM (fw0 n) ≤ 65 * n := by
  have h1 : mdMeas (fw0 n).1 = 64 * n := fr0_meas n
  have h2 : (fw0 n).2.countP (fun b => !b) ≤ n := by
    have := List.countP_le_length (p := fun b => !b) (l := (fw0 n).2)
    rw [(fw0_I n).rl] at this; exact this
  unfold hrM; omega
theorem fwG_ok {g : Gr} (h : GOk g) : HrI g.rules.length (fwG g) ∧ (fwG g).2.getD 0 false = true ∧ (∀ (n : Nat) (x : Ex), g.bodies[n]? = some x → (fwG g).2.getD n false = true → (bhE (frG g) g.null x ((fwG g).1.getD n 0) (fwG g)).2 = false) ∧ ∀ k, hrM (fw0 g.bodies.length) ≤ k → fwRun (frG g) g.null g.bodies k (fw0 g.bodies.length) = fwG g := by
  have hbl : g.bodies.length = g.rules.length := by rw [Gr.bodies, List.length_map]
  have hle := h.le
  have hm := fw0_M g.bodies.length
  obtain ⟨h1, h2, h3, h4, h5⟩ := fwRun_ok (nl := g.null) (frG_ok h).1.lt h.tok (n := g.bodies.length) h.ok 2080 (fw0 g.bodies.length) (fw0_I _) (by omega)
  refine ⟨by rw [← hbl]; exact h1, h3 0 ?_, fun n x hx hr => ?_, fun k hk => h5 k hk⟩
  · have hp := h.pos
    unfold fw0
    show ((List.replicate _ false).set 0 true).getD 0 false = true
    rw [getD_setH, if_pos ⟨rfl, by simp; omega⟩]
  · have := fwAt_none h4 n x hx
    rw [Nat.zero_add] at this
    exact this hr
end Go.Am

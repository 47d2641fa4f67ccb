/- Part G0 of a proof that runs a program's calls on a small machine whose values bear no addresses: no conditions. -/
import Derived.Test.YtbppacknigeiaaaAmA6
import Derived.Test.YtbppacknigeiaaaAmF1
import Derived.Test.YtbppacknigeiaaaRows
import Derived.WalkKit
import Derived.ProofKit
import Derived.OpenShut
import Derived.JoinedCond
import Derived.Carry
set_option autoImplicit false
set_option linter.unusedSimpArgs false
set_option linter.unusedVariables false
set_option linter.unusedSectionVars false
namespace Go.Am
open Go Go.Proofs Go.Proofs.Ytbppacknigeiaaa
open Go.ChangeShapes Go.WideShapes Go.ChangeAt Go.RowKit

theorem Addr.add_add (a : Addr) (n m : Nat) : (a.add n).add m = a.add (n + m) := by
  unfold Addr.add
  by_cases hn : n = 0
  · subst hn; simp
  · by_cases hm : m = 0
    · subst hm; simp [hn]
    · simp [hn, hm, Nat.add_assoc]
theorem cells_get {w : World} {base n : Nat} {a : Addr} {vs : List Value} (h : w.cells? base a n = some vs) : vs.length = n ∧ ∀ i, i < n → w.cell? (a.add i) = vs[i]? := by
  unfold World.cells? at h
  split at h
  · have hl : ∀ (l : List Nat) (vs : List Value), l.mapM (fun i => w.cell? (a.add i)) = some vs → vs.length = l.length ∧ ∀ j, j < l.length → (l[j]?).bind (fun i => w.cell? (a.add i)) = vs[j]? := by
      intro l
      induction l with
      | nil => intro vs h; simp at h; subst h; simp
      | cons x l ih =>
        intro vs h
        rw [List.mapM_cons] at h
        cases hx : w.cell? (a.add x) with
        | none => simp [hx] at h
        | some v =>
          cases hr : l.mapM (fun i => w.cell? (a.add i)) with
          | none => simp [hx, hr] at h
          | some r =>
            simp [hx, hr] at h; subst h
            obtain ⟨h1, h2⟩ := ih r hr
            refine ⟨by simp [h1], fun j hj => ?_⟩
            cases j with
            | zero => simp [hx]
            | succ j => simp only [List.getElem?_cons_succ]; exact h2 j (by simpa using hj)
    obtain ⟨h1, h2⟩ := hl _ _ h
    rw [List.length_range] at h1
    refine ⟨h1, fun i hi => ?_⟩
    have := h2 i (by simpa using hi)
    rw [← this]; simp [hi]
  · cases h
theorem collect {α : Type} (P : Nat → α → Prop) : ∀ n, (∀ i, i < n → ∃ y, P i y) → ∃ l : List α, l.length = n ∧ ∀ i y, l[i]? = some y → P i y
  | 0, _ => ⟨[], rfl, by simp⟩
  | n + 1, h => by
    obtain ⟨l, h1, h2⟩ := collect P n fun i hi => h i (by omega)
    obtain ⟨y, hy⟩ := h n (by omega)
    refine ⟨l ++ [y], by simp [h1], fun i z hz => ?_⟩
    rw [List.getElem?_append] at hz
    split at hz
    · exact h2 i z hz
    · rename_i hi
      have : i = n := by
        have := List.getElem?_eq_some_iff.1 hz
        obtain ⟨h3, _⟩ := this; simp at h3; omega
      subst this
      rw [h1] at hz; simp at hz; subst hz; exact hy
/-- cells that data tells of -/
def DCells (M : Mem) (ds : List D) (vs : List Value) : Prop := vs.length = ds.length ∧ ∀ (j : Nat) (d : D), ds[j]? = some d → ∃ v, vs[j]? = some v ∧ DR M d v
theorem vrl_of {M : Mem} {β : Bt} : ∀ {ds : List D} {vs : List Value}, DCells M ds vs → VRL M β (ds.map A.d) vs
  | [], [], _ => .nil
  | [], _ :: _, h => by cases h.1
  | _ :: _, [], h => by cases h.1
  | d :: ds, v :: vs, h => by
    refine .cons (.d ?_) (vrl_of ⟨by simpa using h.1, fun j e he => ?_⟩)
    · obtain ⟨u, h1, h2⟩ := h.2 0 d rfl; simp at h1; subst h1; exact h2
    · obtain ⟨u, h1, h2⟩ := h.2 (j + 1) e (by simpa using he); exact ⟨u, by simpa using h1, h2⟩
/-- a slice that is read -/
theorem dr_slice {w : World} {base es : Nat} {a : Addr} {len cap : Nat} {xs : List (List D)} (hl : xs.length = len) (hc : len ≤ cap)
    (h : ∀ i x, xs[i]? = some x → x.length = es ∧ ∃ vs, w.cells? base (a.add (i * es)) es = some vs ∧ DCells w.cell? x vs) : DR w.cell? (.slc false xs) (.slice (some a) len cap) := by
  subst hl
  refine .slc xs a cap es (fun i j => (w.cell? (a.add (i * es + j))).getD default) hc (fun i x hx => (h i x hx).1) (fun i x j d hx hd => ?_) (fun i x j d hx hd => ?_)
  · obtain ⟨h1, vs, h2, h3⟩ := h i x hx
    obtain ⟨v, hv, _⟩ := h3.2 j d hd
    obtain ⟨e1, e2⟩ := cells_get h2
    have hj : j < es := by rw [← e1]; exact (List.getElem?_eq_some_iff.1 hv).1
    have := e2 j hj
    rw [Addr.add_add] at this
    rw [this, hv]; rfl
  · obtain ⟨h1, vs, h2, h3⟩ := h i x hx
    obtain ⟨v, hv, hdr⟩ := h3.2 j d hd
    obtain ⟨e1, e2⟩ := cells_get h2
    have hj : j < es := by rw [← e1]; exact (List.getElem?_eq_some_iff.1 hv).1
    have := e2 j hj
    rw [Addr.add_add] at this
    rw [this, hv]; exact hdr

theorem bulk_sum {H α : Type} (f : α → Nat) : ∀ (l : List α) (m : List (DataW H)), l.length = m.length → (∀ (i : Nat) (y : α) (d : DataW H), l[i]? = some y → m[i]? = some d → f y ≤ Rows.uptoBulk d) → (l.map f).sum ≤ Rows.uptoBulkAll m
  | [], m, _, _ => by simp
  | y :: l, [], h, _ => by cases h
  | y :: l, d :: m, h, hf => by
    have h1 := hf 0 y d rfl rfl
    have h2 := bulk_sum f l m (by simpa using h) fun i y d hy hd => hf (i + 1) y d (by simpa using hy) (by simpa using hd)
    simp only [List.map_cons, List.sum_cons, Rows.uptoBulkAll]; omega


end Go.Am

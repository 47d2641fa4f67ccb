/- Part U1 of a proof that runs a program's calls on a small machine whose values bear no addresses: no conditions. -/
import Derived.Test.YtlcadkgpojjokaaAmR1
set_option autoImplicit false
set_option linter.unusedSimpArgs false
set_option linter.unusedVariables false
set_option linter.unusedSectionVars false
namespace Go.Am
open Go Go.Proofs
variable {fz : Nat → Md}
theorem app_ex {es b : Nat} {τ : St} {a : A} {l : List (List D)} {bs : List Nat} {j : Nat} {x : List D} (hes : x.length = es) (hb : b ≤ 64) (r : RowN es τ a l bs) (hj : τ.get j = .cells (x.map A.d)) (hl : l.length < 2000000000) :
    ∃ a' τ' T bs', appendA es b τ a (.row j 0 1 es) = .val a' τ' T [] ∧ RowN es τ' a' (l ++ [x]) bs' ∧ Kept τ bs τ' bs' T ∧ a'.cells = some [a'] ∧ a'.isCell = true := by
  obtain ⟨a', τ', T, bs', h1, h2, h3⟩ := r.app (b := b) (x := .row j 0 1 es) (ys := [x]) (by rw [sliceCells_row hj (by simp [hes])]; simp; exact List.take_of_length_le (by simp [hes])) (by rw [sliceLen_row, hj]; rfl) (by simpa using hes) (by have := Nat.mul_le_mul (show l.length + [x].length ≤ 2000000001 by simp; omega) hb; omega) (by simp; omega)
  exact ⟨a', τ', T, bs', h1, h2, h3, h2.1.cells, h2.1.cell⟩
theorem fzD0 : (0 < fzDepth) = True := by unfold fzDepth; simp
theorem fzD1 : (0 < fzDepth - 1) = True := by unfold fzDepth; simp
theorem fzD2 : (0 < fzDepth - 1 - 1) = True := by unfold fzDepth; simp
end Go.Am

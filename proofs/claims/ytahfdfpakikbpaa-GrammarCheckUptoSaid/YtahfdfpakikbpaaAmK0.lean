/- Part K0 of a proof that runs a program's calls on a small machine whose values bear no addresses: no conditions. -/
import Derived.Test.YtahfdfpakikbpaaAmR1
set_option autoImplicit false
set_option linter.unusedSimpArgs false
set_option linter.unusedVariables false
set_option linter.unusedSectionVars false
namespace Go.Am
open Go Go.Proofs
def mdK : Nat → Md := fun f => match f with
  | 28 => .ora F28 | 31 => .ora F31 | 35 => .ora F35
  | _ => .cut
theorem oraK : ∀ f F, oraOf (mdK f) = some F → OraS Try.prog f F := by
  intro f F h
  unfold mdK at h
  split at h <;> cases h
  · exact ora28
  · exact ora31
  · exact ora35
theorem known_run : (callA (XX mdK) 100000 (.func 10 []) [] St.empty).map (·.1) = some (.d (.bool true)) := by kernel_rfl
theorem known_call : ∃ σ' T, CallsTo (XX mdK) (.func 10 []) [] St.empty (.d (.bool true)) σ' T := by
  have := known_run
  cases hc : callA (XX mdK) 100000 (.func 10 []) [] St.empty with
  | none => rw [hc] at this; cases this
  | some q =>
    obtain ⟨a, σ', T⟩ := q
    rw [hc] at this; cases this
    exact ⟨σ', T, 100000, hc⟩
end Go.Am

/- Part M7 of a proof that runs a program's calls on a small machine whose values bear no addresses: no conditions. -/
import Derived.Test.YtbppacknigeiaaaAmM6
set_option autoImplicit false
set_option linter.unusedSimpArgs false
set_option linter.unusedVariables false
set_option linter.unusedSectionVars false
namespace Go.Am
open Go Go.Proofs
set_option maxRecDepth 1000000
/-- modes under which the chapter's example runs -/
def mdN : Nat → Md := fun f => match f with
  | 33 => .ora F28 | 34 => .ora F35 | 35 => .ora F31
  | 19 | 52 | 48 | 46 | 13 | 27 | 28 | 29 | 30 | 31 | 38 | 16 | 51 | 45 => .ice
  | 11 | 39 | 40 | 79 | 80 | 88 => .keep
  | _ => .cut
theorem oraN : ∀ f F, oraOf (mdN f) = some F → OraS Try.prog f F := by
  intro f F h
  unfold mdN at h
  split at h <;> cases h
  · exact ora28
  · exact ora35
  · exact ora31
theorem works_run : (callA (XX mdN) 100000 (.func 10 []) [] St.empty).map (·.1) = some (.d (.bool true)) := by kernel_rfl
def F10 : List A → Option A
  | [] => some (.d (.bool true))
  | _ => none
theorem ora10 : OraS Try.prog 10 F10 := by
  refine oraS_of (fz := mdN) oraN mixedT fun args r h => ?_
  unfold F10 at h
  split at h
  · cases h
    refine ⟨rfl, ?_⟩
    have := works_run
    cases hc : callA (XX mdN) 100000 (.func 10 []) [] St.empty with
    | none => rw [hc] at this; cases this
    | some q =>
      obtain ⟨a, σ', T⟩ := q
      rw [hc] at this; cases this
      exact ⟨σ', T, 100000, hc⟩
  · cases h
end Go.Am

/- Part HE of a proof that runs a program's calls on a small machine whose values bear no addresses: no conditions. -/
import Derived.Test.YtbppacknigeiaaaDoorAmHD
set_option autoImplicit false
set_option linter.unusedSimpArgs false
set_option linter.unusedVariables false
set_option linter.unusedSectionVars false
namespace Go.Am
open Go Go.Proofs
set_option maxRecDepth 1000000
def mdW : Nat → Md := fun f => match f with
  | 30 => .ora F28 | 13 => .ora F13 | 15 => .ora F15 | 19 => .ora F19
  | _ => .cut
theorem oraW : ∀ f F, oraOf (mdW f) = some F → OraS Tryd.prog f F := by
  intro f F h
  unfold mdW at h
  split at h <;> cases h
  · exact ora28
  · exact ora13
  · exact ora15
  · exact ora19
theorem works_run : (callA (XX mdW) 100000 (.func 11 []) [] St.empty).map (·.1) = some (.d (.bool true)) := by kernel_rfl
def F11 : List A → Option A
  | [] => some (.d (.bool true))
  | _ => none
theorem ora11 : OraS Tryd.prog 11 F11 := by
  refine oraS_of (fz := mdW) oraW mixedT fun args r h => ?_
  unfold F11 at h
  split at h
  · cases h
    refine ⟨rfl, ?_⟩
    have := works_run
    cases hc : callA (XX mdW) 100000 (.func 11 []) [] St.empty with
    | none => rw [hc] at this; cases this
    | some q =>
      obtain ⟨a, σ', T⟩ := q
      rw [hc] at this; cases this
      exact ⟨σ', T, 100000, hc⟩
  · cases h
end Go.Am

/- Part J1 of a proof that runs a program's calls on a small machine whose values bear no addresses: no conditions. -/
import Derived.Test.YtbppacknigeiaaaDoorAmX1
import Derived.Test.YtbppacknigeiaaaDoorAmH2
import Derived.Test.YtbppacknigeiaaaDoorAmT2
import Derived.Test.YtbppacknigeiaaaDoorAmV0
import Derived.Test.YtbppacknigeiaaaDoorAmU1
set_option autoImplicit false
set_option linter.unusedSimpArgs false
set_option linter.unusedVariables false
set_option linter.unusedSectionVars false
namespace Go.Am
open Go
section
variable {bs : List Ex} {q : Int → Bool} {t : Int} {rk : Nat → Nat}
end
end Go.Am
namespace Go.Am
open Go Go.Proofs
variable {fz : Nat → Md}
def eqI (a b : List Int) : Bool := decide (a = b)
end Go.Am
namespace Go.Am
open Go Go.Proofs
variable {fz : Nat → Md}
structure SRow (σ : St) (k : Nat) (K : List (Option (List Int))) : Prop where
  ex : ∃ cs, σ.get k = .cells cs ∧ cs.length = K.length * 2 ∧ ∀ (i : Nat) (o : Option (List Int)), K[i]? = some o → ∃ z, (cs.drop (i * 2)).take 2 = [.d (.bool o.isSome), .d (.slc z (intsD (o.getD [])))]
theorem SRow.stay {σ τ : St} {k : Nat} {K : List (Option (List Int))} (h : SRow σ k K) (hg : τ.get k = σ.get k) : SRow τ k K := by
  obtain ⟨cs, h1, h2, h3⟩ := h.ex
  exact ⟨cs, by rw [hg]; exact h1, h2, h3⟩
end Go.Am

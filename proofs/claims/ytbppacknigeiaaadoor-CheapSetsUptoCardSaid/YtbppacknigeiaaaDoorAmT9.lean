/- Part T9 of a proof that runs a program's calls on a small machine whose values bear no addresses: no conditions. -/
import Derived.Test.YtbppacknigeiaaaDoorAmT2
set_option autoImplicit false
set_option linter.unusedSimpArgs false
set_option linter.unusedVariables false
set_option linter.unusedSectionVars false
namespace Go.Am
open Go Go.Proofs
def shX (bs : List Ex) : Nat → List (Option (List Int)) → Option (List (Option (List Int)))
  | 0, _ => none
  | n + 1, K => if (shPass bs 0 K false).2 = true then shX bs n (shPass bs 0 K false).1 else some (shPass bs 0 K false).1
theorem shX_ok {bs : List Ex} {t : Int} (hok : ∀ y ∈ bs, okE t bs.length y) (ht : t ≤ 64) : ∀ (n : Nat) (K R : List (Option (List Int))), KOk bs K → shX bs n K = some R → ∀ m, meas K < m → shF bs m K = R
  | 0, K, R, _, h, _, _ => by cases h
  | n + 1, K, R, hK, h, m, hm => by
    obtain ⟨m, rfl⟩ : ∃ q, m = q + 1 := ⟨m - 1, by omega⟩
    obtain ⟨p1, p2, p3⟩ := shPass_ok hok ht bs 0 K false (fun k x h => by rw [Nat.zero_add]; exact h) hK
    rw [shX] at h
    rw [shF]
    split
    · rename_i hh
      rw [if_pos hh] at h
      exact shX_ok hok ht n _ R p1 h m (by have := p3 rfl hh; omega)
    · rename_i hh
      rw [if_neg hh] at h
      exact Option.some.inj h
end Go.Am

/- Part N3 of a proof that runs a program's calls on a small machine whose values bear no addresses: no conditions. -/
import Derived.Test.YtbppacknigeiaaaAmN1
import Derived.Test.YtbppacknigeiaaaAmN2
import Derived.KernelRfl
set_option autoImplicit false
set_option linter.unusedSimpArgs false
set_option linter.unusedVariables false
set_option linter.unusedSectionVars false
namespace Go.Am
open Go Go.Proofs
set_option maxRecDepth 1000000
/-- rules that double, and the first example, as networks -/
def dNv : Nv := ⟨[[⟨2, 1, 2⟩], [], [⟨2, 1, 1⟩], [⟨2, 2, 5⟩], [], [⟨2, 2, 4⟩], [⟨2, 3, 8⟩], [], [⟨2, 3, 7⟩], [⟨2, 4, 11⟩], [], [⟨2, 4, 10⟩], [⟨2, 5, 14⟩], [], [⟨2, 5, 13⟩], [⟨2, 6, 17⟩], [], [⟨2, 6, 16⟩], [⟨2, 7, 20⟩], [], [⟨2, 7, 19⟩], [⟨2, 8, 23⟩], [], [⟨2, 8, 22⟩], [⟨2, 9, 26⟩], [], [⟨2, 9, 25⟩], [⟨1, 1, 28⟩], []], [0, 0, 0, 1, 1, 1, 2, 2, 2, 3, 3, 3, 4, 4, 4, 5, 5, 5, 6, 6, 6, 7, 7, 7, 8, 8, 8, 9, 9]⟩
def dNx : Nx := ⟨[0, 3, 6, 9, 12, 15, 18, 21, 24, 27], [1, 4, 7, 10, 13, 16, 19, 22, 25, 28], [[], List.replicate 256 1, List.replicate 128 1, List.replicate 64 1, List.replicate 32 1, List.replicate 16 1, List.replicate 8 1, List.replicate 4 1, List.replicate 2 1, List.replicate 1 1], [true, false, false, false, false, false, false, false, false, false]⟩
def aNv : Nv := ⟨[[⟨2, 1, 2⟩], [], [⟨0, 0, 4⟩, ⟨0, 0, 5⟩], [⟨0, 0, 7⟩, ⟨0, 0, 6⟩], [⟨1, 1, 3⟩], [⟨0, 0, 3⟩], [⟨1, 3, 1⟩], [⟨1, 2, 6⟩], [⟨0, 0, 9⟩], []], [0, 0, 0, 0, 0, 0, 0, 0, 1, 1]⟩
def aNx : Nx := ⟨[0, 8], [1, 9], [[3], []], [false, false]⟩
def nets : List (Nv × Nx) := [(aNv, aNx), (dNv, dNx)]
def F13 : List A → Option A
  | [.d .nptr, .d (.int .i64 _)] => some (.tup [.d (.slc true []), .d (.int .i64 1)])
  | [.d (.vptr cs 0), .d (.int .i64 s)] => if beqL cs zeroD = true then some (.tup [.d (.slc true []), .d (.int .i64 1)]) else
    match nets.find? fun p => beqL cs (netC p.1 p.2) with
    | some p => if okNX p.1 p.2 = true ∧ (s < 0 ∨ s ≥ p.1.es.length) then some (.tup [.d (.slc true []), .d (.int .i64 9)]) else shNX p.1 p.2 s
    | none => none
  | _ => none
theorem ora13 : OraS Try.prog 13 F13 := by
  refine oraS_of (fz := mdS) oraMS mixedT fun args r h => ?_
  unfold F13 at h
  split at h
  · cases h; exact ⟨rfl, _, _, short_n rfl rfl rfl _ St.empty⟩
  · rename_i cs s
    split at h
    · rename_i hz
      cases h
      rw [beqL_eq _ _ hz]
      exact ⟨rfl, _, _, short_z rfl rfl rfl _ St.empty⟩
    · split at h
      · rename_i p hp
        have hc0 := List.find?_some (p := fun p : Nv × Nx => beqL cs (netC p.1 p.2)) hp
        have hc := beqL_eq cs (netC p.1 p.2) hc0
        subst hc
        split at h
        · rename_i hc2
          cases h
          exact ⟨rfl, _, _, short_o rfl rfl rfl p.2 (okNX_iff hc2.1).2.ne s hc2.2 St.empty⟩
        · obtain ⟨q1, q2⟩ := shNX_call h St.empty
          exact ⟨q1, _, _, q2⟩
      · cases h
  · cases h
/-- modes under which the closed statement runs -/
def mdNL : Nat → Md := fun f => match f with
  | 10 => .ora F10 | 11 => .ora F11 | 13 => .ora F13 | 33 => .ora F28
  | 16 | 48 | 51 => .ice
  | _ => .cut
theorem oraNL : ∀ f F, oraOf (mdNL f) = some F → OraS Try.prog f F := by
  intro f F h
  unfold mdNL at h
  split at h <;> cases h
  · exact ora10
  · exact ora11
  · exact ora13
  · exact ora28
end Go.Am
namespace Go.Am
open Go Go.Proofs
set_option maxRecDepth 1000000
theorem known_run : (callA (XX mdNL) 100000 (.func 7 []) [] St.empty).map (·.1) = some (.d (.bool true)) := by
  rw [XX_XT]
  kernel_rfl
theorem known_call : ∃ σ' T, CallsTo (XX mdNL) (.func 7 []) [] St.empty (.d (.bool true)) σ' T := by
  have := known_run
  cases hc : callA (XX mdNL) 100000 (.func 7 []) [] St.empty with
  | none => rw [hc] at this; cases this
  | some q =>
    obtain ⟨a, σ', T⟩ := q
    rw [hc] at this; cases this
    exact ⟨σ', T, 100000, hc⟩
end Go.Am

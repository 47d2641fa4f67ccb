/- Part KD of a proof that runs a program's calls on a small machine whose values bear no addresses: no conditions. -/
import Derived.Test.YtlcadkgpojjokaaAmKC
set_option autoImplicit false
set_option linter.unusedSimpArgs false
set_option linter.unusedVariables false
set_option linter.unusedSectionVars false
namespace Go.Am
open Go Go.Proofs
theorem simV_ok {g : Gr} (h : checkP g = 0) : simV g = (.vptr (simC (newN g).N (newX g) (clD (newN g).N)) 0, 0) := by unfold simV; rw [if_neg (by rw [h]; simp)]
theorem simV_no {g : Gr} (h : checkP g ≠ 0) : simV g = (.nptr, checkP g) := by unfold simV; rw [if_pos (by simpa using h)]
theorem SpOk.move {N : Nv} {s t : Nat} {B : List Nat} (h : SpOk N s B) (ht : t < N.es.length) (hr : N.rule t = N.rule s) : SpOk N t B := ⟨ht, h.bs, hr ▸ h.ch, h.ln⟩
theorem SpOk.call {N : Nv} {X : Nx} {R : Nat} (hN : NetG N X R) {s : Nat} {B : List Nat} {r : List Eg} {e : Eg} (h : SpOk N s B) (h1 : N.es[s]? = some r) (h2 : e ∈ r) (h3 : e.kind = 2) (hl : B.length < 8192) : SpOk N (X.ent e.num.toNat) (e.to :: B) := by
  obtain ⟨k1, k2, k3, k4, k5, k6⟩ := hN.ed s r h1 e h2
  obtain ⟨q1, q2, q3⟩ := hN.en _ (k6 h3)
  refine ⟨q1, fun b hb => ?_, ⟨?_, ?_⟩, by simp only [List.length_cons]; omega⟩
  · rcases List.mem_cons.1 hb with rfl | hb
    · exact k4
    · exact h.bs b hb
  · rw [q3, Int.toNat_of_nonneg k3]; exact clX_mem h1 h2 h3
  · rw [k5]; exact h.ch
end Go.Am

/- Part W0 of a proof that runs a program's calls on a small machine whose values bear no addresses: no conditions. -/
import Derived.Test.YtbppacknigeiaaaDoorAmU1
set_option autoImplicit false
set_option linter.unusedSimpArgs false
set_option linter.unusedVariables false
set_option linter.unusedSectionVars false
namespace Go.Am
open Go Go.Proofs
theorem cp_sz : ∀ x : Ex, x.cp.sz = x.sz
  | .mk k n z l => by
    rw [Ex.cp, Ex.sz, Ex.sz, cpL_map]
    have : (l.map Ex.cp).map Ex.sz = l.map Ex.sz := by
      rw [List.map_map]; exact List.map_congr_left fun y hy => cp_sz y
    rw [this]
theorem cp_kind (x : Ex) : x.cp.kind = x.kind := by cases x; rw [Ex.cp]; rfl
theorem cp_num (x : Ex) : x.cp.num = x.num := by cases x; rw [Ex.cp]; rfl
theorem cp_l (x : Ex) : x.cp.l = x.l.map Ex.cp := by cases x; rw [Ex.cp, cpL_map]; rfl
theorem any_congrM {α : Type} {l : List α} {p q : α → Bool} (h : ∀ x ∈ l, p x = q x) : l.any p = l.any q := by
  induction l with
  | nil => rfl
  | cons a l ih => rw [List.any_cons, List.any_cons, h a (by simp), ih fun x hx => h x (by simp [hx])]
theorem canE_cp (tok : Bool) (q : Int → Bool) : ∀ x : Ex, canE tok q x.cp = canE tok q x := fun x => by
  rw [canE_eq, canE_eq, cp_kind, cp_num, cp_l]
  have h1 : (x.l.map Ex.cp).any (canE tok q) = x.l.any (canE tok q) := by
    rw [List.any_map]; exact any_congrM fun y hy => canE_cp tok q y
  have h2 : ((x.l.map Ex.cp).any fun y => !canE tok q y) = x.l.any fun y => !canE tok q y := by
    rw [List.any_map]; exact any_congrM fun y hy => by simp only [Function.comp, canE_cp tok q y]
  rw [h1, h2]
termination_by x => x
decreasing_by all_goals exact Ex.sub_lt hy
theorem canE_mono {tok : Bool} {q q' : Int → Bool} {t : Int} {r : Nat} (hq : ∀ m : Int, 0 ≤ m → m < r → q m = true → q' m = true) : ∀ x : Ex, okE t r x → canE tok q x = true → canE tok q' x = true := fun x ho h => by
  rw [canE_eq] at h ⊢
  split
  · rename_i k; rw [if_pos k] at h; exact h
  rename_i k1; rw [if_neg k1] at h
  split
  · rename_i k; rw [if_pos k] at h; exact hq _ (ho.call k).1 (ho.call k).2 h
  rename_i k2; rw [if_neg k2] at h
  split
  · rename_i k
    rw [if_pos k] at h
    obtain ⟨y, hy, hc⟩ := List.any_eq_true.1 h
    exact List.any_eq_true.2 ⟨y, hy, canE_mono hq y (ho.sub hy) hc⟩
  rename_i k4; rw [if_neg k4] at h
  split
  · rename_i k
    rw [if_pos k] at h
    rw [Bool.not_eq_true', List.any_eq_false] at h ⊢
    intro y hy
    have := h y hy
    simp only [Bool.not_eq_true, Bool.not_eq_false'] at this ⊢
    exact canE_mono hq y (ho.sub hy) this
  · rfl
termination_by x => x
decreasing_by all_goals exact Ex.sub_lt hy
end Go.Am

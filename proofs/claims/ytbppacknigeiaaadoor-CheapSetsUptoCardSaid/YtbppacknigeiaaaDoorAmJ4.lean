/- Part J4 of a proof that runs a program's calls on a small machine whose values bear no addresses: no conditions. -/
import Derived.Test.YtbppacknigeiaaaDoorAmJ1
import Derived.Test.YtbppacknigeiaaaDoorAmH3
import Derived.Test.YtbppacknigeiaaaDoorAmZ1
import Derived.Test.YtbppacknigeiaaaDoorAmHE
import Derived.Test.YtbppacknigeiaaaDoorAmU1
set_option autoImplicit false
set_option linter.unusedSimpArgs false
set_option linter.unusedVariables false
set_option linter.unusedSectionVars false
namespace Go.Am
open Go Go.Proofs
variable {fz : Nat → Md}
theorem rep_len (n : Nat) (z : List A) : (rep n z).length = n * z.length := by
  induction n with
  | zero => simp [rep]
  | succ n ih => rw [rep_succ, List.length_append, ih, Nat.succ_mul]; omega
theorem rep_at {n i : Nat} {a b : A} (h : i < n) : ((rep n [a, b]).drop (i * 2)).take 2 = [a, b] := by
  induction n generalizing i with
  | zero => omega
  | succ n ih =>
    rw [rep_succ]
    cases i with
    | zero => rfl
    | succ i =>
      have : (i + 1) * 2 = [a, b].length + i * 2 := by simp; omega
      rw [this, List.drop_append]
      simp only [Nat.add_sub_cancel_left]
      rw [List.drop_eq_nil_of_le (by simp), List.nil_append]
      exact ih (by omega)
theorem SRow.zero {σ : St} {k n : Nat} (h : σ.get k = .cells (rep n [.d (.bool false), .d (.slc true [])])) : SRow σ k (List.replicate n none) :=
  ⟨_, h, by rw [rep_len, List.length_replicate]; rfl, fun i o ho => by
    obtain ⟨h1, rfl⟩ := List.getElem?_eq_some_iff.1 ho
    rw [List.length_replicate] at h1
    exact ⟨true, by rw [rep_at h1]; simp; rfl⟩⟩
theorem pair_at {cs : List A} {i j : Nat} {a b : A} (hi : i * 2 + 2 ≤ cs.length) : ((putAt cs (i * 2) [a, b]).drop (j * 2)).take 2 = if j = i then [a, b] else (cs.drop (j * 2)).take 2 := by
  have hl : (putAt cs (i * 2) [a, b]).length = cs.length := by simp [putAt]
  apply List.ext_getElem?
  intro n
  rw [List.getElem?_take, List.getElem?_drop]
  simp only [putAt]
  by_cases hn : n < 2
  · rw [if_pos hn]
    by_cases e : j = i
    · subst e
      rw [if_pos rfl]
      rcases Nat.lt_or_ge n 1 with q | q
      · obtain rfl : n = 0 := by omega
        rw [List.getElem?_set_ne (by omega), Nat.add_zero, List.getElem?_set_self (by omega)]; rfl
      · obtain rfl : n = 1 := by omega
        rw [List.getElem?_set_self (by rw [List.length_set]; omega)]; rfl
    · rw [if_neg e, List.getElem?_set_ne (by omega), List.getElem?_set_ne (by omega), List.getElem?_take, if_pos hn, List.getElem?_drop]
  · rw [if_neg hn]
    split
    · rw [List.getElem?_eq_none (by simp; omega)]
    · rw [List.getElem?_take, if_neg hn]
theorem SRow.put {σ : St} {k : Nat} {K : List (Option (List Int))} {cs : List A} (h : SRow σ k K) (hk : σ.get k = .cells cs) {i : Nat} (hi : i < K.length) (o : Option (List Int)) (z : Bool) : SRow (σ.set k (.cells (putAt cs (i * 2) [.d (.bool o.isSome), .d (.slc z (intsD (o.getD [])))]))) k (K.set i o) := by
  obtain ⟨cs', h1, h2, h3⟩ := h.ex
  rw [hk] at h1; cases h1
  refine ⟨_, St.get_set_eq, by simp [putAt]; exact h2, fun j p hp => ?_⟩
  rw [pair_at (by omega)]
  by_cases e : j = i
  · subst e
    rw [List.getElem?_set_self hi] at hp; cases hp
    exact ⟨z, by rw [if_pos rfl]⟩
  · rw [List.getElem?_set_ne (Ne.symm e)] at hp
    rw [if_neg e]
    exact h3 j p hp
end Go.Am
namespace Go.Am
open Go Go.Proofs
variable {fz : Nat → Md}
theorem checkP_cp (g : Gr) : checkP g.cp = checkP g := by rw [← chk_is, ← chk_is, chkR_cp]
end Go.Am

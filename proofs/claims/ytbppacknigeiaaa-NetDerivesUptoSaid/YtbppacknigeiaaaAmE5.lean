/- Part E5 of a proof that runs a program's calls on a small machine whose values bear no addresses: no conditions. -/
import Derived.Test.YtbppacknigeiaaaAmE4
set_option autoImplicit false
set_option linter.unusedSimpArgs false
set_option linter.unusedVariables false
set_option linter.unusedSectionVars false
namespace Go.Am
open Go Go.Proofs
variable {fz : Nat → Md}
noncomputable def bitsG (bs : List Ex) (l : List Int) (L : Nat) (r p : Nat) : List Bool := (List.range (L + 1)).map fun k => match bs[r]? with
  | some y => derB bs l y p k
  | none => false
theorem bitsG_len {bs : List Ex} {l : List Int} {L r p : Nat} : (bitsG bs l L r p).length = L + 1 := by simp [bitsG]
theorem bitsG_iff {bs : List Ex} {l : List Int} {L r p k : Nat} (hk : k ≤ L) : (bitsG bs l L r p).getD k false = true ↔ ∃ y, bs[r]? = some y ∧ Der bs l y p k := by
  have : (bitsG bs l L r p).getD k false = match bs[r]? with
    | some y => derB bs l y p k
    | none => false := by
    unfold bitsG
    rw [List.getD_eq_getElem?_getD, List.getElem?_map, List.getElem?_range (by omega)]; rfl
  rw [this]
  cases bs[r]? with
  | none => simp
  | some y => simp [derB_iff]
/-- every call of a rule -/
theorem rule_all (h36 : fz 36 = .cut) (h78 : fz 78 = .ice) {P : WP} (hP : P.Ok) {g : Gr} (hs : SmallG g) (hc : checkP g = 0) {l : List Int} {z : Bool} (hn : P.n = g.rules.length) (hL : l.length = P.L) (hL2 : P.L ≤ 64) :
    ∀ (m r i : Nat), r < P.n → i ≤ P.L → (P.L - i) * (g.bodies.length + 1) + rkOf g.bodies (qOf g.null) r < m → RuleSpec fz P (newN g).N (newX g) (.slc z (intsD l)) (bitsG g.bodies l P.L) r i
  | 0, _, _, _, _, h => by omega
  | m + 1, r, i, hr, hi, hm => by
    have h := GOk.of hc
    have w := newN_W h
    have hR := (Ranked.of_check hs hc).1
    have hbl : g.bodies.length = g.rules.length := by rw [Gr.bodies, List.length_map]
    have hrl : r < g.rules.length := by omega
    obtain ⟨a, a1, a2, -⟩ := w.ene r hrl
    obtain ⟨b, -, c2, -, -⟩ := w.lve r hrl
    have hy : g.bodies[r]? = some g.bodies[r] := List.getElem?_eq_getElem (by omega)
    refine rule_c36 h36 hP hr hi (by show r < (newN g).en.length; rw [w.enl]; exact hrl) (by show r < (newN g).lv.length; rw [w.lvl]; exact hrl) ?_
    refine from_c h78 hP (newN_fits h) (by omega) hL hL2 a2 c2 a1 hi (fun s row h1 e h2 => ?_) (fun _ _ => bitsG_len) (fun n p k _ hk => bitsG_iff hk) (fun s p row hRp hpL h1 e h2 he => ?_) (fun k hk => ?_)
    · obtain ⟨q1, q2, q3, q4, -⟩ := (newN_sound h).ed row (List.mem_of_getElem? h1) e h2
      exact ⟨q1, q2, q3, q4⟩
    · obtain ⟨-, -, q3, -, q5, -⟩ := (newN_sound h).ed row (List.mem_of_getElem? h1) e h2
      obtain ⟨r1, r2⟩ := rch_rank h hR hrl hy a2 c2 hRp
      refine rule_all h36 h78 hP hs hc hn hL hL2 m _ _ (by have := q5 he; omega) hpL ?_
      rcases Nat.lt_or_ge i p with hip | hip
      · have h1 := hR.top e.num.toNat
        have h2 : (P.L - p + 1) * (g.bodies.length + 1) ≤ (P.L - i) * (g.bodies.length + 1) := Nat.mul_le_mul_right _ (by omega)
        rw [Nat.add_mul] at h2
        omega
      · obtain rfl : p = i := by omega
        have := r2 rfl row h1 e h2 he
        omega
    · rw [bitsG_iff hk]
      rw [rch_der h hrl hy a2 c2]
      constructor
      · rintro ⟨y, e1, e2⟩; rw [hy] at e1; cases e1; exact e2
      · intro q; exact ⟨_, hy, q⟩
end Go.Am

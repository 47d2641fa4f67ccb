/- Part C2 of a proof that runs a program's calls on a small machine whose values bear no addresses: no conditions. -/
import Derived.Test.YtahfdfpakikbpaaAmG1
set_option autoImplicit false
set_option linter.unusedSimpArgs false
set_option linter.unusedVariables false
set_option linter.unusedSectionVars false
namespace Go.Proofs.Ytahfdfpakikbpaa.treeCounts
open Go Go.Am Go.Proofs
open Go.ChangeShapes Go.WideShapes Go.ChangeAt Go.RowKit

theorem own : ownKnob Try.prog.godebug = none := by kernel_rfl
theorem mixed : Try.prog.follows .mixedOrders = true := by kernel_rfl

set_option maxRecDepth 100000 in
theorem contract (H : Type) (enc : TypeId × Value → H) (W : World) (base : Nat) (args : Array Value) (ds gs : List (DataW H)) (before : List MemPlace)
    (hval : ∀ (j : Nat) t v, Try.f3.params[j]? = some t → args[j]? = some v → Value.okWide Try.prog W .any base t v)
    (hW : DataW.Whole enc Try.prog Try.f3.params.toList Rows.treeCountsSpec.vars false W args.toList ds gs before) (hk : Rows.uptoSmall H (ds ++ gs) = true) :
    Calls Try.prog 3 args W fun e W' => ∃ v, e = .returned v ∧ Rows.treeCountsSpec.post enc Try.prog Try.f3 false true false false W args v W' := by
  have hW' := hW
  obtain ⟨p, q, hA0, hV, rfl, hfz, hnd⟩ := hW
  have hA : DataW.TrodAll enc Try.prog W 0 (fun _ => true) true Try.f3.params.toList args.toList ds p := hA0
  rw [Try.params3] at hA hval
  obtain ⟨v0, vs0, d0, ds0, p0, q0, hargs, rfl, rfl, h0, r0⟩ := trodAll_cons hA
  obtain ⟨rfl, rfl, rfl⟩ := trodAll_nil r0
  obtain rfl : args = #[v0] := by cases args; simp_all
  obtain ⟨rfl, rfl⟩ := trodVars_none hV
  have hv0 : Value.okWide Try.prog W .any base 24 v0 := hval 0 24 v0 (by rfl) (by rfl)
  obtain ⟨cs, hcs, hsz⟩ := okWide_struct Try.underlying24 hv0
  clear hv0 hsz
  subst hcs
  clear hA0
  simp only [List.append_nil] at hW' hk
  have h0' := h0
  obtain ⟨fuel, h0⟩ := h0
  obtain ⟨x, hx1, hx2⟩ := node_of fuel _ _ h0
  have hb : Rows.uptoBulkAll [d0] ≤ 1048576 := of_decide_eq_true hk
  simp only [Rows.uptoBulkAll, Nat.add_zero] at hb
  have hx3 : x.sz ≤ Rows.uptoBulk d0 := hx2
  have hsm : Small x := by unfold Small; omega
  obtain ⟨σ', T, hc⟩ := counts_call x hsm
  have hvr : VRL (allM W) (fun _ => .absent) [x.a] [.agg cs] := by
    refine .cons ?_ .nil
    have := vrl_of (β := fun _ => .absent) hx1
    rw [Node.cs_map] at this
    have h2 := VR.agg this
    have h3 : VR W.cell? (fun _ => .absent) (A.agg x.c) (Value.agg cs) := by simpa [Value.cells] using h2
    exact h3
  refine (calls_top (fz := mdC) mixed hc hvr).mono fun e W' ⟨v, he, ⟨M', β', hv⟩, hg, hold⟩ => ?_
  obtain rfl : v = .bool true := by cases hv with | d h => cases h; rfl
  have hlt : ∀ p ∈ p0, p.block < W.heap.size := fun p hp => by have := hW'.lt p hp; exact this
  have hsame : ∀ p ∈ p0, W.sameAt W' p := fun p hp => by
    cases p with
    | cell b o => exact World.cell?_of_block (w := W) (hold b (hlt _ hp))
    | map b => exact hold b (hlt _ hp)
  exact ⟨_, he, post_of_same (pa := p0) (pv := []) hW' (fun _ _ _ => trodAll_cons_mk (shut_bool Try.underlying4 _) trodAll_mk0)
    (fun sp hs => by
      have := trodAll_cons_mk (WideElems.Trod_stays (sp' := sp) (by kernel_rfl) (by kernel_rfl) (by decide +kernel) h0' hsame hs) trodAll_mk0
      rw [List.append_nil] at this; exact this) (fun _ _ => rfl) (by simp)
    (hg.frame _) hg.2.1 (ok_one (by kernel_rfl) rfl (okWide_bool_mk Try.underlying4 _))⟩

set_option maxRecDepth 100000 in
theorem lifted (os : Os) (started : os.Started) (H : Type) (enc : TypeId × Value → H) (F : Stop.Interp) :
    ReturnsInHanded {} Try.checked os 3 .any ((Rows.OpenSpec.upto Rows.treeCountsSpec).pre6 enc Try.prog Try.f3 Rows.treeCountsUptoRow.domain false) (((Rows.OpenSpec.upto Rows.treeCountsSpec).at F).post enc Try.prog Try.f3 false true false false) := by
  refine returnsInHanded_of_cond (C := Try.checked) (s := Rows.OpenSpec.upto Rows.treeCountsSpec) (k := Rows.uptoSmall) rfl own started (by kernel_rfl) Try.func3
    (OpenSpec.witness (enc := enc) (C := Try.checked) (s := Rows.OpenSpec.upto Rows.treeCountsSpec) (k := Rows.uptoSmall) rfl false ⟨#[], #[.agg #[.int .i64 0, .int .i64 0, .int .i64 0, .slice none 0 0]], []⟩ 8 (by kernel_rfl) (by kernel_rfl) (by kernel_rfl)
      (x := ([.agg [.lit (.int .i64 0), .lit (.int .i64 0), .lit (.int .i64 0), .nil]], [], [])) (by kernel_rfl) rfl (by kernel_rfl)) ?_
  intro W base args ds gs before hval hW _ hk _
  exact contract H enc W base args ds gs before hval hW hk

theorem proved : Rows.TreeCountsUptoSaid :=
  OpenClaim.holds_of_cond 3 Try.f3 rfl rfl rfl rfl rfl rfl rfl ⟨rfl, rfl, rfl, rfl, rfl⟩ rfl rfl rfl rfl rfl (by kernel_rfl) Try.func3 (by kernel_rfl)
    (of_decide_eq_true (by kernel_rfl)) (by unfold Func.isWrapper; first | (rw [if_pos (by decide +kernel)]; kernel_rfl) | (rw [if_neg (by decide +kernel)]; exact ⟨rfl, rfl⟩))
    (fun os started H enc _ F => lifted os started H enc F)
end Go.Proofs.Ytahfdfpakikbpaa.treeCounts


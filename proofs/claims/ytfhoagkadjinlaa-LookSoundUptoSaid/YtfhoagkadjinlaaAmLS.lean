/- Part LS of a proof that runs a program's calls on a small machine whose values bear no addresses: no conditions. -/
import Derived.Test.YtfhoagkadjinlaaAmSJ
import Derived.Test.YtfhoagkadjinlaaAmG0
set_option autoImplicit false
set_option linter.unusedSimpArgs false
set_option linter.unusedVariables false
set_option linter.unusedSectionVars false
namespace Go.Proofs.Ytfhoagkadjinlaa.lookSound
open Go Go.Am Go.Proofs
open Go.ChangeShapes Go.WideShapes Go.ChangeAt Go.RowKit
theorem own : ownKnob Try.prog.godebug = none := by kernel_rfl
theorem mixed : Try.prog.follows .mixedOrders = true := by kernel_rfl
set_option maxRecDepth 100000 in
theorem contract (H : Type) (enc : TypeId × Value → H) (W : World) (base : Nat) (args : Array Value) (ds gs : List (DataW H)) (before : List MemPlace)
 (hval : ∀ (j : Nat) t v, Try.f6.params[j]? = some t → args[j]? = some v → Value.okWide Try.prog W .any base t v)
 (hW : DataW.Whole enc Try.prog Try.f6.params.toList Rows.lookSoundSpec.vars false W args.toList ds gs before) (hk : Rows.uptoSmall H (ds ++ gs) = true) :
 Calls Try.prog 6 args W fun e W' => ∃ v, e = .returned v ∧ Rows.lookSoundSpec.post enc Try.prog Try.f6 false true false false W args v W' := by
 have hW' := hW
 obtain ⟨p, q, hA0, hV, rfl, hfz, hnd⟩ := hW
 have hA : DataW.TrodAll enc Try.prog W 0 (fun _ => true) true Try.f6.params.toList args.toList ds p := hA0
 rw [Try.params6] at hA hval
 obtain ⟨v0, vs0, d0, ds0, p0, q0, hargs, rfl, rfl, h0, r0⟩ := trodAll_cons hA
 obtain ⟨v1, vs1, d1, ds1, p1, q1, rfl, rfl, rfl, h1, r1⟩ := trodAll_cons r0
 obtain ⟨v2, vs2, d2, ds2, p2, q2, rfl, rfl, rfl, h2, r2⟩ := trodAll_cons r1
 obtain ⟨rfl, rfl, rfl⟩ := trodAll_nil r2
 obtain rfl : args = #[v0, v1, v2] := by cases args; simp_all
 obtain ⟨rfl, rfl⟩ := trodVars_none hV
 have w0 : Value.okWide Try.prog W .any base 24 v0 := hval 0 24 v0 (by rfl) (by rfl)
 obtain ⟨cs0, c0, -⟩ := okWide_struct Try.underlying24 w0
 clear w0
 subst c0
 have w1 : Value.okWide Try.prog W .any base 25 v1 := hval 1 25 v1 (by rfl) (by rfl)
 obtain ⟨sa1, sl1, sc1, c1⟩ := okWide_slice Try.underlying25 w1
 clear w1
 subst c1
 have w2 : Value.okWide Try.prog W .any base 25 v2 := hval 2 25 v2 (by rfl) (by rfl)
 obtain ⟨sa2, sl2, sc2, c2⟩ := okWide_slice Try.underlying25 w2
 clear w2
 subst c2
 clear hA0 hval
 simp only [List.append_nil] at hW' hk
 have hb : Rows.uptoBulkAll [d0, d1, d2] ≤ 1048576 := of_decide_eq_true hk
 simp only [Rows.uptoBulkAll, Nat.add_zero] at hb
 obtain ⟨x0, y0, z0⟩ : ∃ x : Am.Gr, VR (allM W) (fun _ => .absent) x.a (.agg cs0) ∧ x.sz ≤ Rows.uptoBulk d0 := by
  obtain ⟨fuel, g⟩ := h0
  obtain ⟨x, g1, g2⟩ := gr_of fuel _ _ g
  have g4 : VR W.cell? (fun _ => .absent) (A.agg x.c) (Value.agg cs0) := by simpa [Value.cells] using VR.agg g1
  exact ⟨x, g4, g2⟩
 obtain ⟨s0, t0⟩ : SmallG x0 ∧ x0.rules.length < 2000000 := Gr.small_of z0 (by omega)
 obtain ⟨zb1, x1, y1, z1⟩ : ∃ (z : Bool) (l : List Int), VR (allM W) (fun _ => .absent) (.d (.slc z (intsD l))) (.slice sa1 sl1 sc1) ∧ l.length ≤ Rows.uptoBulk d1 := by
  obtain ⟨fuel, g⟩ := h1
  obtain ⟨z, l, g1, g2⟩ := ints_of fuel _ _ (by simpa [Value.cells] using g)
  exact ⟨z, l, .d g1, g2⟩
 obtain ⟨zb2, x2, y2, z2⟩ : ∃ (z : Bool) (l : List Int), VR (allM W) (fun _ => .absent) (.d (.slc z (intsD l))) (.slice sa2 sl2 sc2) ∧ l.length ≤ Rows.uptoBulk d2 := by
  obtain ⟨fuel, g⟩ := h2
  obtain ⟨z, l, g1, g2⟩ := ints_of fuel _ _ (by simpa [Value.cells] using g)
  exact ⟨z, l, .d g1, g2⟩
 obtain ⟨σ', T, hc⟩ := Sm.soundL_call x0 s0 (by omega) zb1 x1 (by omega) zb2 x2 (by omega)
 refine (calls_top (fz := mdE) oraME mixed hc (.cons y0 (.cons y1 (.cons y2 .nil)))).mono fun e W' ⟨v, he, ⟨M', β', hv⟩, hg, hold⟩ => ?_
 obtain rfl : v = .bool true := by cases hv with | d h => cases h; rfl
 have hlt : ∀ p ∈ p0 ++ (p1 ++ p2), p.block < W.heap.size := fun p hp => by have := hW'.lt p (by simpa using hp); exact this
 have hsame : ∀ p ∈ p0 ++ (p1 ++ p2), W.sameAt W' p := fun p hp => by
  cases p with
  | cell b o => exact World.cell?_of_block (w := W) (hold b (hlt _ hp))
  | map b => exact hold b (hlt _ hp)
 exact ⟨_, he, post_of_same (pa := p0 ++ (p1 ++ p2)) (pv := []) hW' (fun _ _ _ => trodAll_cons_mk (shut_bool Try.underlying4 _) trodAll_mk0)
  (fun sp hs => by
   have := (trodAll_cons_mk (WideElems.Trod_stays (sp' := sp) (by kernel_rfl) (by kernel_rfl) (by decide +kernel) h0 (fun p hp => hsame p (by simp [hp])) (fun p hp => hs p (by simp [hp]))) (trodAll_cons_mk (WideElems.Trod_stays (sp' := sp) (by kernel_rfl) (by kernel_rfl) (by decide +kernel) h1 (fun p hp => hsame p (by simp [hp])) (fun p hp => hs p (by simp [hp]))) (trodAll_cons_mk (WideElems.Trod_stays (sp' := sp) (by kernel_rfl) (by kernel_rfl) (by decide +kernel) h2 (fun p hp => hsame p (by simp [hp])) (fun p hp => hs p (by simp [hp]))) trodAll_mk0)))
   simp only [List.append_nil] at this
   exact this) (fun _ _ => rfl) (by simp)
  (hg.frame _) hg.2.1 (ok_one (by kernel_rfl) rfl (okWide_bool_mk Try.underlying4 _))⟩
set_option maxRecDepth 100000 in
theorem lifted (os : Os) (started : os.Started) (H : Type) (enc : TypeId × Value → H) (F : Stop.Interp) :
 ReturnsInHanded {} Try.checked os 6 .any ((Rows.OpenSpec.upto Rows.lookSoundSpec).pre6 enc Try.prog Try.f6 Rows.lookSoundUptoRow.domain false) (((Rows.OpenSpec.upto Rows.lookSoundSpec).at F).post enc Try.prog Try.f6 false true false false) := by
 refine returnsInHanded_of_cond (C := Try.checked) (s := Rows.OpenSpec.upto Rows.lookSoundSpec) (k := Rows.uptoSmall) rfl own started (by kernel_rfl) Try.func6
  (OpenSpec.witness (enc := enc) (C := Try.checked) (s := Rows.OpenSpec.upto Rows.lookSoundSpec) (k := Rows.uptoSmall) rfl false ⟨#[], #[.agg #[.int .i64 0, .slice none 0 0], .slice none 0 0, .slice none 0 0], []⟩ 8 (by kernel_rfl) (by kernel_rfl) (by kernel_rfl)
   (x := ([.agg [.lit (.int .i64 0), .nil], .nil, .nil], [], [])) (by kernel_rfl) rfl (by kernel_rfl)) ?_
 intro W base args ds gs before hval hW _ hk _
 exact contract H enc W base args ds gs before hval hW hk
theorem proved : Rows.LookSoundUptoSaid :=
 OpenClaim.holds_of_cond 6 Try.f6 rfl rfl rfl rfl rfl rfl rfl ⟨rfl, rfl, rfl, rfl, rfl⟩ rfl rfl rfl rfl rfl (by kernel_rfl) Try.func6 (by kernel_rfl)
  (of_decide_eq_true (by kernel_rfl)) (by unfold Func.isWrapper; first | (rw [if_pos (by decide +kernel)]; kernel_rfl) | (rw [if_neg (by decide +kernel)]; exact ⟨rfl, rfl⟩))
  (fun os started H enc _ F => lifted os started H enc F)
end Go.Proofs.Ytfhoagkadjinlaa.lookSound


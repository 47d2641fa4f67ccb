/- Part W1 of a proof that runs a program's calls on a small machine whose values bear no addresses: no conditions. -/
import Derived.Test.YtahfdfpakikbpaaAmP1
import Derived.Test.YtahfdfpakikbpaaAmG1
set_option autoImplicit false
set_option linter.unusedSimpArgs false
set_option linter.unusedVariables false
set_option linter.unusedSectionVars false
namespace Go.Am
open Go Go.Proofs Go.Proofs.Ytahfdfpakikbpaa
open Go.ChangeShapes Go.WideShapes Go.ChangeAt Go.RowKit

theorem cells83 : Try.prog.cellsOf 83 = 3 := by kernel_rfl
theorem cells40 : Try.prog.cellsOf 40 = 2 := by kernel_rfl
theorem len3 {α : Type} {l : List α} (h : l.length = 3) : ∃ a b c, l = [a, b, c] := by
  match l, h with
  | [a, b, c], _ => exact ⟨a, b, c, rfl⟩
theorem len2 {α : Type} {l : List α} (h : l.length = 2) : ∃ a b, l = [a, b] := by
  match l, h with
  | [a, b], _ => exact ⟨a, b, rfl⟩

/-- a token that is read -/
theorem tok_of {H : Type} {enc : TypeId × Value → H} {w : World} {sp : Nat → Bool} {held : Bool} (n : Nat) (cs : List Value) (x : DataW H × List MemPlace) (h : DataW.trod enc Try.prog w 0 sp held n 83 cs = some x) :
    ∃ y : Tok, DCells w.cell? y.cs cs := by
  obtain ⟨xs, m, rfl, rfl, hl, hlen, hf⟩ := DataW.trod_struct Try.underlying83 h
  rw [cells83] at hl
  obtain ⟨c0, c1, c2, rfl⟩ := len3 hl
  obtain ⟨x0, x1, rfl⟩ := len2 (show xs.length = 2 from hlen)
  have h0 : DataW.trod enc Try.prog w 0 sp held m 3 (([c0, c1, c2].drop 0).take (Try.prog.cellsOf 3)) = [x0, x1][0]? := by have := hf 0 _ rfl; exact this
  have h1 : DataW.trod enc Try.prog w 0 sp held m 40 (([c0, c1, c2].drop 1).take (Try.prog.cellsOf 40)) = [x0, x1][1]? := by have := hf 1 _ rfl; exact this
  simp only [cells3, cells40, List.drop_zero, List.take_succ_cons, List.take_zero, List.drop_succ_cons, List.getElem?_cons_zero, List.getElem?_cons_succ] at h0 h1
  obtain ⟨n0, e0, -, -⟩ := DataW.trod_int Try.underlying3 h0
  obtain ⟨ys, k, rfl, rfl, -, hlen2, hg⟩ := DataW.trod_struct Try.underlying40 h1
  obtain ⟨y0, y1, rfl⟩ := len2 (show ys.length = 2 from hlen2)
  have g0 : DataW.trod enc Try.prog w 0 sp held k 3 (([c1, c2].drop 0).take (Try.prog.cellsOf 3)) = [y0, y1][0]? := by have := hg 0 _ rfl; exact this
  have g1 : DataW.trod enc Try.prog w 0 sp held k 3 (([c1, c2].drop 1).take (Try.prog.cellsOf 3)) = [y0, y1][1]? := by have := hg 1 _ rfl; exact this
  simp only [cells3, List.drop_zero, List.take_succ_cons, List.take_zero, List.drop_succ_cons, List.getElem?_cons_zero, List.getElem?_cons_succ] at g0 g1
  obtain ⟨n1, e1, -, -⟩ := DataW.trod_int Try.underlying3 g0
  obtain ⟨n2, e2, -, -⟩ := DataW.trod_int Try.underlying3 g1
  have e0 : c0 = .int .i64 n0 := by simpa using e0
  have e1 : c1 = .int .i64 n1 := by simpa using e1
  have e2 : c2 = .int .i64 n2 := by simpa using e2
  subst e0 e1 e2
  refine ⟨⟨n0, n1, n2⟩, rfl, fun j d hj => ?_⟩
  match j, hj with
  | 0, hj => cases hj; exact ⟨_, rfl, .int _ _⟩
  | 1, hj => cases hj; exact ⟨_, rfl, .int _ _⟩
  | 2, hj => cases hj; exact ⟨_, rfl, .int _ _⟩
/-- a slice of tokens that is read -/
theorem toks_of {H : Type} {enc : TypeId × Value → H} {w : World} {sp : Nat → Bool} {held : Bool} (n : Nat) (v : Value) (x : DataW H × List MemPlace) (h : DataW.trod enc Try.prog w 0 sp held n 38 [v] = some x) :
    ∃ (z : Bool) (l : List Tok), DR w.cell? (.slc z (l.map Tok.cs)) v := by
  rcases DataW.trod_slice Try.underlying38 h with ⟨e3, rfl⟩ | ⟨a, len, cap, elems, rest, k, rfl, e3, rfl, -, hcap, -, hel, hrd, -, -⟩
  · have e3 : v = .slice none 0 0 := by simpa using e3
    subst e3
    exact ⟨true, [], .slcNil⟩
  · have e3 : v = .slice (some a) len cap := by simpa using e3
    subst e3
    rw [cells83] at hrd
    have hex : ∀ i, i < len → ∃ y : Tok, ∃ vs, w.cells? 0 (a.add (i * 3)) 3 = some vs ∧ DCells w.cell? y.cs vs := fun i hi => by
      have hi' := hrd i hi
      rw [List.getElem?_eq_getElem (by omega)] at hi'
      cases hc : w.cells? 0 (a.add (i * 3)) 3 with
      | none => rw [hc] at hi'; cases hi'
      | some vs =>
        rw [hc] at hi'
        obtain ⟨y, hy1⟩ := tok_of k vs _ hi'
        exact ⟨y, vs, rfl, hy1⟩
    obtain ⟨l, hll, hl2⟩ := collect _ len hex
    refine ⟨false, l, dr_slice (base := 0) (es := 3) (by simp [hll]) hcap fun i x hx => ?_⟩
    rw [List.getElem?_map] at hx
    cases hy : l[i]? with
    | none => rw [hy] at hx; cases hx
    | some y => rw [hy] at hx; cases hx; exact ⟨y.cs_len, hl2 i y hy⟩
end Go.Am
namespace Go.Proofs.Ytahfdfpakikbpaa.treeWithin
open Go Go.Am Go.Proofs
open Go.ChangeShapes Go.WideShapes Go.ChangeAt Go.RowKit

theorem own : ownKnob Try.prog.godebug = none := by kernel_rfl
theorem mixed : Try.prog.follows .mixedOrders = true := by kernel_rfl

set_option maxRecDepth 100000 in
theorem contract (H : Type) (enc : TypeId × Value → H) (W : World) (base : Nat) (args : Array Value) (ds gs : List (DataW H)) (before : List MemPlace)
    (hval : ∀ (j : Nat) t v, Try.f4.params[j]? = some t → args[j]? = some v → Value.okWide Try.prog W .any base t v)
    (hW : DataW.Whole enc Try.prog Try.f4.params.toList Rows.treeWithinSpec.vars false W args.toList ds gs before) (hk : Rows.uptoSmall H (ds ++ gs) = true) :
    Calls Try.prog 4 args W fun e W' => ∃ v, e = .returned v ∧ Rows.treeWithinSpec.post enc Try.prog Try.f4 false true false false W args v W' := by
  have hW' := hW
  obtain ⟨p, q, hA0, hV, rfl, hfz, hnd⟩ := hW
  have hA : DataW.TrodAll enc Try.prog W 0 (fun _ => true) true Try.f4.params.toList args.toList ds p := hA0
  rw [Try.params4] at hA hval
  obtain ⟨v0, vs0, d0, ds0, p0, q0, hargs, rfl, rfl, h0, r0⟩ := trodAll_cons hA
  obtain ⟨v1, vs1, d1, ds1, p1, q1, rfl, rfl, rfl, h1, r1⟩ := trodAll_cons r0
  obtain ⟨rfl, rfl, rfl⟩ := trodAll_nil r1
  obtain rfl : args = #[v0, v1] := by cases args; simp_all
  obtain ⟨rfl, rfl⟩ := trodVars_none hV
  have w0 : Value.okWide Try.prog W .any base 24 v0 := hval 0 24 v0 (by rfl) (by rfl)
  obtain ⟨cs0, c0, -⟩ := okWide_struct Try.underlying24 w0
  clear w0
  subst c0
  have w1 : Value.okWide Try.prog W .any base 38 v1 := hval 1 38 v1 (by rfl) (by rfl)
  obtain ⟨sa1, sl1, sc1, c1⟩ := okWide_slice Try.underlying38 w1
  clear w1
  subst c1
  clear hA0 hval
  simp only [List.append_nil] at hW' hk
  have hb : Rows.uptoBulkAll [d0, d1] ≤ 1048576 := of_decide_eq_true hk
  simp only [Rows.uptoBulkAll, Nat.add_zero] at hb
  obtain ⟨x0, y0, z0⟩ : ∃ x : Am.Node, VR (allM W) (fun _ => .absent) x.a (.agg cs0) ∧ x.sz ≤ Rows.uptoBulk d0 := by
    obtain ⟨fuel, g⟩ := h0
    obtain ⟨x, g1, g2⟩ := node_of fuel _ _ g
    have g3 := vrl_of (β := fun _ => .absent) g1
    rw [Am.Node.cs_map] at g3
    have g4 : VR W.cell? (fun _ => .absent) (A.agg x.c) (Value.agg cs0) := by simpa [Value.cells] using VR.agg g3
    exact ⟨x, g4, g2⟩
  have s0 : Small x0 := by unfold Small; omega
  obtain ⟨zb1, x1, y1⟩ : ∃ (z : Bool) (l : List Tok), VR (allM W) (fun _ => .absent) (tokD z l) (.slice sa1 sl1 sc1) := by
    obtain ⟨fuel, g⟩ := h1
    obtain ⟨z, l, g1⟩ := toks_of fuel _ _ (by simpa [Value.cells] using g)
    exact ⟨z, l, .d g1⟩
  obtain ⟨σ', T, hc⟩ := within_call x0 s0 zb1 x1
  refine (calls_top (fz := mdC) mixed hc (.cons y0 (.cons y1 .nil))).mono fun e W' ⟨v, he, ⟨M', β', hv⟩, hg, hold⟩ => ?_
  obtain rfl : v = .bool true := by cases hv with | d h => cases h; rfl
  have hlt : ∀ p ∈ p0 ++ p1, p.block < W.heap.size := fun p hp => by have := hW'.lt p (by simpa using hp); exact this
  have hsame : ∀ p ∈ p0 ++ p1, W.sameAt W' p := fun p hp => by
    cases p with
    | cell b o => exact World.cell?_of_block (w := W) (hold b (hlt _ hp))
    | map b => exact hold b (hlt _ hp)
  exact ⟨_, he, post_of_same (pa := p0 ++ p1) (pv := []) hW' (fun _ _ _ => trodAll_cons_mk (shut_bool Try.underlying4 _) trodAll_mk0)
    (fun sp hs => by
      have := (trodAll_cons_mk (WideElems.Trod_stays (sp' := sp) (by kernel_rfl) (by kernel_rfl) (by decide +kernel) h0 (fun p hp => hsame p (by simp [hp])) (fun p hp => hs p (by simp [hp]))) (trodAll_cons_mk (WideElems.Trod_stays (sp' := sp) (by kernel_rfl) (by kernel_rfl) (by decide +kernel) h1 (fun p hp => hsame p (by simp [hp])) (fun p hp => hs p (by simp [hp]))) trodAll_mk0))
      simp only [List.append_nil] at this
      exact this) (fun _ _ => rfl) (by simp)
    (hg.frame _) hg.2.1 (ok_one (by kernel_rfl) rfl (okWide_bool_mk Try.underlying4 _))⟩

set_option maxRecDepth 100000 in
theorem lifted (os : Os) (started : os.Started) (H : Type) (enc : TypeId × Value → H) (F : Stop.Interp) :
    ReturnsInHanded {} Try.checked os 4 .any ((Rows.OpenSpec.upto Rows.treeWithinSpec).pre6 enc Try.prog Try.f4 Rows.treeWithinUptoRow.domain false) (((Rows.OpenSpec.upto Rows.treeWithinSpec).at F).post enc Try.prog Try.f4 false true false false) := by
  refine returnsInHanded_of_cond (C := Try.checked) (s := Rows.OpenSpec.upto Rows.treeWithinSpec) (k := Rows.uptoSmall) rfl own started (by kernel_rfl) Try.func4
    (OpenSpec.witness (enc := enc) (C := Try.checked) (s := Rows.OpenSpec.upto Rows.treeWithinSpec) (k := Rows.uptoSmall) rfl false ⟨#[], #[.agg #[.int .i64 0, .int .i64 0, .int .i64 0, .slice none 0 0], .slice none 0 0], []⟩ 8 (by kernel_rfl) (by kernel_rfl) (by kernel_rfl)
      (x := ([.agg [.lit (.int .i64 0), .lit (.int .i64 0), .lit (.int .i64 0), .nil], .nil], [], [])) (by kernel_rfl) rfl (by kernel_rfl)) ?_
  intro W base args ds gs before hval hW _ hk _
  exact contract H enc W base args ds gs before hval hW hk

theorem proved : Rows.TreeWithinUptoSaid :=
  OpenClaim.holds_of_cond 4 Try.f4 rfl rfl rfl rfl rfl rfl rfl ⟨rfl, rfl, rfl, rfl, rfl⟩ rfl rfl rfl rfl rfl (by kernel_rfl) Try.func4 (by kernel_rfl)
    (of_decide_eq_true (by kernel_rfl)) (by unfold Func.isWrapper; first | (rw [if_pos (by decide +kernel)]; kernel_rfl) | (rw [if_neg (by decide +kernel)]; exact ⟨rfl, rfl⟩))
    (fun os started H enc _ F => lifted os started H enc F)
end Go.Proofs.Ytahfdfpakikbpaa.treeWithin


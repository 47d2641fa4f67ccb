/- Part L1 of a proof that runs a program's calls on a small machine whose values bear no addresses: no conditions. -/
import Derived.Test.YtahfdfpakikbpaaAmF1
import Derived.Test.YtahfdfpakikbpaaAmU1
import Derived.Test.YtahfdfpakikbpaaAmG0
set_option autoImplicit false
set_option linter.unusedSimpArgs false
set_option linter.unusedVariables false
set_option linter.unusedSectionVars false
namespace Go.Am
open Go Go.Proofs
def bringP (i n : Int) : Int := if n ≤ 0 then 0 else if i.tmod n < 0 then IntKind.i64.wrap (i.tmod n + n) else i.tmod n
theorem bring_call {fz : Nat → Md} (h26 : fz 26 = .cut) (i n : Int) (σ : St) : CallsTo (XX fz) (.func 26 []) [.d (.int .i64 i), .d (.int .i64 n)] σ (.d (.int .i64 (bringP i n))) σ [] := by
  refine CallsTo.cut0 h26 fn26 (by simp) rfl ?_
  simp only [Try.f26, Option.getD_some]
  unfold bringP
  simp only [go_sem, ↓reduceIte, Int.reduceEq, Nat.reduceBEq, Option.some.injEq, Bool.true_eq_false, Bool.false_eq_true, Int.reduceBEq, Int.reduceBNe, Int.reduceLT, Int.reduceLE, Nat.add_assoc, Nat.reduceAdd, Nat.reducePow, Nat.zero_le, Nat.reduceEqDiff, Nat.reduceLT, Nat.reduceLeDiff, Nat.reduceMul, Nat.reduceSub, Nat.add_left_cancel_iff, Nat.lt_irrefl, Nat.le_refl, Nat.add_eq_left, Nat.left_eq_add, beq_self_eq_true]
  by_cases h : n ≤ 0
  · have h1 : decide (n ≤ 0) = true := by simpa using h
    simp only [go_sem, ↓reduceIte, Int.reduceEq, Nat.reduceBEq, Option.some.injEq, Bool.true_eq_false, Bool.false_eq_true, Int.reduceBEq, Int.reduceBNe, Int.reduceLT, Int.reduceLE, Nat.add_assoc, Nat.reduceAdd, Nat.reducePow, Nat.zero_le, Nat.reduceEqDiff, Nat.reduceLT, Nat.reduceLeDiff, Nat.reduceMul, Nat.reduceSub, Nat.add_left_cancel_iff, Nat.lt_irrefl, Nat.le_refl, Nat.add_eq_left, Nat.left_eq_add, beq_self_eq_true, h1, h]
  · have h1 : decide (n ≤ 0) = false := by simpa using h
    simp only [go_sem, ↓reduceIte, Int.reduceEq, Nat.reduceBEq, Option.some.injEq, Bool.true_eq_false, Bool.false_eq_true, Int.reduceBEq, Int.reduceBNe, Int.reduceLT, Int.reduceLE, Nat.add_assoc, Nat.reduceAdd, Nat.reducePow, Nat.zero_le, Nat.reduceEqDiff, Nat.reduceLT, Nat.reduceLeDiff, Nat.reduceMul, Nat.reduceSub, Nat.add_left_cancel_iff, Nat.lt_irrefl, Nat.le_refl, Nat.add_eq_left, Nat.left_eq_add, beq_self_eq_true, h1, h, bin_rem (show n ≠ 0 by omega)]
    by_cases h2 : i.tmod n < 0
    · have h3 : decide (i.tmod n < 0) = true := by simpa using h2
      simp only [go_sem, ↓reduceIte, Int.reduceEq, Nat.reduceBEq, Option.some.injEq, Bool.true_eq_false, Bool.false_eq_true, Int.reduceBEq, Int.reduceBNe, Int.reduceLT, Int.reduceLE, Nat.add_assoc, Nat.reduceAdd, Nat.reducePow, Nat.zero_le, Nat.reduceEqDiff, Nat.reduceLT, Nat.reduceLeDiff, Nat.reduceMul, Nat.reduceSub, Nat.add_left_cancel_iff, Nat.lt_irrefl, Nat.le_refl, Nat.add_eq_left, Nat.left_eq_add, beq_self_eq_true, h3, h2]
    · have h3 : decide (i.tmod n < 0) = false := by simpa using h2
      simp only [go_sem, ↓reduceIte, Int.reduceEq, Nat.reduceBEq, Option.some.injEq, Bool.true_eq_false, Bool.false_eq_true, Int.reduceBEq, Int.reduceBNe, Int.reduceLT, Int.reduceLE, Nat.add_assoc, Nat.reduceAdd, Nat.reducePow, Nat.zero_le, Nat.reduceEqDiff, Nat.reduceLT, Nat.reduceLeDiff, Nat.reduceMul, Nat.reduceSub, Nat.add_left_cancel_iff, Nat.lt_irrefl, Nat.le_refl, Nat.add_eq_left, Nat.left_eq_add, beq_self_eq_true, h3, h2]
theorem bring_lt {i n : Int} (h : 0 < n) (hn : n < 1000000000) : 0 ≤ bringP i n ∧ bringP i n < n := by
  unfold bringP
  rw [if_neg (by omega)]
  have h1 := Int.tmod_lt_of_pos i h
  have h2 : -n < i.tmod n := by
    have := Int.lt_tmod_of_pos i h; omega
  split
  · rw [wrap_small (by omega) (by omega)]; omega
  · omega

end Go.Am
namespace Go.Am
open Go Go.Proofs
theorem boolsD_len (l : List Bool) : (boolsD l).length = l.length := by simp [boolsD]
set_option maxHeartbeats 4000000 in
theorem nothing_call (g : Gr) (hg : SmallG g) (hL : g.rules.length < 1000000000) (rule : Int) : ∃ σ' T, CallsTo (XX mdL) (.func 12 []) [g.a, .d (.int .i64 rule)] St.empty (.d (.bool true)) σ' T := by
  refine ⟨St.empty, [], CallsTo.cut0 rfl fn12 (by simp) rfl ?_⟩
  simp only [Try.f12, Option.getD_some]
  simp only [go_sem, ↓reduceIte, Int.reduceEq, Nat.reduceBEq, Option.some.injEq, Bool.true_eq_false, Bool.false_eq_true, Int.reduceBEq, Int.reduceBNe, Int.reduceLT, Int.reduceLE, Nat.add_assoc, Nat.reduceAdd, Nat.reducePow, Nat.zero_le, Nat.reduceEqDiff, Nat.reduceLT, Nat.reduceLeDiff, Nat.reduceMul, Nat.reduceSub, Nat.add_left_cancel_iff, Nat.lt_irrefl, Nat.le_refl, Nat.add_eq_left, Nat.left_eq_add, beq_self_eq_true, Gr.a]
  refine ⟨_, _, _, works_L _, ?_⟩
  simp only [go_sem, ↓reduceIte, Int.reduceEq, Nat.reduceBEq, Option.some.injEq, Bool.true_eq_false, Bool.false_eq_true, Int.reduceBEq, Int.reduceBNe, Int.reduceLT, Int.reduceLE, Nat.add_assoc, Nat.reduceAdd, Nat.reducePow, Nat.zero_le, Nat.reduceEqDiff, Nat.reduceLT, Nat.reduceLeDiff, Nat.reduceMul, Nat.reduceSub, Nat.add_left_cancel_iff, Nat.lt_irrefl, Nat.le_refl, Nat.add_eq_left, Nat.left_eq_add, beq_self_eq_true]
  refine ⟨_, _, _, deep_L g _ hg hL, ?_⟩
  cases hd : deepG g with
  | true => simp only [go_sem, ↓reduceIte, Int.reduceEq, Nat.reduceBEq, Option.some.injEq, Bool.true_eq_false, Bool.false_eq_true, Int.reduceBEq, Int.reduceBNe, Int.reduceLT, Int.reduceLE, Nat.add_assoc, Nat.reduceAdd, Nat.reducePow, Nat.zero_le, Nat.reduceEqDiff, Nat.reduceLT, Nat.reduceLeDiff, Nat.reduceMul, Nat.reduceSub, Nat.add_left_cancel_iff, Nat.lt_irrefl, Nat.le_refl, Nat.add_eq_left, Nat.left_eq_add, beq_self_eq_true]
  | false =>
    simp only [go_sem, ↓reduceIte, Int.reduceEq, Nat.reduceBEq, Option.some.injEq, Bool.true_eq_false, Bool.false_eq_true, Int.reduceBEq, Int.reduceBNe, Int.reduceLT, Int.reduceLE, Nat.add_assoc, Nat.reduceAdd, Nat.reducePow, Nat.zero_le, Nat.reduceEqDiff, Nat.reduceLT, Nat.reduceLeDiff, Nat.reduceMul, Nat.reduceSub, Nat.add_left_cancel_iff, Nat.lt_irrefl, Nat.le_refl, Nat.add_eq_left, Nat.left_eq_add, beq_self_eq_true]
    refine ⟨_, _, _, nullable_L hg _, ?_⟩
    cases hc : (checkP g != 0) with
    | true =>
      have hc' : checkP g ≠ 0 := by simpa using hc
      have hn : nullD g = .slc true [] := by unfold nullD; rw [if_neg hc']
      have hlen : ∀ σ : St, sliceLen σ (A.d (nullD g)) = some 0 := fun σ => by rw [hn]; rfl
      have h00 : (((0 : Nat) : Int) == 0) = true := rfl
      simp only [go_sem, ↓reduceIte, Int.reduceEq, Nat.reduceBEq, Option.some.injEq, Bool.true_eq_false, Bool.false_eq_true, Int.reduceBEq, Int.reduceBNe, Int.reduceLT, Int.reduceLE, Nat.add_assoc, Nat.reduceAdd, Nat.reducePow, Nat.zero_le, Nat.reduceEqDiff, Nat.reduceLT, Nat.reduceLeDiff, Nat.reduceMul, Nat.reduceSub, Nat.add_left_cancel_iff, Nat.lt_irrefl, Nat.le_refl, Nat.add_eq_left, Nat.left_eq_add, beq_self_eq_true, hc, hlen, h00]
      refine ⟨_, _, _, check_L hg _, ?_⟩
      simp only [go_sem, ↓reduceIte, Int.reduceEq, Nat.reduceBEq, Option.some.injEq, Bool.true_eq_false, Bool.false_eq_true, Int.reduceBEq, Int.reduceBNe, Int.reduceLT, Int.reduceLE, Nat.add_assoc, Nat.reduceAdd, Nat.reducePow, Nat.zero_le, Nat.reduceEqDiff, Nat.reduceLT, Nat.reduceLeDiff, Nat.reduceMul, Nat.reduceSub, Nat.add_left_cancel_iff, Nat.lt_irrefl, Nat.le_refl, Nat.add_eq_left, Nat.left_eq_add, beq_self_eq_true, h00]
    | false =>
      have hc' : checkP g = 0 := by simpa using hc
      have hk := chk_iff.1 hc'
      have hn : nullD g = .slc false (boolsD g.null) := by unfold nullD; rw [if_pos hc']
      have hnl : g.null.length = g.rules.length := by rw [Gr.null, growsP_len, bodies_len]
      have hlen : ∀ σ : St, sliceLen σ (A.d (nullD g)) = some g.rules.length := fun σ => by rw [hn]; simp [sliceLen, boolsD_len, hnl]
      have hne : ((g.rules.length : Int) != (g.rules.length : Int)) = false := by simp
      simp only [go_sem, ↓reduceIte, Int.reduceEq, Nat.reduceBEq, Option.some.injEq, Bool.true_eq_false, Bool.false_eq_true, Int.reduceBEq, Int.reduceBNe, Int.reduceLT, Int.reduceLE, Nat.add_assoc, Nat.reduceAdd, Nat.reducePow, Nat.zero_le, Nat.reduceEqDiff, Nat.reduceLT, Nat.reduceLeDiff, Nat.reduceMul, Nat.reduceSub, Nat.add_left_cancel_iff, Nat.lt_irrefl, Nat.le_refl, Nat.add_eq_left, Nat.left_eq_add, beq_self_eq_true, hc, hlen, hne]
      refine ⟨_, _, _, bring_call rfl rule _ _, ?_⟩
      have hpos := hk.pos
      have hle := hk.le
      obtain ⟨b1, b2⟩ := bring_lt (i := rule) (n := (g.rules.length : Int)) (by omega) (by omega)
      obtain ⟨n, hn'⟩ := Int.eq_ofNat_of_zero_le b1
      have hlt : n < g.rules.length := by omega
      simp only [go_sem, ↓reduceIte, Int.reduceEq, Nat.reduceBEq, Option.some.injEq, Bool.true_eq_false, Bool.false_eq_true, Int.reduceBEq, Int.reduceBNe, Int.reduceLT, Int.reduceLE, Nat.add_assoc, Nat.reduceAdd, Nat.reducePow, Nat.zero_le, Nat.reduceEqDiff, Nat.reduceLT, Nat.reduceLeDiff, Nat.reduceMul, Nat.reduceSub, Nat.add_left_cancel_iff, Nat.lt_irrefl, Nat.le_refl, Nat.add_eq_left, Nat.left_eq_add, beq_self_eq_true, hn']
      refine ⟨_, _, _, derives_L hg n true [] (by simp) _, ?_⟩
      have he : derE g n [] = 0 := by
        unfold derE
        rw [if_neg (by simp [hc']), if_neg (by simp; omega), if_neg (by simp)]
      have hidx : ∀ σ : St, indexK σ 1 (A.d (nullD g)) (.d (.int .i64 (n : Int))) = .val (.d (.vptr [.bool (g.null.getD n false)] 0)) σ [] [] := fun σ => by rw [hn]; exact index_bools (by omega)
      simp only [go_sem, ↓reduceIte, Int.reduceEq, Nat.reduceBEq, Option.some.injEq, Bool.true_eq_false, Bool.false_eq_true, Int.reduceBEq, Int.reduceBNe, Int.reduceLT, Int.reduceLE, Nat.add_assoc, Nat.reduceAdd, Nat.reducePow, Nat.zero_le, Nat.reduceEqDiff, Nat.reduceLT, Nat.reduceLeDiff, Nat.reduceMul, Nat.reduceSub, Nat.add_left_cancel_iff, Nat.lt_irrefl, Nat.le_refl, Nat.add_eq_left, Nat.left_eq_add, beq_self_eq_true, he, hidx, nothing_law hg hc' n hlt]
end Go.Am
namespace Go.Proofs.Ytahfdfpakikbpaa.grammarNothing
open Go Go.Am Go.Proofs
open Go.ChangeShapes Go.WideShapes Go.ChangeAt Go.RowKit

theorem own : ownKnob Try.prog.godebug = none := by kernel_rfl
theorem mixed : Try.prog.follows .mixedOrders = true := by kernel_rfl

set_option maxRecDepth 100000 in
theorem contract (H : Type) (enc : TypeId × Value → H) (W : World) (base : Nat) (args : Array Value) (ds gs : List (DataW H)) (before : List MemPlace)
    (hval : ∀ (j : Nat) t v, Try.f12.params[j]? = some t → args[j]? = some v → Value.okWide Try.prog W .any base t v)
    (hW : DataW.Whole enc Try.prog Try.f12.params.toList Rows.grammarNothingSpec.vars false W args.toList ds gs before) (hk : Rows.uptoSmall H (ds ++ gs) = true) :
    Calls Try.prog 12 args W fun e W' => ∃ v, e = .returned v ∧ Rows.grammarNothingSpec.post enc Try.prog Try.f12 false true false false W args v W' := by
  have hW' := hW
  obtain ⟨p, q, hA0, hV, rfl, hfz, hnd⟩ := hW
  have hA : DataW.TrodAll enc Try.prog W 0 (fun _ => true) true Try.f12.params.toList args.toList ds p := hA0
  rw [Try.params12] at hA hval
  obtain ⟨v0, vs0, d0, ds0, p0, q0, hargs, rfl, rfl, h0, r0⟩ := trodAll_cons hA
  obtain ⟨v1, vs1, d1, ds1, p1, q1, rfl, rfl, rfl, h1, r1⟩ := trodAll_cons r0
  obtain ⟨rfl, rfl, rfl⟩ := trodAll_nil r1
  obtain rfl : args = #[v0, v1] := by cases args; simp_all
  obtain ⟨rfl, rfl⟩ := trodVars_none hV
  have w0 : Value.okWide Try.prog W .any base 52 v0 := hval 0 52 v0 (by rfl) (by rfl)
  obtain ⟨cs0, c0, -⟩ := okWide_struct Try.underlying52 w0
  clear w0
  subst c0
  have w1 : Value.okWide Try.prog W .any base 3 v1 := hval 1 3 v1 (by rfl) (by rfl)
  obtain ⟨n1, c1⟩ := okWide_int Try.underlying3 w1
  clear w1
  subst c1
  clear hA0 hval
  simp only [List.append_nil] at hW' hk
  have hb : Rows.uptoBulkAll [d0, d1] ≤ 1048576 := of_decide_eq_true hk
  simp only [Rows.uptoBulkAll, Nat.add_zero] at hb
  obtain ⟨x0, y0, z0⟩ : ∃ x : Am.Gr, VR (allM W) (fun _ => .absent) x.a (.agg cs0) ∧ x.sz ≤ Rows.uptoBulk d0 := by
    obtain ⟨fuel, g⟩ := h0
    obtain ⟨x, g1, g2⟩ := gr_of fuel _ _ g
    have g4 : VR W.cell? (fun _ => .absent) (A.agg x.c) (Value.agg cs0) := by simpa [Value.cells] using VR.agg g1
    exact ⟨x, g4, g2⟩
  obtain ⟨s0, t0⟩ : SmallG x0 ∧ x0.rules.length < 2000000 := Gr.small_of z0 (by omega)
  obtain ⟨σ', T, hc⟩ := nothing_call x0 s0 (by omega) n1
  refine (calls_top (fz := mdL) oraL mixed hc (.cons y0 (.cons (.d (.int .i64 n1)) .nil))).mono fun e W' ⟨v, he, ⟨M', β', hv⟩, hg, hold⟩ => ?_
  obtain rfl : v = .bool true := by cases hv with | d h => cases h; rfl
  have hlt : ∀ p ∈ p0 ++ p1, p.block < W.heap.size := fun p hp => by have := hW'.lt p (by simpa using hp); exact this
  have hsame : ∀ p ∈ p0 ++ p1, W.sameAt W' p := fun p hp => by
    cases p with
    | cell b o => exact World.cell?_of_block (w := W) (hold b (hlt _ hp))
    | map b => exact hold b (hlt _ hp)
  exact ⟨_, he, post_of_same (pa := p0 ++ p1) (pv := []) hW' (fun _ _ _ => trodAll_cons_mk (shut_bool Try.underlying4 _) trodAll_mk0)
    (fun sp hs => by
      have := (trodAll_cons_mk (WideElems.Trod_stays (sp' := sp) (by kernel_rfl) (by kernel_rfl) (by decide +kernel) h0 (fun p hp => hsame p (by simp [hp])) (fun p hp => hs p (by simp [hp]))) (trodAll_cons_mk (WideElems.Trod_stays (sp' := sp) (by kernel_rfl) (by kernel_rfl) (by decide +kernel) h1 (fun p hp => hsame p (by simp [hp])) (fun p hp => hs p (by simp [hp]))) trodAll_mk0))
      simp only [List.append_nil] at this
      exact this) (fun _ _ => rfl) (by simp)
    (hg.frame _) hg.2.1 (ok_one (by kernel_rfl) rfl (okWide_bool_mk Try.underlying4 _))⟩

set_option maxRecDepth 100000 in
theorem lifted (os : Os) (started : os.Started) (H : Type) (enc : TypeId × Value → H) (F : Stop.Interp) :
    ReturnsInHanded {} Try.checked os 12 .any ((Rows.OpenSpec.upto Rows.grammarNothingSpec).pre6 enc Try.prog Try.f12 Rows.grammarNothingUptoRow.domain false) (((Rows.OpenSpec.upto Rows.grammarNothingSpec).at F).post enc Try.prog Try.f12 false true false false) := by
  refine returnsInHanded_of_cond (C := Try.checked) (s := Rows.OpenSpec.upto Rows.grammarNothingSpec) (k := Rows.uptoSmall) rfl own started (by kernel_rfl) Try.func12
    (OpenSpec.witness (enc := enc) (C := Try.checked) (s := Rows.OpenSpec.upto Rows.grammarNothingSpec) (k := Rows.uptoSmall) rfl false ⟨#[], #[.agg #[.int .i64 0, .slice none 0 0], .int .i64 0], []⟩ 8 (by kernel_rfl) (by kernel_rfl) (by kernel_rfl)
      (x := ([.agg [.lit (.int .i64 0), .nil], .lit (.int .i64 0)], [], [])) (by kernel_rfl) rfl (by kernel_rfl)) ?_
  intro W base args ds gs before hval hW _ hk _
  exact contract H enc W base args ds gs before hval hW hk

theorem proved : Rows.GrammarNothingUptoSaid :=
  OpenClaim.holds_of_cond 12 Try.f12 rfl rfl rfl rfl rfl rfl rfl ⟨rfl, rfl, rfl, rfl, rfl⟩ rfl rfl rfl rfl rfl (by kernel_rfl) Try.func12 (by kernel_rfl)
    (of_decide_eq_true (by kernel_rfl)) (by unfold Func.isWrapper; first | (rw [if_pos (by decide +kernel)]; kernel_rfl) | (rw [if_neg (by decide +kernel)]; exact ⟨rfl, rfl⟩))
    (fun os started H enc _ F => lifted os started H enc F)
end Go.Proofs.Ytahfdfpakikbpaa.grammarNothing


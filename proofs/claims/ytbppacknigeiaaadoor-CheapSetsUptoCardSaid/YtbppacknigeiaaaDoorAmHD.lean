/- Part HD of a proof that runs a program's calls on a small machine whose values bear no addresses: no conditions. -/
import Derived.Test.YtbppacknigeiaaaDoorAmHC
import Derived.Test.YtbppacknigeiaaaDoorAmU1
import Derived.Test.YtbppacknigeiaaaDoorAmT9
import Derived.Shelf.Spec.TrailingZeros
set_option autoImplicit false
set_option linter.unusedSimpArgs false
set_option linter.unusedVariables false
set_option linter.unusedSectionVars false
namespace Go.Am
open Go Go.Proofs
def rhoD : Shelf.Ren := ⟨fun n => if n = 29 then 94 else 0, fun n => if n = 22 then 70 else if n = 25 then 138 else if n = 54 then 137 else n, fun _ => 0⟩
theorem laysD : Lays7.n29 Tryd.prog rhoD where
  mixed := mixedT
  f29 := Tryd.func94.trans (congrArg some (by kernel_rfl))
  t0 := Tryd.underlying0
  a0 := Tryd.isAgg0
  z0 := Tryd.sizeOf0
  v0 := Tryd.zeroValue0
  i0 := by kernel_rfl
  t3 := Tryd.underlying3
  a3 := Tryd.isAgg3
  z3 := Tryd.sizeOf3
  v3 := Tryd.zeroValue3
  i3 := by kernel_rfl
  t4 := Tryd.underlying4
  a4 := Tryd.isAgg4
  z4 := Tryd.sizeOf4
  v4 := Tryd.zeroValue4
  i4 := by kernel_rfl
  t5 := Tryd.underlying5
  a5 := Tryd.isAgg5
  z5 := Tryd.sizeOf5
  v5 := Tryd.zeroValue5
  i5 := by kernel_rfl
  t22 := Tryd.underlying70
  a22 := Tryd.isAgg70
  z22 := Tryd.sizeOf70
  v22 := Tryd.zeroValue70
  i22 := by kernel_rfl
  t25 := Tryd.underlying138
  a25 := Tryd.isAgg138
  z25 := Tryd.sizeOf138
  v25 := Tryd.zeroValue138
  i25 := by kernel_rfl
  t54 := Tryd.underlying137
  a54 := Tryd.isAgg137
  z54 := Tryd.sizeOf137
  g1 := by kernel_rfl
def F94 : List A → Option A
  | [.d (.int .u64 x)] => if 0 ≤ x ∧ x < 18446744073709551616 then some (.d (.int .i64 (Lib.ctz 64 x.toNat : Int))) else none
  | _ => none
theorem F94_at {k : Nat} (h : k < 2 ^ 64) : F94 [.d (.int .u64 (k : Int))] = some (.d (.int .i64 (Lib.ctz 64 k : Int))) := by
  show (if 0 ≤ (k : Int) ∧ (k : Int) < 18446744073709551616 then some (A.d (.int .i64 (Lib.ctz 64 (k : Int).toNat : Int))) else none) = _
  rw [if_pos ⟨by omega, by omega⟩, Int.toNat_natCast]
theorem ora94 : OraS Tryd.prog 94 F94 := by
  intro w M args vs r hr hM hT hvs
  unfold F94 at hr
  split at hr
  · rename_i x
    split at hr
    · rename_i hx
      cases hr
      obtain ⟨k, rfl⟩ := Int.eq_ofNat_of_zero_le hx.1
      have hk : k < 18446744073709551616 := by have := hx.2; omega
      have hvs2 : vs = [.int .u64 (k : Int)] := by
        cases hvs with
        | cons h t =>
          cases t
          cases h with
          | d h => cases h; rfl
      subst hvs2
      refine (Any7.bits_TrailingZeros64 laysD k hk w fun _ j hj => hM _ _ (hT _ _ ?_)).mono fun e w' ⟨h1, h2⟩ => ?_
      · unfold Ktab
        rw [if_pos ⟨rfl, hj, rfl⟩]
      · subst h2
        rw [Int.toNat_natCast]
        exact ⟨_, M, h1, .d (.int _ _), ⟨Same.refl _, Mem.le_refl _, fun a v h => .inl h, hM, fun _ _ h => h⟩⟩
    · cases hr
  · cases hr
def mdC : Nat → Md := fun f => match f with
  | 22 => .ora F35 | 94 => .ora F94
  | 10 | 12 | 13 | 15 | 19 | 28 | 36 | 38 | 45 | 47 | 51 | 70 => .ice
  | 37 | 79 | 99 => .keep
  | _ => .cut
theorem oraC : ∀ f F, oraOf (mdC f) = some F → OraS Tryd.prog f F := by
  intro f F h
  unfold mdC at h
  split at h <;> cases h
  · exact ora35
  · exact ora94
theorem check_C (g : Gr) (σ : St) (h : SmallG g) : CallsTo (XX mdC) (.func 22 []) [g.a] σ (.d (.int .i64 (checkP g))) σ [] := CallsTo.ora (F := F35) rfl fn22 rfl (F35_at h) rfl
theorem tz_C (k : Nat) (σ : St) (h : k < 2 ^ 64) : CallsTo (XX mdC) (.func 94 []) [.d (.int .u64 (k : Int))] σ (.d (.int .i64 (Lib.ctz 64 k : Int))) σ [] := CallsTo.ora (F := F94) rfl fn94 rfl (F94_at h) rfl
set_option maxHeartbeats 1000000 in
theorem nullable_C (g : Gr) (σ : St) (h : SmallG g) : CallsTo (XX mdC) (.func 28 []) [g.a] σ (.tup [.d (nullD g), .d (.int .i64 (checkP g))]) σ [] := by
  refine CallsTo.ice0 rfl fn28 (by simp) ?_
  simp only [Tryd.f28, Option.getD_some]
  simp only [go_sem, ↓reduceIte, Int.reduceEq, Nat.reduceBEq, Int.reduceBEq, Int.reduceBNe, Int.reduceLT, Int.reduceLE, Nat.reduceAdd, Nat.reducePow, Nat.reduceEqDiff, Nat.reduceLT, Nat.reduceLeDiff, Nat.reduceMul, Nat.reduceSub, Gr.a]
  refine ⟨_, _, _, check_C g _ h, ?_⟩
  unfold nullD
  cases hc : (checkP g != 0) with
  | true =>
    have hc' : checkP g ≠ 0 := by simpa using hc
    simp only [go_sem, ↓reduceIte, Int.reduceEq, Nat.reduceBEq, Int.reduceBEq, Int.reduceBNe, Int.reduceLT, Int.reduceLE, Nat.reduceAdd, Nat.reducePow, Nat.reduceEqDiff, Nat.reduceLT, Nat.reduceLeDiff, Nat.reduceMul, Nat.reduceSub, hc, if_neg hc']; try rfl
  | false =>
    have hc' : checkP g = 0 := by simpa using hc
    have hk := chk_iff.1 hc'
    simp only [go_sem, ↓reduceIte, Int.reduceEq, Nat.reduceBEq, Int.reduceBEq, Int.reduceBNe, Int.reduceLT, Int.reduceLE, Nat.reduceAdd, Nat.reducePow, Nat.reduceEqDiff, Nat.reduceLT, Nat.reduceLeDiff, Nat.reduceMul, Nat.reduceSub, hc, if_pos hc']
    have hle := hk.le
    refine ⟨_, _, _, grows_call (fz := mdC) rfl rfl rfl rfl rfl rfl rfl g false _ (by omega) (fun r hr => ⟨h r hr, (hk.ok _ (List.mem_map.2 ⟨r, hr, rfl⟩)).calls⟩), ?_⟩
    simp only [go_sem, ↓reduceIte, Int.reduceEq, Nat.reduceBEq, Int.reduceBEq, Int.reduceBNe, Int.reduceLT, Int.reduceLE, Nat.reduceAdd, Nat.reducePow, Nat.reduceEqDiff, Nat.reduceLT, Nat.reduceLeDiff, Nat.reduceMul, Nat.reduceSub, hc']
    rfl
theorem first_C (g : Gr) (σ : St) (h : SmallG g) : CallsTo (XX mdC) (.func 13 []) [g.a] σ (.tup [.d (firstV g), .d (.int .i64 (checkP g))]) σ [] :=
  first_c rfl rfl rfl rfl rfl tz_C nullable_C g h σ
theorem follow_C (g : Gr) (σ : St) (h : SmallG g) : CallsTo (XX mdC) (.func 15 []) [g.a] σ (.tup [.d (followV g), .d (.int .i64 (checkP g))]) σ [] :=
  follow_c rfl rfl rfl rfl rfl rfl rfl rfl tz_C nullable_C g h σ
theorem short_C (g : Gr) (rule : Int) (σ : St) (h : SmallG g) : CallsTo (XX mdC) (.func 19 []) [g.a, .d (.int .i64 rule)] σ (.tup [.d (shortV g rule).1, .d (.int .i64 (shortV g rule).2)]) σ [] :=
  short_call check_C rfl rfl rfl rfl rfl rfl rfl (fun g h => ⟨(GOk.of h).ok, (GOk.of h).tok, (GOk.of h).le⟩) g h rule σ
def F13 : List A → Option A
  | [a] => (decG a).map fun g => .tup [.d (firstV g), .d (.int .i64 (checkP g))]
  | _ => none
def F15 : List A → Option A
  | [a] => (decG a).map fun g => .tup [.d (followV g), .d (.int .i64 (checkP g))]
  | _ => none
theorem F15_at {g : Gr} (h : SmallG g) : F15 [g.a] = some (.tup [.d (followV g), .d (.int .i64 (checkP g))]) := by
  have h1 := follow_C g St.empty h
  have h2 := follow_C g.strip St.empty (Gr.strip_small h)
  rw [Gr.strip_a] at h2
  have := CallsTo.det h1 h2
  simp only [F15, decG_a h, Option.map_some]
  rw [this]
theorem ora13 : OraS Tryd.prog 13 F13 := by
  refine oraS_of (fz := mdC) oraC mixedT fun args r h => ?_
  unfold F13 at h
  split at h
  · rename_i a
    cases hd : decG a with
    | none => rw [hd] at h; cases h
    | some g =>
      rw [hd] at h; cases h
      obtain ⟨rfl, hs⟩ := decG_sound hd
      exact ⟨rfl, _, _, first_C g St.empty hs⟩
  · cases h
theorem ora15 : OraS Tryd.prog 15 F15 := by
  refine oraS_of (fz := mdC) oraC mixedT fun args r h => ?_
  unfold F15 at h
  split at h
  · rename_i a
    cases hd : decG a with
    | none => rw [hd] at h; cases h
    | some g =>
      rw [hd] at h; cases h
      obtain ⟨rfl, hs⟩ := decG_sound hd
      exact ⟨rfl, _, _, follow_C g St.empty hs⟩
  · cases h
def shortX (g : Gr) (rule : Int) : Option (D × Int) :=
  if (checkP g != 0) = true then some (.slc true [], checkP g) else if (decide (rule < 0) || decide (rule ≥ (g.rules.length : Int))) = true then some (.slc true [], 9)
  else (shX g.bodies 100000 (K0 g.bodies.length)).map fun K => match kF K rule.toNat with
    | some s => (slD s, 0)
    | none => (.slc true [], 5)
theorem shortX_ok {g : Gr} {rule : Int} {r : D × Int} (h : shortX g rule = some r) : shortV g rule = r := by
  unfold shortX at h
  unfold shortV
  split at h
  · rename_i e; cases h; rw [if_pos e]
  rename_i e1; rw [if_neg e1]
  split at h
  · rename_i e; cases h; rw [if_pos e]
  rename_i e2; rw [if_neg e2]
  cases hK : shX g.bodies 100000 (K0 g.bodies.length) with
  | none => rw [hK] at h; cases h
  | some K =>
    rw [hK] at h
    have hc : checkP g = 0 := by simpa using e1
    have hg := GOk.of hc
    have : shEnd g.bodies = K := shX_ok hg.ok hg.tok 100000 _ K (K0_ok _) hK _ (by omega)
    rw [this]
    exact Option.some.inj h
def F19 : List A → Option A
  | [a, .d (.int .i64 rule)] => match decG a with
    | some g => (shortX g rule).map fun r => .tup [.d r.1, .d (.int .i64 r.2)]
    | none => none
  | _ => none
theorem ora19 : OraS Tryd.prog 19 F19 := by
  refine oraS_of (fz := mdC) oraC mixedT fun args r h => ?_
  unfold F19 at h
  split at h
  · rename_i a rule
    cases hd : decG a with
    | none => rw [hd] at h; cases h
    | some g =>
      rw [hd] at h
      dsimp only at h
      cases hx : shortX g rule with
      | none => rw [hx] at h; cases h
      | some q =>
        rw [hx] at h; cases h
        obtain ⟨rfl, hs⟩ := decG_sound hd
        have := short_C g rule St.empty hs
        rw [shortX_ok hx] at this
        exact ⟨rfl, _, _, this⟩
  · cases h
end Go.Am

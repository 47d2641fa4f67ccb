/- Part O1 of a proof that runs a program's calls on a small machine whose values bear no addresses: no conditions. -/
import Derived.Test.YtahfdfpakikbpaaAmC1
set_option autoImplicit false
set_option linter.unusedSimpArgs false
set_option linter.unusedVariables false
set_option linter.unusedSectionVars false
namespace Go.Am
open Go Go.Proofs
variable {fz : Nat → Md} {m m' : Bool}

/-- a tree in memory: cells that tell of a node; which blocks are its own -/
inductive NV (m : Bool) (σ : St) : List A → Node → List Nat → Prop where
  | data {k n p : Int} {z z' : Bool} {l : List Node} (hm : m = false ∨ l = []) : NV m σ [.d (.int .i64 k), .d (.int .i64 n), .d (.int .i64 p), .d (.slc (z && l.isEmpty) (l.map Node.cs))] (.mk k n p z' l) []
  | row {k n p : Int} {z : Bool} {l : List Node} {kb : Nat} (css : Nat → List A) (bss : Nat → List Nat) (hk : σ.get kb = .cells ((List.range l.length).flatMap css)) (hlt : kb < σ.n)
      (h : ∀ (i : Nat) (y : Node), l[i]? = some y → NV m σ (css i) y (bss i)) (hc : ∀ i, (css i).length = 4) (ho : ∀ i, i < l.length → kb ∉ bss i) (hd : ∀ i j, i < l.length → j < l.length → i ≠ j → ∀ q ∈ bss i, q ∉ bss j) :
      NV m σ [.d (.int .i64 k), .d (.int .i64 n), .d (.int .i64 p), .row kb 0 l.length 4] (.mk k n p z l) (kb :: (List.range l.length).flatMap bss)

theorem flat_range_len {es n : Nat} {f : Nat → List A} (h : ∀ i, (f i).length = es) : ((List.range n).flatMap f).length = n * es := by
  induction n with
  | zero => simp
  | succ n ih => rw [List.range_succ, List.flatMap_append, List.length_append, ih]; simp [h, Nat.succ_mul]
theorem flat_range_at {es : Nat} {f : Nat → List A} (h : ∀ i, (f i).length = es) : ∀ {n i : Nat}, i < n → (((List.range n).flatMap f).drop (i * es)).take es = f i
  | 0, i, hi => absurd hi (Nat.not_lt_zero _)
  | n + 1, i, hi => by
    rw [List.range_succ, List.flatMap_append]
    have hl : ((List.range n).flatMap f).length = n * es := flat_range_len h
    by_cases e : i < n
    · have hle : i * es + es ≤ n * es := by have := Nat.mul_le_mul_right es (show i + 1 ≤ n from e); rw [Nat.succ_mul] at this; exact this
      rw [List.drop_append_of_le_length (by rw [hl]; omega), List.take_append_of_le_length (by rw [List.length_drop, hl]; omega)]
      exact flat_range_at h e
    · obtain rfl : i = n := by omega
      rw [List.drop_append, List.drop_eq_nil_of_le (by rw [hl]; exact Nat.le_refl _), hl, List.nil_append, Nat.sub_self, List.drop_zero, List.flatMap_cons, List.flatMap_nil, List.append_nil, List.take_of_length_le (by rw [h]; exact Nat.le_refl _)]

namespace NV
variable {σ τ : St} {c : List A} {x : Node} {bs : List Nat}
theorem of (x : Node) : NV false σ x.c x [] := by
  cases x with | mk k n p z l => exact NV.data (.inl rfl)
theorem lt (h : NV m σ c x bs) : ∀ k ∈ bs, k < σ.n := by
  induction h with
  | data _ => intro k hk; cases hk
  | row css bss hk hlt h hc ho hd ih =>
    intro k hk'
    rcases List.mem_cons.1 hk' with rfl | hk'
    · exact hlt
    · obtain ⟨i, hi, hik⟩ := List.mem_flatMap.1 hk'
      have hi := List.mem_range.1 hi
      exact ih i _ (List.getElem?_eq_getElem hi) k hik
theorem stay (h : NV m σ c x bs) (hn : σ.n ≤ τ.n) : (∀ k ∈ bs, τ.get k = σ.get k) → NV m τ c x bs := by
  induction h with
  | data hm => intro _; exact .data hm
  | row css bss hk hlt h hc ho hd ih =>
    intro hg
    refine .row css bss (by rw [hg _ (by simp)]; exact hk) (by omega) (fun i y hy => ih i y hy fun k hk => hg k ?_) hc ho hd
    refine List.mem_cons_of_mem _ (List.mem_flatMap.2 ⟨i, ?_, hk⟩)
    exact List.mem_range.2 (List.getElem?_eq_some_iff.1 hy).1
theorem push (h : NV m σ c x bs) {b : Blk} : NV m (σ.push b) c x bs := h.stay (by simp [St.n_push]) fun k hk => St.get_push_ne (h.lt k hk)
theorem set (h : NV m σ c x bs) {b : Blk} {k : Nat} (hk : k ∉ bs) : NV m (σ.set k b) c x bs := h.stay (Nat.le_refl _) fun j hj => St.get_set_ne (by rintro rfl; exact hk hj)
theorem len (h : NV m σ c x bs) : c.length = 4 := by cases h <;> rfl
theorem cell (h : NV m σ c x bs) : c.all A.isCell = true := by cases h <;> rfl
/-- the cells of a node -/
theorem open4 (h : NV m σ c x bs) : ∃ lv, c = [.d (.int .i64 x.kind), .d (.int .i64 x.num), .d (.int .i64 x.pos), lv] ∧ lv.cells = some [lv] ∧ lv.isCell = true ∧ sliceLen σ lv = some x.l.length ∧
    ∀ (i : Nat) (kd : IntKind) (y : Node), x.l[i]? = some y → ∃ p R R' ci bi, indexK σ 4 lv (.d (.int kd (i : Int))) = .val p σ [] R ∧ (∀ kd' b z zv, kd'.agg = true → loadK σ (some ⟨kd', 4, b, z, zv⟩) p = .val (.agg ci) σ [] R') ∧ NV m σ ci y bi ∧ (∀ q ∈ bi, q ∈ bs) := by
  cases h with
  | @data k n p z z' l hm =>
    refine ⟨_, rfl, rfl, rfl, by simp [sliceLen]; rfl, fun i kd y hy => ?_⟩
    have hy : l[i]? = some y := hy
    obtain rfl : m = false := hm.resolve_right fun e => by subst e; simp at hy
    refine ⟨_, _, [], y.c, [], by rw [indexK_d]; exact indexD_nat (by simp [hy]) y.cs_len, fun kd' b z zv ha => ?_, NV.of y, by simp⟩
    rw [loadK_vptr, ha, partOf_t, if_pos (by simp [Node.cs_len]), Node.cs_map]; rfl
  | @row k n p z l kb css bss hk hlt h hc ho hd =>
    refine ⟨_, rfl, rfl, rfl, by rw [sliceLen_row, hk]; rfl, fun i kd y hy => ?_⟩
    have hy : l[i]? = some y := hy
    have hi := (List.getElem?_eq_some_iff.1 hy).1
    refine ⟨_, _, [kb], css i, bss i, by rw [indexK_row, hk]; exact indexR_nat hi, fun kd' b z zv ha => ?_, h i y hy, fun q hq => List.mem_cons_of_mem _ (List.mem_flatMap.2 ⟨i, List.mem_range.2 hi, hq⟩)⟩
    rw [loadK_ptr, hk, loadB_cells, ha, partOf_t, if_pos (by rw [flat_range_len hc, Nat.zero_add]; have := Nat.mul_le_mul_right 4 (show i + 1 ≤ l.length from hi); rw [Nat.succ_mul] at this; exact this), Nat.zero_add, flat_range_at hc hi]; rfl
end NV

mutual
/-- the same tree? -/
def sameP : Node → Node → Bool
  | .mk k n p _ l, .mk k' n' p' _ l' => k == k' && n == n' && p == p' && sameL l l'
def sameL : List Node → List Node → Bool
  | [], [] => true
  | x :: l, y :: m => sameP x y && sameL l m
  | _, _ => false
end
theorem sameP_eq (x y : Node) : sameP x y = (x.kind == y.kind && x.num == y.num && x.pos == y.pos && sameL x.l y.l) := by cases x; cases y; rw [sameP]; rfl
theorem sameL_len : ∀ {l m : List Node}, l.length ≠ m.length → sameL l m = false
  | [], [], h => absurd rfl h
  | [], _ :: _, _ => by rw [sameL] <;> simp
  | _ :: _, [], _ => by rw [sameL] <;> simp
  | x :: l, y :: m, h => by rw [sameL, sameL_len (l := l) (m := m) (by simpa using h), Bool.and_false]

def zeroN : List A := [.d (.int .i64 0), .d (.int .i64 0), .d (.int .i64 0), .d (.slc true [])]

set_option maxHeartbeats 1000000 in
theorem eqf_call (h58 : fz 58 = .cut) {lx ly : A} {l l' : List Node} (σ : St) (hl : l.length < 1000000000)
    (hlx : ∀ τ : St, σ.n ≤ τ.n → (∀ k < σ.n, τ.get k = σ.get k) → sliceLen τ lx = some l.length ∧ ∀ (i : Nat) (kd : IntKind) (y : Node), l[i]? = some y → ∃ p R R' ci bi, indexK τ 4 lx (.d (.int kd (i : Int))) = .val p τ [] R ∧ (∀ kd' b z zv, kd'.agg = true → loadK τ (some ⟨kd', 4, b, z, zv⟩) p = .val (.agg ci) τ [] R') ∧ NV m τ ci y bi ∧ (∀ q ∈ bi, q < σ.n))
    (hly : ∀ τ : St, σ.n ≤ τ.n → (∀ k < σ.n, τ.get k = σ.get k) → sliceLen τ ly = some l'.length ∧ ∀ (i : Nat) (kd : IntKind) (y : Node), l'[i]? = some y → ∃ p R R' ci bi, indexK τ 4 ly (.d (.int kd (i : Int))) = .val p τ [] R ∧ (∀ kd' b z zv, kd'.agg = true → loadK τ (some ⟨kd', 4, b, z, zv⟩) p = .val (.agg ci) τ [] R') ∧ NV m' τ ci y bi ∧ (∀ q ∈ bi, q < σ.n))
    (hs : ∀ x ∈ l, ∀ y c1 c2 b1 b2 τ, NV m τ c1 x b1 → NV m' τ c2 y b2 → CallsTo (XX fz) (.func 25 []) [.agg c1, .agg c2] τ (.d (.bool (sameP x y))) τ []) :
    CallsTo (XX fz) (.func 58 []) [lx, ly, .func 25 []] σ (.d (.bool (sameL l l'))) σ [] := by
  refine CallsTo.cut0 h58 fn58 (by simp) rfl ?_
  simp only [Try.f58, Option.getD_some]
  obtain ⟨s1, -⟩ := hlx σ (Nat.le_refl _) fun _ _ => rfl
  obtain ⟨s2, -⟩ := hly σ (Nat.le_refl _) fun _ _ => rfl
  by_cases he : l.length = l'.length
  · have hne : ((l.length : Int) != (l'.length : Int)) = false := by simp [he]
    simp only [go_sem, ↓reduceIte, Option.some.injEq, Bool.true_eq_false, Bool.false_eq_true, Int.reduceBEq, Int.reduceBNe, Int.reduceLT, Int.reduceLE, Nat.add_assoc, Nat.reduceAdd, Nat.reducePow, Nat.zero_le, Nat.reduceEqDiff, Nat.reduceLT, Nat.reduceLeDiff, Nat.reduceMul, Nat.reduceSub, Nat.add_left_cancel_iff, Nat.lt_irrefl, Nat.le_refl, Nat.add_eq_left, Nat.left_eq_add, beq_self_eq_true, s1, s2, hne]
    refine Ev.loop_ind (fun k tm τ W => ∃ i : Nat, k = l.length - i ∧ i ≤ l.length ∧ W = [] ∧ σ.n ≤ τ.n ∧ (∀ k < σ.n, τ.get k = σ.get k) ∧ sameL (l.drop i) (l'.drop i) = sameL l l' ∧
      tm.at 1 = ly ∧ tm.at 2 = .func 25 [] ∧ tm.at 15 = lx ∧ tm.at 16 = .d (.int .i64 l.length) ∧ tm.at 17 = .d (.int .i64 i)) ?_ l.length _ _ _ ⟨0, rfl, by omega, rfl, Nat.le_refl _, fun _ _ => rfl, rfl, ?_, ?_, ?_, ?_, ?_⟩
    · rintro k tm τ W ⟨i, rfl, hi, rfl, hn, hg, hsm, t1, t2, t15, t16, t17⟩ ih
      by_cases hlt : i < l.length
      · have hlt2 : i < l'.length := by omega
        have gx : l[i]? = some l[i] := by simp [hlt]
        have gy : l'[i]? = some l'[i] := by simp [hlt2]
        obtain ⟨-, fx⟩ := hlx τ hn hg
        obtain ⟨p1, R1, R1', c1, b1, ix1, ld1, nv1, lt1⟩ := fx i .i64 _ gx
        have ld1' := ld1 (.struct [(0, 1, 3), (1, 1, 3), (2, 1, 3), (3, 1, 22)]) 48 (some zeroN) (.agg zeroN) rfl
        have e1 := nv1.len
        have a1 := nv1.cell
        have hτ1 : ∀ (b b' : Blk), σ.n ≤ ((τ.push b).set τ.n b').n ∧ ∀ k < σ.n, ((τ.push b).set τ.n b').get k = σ.get k := fun b b' => ⟨by simp [St.n_set, St.n_push]; omega, fun k hk => by rw [St.get_set_ne (by omega), St.get_push_ne (by omega)]; exact hg k hk⟩
        obtain ⟨hn2, hg2⟩ := hτ1 (.cells zeroN) (.cells c1)
        obtain ⟨-, fy⟩ := hly _ hn2 hg2
        obtain ⟨p2, R2, R2', c2, b2, ix2, ld2, nv2, lt2⟩ := fy i .i64 _ gy
        have ld2' := ld2 (.struct [(0, 1, 3), (1, 1, 3), (2, 1, 3), (3, 1, 22)]) 48 (some zeroN) (.agg zeroN) rfl
        have e2 := nv2.len
        have a2 := nv2.cell
        simp only [zeroN] at ld1' ld2' ix2 nv2
        have htk1 : List.take 4 c1 = c1 := List.take_of_length_le (by omega)
        have htk2 : List.take 4 c2 = c2 := List.take_of_length_le (by omega)
        simp only [go_sem, ↓reduceIte, Option.some.injEq, Bool.true_eq_false, Bool.false_eq_true, Int.reduceBEq, Int.reduceBNe, Int.reduceLT, Int.reduceLE, Nat.add_assoc, Nat.reduceAdd, Nat.reducePow, Nat.zero_le, Nat.reduceEqDiff, Nat.reduceLT, Nat.reduceLeDiff, Nat.reduceMul, Nat.reduceSub, Nat.add_left_cancel_iff, Nat.lt_irrefl, Nat.le_refl, Nat.add_eq_left, Nat.left_eq_add, beq_self_eq_true, t1, t2, t15, t16, t17, dec_lt hlt, ix1, ld1', e1, a1, ix2, ld2', e2, a2, htk1, htk2]
        have lz1 : low σ.n [τ.n] = [] := by rw [low_cons_ge hn]; rfl
        have lz2 : low σ.n [τ.n + 1] = [] := by rw [low_cons_ge (by omega)]; rfl
        have nv1' : NV m ((((τ.push (.cells zeroN)).set τ.n (.cells c1)).push (.cells zeroN)).set (τ.n + 1) (.cells c2)) c1 l[i] b1 := nv1.stay (by simp only [St.n_set, St.n_push]; omega) fun k hk => by
          have := lt1 k hk
          rw [St.get_set_ne (by omega), St.get_push_ne (by simp [St.n_set, St.n_push]; omega), St.get_set_ne (by omega), St.get_push_ne (by omega)]
        have nv2' : NV m' ((((τ.push (.cells zeroN)).set τ.n (.cells c1)).push (.cells zeroN)).set (τ.n + 1) (.cells c2)) c2 l'[i] b2 := nv2.stay (by simp only [St.n_set, St.n_push]; omega) fun k hk => by
          have := lt2 k hk
          rw [St.get_set_ne (by omega), St.get_push_ne (by simp [St.n_set, St.n_push]; omega)]; rfl
        refine ⟨_, _, _, hs _ (List.getElem_mem hlt) _ _ _ _ _ _ nv1' nv2', ?_⟩
        rw [List.drop_eq_getElem_cons hlt, List.drop_eq_getElem_cons hlt2, sameL] at hsm
        cases hq : sameP l[i] l'[i] with
        | false =>
          simp only [go_sem, ↓reduceIte, Option.some.injEq, Bool.true_eq_false, Bool.false_eq_true, Int.reduceBEq, Int.reduceBNe, Int.reduceLT, Int.reduceLE, Nat.add_assoc, Nat.reduceAdd, Nat.reducePow, Nat.zero_le, Nat.reduceEqDiff, Nat.reduceLT, Nat.reduceLeDiff, Nat.reduceMul, Nat.reduceSub, Nat.add_left_cancel_iff, Nat.lt_irrefl, Nat.le_refl, Nat.add_eq_left, Nat.left_eq_add, beq_self_eq_true, lz1, lz2]
          rw [hq, Bool.false_and] at hsm
          rw [hsm]
        | true =>
          rw [hq, Bool.true_and] at hsm
          simp only [go_sem, ↓reduceIte, Option.some.injEq, Bool.true_eq_false, Bool.false_eq_true, Int.reduceBEq, Int.reduceBNe, Int.reduceLT, Int.reduceLE, Nat.add_assoc, Nat.reduceAdd, Nat.reducePow, Nat.zero_le, Nat.reduceEqDiff, Nat.reduceLT, Nat.reduceLeDiff, Nat.reduceMul, Nat.reduceSub, Nat.add_left_cancel_iff, Nat.lt_irrefl, Nat.le_refl, Nat.add_eq_left, Nat.left_eq_add, beq_self_eq_true, lz1, lz2, t17, wrap_succ hlt hl]
          refine ih _ _ _ _ (by omega) ⟨i + 1, rfl, hlt, rfl, by simp [St.n_set, St.n_push]; omega, fun k hk => ?_, hsm, by simp only [go_sem, ↓reduceIte, Option.some.injEq, Bool.true_eq_false, Bool.false_eq_true, Int.reduceBEq, Int.reduceBNe, Int.reduceLT, Int.reduceLE, Nat.add_assoc, Nat.reduceAdd, Nat.reducePow, Nat.zero_le, Nat.reduceEqDiff, Nat.reduceLT, Nat.reduceLeDiff, Nat.reduceMul, Nat.reduceSub, Nat.add_left_cancel_iff, Nat.lt_irrefl, Nat.le_refl, Nat.add_eq_left, Nat.left_eq_add, beq_self_eq_true, t1], by simp only [go_sem, ↓reduceIte, Option.some.injEq, Bool.true_eq_false, Bool.false_eq_true, Int.reduceBEq, Int.reduceBNe, Int.reduceLT, Int.reduceLE, Nat.add_assoc, Nat.reduceAdd, Nat.reducePow, Nat.zero_le, Nat.reduceEqDiff, Nat.reduceLT, Nat.reduceLeDiff, Nat.reduceMul, Nat.reduceSub, Nat.add_left_cancel_iff, Nat.lt_irrefl, Nat.le_refl, Nat.add_eq_left, Nat.left_eq_add, beq_self_eq_true, t2], by simp only [go_sem, ↓reduceIte, Option.some.injEq, Bool.true_eq_false, Bool.false_eq_true, Int.reduceBEq, Int.reduceBNe, Int.reduceLT, Int.reduceLE, Nat.add_assoc, Nat.reduceAdd, Nat.reducePow, Nat.zero_le, Nat.reduceEqDiff, Nat.reduceLT, Nat.reduceLeDiff, Nat.reduceMul, Nat.reduceSub, Nat.add_left_cancel_iff, Nat.lt_irrefl, Nat.le_refl, Nat.add_eq_left, Nat.left_eq_add, beq_self_eq_true, t15], by simp only [go_sem, ↓reduceIte, Option.some.injEq, Bool.true_eq_false, Bool.false_eq_true, Int.reduceBEq, Int.reduceBNe, Int.reduceLT, Int.reduceLE, Nat.add_assoc, Nat.reduceAdd, Nat.reducePow, Nat.zero_le, Nat.reduceEqDiff, Nat.reduceLT, Nat.reduceLeDiff, Nat.reduceMul, Nat.reduceSub, Nat.add_left_cancel_iff, Nat.lt_irrefl, Nat.le_refl, Nat.add_eq_left, Nat.left_eq_add, beq_self_eq_true, t16], by simp only [go_sem, ↓reduceIte, Option.some.injEq, Bool.true_eq_false, Bool.false_eq_true, Int.reduceBEq, Int.reduceBNe, Int.reduceLT, Int.reduceLE, Nat.add_assoc, Nat.reduceAdd, Nat.reducePow, Nat.zero_le, Nat.reduceEqDiff, Nat.reduceLT, Nat.reduceLeDiff, Nat.reduceMul, Nat.reduceSub, Nat.add_left_cancel_iff, Nat.lt_irrefl, Nat.le_refl, Nat.add_eq_left, Nat.left_eq_add, beq_self_eq_true]⟩
          rw [St.get_set_ne (by omega), St.get_push_ne (by simp [St.n_set, St.n_push]; omega), St.get_set_ne (by omega), St.get_push_ne (by omega)]; exact hg k hk
      · simp only [go_sem, ↓reduceIte, Option.some.injEq, Bool.true_eq_false, Bool.false_eq_true, Int.reduceBEq, Int.reduceBNe, Int.reduceLT, Int.reduceLE, Nat.add_assoc, Nat.reduceAdd, Nat.reducePow, Nat.zero_le, Nat.reduceEqDiff, Nat.reduceLT, Nat.reduceLeDiff, Nat.reduceMul, Nat.reduceSub, Nat.add_left_cancel_iff, Nat.lt_irrefl, Nat.le_refl, Nat.add_eq_left, Nat.left_eq_add, beq_self_eq_true, t1, t2, t15, t16, t17, dec_ge hlt]
        rw [List.drop_eq_nil_of_le (by omega), List.drop_eq_nil_of_le (by omega)] at hsm
        rw [← hsm]; rfl
    all_goals first | rfl | (simp only [go_sem, ↓reduceIte, Option.some.injEq, Bool.true_eq_false, Bool.false_eq_true, Int.reduceBEq, Int.reduceBNe, Int.reduceLT, Int.reduceLE, Nat.add_assoc, Nat.reduceAdd, Nat.reducePow, Nat.zero_le, Nat.reduceEqDiff, Nat.reduceLT, Nat.reduceLeDiff, Nat.reduceMul, Nat.reduceSub, Nat.add_left_cancel_iff, Nat.lt_irrefl, Nat.le_refl, Nat.add_eq_left, Nat.left_eq_add, beq_self_eq_true]; done) | (simp only [go_sem, ↓reduceIte, Option.some.injEq, Bool.true_eq_false, Bool.false_eq_true, Int.reduceBEq, Int.reduceBNe, Int.reduceLT, Int.reduceLE, Nat.add_assoc, Nat.reduceAdd, Nat.reducePow, Nat.zero_le, Nat.reduceEqDiff, Nat.reduceLT, Nat.reduceLeDiff, Nat.reduceMul, Nat.reduceSub, Nat.add_left_cancel_iff, Nat.lt_irrefl, Nat.le_refl, Nat.add_eq_left, Nat.left_eq_add, beq_self_eq_true]; rfl)
  · have hne : ((l.length : Int) != (l'.length : Int)) = true := by simp; omega
    simp only [go_sem, ↓reduceIte, Option.some.injEq, Bool.true_eq_false, Bool.false_eq_true, Int.reduceBEq, Int.reduceBNe, Int.reduceLT, Int.reduceLE, Nat.add_assoc, Nat.reduceAdd, Nat.reducePow, Nat.zero_le, Nat.reduceEqDiff, Nat.reduceLT, Nat.reduceLeDiff, Nat.reduceMul, Nat.reduceSub, Nat.add_left_cancel_iff, Nat.lt_irrefl, Nat.le_refl, Nat.add_eq_left, Nat.left_eq_add, beq_self_eq_true, s1, s2, hne, sameL_len he]

set_option maxHeartbeats 4000000 in
theorem same_call (h25 : fz 25 = .cut) (h58 : fz 58 = .cut) (x y : Node) (c1 c2 : List A) (b1 b2 : List Nat) (σ : St) (hx : Small x) (n1 : NV m σ c1 x b1) (n2 : NV m' σ c2 y b2) :
    CallsTo (XX fz) (.func 25 []) [.agg c1, .agg c2] σ (.d (.bool (sameP x y))) σ [] := by
  refine CallsTo.cut0 h25 fn25 (by simp) rfl ?_
  simp only [Try.f25, Option.getD_some]
  rw [sameP_eq]
  obtain ⟨lv1, rfl, e1, i1, len1, -⟩ := n1.open4
  obtain ⟨lv2, rfl, e2, i2, len2, -⟩ := n2.open4
  simp only [go_sem, ↓reduceIte, Option.some.injEq, Bool.true_eq_false, Bool.false_eq_true, Int.reduceBEq, Int.reduceBNe, Int.reduceLT, Int.reduceLE, Nat.add_assoc, Nat.reduceAdd, Nat.reducePow, Nat.zero_le, Nat.reduceEqDiff, Nat.reduceLT, Nat.reduceLeDiff, Nat.reduceMul, Nat.reduceSub, Nat.add_left_cancel_iff, Nat.lt_irrefl, Nat.le_refl, Nat.add_eq_left, Nat.left_eq_add, beq_self_eq_true]
  cases ck : (x.kind == y.kind) with
  | false => simp only [go_sem, ↓reduceIte, Option.some.injEq, Bool.true_eq_false, Bool.false_eq_true, Int.reduceBEq, Int.reduceBNe, Int.reduceLT, Int.reduceLE, Nat.add_assoc, Nat.reduceAdd, Nat.reducePow, Nat.zero_le, Nat.reduceEqDiff, Nat.reduceLT, Nat.reduceLeDiff, Nat.reduceMul, Nat.reduceSub, Nat.add_left_cancel_iff, Nat.lt_irrefl, Nat.le_refl, Nat.add_eq_left, Nat.left_eq_add, beq_self_eq_true]
  | true =>
    cases cn : (x.num == y.num) with
    | false => simp only [go_sem, ↓reduceIte, Option.some.injEq, Bool.true_eq_false, Bool.false_eq_true, Int.reduceBEq, Int.reduceBNe, Int.reduceLT, Int.reduceLE, Nat.add_assoc, Nat.reduceAdd, Nat.reducePow, Nat.zero_le, Nat.reduceEqDiff, Nat.reduceLT, Nat.reduceLeDiff, Nat.reduceMul, Nat.reduceSub, Nat.add_left_cancel_iff, Nat.lt_irrefl, Nat.le_refl, Nat.add_eq_left, Nat.left_eq_add, beq_self_eq_true]
    | true =>
      cases cp : (x.pos == y.pos) with
      | false => simp only [go_sem, ↓reduceIte, Option.some.injEq, Bool.true_eq_false, Bool.false_eq_true, Int.reduceBEq, Int.reduceBNe, Int.reduceLT, Int.reduceLE, Nat.add_assoc, Nat.reduceAdd, Nat.reducePow, Nat.zero_le, Nat.reduceEqDiff, Nat.reduceLT, Nat.reduceLeDiff, Nat.reduceMul, Nat.reduceSub, Nat.add_left_cancel_iff, Nat.lt_irrefl, Nat.le_refl, Nat.add_eq_left, Nat.left_eq_add, beq_self_eq_true]
      | true =>
        simp only [go_sem, ↓reduceIte, Option.some.injEq, Bool.true_eq_false, Bool.false_eq_true, Int.reduceBEq, Int.reduceBNe, Int.reduceLT, Int.reduceLE, Nat.add_assoc, Nat.reduceAdd, Nat.reducePow, Nat.zero_le, Nat.reduceEqDiff, Nat.reduceLT, Nat.reduceLeDiff, Nat.reduceMul, Nat.reduceSub, Nat.add_left_cancel_iff, Nat.lt_irrefl, Nat.le_refl, Nat.add_eq_left, Nat.left_eq_add, beq_self_eq_true]
        have hsmall : x.l.length < 1000000000 := hx.len
        refine ⟨_, _, _, eqf_call (m := m) (m' := m') h58 (l := x.l) (l' := y.l) _ hsmall ?_ ?_ ?_, ?_⟩
        · intro τ hn hg
          have n3 := n1.stay (τ := τ) (by simp only [St.n_push] at hn; omega) fun k hk => by
            rw [hg k (by have := n1.lt k hk; simp only [St.n_push]; omega), St.get_push_ne (by have := n1.lt k hk; simp only [St.n_push]; omega), St.get_push_ne (n1.lt k hk)]
          obtain ⟨lv, hlv, -, -, hlen, hidx⟩ := n3.open4
          simp only [List.cons.injEq, and_true, true_and] at hlv
          subst hlv
          refine ⟨hlen, fun i kd z hz => ?_⟩
          obtain ⟨p, R, R', ci, bi, q1, q2, q3, q4⟩ := hidx i kd z hz
          exact ⟨p, R, R', ci, bi, q1, q2, q3, fun q hq => by have := n1.lt q (q4 q hq); simp only [St.n_push]; omega⟩
        · intro τ hn hg
          have n3 := n2.stay (τ := τ) (by simp only [St.n_push] at hn; omega) fun k hk => by
            rw [hg k (by have := n2.lt k hk; simp only [St.n_push]; omega), St.get_push_ne (by have := n2.lt k hk; simp only [St.n_push]; omega), St.get_push_ne (n2.lt k hk)]
          obtain ⟨lv, hlv, -, -, hlen, hidx⟩ := n3.open4
          simp only [List.cons.injEq, and_true, true_and] at hlv
          subst hlv
          refine ⟨hlen, fun i kd z hz => ?_⟩
          obtain ⟨p, R, R', ci, bi, q1, q2, q3, q4⟩ := hidx i kd z hz
          exact ⟨p, R, R', ci, bi, q1, q2, q3, fun q hq => by have := n2.lt q (q4 q hq); simp only [St.n_push]; omega⟩
        · intro z hz y' c3 c4 b3 b4 τ m1 m2
          exact same_call h25 h58 z y' c3 c4 b3 b4 τ (hx.sub hz) m1 m2
        · simp only [go_sem, ↓reduceIte, Option.some.injEq, Bool.true_eq_false, Bool.false_eq_true, Int.reduceBEq, Int.reduceBNe, Int.reduceLT, Int.reduceLE, Nat.add_assoc, Nat.reduceAdd, Nat.reducePow, Nat.zero_le, Nat.reduceEqDiff, Nat.reduceLT, Nat.reduceLeDiff, Nat.reduceMul, Nat.reduceSub, Nat.add_left_cancel_iff, Nat.lt_irrefl, Nat.le_refl, Nat.add_eq_left, Nat.left_eq_add, beq_self_eq_true]
termination_by x
decreasing_by exact Node.sub_lt hz
end Go.Am
namespace Go.Am
open Go Go.Proofs
variable {fz : Nat → Md} {m₀ : Bool}

/-- the counting visit, of whatever it is called with -/
theorem size1_any (hz : fz 53 = .keep) {d : Int} {c : List A} {k : Nat} {v : Int} {σ : St} (hk : σ.get k = .cells [.d (.int .i64 v)]) (hn : k < σ.n) :
    Run (XX fz) (.func 53 [.ptr k 0]) [.d (.int .i64 d), .agg c] σ [k] (.d (.bool true)) fun σ' own => σ'.get k = .cells [.d (.int .i64 (IntKind.i64.wrap (v + 1)))] ∧ own = [k] := by
  have hne : k ≠ σ.n := by omega
  refine Run.keep hz fn53 (by simp) ?_
  simp only [Try.f53, Option.getD_some]
  simp only [go_sem, ↓reduceIte, Option.some.injEq, Bool.true_eq_false, Bool.false_eq_true, Int.reduceBEq, Int.reduceBNe, Int.reduceLT, Int.reduceLE, Nat.add_assoc, Nat.reduceAdd, Nat.reducePow, Nat.zero_le, Nat.reduceEqDiff, Nat.reduceLT, Nat.reduceLeDiff, Nat.reduceMul, Nat.reduceSub, Nat.add_left_cancel_iff, Nat.lt_irrefl, Nat.le_refl, Nat.add_eq_left, Nat.left_eq_add, beq_self_eq_true, hk, hne]
  exact ⟨[k], Kept.refl.push.write (by simp), rfl⟩

set_option maxHeartbeats 2000000 in
/-- counting a tree in memory -/
theorem sizeN_run (h52 : fz 52 = .keep) (h53 : fz 53 = .keep) (x : Node) (c : List A) (bs : List Nat) (d v : Int) (k : Nat) (σ : St) (hx : Small x) (n1 : NV m₀ σ c x bs) (hk : σ.get k = .cells [.d (.int .i64 v)]) (hlt : k < σ.n) (hkb : k ∉ bs)
    (h0 : 0 ≤ v) (hv : v + x.size < 1000000000000) :
    Run (XX fz) (.func 52 []) [.agg c, .d (.int .i64 d), .func 53 [.ptr k 0]] σ [k] (.d (.bool true)) fun σ' own => σ'.get k = .cells [.d (.int .i64 (v + x.size))] ∧ own = [k] := by
  obtain ⟨lv, rfl, e1, i1, len1, idx1⟩ := n1.open4
  have hsz := x.size_eq
  have hlen := hx.len
  have hw1 : IntKind.i64.wrap (v + 1) = v + 1 := wrap_small (by omega) (by split at hsz <;> omega)
  obtain ⟨σ1, T, own1, hc, hK1, hg1, rfl⟩ := size1_any h53 (d := d) (c := [.d (.int .i64 x.kind), .d (.int .i64 x.num), .d (.int .i64 x.pos), lv]) (k := k) (v := v) (σ := σ.push (.cells [.d (.int .i64 x.kind), .d (.int .i64 x.num), .d (.int .i64 x.pos), lv])) (by rw [St.get_push_ne hlt]; exact hk) (by simp [St.n_push]; omega)
  rw [hw1] at hg1
  have hb : σ1.get σ.n = .cells [.d (.int .i64 x.kind), .d (.int .i64 x.num), .d (.int .i64 x.pos), lv] := by
    rw [hK1.same σ.n (by simp [St.n_push]) (by simp; omega)]; exact St.get_push_eq
  have hK : Kept σ [k] σ1 [k] (low σ.n T) := (Kept.refl (σ := σ) (own := [k]) |>.push (b := .cells [.d (.int .i64 x.kind), .d (.int .i64 x.num), .d (.int .i64 x.pos), lv])).call hK1
  have nq : NV m₀ σ1 [.d (.int .i64 x.kind), .d (.int .i64 x.num), .d (.int .i64 x.pos), lv] x bs := n1.stay hK.n fun q hq => hK.same q (n1.lt q hq) (by simp; rintro rfl; exact hkb hq)
  have len2 : sliceLen σ1 lv = some x.l.length := by
    obtain ⟨lv', hlv, -, -, hh, -⟩ := nq.open4
    simp only [List.cons.injEq, and_true, true_and] at hlv
    subst hlv; exact hh
  refine Run.keep h52 fn52 (by simp) ?_
  simp only [Try.f52, Option.getD_some]
  simp only [go_sem, ↓reduceIte, Option.some.injEq, Bool.true_eq_false, Bool.false_eq_true, Int.reduceBEq, Int.reduceBNe, Int.reduceLT, Int.reduceLE, Nat.add_assoc, Nat.reduceAdd, Nat.reducePow, Nat.zero_le, Nat.reduceEqDiff, Nat.reduceLT, Nat.reduceLeDiff, Nat.reduceMul, Nat.reduceSub, Nat.add_left_cancel_iff, Nat.lt_irrefl, Nat.le_refl, Nat.add_eq_left, Nat.left_eq_add, beq_self_eq_true]
  refine ⟨_, _, _, hc, ?_⟩
  simp only [go_sem, ↓reduceIte, Option.some.injEq, Bool.true_eq_false, Bool.false_eq_true, Int.reduceBEq, Int.reduceBNe, Int.reduceLT, Int.reduceLE, Nat.add_assoc, Nat.reduceAdd, Nat.reducePow, Nat.zero_le, Nat.reduceEqDiff, Nat.reduceLT, Nat.reduceLeDiff, Nat.reduceMul, Nat.reduceSub, Nat.add_left_cancel_iff, Nat.lt_irrefl, Nat.le_refl, Nat.add_eq_left, Nat.left_eq_add, beq_self_eq_true, hb]
  cases hkd : (x.kind != 0) with
  | true =>
    simp only [go_sem, ↓reduceIte, Option.some.injEq, Bool.true_eq_false, Bool.false_eq_true, Int.reduceBEq, Int.reduceBNe, Int.reduceLT, Int.reduceLE, Nat.add_assoc, Nat.reduceAdd, Nat.reducePow, Nat.zero_le, Nat.reduceEqDiff, Nat.reduceLT, Nat.reduceLeDiff, Nat.reduceMul, Nat.reduceSub, Nat.add_left_cancel_iff, Nat.lt_irrefl, Nat.le_refl, Nat.add_eq_left, Nat.left_eq_add, beq_self_eq_true]
    rw [hsz, if_neg (by simpa using hkd)]
    exact ⟨_, hK, hg1, rfl⟩
  | false =>
    have hkd0 : x.kind = 0 := by simpa using hkd
    rw [if_pos hkd0] at hsz
    simp only [go_sem, ↓reduceIte, Option.some.injEq, Bool.true_eq_false, Bool.false_eq_true, Int.reduceBEq, Int.reduceBNe, Int.reduceLT, Int.reduceLE, Nat.add_assoc, Nat.reduceAdd, Nat.reducePow, Nat.zero_le, Nat.reduceEqDiff, Nat.reduceLT, Nat.reduceLeDiff, Nat.reduceMul, Nat.reduceSub, Nat.add_left_cancel_iff, Nat.lt_irrefl, Nat.le_refl, Nat.add_eq_left, Nat.left_eq_add, beq_self_eq_true, hb, len2]
    refine Ev.loop_ind (fun m tm τ W => ∃ i : Nat, m = x.l.length - i ∧ i ≤ x.l.length ∧ Kept σ [k] τ [k] W ∧ τ.get k = .cells [.d (.int .i64 (v + 1 + ((x.l.take i).map Node.size).sum))] ∧
      tm.at 1 = .d (.int .i64 d) ∧ tm.at 2 = .func 53 [.ptr k 0] ∧ tm.at 18 = lv ∧ tm.at 19 = .d (.int .i64 x.l.length) ∧ tm.at 20 = .d (.int .i64 i)) ?_ x.l.length _ _ _ ⟨0, rfl, by omega, hK, by rw [hg1]; simp, ?_, ?_, ?_, ?_, ?_⟩
    · rintro m tm τ W ⟨i, rfl, hi, hK', hg, t1, t2, t18, t19, t20⟩ ih
      by_cases hl : i < x.l.length
      · have hget : x.l[i]? = some x.l[i] := by simp [hl]
        have hmem : x.l[i] ∈ x.l := List.getElem_mem hl
        have n2 : NV m₀ τ [.d (.int .i64 x.kind), .d (.int .i64 x.num), .d (.int .i64 x.pos), lv] x bs := n1.stay hK'.n fun q hq => hK'.same q (n1.lt q hq) (by simp; rintro rfl; exact hkb hq)
        obtain ⟨lv', hlv, -, -, -, idx2⟩ := n2.open4
        simp only [List.cons.injEq, and_true, true_and] at hlv
        subst hlv
        obtain ⟨p, R, R', ci, bi, ix, ld, nvi, hsub⟩ := idx2 i .i64 _ hget
        have ld' := ld (.struct [(0, 1, 3), (1, 1, 3), (2, 1, 3), (3, 1, 22)]) 48 (some zeroN) (.agg zeroN) rfl
        have e4 := nvi.len
        have a4 := nvi.cell
        have htk : List.take 4 ci = ci := List.take_of_length_le (by omega)
        simp only [zeroN] at ld'
        have hsum : ((x.l.take (i + 1)).map Node.size).sum = ((x.l.take i).map Node.size).sum + x.l[i].size := by
          rw [List.take_succ_eq_append_getElem hl, List.map_append, List.sum_append, List.map_cons, List.map_nil, List.sum_cons, List.sum_nil, Nat.add_zero]
        have hsumle : ((x.l.take (i + 1)).map Node.size).sum ≤ (x.l.map Node.size).sum := by
          have : (x.l.map Node.size).sum = ((x.l.take (i + 1)).map Node.size).sum + ((x.l.drop (i + 1)).map Node.size).sum := by rw [← List.sum_append, ← List.map_append, List.take_append_drop]
          omega
        have hkt : k < τ.n := Nat.lt_of_lt_of_le hlt hK'.n
        have nvi' : NV m₀ ((τ.push (.cells zeroN)).set τ.n (.cells ci)) ci x.l[i] bi := (nvi.push (b := .cells zeroN)).set fun h => by have := nvi.lt _ h; omega
        obtain ⟨σ2, T2, own2, hc2, hK2, hg2, rfl⟩ := sizeN_run h52 h53 x.l[i] ci bi (IntKind.i64.wrap (d + 1)) (v + 1 + ((x.l.take i).map Node.size).sum) k ((τ.push (.cells zeroN)).set τ.n (.cells ci)) (hx.sub hmem) nvi'
          (by rw [St.get_set_ne (by omega), St.get_push_ne hkt]; exact hg) (by simp [St.n_set, St.n_push]; omega) (fun h => hkb (hsub k h)) (by omega) (by omega)
        have hK3 : Kept σ [k] σ2 [k] (W ++ low σ.n [τ.n] ++ low σ.n T2) := (hK'.push.write (.inr hK'.n)).call hK2
        simp only [go_sem, ↓reduceIte, Option.some.injEq, Bool.true_eq_false, Bool.false_eq_true, Int.reduceBEq, Int.reduceBNe, Int.reduceLT, Int.reduceLE, Nat.add_assoc, Nat.reduceAdd, Nat.reducePow, Nat.zero_le, Nat.reduceEqDiff, Nat.reduceLT, Nat.reduceLeDiff, Nat.reduceMul, Nat.reduceSub, Nat.add_left_cancel_iff, Nat.lt_irrefl, Nat.le_refl, Nat.add_eq_left, Nat.left_eq_add, beq_self_eq_true, t1, t2, t18, t19, t20, dec_lt hl, ix, ld', e4, a4, htk]
        refine ⟨_, _, _, hc2, ?_⟩
        simp only [go_sem, ↓reduceIte, Option.some.injEq, Bool.true_eq_false, Bool.false_eq_true, Int.reduceBEq, Int.reduceBNe, Int.reduceLT, Int.reduceLE, Nat.add_assoc, Nat.reduceAdd, Nat.reducePow, Nat.zero_le, Nat.reduceEqDiff, Nat.reduceLT, Nat.reduceLeDiff, Nat.reduceMul, Nat.reduceSub, Nat.add_left_cancel_iff, Nat.lt_irrefl, Nat.le_refl, Nat.add_eq_left, Nat.left_eq_add, beq_self_eq_true, t20, wrap_succ hl hlen]
        refine ih _ _ _ _ (by omega) ⟨i + 1, rfl, hl, hK3, ?_, by simp only [go_sem, ↓reduceIte, Option.some.injEq, Bool.true_eq_false, Bool.false_eq_true, Int.reduceBEq, Int.reduceBNe, Int.reduceLT, Int.reduceLE, Nat.add_assoc, Nat.reduceAdd, Nat.reducePow, Nat.zero_le, Nat.reduceEqDiff, Nat.reduceLT, Nat.reduceLeDiff, Nat.reduceMul, Nat.reduceSub, Nat.add_left_cancel_iff, Nat.lt_irrefl, Nat.le_refl, Nat.add_eq_left, Nat.left_eq_add, beq_self_eq_true, t1], by simp only [go_sem, ↓reduceIte, Option.some.injEq, Bool.true_eq_false, Bool.false_eq_true, Int.reduceBEq, Int.reduceBNe, Int.reduceLT, Int.reduceLE, Nat.add_assoc, Nat.reduceAdd, Nat.reducePow, Nat.zero_le, Nat.reduceEqDiff, Nat.reduceLT, Nat.reduceLeDiff, Nat.reduceMul, Nat.reduceSub, Nat.add_left_cancel_iff, Nat.lt_irrefl, Nat.le_refl, Nat.add_eq_left, Nat.left_eq_add, beq_self_eq_true, t2], by simp only [go_sem, ↓reduceIte, Option.some.injEq, Bool.true_eq_false, Bool.false_eq_true, Int.reduceBEq, Int.reduceBNe, Int.reduceLT, Int.reduceLE, Nat.add_assoc, Nat.reduceAdd, Nat.reducePow, Nat.zero_le, Nat.reduceEqDiff, Nat.reduceLT, Nat.reduceLeDiff, Nat.reduceMul, Nat.reduceSub, Nat.add_left_cancel_iff, Nat.lt_irrefl, Nat.le_refl, Nat.add_eq_left, Nat.left_eq_add, beq_self_eq_true, t18], by simp only [go_sem, ↓reduceIte, Option.some.injEq, Bool.true_eq_false, Bool.false_eq_true, Int.reduceBEq, Int.reduceBNe, Int.reduceLT, Int.reduceLE, Nat.add_assoc, Nat.reduceAdd, Nat.reducePow, Nat.zero_le, Nat.reduceEqDiff, Nat.reduceLT, Nat.reduceLeDiff, Nat.reduceMul, Nat.reduceSub, Nat.add_left_cancel_iff, Nat.lt_irrefl, Nat.le_refl, Nat.add_eq_left, Nat.left_eq_add, beq_self_eq_true, t19], by simp only [go_sem, ↓reduceIte, Option.some.injEq, Bool.true_eq_false, Bool.false_eq_true, Int.reduceBEq, Int.reduceBNe, Int.reduceLT, Int.reduceLE, Nat.add_assoc, Nat.reduceAdd, Nat.reducePow, Nat.zero_le, Nat.reduceEqDiff, Nat.reduceLT, Nat.reduceLeDiff, Nat.reduceMul, Nat.reduceSub, Nat.add_left_cancel_iff, Nat.lt_irrefl, Nat.le_refl, Nat.add_eq_left, Nat.left_eq_add, beq_self_eq_true]⟩
        rw [hg2, hsum]
        congr 4; omega
      · simp only [go_sem, ↓reduceIte, Option.some.injEq, Bool.true_eq_false, Bool.false_eq_true, Int.reduceBEq, Int.reduceBNe, Int.reduceLT, Int.reduceLE, Nat.add_assoc, Nat.reduceAdd, Nat.reducePow, Nat.zero_le, Nat.reduceEqDiff, Nat.reduceLT, Nat.reduceLeDiff, Nat.reduceMul, Nat.reduceSub, Nat.add_left_cancel_iff, Nat.lt_irrefl, Nat.le_refl, Nat.add_eq_left, Nat.left_eq_add, beq_self_eq_true, t1, t2, t18, t19, t20, dec_ge hl]
        rw [List.take_of_length_le (by omega)] at hg
        refine ⟨_, hK', ?_, rfl⟩
        rw [hg]; congr 4; omega
    all_goals first | rfl | (simp only [go_sem, ↓reduceIte, Option.some.injEq, Bool.true_eq_false, Bool.false_eq_true, Int.reduceBEq, Int.reduceBNe, Int.reduceLT, Int.reduceLE, Nat.add_assoc, Nat.reduceAdd, Nat.reducePow, Nat.zero_le, Nat.reduceEqDiff, Nat.reduceLT, Nat.reduceLeDiff, Nat.reduceMul, Nat.reduceSub, Nat.add_left_cancel_iff, Nat.lt_irrefl, Nat.le_refl, Nat.add_eq_left, Nat.left_eq_add, beq_self_eq_true]; done) | (simp only [go_sem, ↓reduceIte, Option.some.injEq, Bool.true_eq_false, Bool.false_eq_true, Int.reduceBEq, Int.reduceBNe, Int.reduceLT, Int.reduceLE, Nat.add_assoc, Nat.reduceAdd, Nat.reducePow, Nat.zero_le, Nat.reduceEqDiff, Nat.reduceLT, Nat.reduceLeDiff, Nat.reduceMul, Nat.reduceSub, Nat.add_left_cancel_iff, Nat.lt_irrefl, Nat.le_refl, Nat.add_eq_left, Nat.left_eq_add, beq_self_eq_true]; rfl)
termination_by x
decreasing_by exact Node.sub_lt hmem

theorem sizeN_call (h17 : fz 17 = .cut) (h52 : fz 52 = .keep) (h53 : fz 53 = .keep) (x : Node) (c : List A) (bs : List Nat) (σ : St) (hx : Small x) (n1 : NV m₀ σ c x bs) : CallsTo (XX fz) (.func 17 []) [.agg c] σ (.d (.int .i64 x.size)) σ [] := by
  refine CallsTo.cut0 h17 fn17 (by simp) rfl ?_
  simp only [Try.f17, Option.getD_some]
  have hlen := n1.len
  have htk : List.take 4 c = c := List.take_of_length_le (by omega)
  simp only [go_sem, ↓reduceIte, Option.some.injEq, Bool.true_eq_false, Bool.false_eq_true, Int.reduceBEq, Int.reduceBNe, Int.reduceLT, Int.reduceLE, Nat.add_assoc, Nat.reduceAdd, Nat.reducePow, Nat.zero_le, Nat.reduceEqDiff, Nat.reduceLT, Nat.reduceLeDiff, Nat.reduceMul, Nat.reduceSub, Nat.add_left_cancel_iff, Nat.lt_irrefl, Nat.le_refl, Nat.add_eq_left, Nat.left_eq_add, beq_self_eq_true, hlen, htk]
  have hs := x.size_le
  unfold Small at hx
  have n2 : NV m₀ (((σ.push (.cells c)).push (.cells [.d (.int .i64 0)])).set (σ.n + 1) (.cells [.d (.int .i64 0)])) c x bs := (n1.push.push).set fun h => by have := n1.lt _ h; omega
  obtain ⟨σ1, T, own1, hc, hK, hg, rfl⟩ := sizeN_run h52 h53 x c bs 0 0 (σ.n + 1) _ hx n2 St.get_set_eq (by simp [St.n_push, St.n_set]) (fun h => by have := n1.lt _ h; omega) (by omega) (by omega)
  refine ⟨_, _, _, hc, ?_⟩
  have hT : low σ.n T = [] := low_all fun k hk => by
    rcases hK.w k hk with h | h
    · simp at h; omega
    · simp [St.n_push, St.n_set] at h; omega
  simp only [go_sem, ↓reduceIte, Option.some.injEq, Bool.true_eq_false, Bool.false_eq_true, Int.reduceBEq, Int.reduceBNe, Int.reduceLT, Int.reduceLE, Nat.add_assoc, Nat.reduceAdd, Nat.reducePow, Nat.zero_le, Nat.reduceEqDiff, Nat.reduceLT, Nat.reduceLeDiff, Nat.reduceMul, Nat.reduceSub, Nat.add_left_cancel_iff, Nat.lt_irrefl, Nat.le_refl, Nat.add_eq_left, Nat.left_eq_add, beq_self_eq_true, hg, hT]
  simp
end Go.Am
namespace Go.Am
open Go Go.Proofs
variable {fz : Nat → Md}

/-- a list of trees in memory, built up so far -/
def LV (σ : St) (lv : A) (l : List Node) (bs : List Nat) : Prop :=
  (l = [] ∧ lv = .d (.slc true []) ∧ bs = []) ∨ ∃ kb css bss, lv = .row kb 0 l.length 4 ∧ σ.get kb = .cells ((List.range l.length).flatMap css) ∧ kb < σ.n ∧ (∀ (i : Nat) (y : Node), l[i]? = some y → NV true σ (css i) y (bss i)) ∧ (∀ i, (css i).length = 4) ∧
    (∀ i, i < l.length → kb ∉ bss i) ∧ (∀ i j, i < l.length → j < l.length → i ≠ j → ∀ q ∈ bss i, q ∉ bss j) ∧ bs = kb :: (List.range l.length).flatMap bss
theorem LV.nv {σ : St} {lv : A} {l : List Node} {bs : List Nat} (h : LV σ lv l bs) {k n p : Int} {z : Bool} : NV true σ [.d (.int .i64 k), .d (.int .i64 n), .d (.int .i64 p), lv] (.mk k n p z l) bs := by
  rcases h with ⟨rfl, rfl, rfl⟩ | ⟨kb, css, bss, rfl, h1, h2, h3, h4, h5, h6, rfl⟩
  · exact NV.data (z := true) (l := []) (.inr rfl)
  · exact NV.row css bss h1 h2 h3 h4 h5 h6
theorem LV.lt {σ : St} {lv : A} {l : List Node} {bs : List Nat} (h : LV σ lv l bs) : ∀ k ∈ bs, k < σ.n := (h.nv (k := 0) (n := 0) (p := 0) (z := true)).lt
theorem LV.stay {σ τ : St} {lv : A} {l : List Node} {bs : List Nat} (h : LV σ lv l bs) (hn : σ.n ≤ τ.n) (hg : ∀ k ∈ bs, τ.get k = σ.get k) : LV τ lv l bs := by
  rcases h with h | ⟨kb, css, bss, rfl, h1, h2, h3, h4, h5, h6, rfl⟩
  · exact .inl h
  · refine .inr ⟨kb, css, bss, rfl, by rw [hg _ (by simp)]; exact h1, by omega, fun i y hy => (h3 i y hy).stay hn fun k hk => hg k ?_, h4, h5, h6, rfl⟩
    exact List.mem_cons_of_mem _ (List.mem_flatMap.2 ⟨i, List.mem_range.2 (List.getElem?_eq_some_iff.1 hy).1, hk⟩)
theorem LV.cell {σ : St} {lv : A} {l : List Node} {bs : List Nat} (h : LV σ lv l bs) : lv.isCell = true ∧ lv.cells = some [lv] := by
  rcases h with ⟨rfl, rfl, rfl⟩ | ⟨kb, css, bss, rfl, -⟩ <;> exact ⟨rfl, rfl⟩
theorem flat_cells {n : Nat} {f : Nat → List A} (h : ∀ i, i < n → (f i).all A.isCell = true) : ((List.range n).flatMap f).all A.isCell = true := by
  rw [List.all_eq_true]
  intro a ha
  obtain ⟨i, hi, hia⟩ := List.mem_flatMap.1 ha
  exact List.all_eq_true.1 (h i (List.mem_range.1 hi)) a hia
theorem range_congr {α : Type} {n : Nat} {f g : Nat → List α} (h : ∀ i, i < n → f i = g i) : (List.range n).flatMap f = (List.range n).flatMap g := by
  induction n with
  | zero => rfl
  | succ n ih => rw [List.range_succ, List.flatMap_append, List.flatMap_append, ih fun i hi => h i (by omega)]; simp [h n (by omega)]

/-- a tree more -/
theorem LV.app {σ : St} {lv : A} {l : List Node} {bs : List Nat} (h : LV σ lv l bs) {j : Nat} {c : List A} {y : Node} {b : List Nat} (hj : σ.get j = .cells c) (hc : NV true σ c y b) (hjb : j ∉ bs) (hjb2 : j ∉ b) (hbb : ∀ q ∈ b, q ∉ bs) (hl : l.length < 1000000000) :
    ∃ lv' σ' T bs', appendA 4 48 σ lv (.row j 0 1 4) = .val lv' σ' T [] ∧ LV σ' lv' (l ++ [y]) bs' ∧ Kept σ (bs ++ b) σ' bs' T ∧ (∀ k ∈ T, k ∈ bs) ∧ σ'.n = σ.n + 1 ∧ (∀ k, k < σ.n → k ∉ bs → σ'.get k = σ.get k) := by
  have h4 := hc.len
  have s1 : sliceCells σ (.row j 0 1 4) = some c := by rw [sliceCells_row hj (by omega)]; simp [List.take_of_length_le (show c.length ≤ 4 by omega)]
  have s2 : sliceLen σ (.row j 0 1 4) = some 1 := by rw [sliceLen_row, hj]; rfl
  rcases h with ⟨rfl, rfl, rfl⟩ | ⟨kb, css, bss, rfl, h1, h2, h3, h4', h5, h6, rfl⟩
  · rw [appendA_nil s1 s2 (by omega) hc.cell (by decide) (by decide), if_neg (by decide)]
    refine ⟨_, _, _, σ.n :: b, rfl, .inr ⟨σ.n, fun _ => c, fun _ => b, rfl, by rw [St.get_push_eq]; simp, by simp [St.n_push], fun i z hz => ?_, fun _ => h4, fun i _ hm => by have := hc.lt _ hm; omega, fun i k hi hk hne => by simp at hi hk; omega, by simp⟩, ?_, by simp, St.n_push _ _, fun k hk _ => St.get_push_ne hk⟩
    · cases i with
      | zero => simp at hz; subst hz; exact hc.push
      | succ i => simp at hz
    · exact (Kept.refl.push).owns fun k hk => by
        rcases List.mem_cons.1 hk with rfl | hk
        · exact .inr (Nat.le_refl _)
        · exact .inl (by simpa using hk)
  · have hlen := flat_range_len (n := l.length) h4'
    have e0 : 0 + l.length * 4 ≤ ((List.range l.length).flatMap css).length := by rw [hlen]; omega
    rw [appendA_row h1 s1 s2 (by omega) hc.cell e0 (by omega) (by omega), if_neg (by decide)]
    have hkj : j ≠ kb := fun e => hjb (by simp [e])
    have hget : ∀ k, k < σ.n → k ≠ kb → ((σ.set kb .dead).push (.cells ((((List.range l.length).flatMap css).drop 0).take (l.length * 4) ++ c))).get k = σ.get k := fun k hk hne => by
      rw [St.get_push_ne (by rw [St.n_set]; exact hk), St.get_set_ne hne]
    have hflat : ∀ (α : Type) (f : Nat → List α) (x : List α), (List.range (l.length + 1)).flatMap (fun i => if i = l.length then x else f i) = (List.range l.length).flatMap f ++ x := fun α f x => by
      rw [List.range_succ, List.flatMap_append, range_congr (g := f) fun i hi => if_neg (by omega)]; simp
    refine ⟨_, _, _, σ.n :: ((List.range l.length).flatMap bss ++ b), rfl, .inr ⟨σ.n, fun i => if i = l.length then c else css i, fun i => if i = l.length then b else bss i, by simp, ?_, by simp [St.n_push, St.n_set], fun i z hz => ?_, fun i => ?_, fun i hi hm => ?_, fun i k hi hk hne q hq hq2 => ?_, ?_⟩, ?_, by simp, by simp [St.n_push, St.n_set], fun k hk hne => hget k hk fun e => hne (by simp [e])⟩
    · have : ((σ.set kb .dead).push (.cells ((((List.range l.length).flatMap css).drop 0).take (l.length * 4) ++ c))).get σ.n = .cells ((((List.range l.length).flatMap css).drop 0).take (l.length * 4) ++ c) := by
        rw [St.get_push, St.n_set, if_pos rfl]
      rw [this, List.drop_zero, List.take_of_length_le (by rw [hlen]; exact Nat.le_refl _), List.length_append, List.length_singleton, hflat]
    · by_cases e : i = l.length
      · subst e
        simp at hz; subst hz
        simp only [if_true]
        exact hc.stay (by simp [St.n_push, St.n_set]) fun k hk => hget k (hc.lt k hk) fun e => hbb k hk (by simp [e])
      · have hi : i < l.length := by have := (List.getElem?_eq_some_iff.1 hz).1; simp at this; omega
        rw [List.getElem?_append_left hi] at hz
        simp only [e, if_false]
        exact (h3 i z hz).stay (by simp [St.n_push, St.n_set]) fun k hk => hget k ((h3 i z hz).lt k hk) fun e => h5 i hi (e ▸ hk)
    · dsimp only; split
      · exact h4
      · exact h4' i
    · simp only [List.length_append, List.length_singleton] at hi
      dsimp only at hm
      split at hm
      · have := hc.lt _ hm; omega
      · have hi' : i < l.length := by omega
        have := (h3 i _ (List.getElem?_eq_getElem hi')).lt _ hm; omega
    · simp only [List.length_append, List.length_singleton] at hi hk
      dsimp only at hq hq2
      have hin : ∀ r, r < l.length → ∀ q ∈ bss r, q ∈ kb :: (List.range l.length).flatMap bss := fun r hr q hq => List.mem_cons_of_mem _ (List.mem_flatMap.2 ⟨r, List.mem_range.2 hr, hq⟩)
      split at hq
      · split at hq2
        · omega
        · exact hbb q hq (hin k (by omega) q hq2)
      · split at hq2
        · exact hbb q hq2 (hin i (by omega) q hq)
        · exact h6 i k (by omega) (by omega) hne q hq hq2
    · rw [List.length_append, List.length_singleton, hflat]
    · refine ⟨by simp [St.n_push, St.n_set], fun k hk hne => hget k hk fun e => hne (by simp [e]), fun k hk => .inl (by simp at hk; simp [hk]), fun k hk => ?_⟩
      rcases List.mem_cons.1 hk with rfl | hk
      · exact .inr (Nat.le_refl _)
      · rcases List.mem_append.1 hk with hk | hk
        · exact .inl (List.mem_append.2 (.inl (List.mem_cons_of_mem _ hk)))
        · exact .inl (List.mem_append.2 (.inr hk))
theorem Run.keepE {X : X} {f : Nat} {cap args : List A} {F : AFn} {σ : St} {own : List Nat} {P : A → St → List Nat → Prop} (hz : X.fz f = .keep) (hF : X.fn f = some F) (hl : args.length + cap.length ≤ F.nt)
    (e : Ev X f F.nt none σ.n [.code F.body] (initTm (args ++ cap) 0 .nil) σ [] (RetQ X F.results fun a σ1 W1 => ∃ own', Kept σ own σ1 own' W1 ∧ P a σ1 own')) : ∃ r, Run X (.func f cap) args σ own r (P r) := by
  obtain ⟨n, o, hn, hq⟩ := e
  cases o with
  | leave _ _ _ => exact hq.elim
  | ret tm σ1 W1 =>
    unfold RetQ at hq
    dsimp only at hq
    split at hq
    · rename_i l hl'
      obtain ⟨own', h4, h5⟩ := hq
      exact ⟨_, σ1, W1, own', CallsTo.ofQ hF hl ⟨n, _, hn, by unfold RetQ; dsimp only; rw [hl']; simp [leaveCall, hz]⟩, h4, h5⟩
    · exact hq.elim

set_option maxHeartbeats 2000000 in
theorem copy_run (h24 : fz 24 = .keep) (x : Node) (σ : St) (hx : Small x) : ∃ r, Run (XX fz) (.func 24 []) [x.a] σ [] r fun σ' own => ∃ c, r = .agg c ∧ NV true σ' c x own := by
  refine Run.keepE h24 fn24 (by simp) ?_
  simp only [Try.f24, Option.getD_some]
  have hlen := hx.len
  simp only [go_sem, ↓reduceIte, Option.some.injEq, Bool.true_eq_false, Bool.false_eq_true, Int.reduceBEq, Int.reduceBNe, Int.reduceLT, Int.reduceLE, Nat.add_assoc, Nat.reduceAdd, Nat.reducePow, Nat.zero_le, Nat.reduceEqDiff, Nat.reduceLT, Nat.reduceLeDiff, Nat.reduceMul, Nat.reduceSub, Nat.add_left_cancel_iff, Nat.lt_irrefl, Nat.le_refl, Nat.add_eq_left, Nat.left_eq_add, beq_self_eq_true, Node.a]
  generalize hσ0 : (((σ.push (.cells x.c)).push (.cells [.d (.int .i64 0), .d (.int .i64 0), .d (.int .i64 0), .d (.slc true [])])).push (.cells [.d (.int .i64 0), .d (.int .i64 0), .d (.int .i64 0), .d (.slc true [])])).set (σ.n + 2) (.cells [.d (.int .i64 x.kind), .d (.int .i64 x.num), .d (.int .i64 x.pos), .d (.slc true [])]) = σ0
  have e0 : σ0.n = σ.n + 3 := by rw [← hσ0]; simp [St.n_push, St.n_set]
  have b0 : σ0.get σ.n = .cells x.c := by rw [← hσ0]; simp only [go_sem, ↓reduceIte, Option.some.injEq, Bool.true_eq_false, Bool.false_eq_true, Int.reduceBEq, Int.reduceBNe, Int.reduceLT, Int.reduceLE, Nat.add_assoc, Nat.reduceAdd, Nat.reducePow, Nat.zero_le, Nat.reduceEqDiff, Nat.reduceLT, Nat.reduceLeDiff, Nat.reduceMul, Nat.reduceSub, Nat.add_left_cancel_iff, Nat.lt_irrefl, Nat.le_refl, Nat.add_eq_left, Nat.left_eq_add, beq_self_eq_true]
  have b1 : σ0.get (σ.n + 1) = .cells [.d (.int .i64 0), .d (.int .i64 0), .d (.int .i64 0), .d (.slc true [])] := by rw [← hσ0]; simp only [go_sem, ↓reduceIte, Option.some.injEq, Bool.true_eq_false, Bool.false_eq_true, Int.reduceBEq, Int.reduceBNe, Int.reduceLT, Int.reduceLE, Nat.add_assoc, Nat.reduceAdd, Nat.reducePow, Nat.zero_le, Nat.reduceEqDiff, Nat.reduceLT, Nat.reduceLeDiff, Nat.reduceMul, Nat.reduceSub, Nat.add_left_cancel_iff, Nat.lt_irrefl, Nat.le_refl, Nat.add_eq_left, Nat.left_eq_add, beq_self_eq_true]
  have b2 : σ0.get (σ.n + 2) = .cells [.d (.int .i64 x.kind), .d (.int .i64 x.num), .d (.int .i64 x.pos), .d (.slc true [])] := by rw [← hσ0]; simp only [go_sem, ↓reduceIte, Option.some.injEq, Bool.true_eq_false, Bool.false_eq_true, Int.reduceBEq, Int.reduceBNe, Int.reduceLT, Int.reduceLE, Nat.add_assoc, Nat.reduceAdd, Nat.reducePow, Nat.zero_le, Nat.reduceEqDiff, Nat.reduceLT, Nat.reduceLeDiff, Nat.reduceMul, Nat.reduceSub, Nat.add_left_cancel_iff, Nat.lt_irrefl, Nat.le_refl, Nat.add_eq_left, Nat.left_eq_add, beq_self_eq_true]
  have K0 : Kept σ [] σ0 [] [] := by rw [← hσ0]; exact (Kept.refl.push.push.push).set (.inr (by omega))
  clear hσ0
  refine Ev.loop_ind (fun m tm τ W => ∃ (i : Nat) (lv : A) (bs : List Nat), m = x.l.length - i ∧ i ≤ x.l.length ∧ σ.n + 3 ≤ τ.n ∧ Kept σ [] τ bs W ∧ τ.get σ.n = .cells x.c ∧ τ.get (σ.n + 1) = .cells [.d (.int .i64 0), .d (.int .i64 0), .d (.int .i64 0), .d (.slc true [])] ∧
    τ.get (σ.n + 2) = .cells [.d (.int .i64 x.kind), .d (.int .i64 x.num), .d (.int .i64 x.pos), lv] ∧ LV τ lv (x.l.take i) bs ∧ (∀ k ∈ bs, σ.n + 3 ≤ k) ∧ Tm.at tm 1 = .ptr σ.n 0 ∧ Tm.at tm 2 = .ptr (σ.n + 1) 0 ∧ Tm.at tm 3 = .ptr (σ.n + 2) 0 ∧ Tm.at tm 4 = .d (.int .i64 i)) ?_ x.l.length _ _ _
    ⟨0, _, [], rfl, by omega, by omega, K0, b0, b1, b2, .inl ⟨rfl, rfl, rfl⟩, by simp, ?_, ?_, ?_, ?_⟩
  · rintro m tm τ W ⟨i, lv, bs, rfl, hi, hn, hK, g0, g1, g2, hL, hbs, t1, t2, t3, t4⟩ ih
    by_cases hl : i < x.l.length
    · have hget : x.l[i]? = some x.l[i] := by simp [hl]
      have hmem : x.l[i] ∈ x.l := List.getElem_mem hl
      obtain ⟨r, σ1, T7, own1, hc, hK7, ci, rfl, hnv⟩ := copy_run h24 x.l[i] τ (hx.sub hmem)
      have n7 := hK7.n
      have same7 : ∀ k, k < τ.n → σ1.get k = τ.get k := fun k hk => hK7.same k hk (by simp)
      have own7 : ∀ k ∈ own1, τ.n ≤ k := fun k hk => (hK7.o k hk).resolve_left (by simp)
      have hL1 : LV σ1 lv (x.l.take i) bs := hL.stay n7 fun k hk => same7 k (hL.lt k hk)
      have p0 := (same7 σ.n (by omega)).trans g0
      have p1 := (same7 (σ.n + 1) (by omega)).trans g1
      have p2 := (same7 (σ.n + 2) (by omega)).trans g2
      obtain ⟨lvi, rfl, ei, ii, -, -⟩ := hnv.open4
      have hL2 : LV (σ1.push (.cells [.d (.int .i64 (x.l[i]).kind), .d (.int .i64 (x.l[i]).num), .d (.int .i64 (x.l[i]).pos), lvi])) lv (x.l.take i) bs := hL1.stay (by simp [St.n_push]) fun k hk => St.get_push_ne (hL1.lt k hk)
      obtain ⟨lv', σ3, T9, bs', happ, hL3, hK9, hT9, n9, same9⟩ := hL2.app (j := σ1.n) St.get_push_eq (hnv.push) (fun h => by have := hL1.lt _ h; omega) (fun h => by have := hnv.lt _ h; omega) (fun q hq hb => by have := own7 q hq; have := hL.lt q hb; omega) (by rw [List.length_take]; omega)
      have hlc := hL.cell
      have hlc3 := hL3.cell
      have r0 : σ3.get σ.n = .cells x.c := by rw [same9 _ (by simp [St.n_push]; omega) (fun h => by have := hbs _ h; omega), St.get_push_ne (by omega)]; exact p0
      have r1 : σ3.get (σ.n + 1) = .cells [.d (.int .i64 0), .d (.int .i64 0), .d (.int .i64 0), .d (.slc true [])] := by rw [same9 _ (by simp [St.n_push]; omega) (fun h => by have := hbs _ h; omega), St.get_push_ne (by omega)]; exact p1
      have r2 : σ3.get (σ.n + 2) = .cells [.d (.int .i64 x.kind), .d (.int .i64 x.num), .d (.int .i64 x.pos), lv] := by rw [same9 _ (by simp [St.n_push]; omega) (fun h => by have := hbs _ h; omega), St.get_push_ne (by omega)]; exact p2
      have hK1 : Kept σ [] σ1 own1 (W ++ low σ.n T7) := (hK.owns (own2 := []) (by simp)).call hK7
      have hK2 := ((((hK1.push (b := .cells [.d (.int .i64 (x.l[i]).kind), .d (.int .i64 (x.l[i]).num), .d (.int .i64 (x.l[i]).pos), lvi])).owns (own2 := bs ++ own1) (fun k hk => by
        rcases List.mem_append.1 hk with h | h
        · have := hbs k h; exact .inr (by omega)
        · have := own7 k h; exact .inr (by omega))).call hK9).write (k := σ.n + 2) (b := .cells [.d (.int .i64 x.kind), .d (.int .i64 x.num), .d (.int .i64 x.pos), lv']) (.inr (by omega)))
      have n9' : σ3.n = σ1.n + 2 := by rw [n9]; simp [St.n_push]
      have hbs' : ∀ k ∈ bs', σ.n + 3 ≤ k := fun k hk => by
        rcases hK9.o k hk with h | h
        · rcases List.mem_append.1 h with h | h
          · exact hbs k h
          · have := own7 k h; omega
        · simp [St.n_push] at h; omega
      simp only [go_sem, ↓reduceIte, Option.some.injEq, Bool.true_eq_false, Bool.false_eq_true, Int.reduceBEq, Int.reduceBNe, Int.reduceLT, Int.reduceLE, Nat.add_assoc, Nat.reduceAdd, Nat.reducePow, Nat.zero_le, Nat.reduceEqDiff, Nat.reduceLT, Nat.reduceLeDiff, Nat.reduceMul, Nat.reduceSub, Nat.add_left_cancel_iff, Nat.lt_irrefl, Nat.le_refl, Nat.add_eq_left, Nat.left_eq_add, beq_self_eq_true, t1, t2, t3, t4, g0, g2, dec_lt hl, Node.index_ld hget]
      refine ⟨_, _, _, hc, ?_⟩
      have l2 : low σ.n [σ.n + 2] = [] := by simp [low]
      simp only [go_sem, ↓reduceIte, Option.some.injEq, Bool.true_eq_false, Bool.false_eq_true, Int.reduceBEq, Int.reduceBNe, Int.reduceLT, Int.reduceLE, Nat.add_assoc, Nat.reduceAdd, Nat.reducePow, Nat.zero_le, Nat.reduceEqDiff, Nat.reduceLT, Nat.reduceLeDiff, Nat.reduceMul, Nat.reduceSub, Nat.add_left_cancel_iff, Nat.lt_irrefl, Nat.le_refl, Nat.add_eq_left, Nat.left_eq_add, beq_self_eq_true, t1, t2, t3, t4, ei, ii, happ, r2, hlc3.1, hlc3.2]
      refine ⟨drawOk_rel [7, 9, 11] [(7, 0), (7, 1)] rfl (by kernel_rfl) rfl ?_, ?_⟩
      · have h4 : meets T7 [σ.n + 2] = false := by
          unfold meets; rw [List.any_eq_false]; intro k hk
          have := (hK7.w k hk).resolve_left (by simp)
          simp; omega
        have h6 : meets T7 [] = false := by unfold meets; simp
        simp [h4, h6]
      · rw [wrap_succ hl hlen]
        rw [l2, List.append_nil] at hK2
        exact ih _ _ _ _ (by omega) ⟨i + 1, lv', bs', rfl, hl, by simp [St.n_set]; omega, hK2, by rw [St.get_set_ne (by omega)]; exact r0, by rw [St.get_set_ne (by omega)]; exact r1, St.get_set_eq,
          by rw [List.take_succ_eq_append_getElem hl]; exact hL3.stay (by simp [St.n_set]) fun k hk => St.get_set_ne (by have := hbs' k hk; omega), hbs', by simp only [go_sem, ↓reduceIte, Option.some.injEq, Bool.true_eq_false, Bool.false_eq_true, Int.reduceBEq, Int.reduceBNe, Int.reduceLT, Int.reduceLE, Nat.add_assoc, Nat.reduceAdd, Nat.reducePow, Nat.zero_le, Nat.reduceEqDiff, Nat.reduceLT, Nat.reduceLeDiff, Nat.reduceMul, Nat.reduceSub, Nat.add_left_cancel_iff, Nat.lt_irrefl, Nat.le_refl, Nat.add_eq_left, Nat.left_eq_add, beq_self_eq_true, t1], by simp only [go_sem, ↓reduceIte, Option.some.injEq, Bool.true_eq_false, Bool.false_eq_true, Int.reduceBEq, Int.reduceBNe, Int.reduceLT, Int.reduceLE, Nat.add_assoc, Nat.reduceAdd, Nat.reducePow, Nat.zero_le, Nat.reduceEqDiff, Nat.reduceLT, Nat.reduceLeDiff, Nat.reduceMul, Nat.reduceSub, Nat.add_left_cancel_iff, Nat.lt_irrefl, Nat.le_refl, Nat.add_eq_left, Nat.left_eq_add, beq_self_eq_true, t2], by simp only [go_sem, ↓reduceIte, Option.some.injEq, Bool.true_eq_false, Bool.false_eq_true, Int.reduceBEq, Int.reduceBNe, Int.reduceLT, Int.reduceLE, Nat.add_assoc, Nat.reduceAdd, Nat.reducePow, Nat.zero_le, Nat.reduceEqDiff, Nat.reduceLT, Nat.reduceLeDiff, Nat.reduceMul, Nat.reduceSub, Nat.add_left_cancel_iff, Nat.lt_irrefl, Nat.le_refl, Nat.add_eq_left, Nat.left_eq_add, beq_self_eq_true, t3], by simp only [go_sem, ↓reduceIte, Option.some.injEq, Bool.true_eq_false, Bool.false_eq_true, Int.reduceBEq, Int.reduceBNe, Int.reduceLT, Int.reduceLE, Nat.add_assoc, Nat.reduceAdd, Nat.reducePow, Nat.zero_le, Nat.reduceEqDiff, Nat.reduceLT, Nat.reduceLeDiff, Nat.reduceMul, Nat.reduceSub, Nat.add_left_cancel_iff, Nat.lt_irrefl, Nat.le_refl, Nat.add_eq_left, Nat.left_eq_add, beq_self_eq_true]⟩
    · simp only [go_sem, ↓reduceIte, Option.some.injEq, Bool.true_eq_false, Bool.false_eq_true, Int.reduceBEq, Int.reduceBNe, Int.reduceLT, Int.reduceLE, Nat.add_assoc, Nat.reduceAdd, Nat.reducePow, Nat.zero_le, Nat.reduceEqDiff, Nat.reduceLT, Nat.reduceLeDiff, Nat.reduceMul, Nat.reduceSub, Nat.add_left_cancel_iff, Nat.lt_irrefl, Nat.le_refl, Nat.add_eq_left, Nat.left_eq_add, beq_self_eq_true, t1, t2, t3, t4, g0, g1, g2, dec_ge hl, hL.cell.1, hL.cell.2]
      rw [List.take_of_length_le (by omega)] at hL
      have hfin : LV (τ.set (σ.n + 1) (.cells [.d (.int .i64 x.kind), .d (.int .i64 x.num), .d (.int .i64 x.pos), lv])) lv x.l bs := hL.stay (by simp [St.n_set]) fun k hk => St.get_set_ne (by have := hbs k hk; omega)
      refine ⟨bs, hK.set (.inr (by omega)), _, rfl, ?_⟩
      have := hfin.nv (k := x.kind) (n := x.num) (p := x.pos) (z := x.z)
      cases x; exact this
  all_goals first | rfl | (simp only [go_sem, ↓reduceIte, Option.some.injEq, Bool.true_eq_false, Bool.false_eq_true, Int.reduceBEq, Int.reduceBNe, Int.reduceLT, Int.reduceLE, Nat.add_assoc, Nat.reduceAdd, Nat.reducePow, Nat.zero_le, Nat.reduceEqDiff, Nat.reduceLT, Nat.reduceLeDiff, Nat.reduceMul, Nat.reduceSub, Nat.add_left_cancel_iff, Nat.lt_irrefl, Nat.le_refl, Nat.add_eq_left, Nat.left_eq_add, beq_self_eq_true]; done) | (simp only [go_sem, ↓reduceIte, Option.some.injEq, Bool.true_eq_false, Bool.false_eq_true, Int.reduceBEq, Int.reduceBNe, Int.reduceLT, Int.reduceLE, Nat.add_assoc, Nat.reduceAdd, Nat.reducePow, Nat.zero_le, Nat.reduceEqDiff, Nat.reduceLT, Nat.reduceLeDiff, Nat.reduceMul, Nat.reduceSub, Nat.add_left_cancel_iff, Nat.lt_irrefl, Nat.le_refl, Nat.add_eq_left, Nat.left_eq_add, beq_self_eq_true]; rfl)
termination_by x
decreasing_by exact Node.sub_lt hmem
end Go.Am

/- Part P1 of a proof that runs a program's calls on a small machine whose values bear no addresses: no conditions. -/
import Derived.Test.YtbppacknigeiaaaAmM4
set_option autoImplicit false
set_option linter.unusedSimpArgs false
set_option linter.unusedVariables false
set_option linter.unusedSectionVars false
namespace Go.Am
open Go Go.Proofs
variable {fz : Nat → Md}
section
variable {tm : Tm} {σ : St} {dst : Option Nat} {ty : Nat} {pos : String} {af : Array Edge} {g : Option (Nat × Bool)} {a b : Nat}
theorem ev_cap (ha : tm.at a = .d (.slc true [])) : evalOp (XX fz) tm σ { dst := dst, op := Op.call { callee := Callee.builtin Builtin.cap, args := #[Operand.tmp a], argTypes := #[34] }, type := ty, pos := pos, after := af, guard := g } = .val (.d (.int .i64 0)) σ [] [] := by
  unfold evalOp
  simp only [List.map_cons, List.map_nil, ev, ha, Array.toList, List.getElem?_toArray, List.getElem?_cons_zero, Option.bind_some, ti34]
theorem ev_slice0 (ha : tm.at a = .d (.slc true [])) (hb : tm.at b = .d (.int .i64 0)) : evalOp (XX fz) tm σ { dst := dst, op := Op.slice 34 (Operand.tmp a) none (some (Operand.tmp b)) none, type := ty, pos := pos, after := af, guard := g } = .val (.d (.slc true [])) σ [] [] := by
  have h2 : bnd tm (some (Operand.tmp b)) ([] : List (List D)).length = some 0 := by simp [bnd, ev, hb]
  have h3 : bnd tm none 0 = some 0 := rfl
  unfold evalOp
  simp only [ti34, ti3, ev, ha, h2, h3]
  rfl
theorem ev_slice0r {k n : Nat} {cs : List A} (ha : tm.at a = .row k 0 n 1) (hk : σ.get k = .cells cs) (hb : tm.at b = .d (.int .i64 0)) : evalOp (XX fz) tm σ { dst := dst, op := Op.slice 34 (Operand.tmp a) none (some (Operand.tmp b)) none, type := ty, pos := pos, after := af, guard := g } = .val (.row k 0 0 1) σ [] [k] := by
  have h2 : bnd tm (some (Operand.tmp b)) n = some 0 := by simp [bnd, ev, hb]
  have h3 : bnd tm none 0 = some 0 := rfl
  unfold evalOp
  simp only [ti34, ti3, ev, ha, h2, h3, hk]
  rw [if_pos ⟨Nat.le_refl _, Nat.zero_le _, trivial⟩]
end
set_option maxHeartbeats 1000000 in
theorem grow0_c (h88 : fz 88 = .keep) (σ : St) : CallsTo (XX fz) (.func 88 []) [.d (.slc true []), .d (.int .i64 0)] σ (.d (.slc true [])) σ [] := by
  refine CallsTo.ofQ fn88 (by simp) ?_
  simp only [Try.f88, Option.getD_some, h88]
  simp only [go_sem, ↓reduceIte, Int.reduceEq, Nat.reduceBEq, Int.reduceBEq, Int.reduceBNe, Int.reduceLT, Int.reduceLE, Nat.reduceAdd, Nat.reducePow, Nat.reduceEqDiff, Nat.reduceLT, Nat.reduceLeDiff, Nat.reduceMul, Nat.reduceSub]
  rw [ev_cap (by simp only [go_sem, ↓reduceIte, Int.reduceEq, Nat.reduceBEq, Int.reduceBEq, Int.reduceBNe, Int.reduceLT, Int.reduceLE, Nat.reduceAdd, Nat.reducePow, Nat.reduceEqDiff, Nat.reduceLT, Nat.reduceLeDiff, Nat.reduceMul, Nat.reduceSub])]
  have w0 : IntKind.i64.wrap (0 - ((0 : Nat) : Int)) = 0 := by rw [wrap_small (by omega) (by omega)]; rfl
  have w1 : IntKind.i64.wrap (0 - 0) = 0 := wrap_small (by omega) (by omega)
  have e2 : decide ((0 : Int) > 0) = false := rfl
  simp only [go_sem, ↓reduceIte, Int.reduceEq, Nat.reduceBEq, Int.reduceBEq, Int.reduceBNe, Int.reduceLT, Int.reduceLE, Nat.reduceAdd, Nat.reducePow, Nat.reduceEqDiff, Nat.reduceLT, Nat.reduceLeDiff, Nat.reduceMul, Nat.reduceSub, w0, w1, e2]
  simp [leaveCall, XX_fz, h88]

set_option maxHeartbeats 1000000 in
theorem grow_c (h88 : fz 88 = .keep) (σ : St) (n : Nat) (h0 : 0 < n) (hn : n < 1000000) : CallsTo (XX fz) (.func 88 []) [.d (.slc true []), .d (.int .i64 (n : Int))] σ (.row σ.n 0 0 1) (σ.push (.cells (rep n [.d (.int .i64 0)]))) [] := by
  refine CallsTo.ofQ fn88 (by simp) ?_
  simp only [Try.f88, Option.getD_some, h88]
  have e1 : decide ((n : Int) < 0) = false := by simp
  have e2 : decide ((n : Int) > 0) = true := by simpa using h0
  have w1 : IntKind.i64.wrap ((n : Int) - 0) = (n : Int) := by rw [wrap_small (by omega) (by omega)]; omega
  simp only [go_sem, ↓reduceIte, Int.reduceEq, Nat.reduceBEq, Int.reduceBEq, Int.reduceBNe, Int.reduceLT, Int.reduceLE, Nat.reduceAdd, Nat.reducePow, Nat.reduceEqDiff, Nat.reduceLT, Nat.reduceLeDiff, Nat.reduceMul, Nat.reduceSub, e1]
  rw [ev_cap (by simp only [go_sem, ↓reduceIte, Int.reduceEq, Nat.reduceBEq, Int.reduceBEq, Int.reduceBNe, Int.reduceLT, Int.reduceLE, Nat.reduceAdd, Nat.reducePow, Nat.reduceEqDiff, Nat.reduceLT, Nat.reduceLeDiff, Nat.reduceMul, Nat.reduceSub])]
  have w0 : IntKind.i64.wrap (0 - ((0 : Nat) : Int)) = 0 := by rw [wrap_small (by omega) (by omega)]; rfl
  simp only [go_sem, ↓reduceIte, Int.reduceEq, Nat.reduceBEq, Int.reduceBEq, Int.reduceBNe, Int.reduceLT, Int.reduceLE, Nat.reduceAdd, Nat.reducePow, Nat.reduceEqDiff, Nat.reduceLT, Nat.reduceLeDiff, Nat.reduceMul, Nat.reduceSub, w0, w1, e2]
  rw [ev_cap (by simp only [go_sem, ↓reduceIte, Int.reduceEq, Nat.reduceBEq, Int.reduceBEq, Int.reduceBNe, Int.reduceLT, Int.reduceLE, Nat.reduceAdd, Nat.reducePow, Nat.reduceEqDiff, Nat.reduceLT, Nat.reduceLeDiff, Nat.reduceMul, Nat.reduceSub])]
  simp only [go_sem, ↓reduceIte, Int.reduceEq, Nat.reduceBEq, Int.reduceBEq, Int.reduceBNe, Int.reduceLT, Int.reduceLE, Nat.reduceAdd, Nat.reducePow, Nat.reduceEqDiff, Nat.reduceLT, Nat.reduceLeDiff, Nat.reduceMul, Nat.reduceSub]
  rw [ev_slice0 (by simp only [go_sem, ↓reduceIte, Int.reduceEq, Nat.reduceBEq, Int.reduceBEq, Int.reduceBNe, Int.reduceLT, Int.reduceLE, Nat.reduceAdd, Nat.reducePow, Nat.reduceEqDiff, Nat.reduceLT, Nat.reduceLeDiff, Nat.reduceMul, Nat.reduceSub]) (by simp only [go_sem, ↓reduceIte, Int.reduceEq, Nat.reduceBEq, Int.reduceBEq, Int.reduceBNe, Int.reduceLT, Int.reduceLE, Nat.reduceAdd, Nat.reducePow, Nat.reduceEqDiff, Nat.reduceLT, Nat.reduceLeDiff, Nat.reduceMul, Nat.reduceSub])]
  simp only [go_sem, ↓reduceIte, Int.reduceEq, Nat.reduceBEq, Int.reduceBEq, Int.reduceBNe, Int.reduceLT, Int.reduceLE, Nat.reduceAdd, Nat.reducePow, Nat.reduceEqDiff, Nat.reduceLT, Nat.reduceLeDiff, Nat.reduceMul, Nat.reduceSub]
  have hg : growA σ n (some { kind := TK.int IntKind.i64, size := 1, bytes := 8, zero := some [A.d (D.int IntKind.i64 0)], zval := A.d (D.int IntKind.i64 0) }) = .val (.row σ.n 0 n 1) (σ.push (.cells (rep n [.d (.int .i64 0)]))) [] [] := by
    unfold growA
    dsimp only
    rw [if_pos ⟨by omega, rfl, h0, by omega, by omega⟩]
  simp only [go_sem, ↓reduceIte, Int.reduceEq, Nat.reduceBEq, Int.reduceBEq, Int.reduceBNe, Int.reduceLT, Int.reduceLE, Nat.reduceAdd, Nat.reducePow, Nat.reduceEqDiff, Nat.reduceLT, Nat.reduceLeDiff, Nat.reduceMul, Nat.reduceSub, hg]
  have e3 : ((0 : Nat) : Int) = 0 := rfl
  simp only [e3]
  rw [ev_slice0r (by simp only [go_sem, ↓reduceIte, Int.reduceEq, Nat.reduceBEq, Int.reduceBEq, Int.reduceBNe, Int.reduceLT, Int.reduceLE, Nat.reduceAdd, Nat.reducePow, Nat.reduceEqDiff, Nat.reduceLT, Nat.reduceLeDiff, Nat.reduceMul, Nat.reduceSub]; rfl) (by rw [St.get_push_eq]) (by simp only [go_sem, ↓reduceIte, Int.reduceEq, Nat.reduceBEq, Int.reduceBEq, Int.reduceBNe, Int.reduceLT, Int.reduceLE, Nat.reduceAdd, Nat.reducePow, Nat.reduceEqDiff, Nat.reduceLT, Nat.reduceLeDiff, Nat.reduceMul, Nat.reduceSub])]
  simp only [go_sem, ↓reduceIte, Int.reduceEq, Nat.reduceBEq, Int.reduceBEq, Int.reduceBNe, Int.reduceLT, Int.reduceLE, Nat.reduceAdd, Nat.reducePow, Nat.reduceEqDiff, Nat.reduceLT, Nat.reduceLeDiff, Nat.reduceMul, Nat.reduceSub]
  simp [leaveCall, XX_fz, h88]

end Go.Am
namespace Go.Am
open Go Go.Proofs
variable {fz : Nat → Md}
/-- numbers at the begin of a row -/
def RowP (lo : Nat) (σ : St) (a : A) (l : List Int) : Prop :=
  (a = .d (.slc true []) ∧ l = []) ∨ ∃ k cs, a = .row k 0 l.length 1 ∧ σ.get k = .cells cs ∧ cs.take l.length = l.map (fun n => A.d (.int .i64 n)) ∧ l.length ≤ cs.length ∧ lo ≤ k ∧ k < σ.n
theorem RowP.app {lo : Nat} {σ : St} {a : A} {l s : List Int} (h : RowP lo σ a l) (hl : l.length < 1000000) (hs : s.length < 1000000) (hlo : lo ≤ σ.n) :
    ∃ a' σ' T, appendA 1 8 σ a (.d (slD s)) = .val a' σ' T [] ∧ RowP lo σ' a' (l ++ s) ∧ (a' = .d (.slc true []) ↔ a = .d (.slc true []) ∧ s = []) ∧ σ.n ≤ σ'.n ∧ (∀ j, j < lo → σ'.get j = σ.get j) ∧ (∀ j ∈ T, lo ≤ j) := by
  have s1 : sliceCells σ (.d (slD s)) = some (s.map fun n => A.d (.int .i64 n)) := by rw [slD, sliceCells_d, ints_flat]
  have s2 : sliceLen σ (.d (slD s)) = some s.length := len_sl
  have hc : (s.map fun n => A.d (.int .i64 n)).all A.isCell = true := by simp [A.isCell]
  rcases h with ⟨rfl, rfl⟩ | ⟨k, cs, rfl, hk, ht, hle, hlk, hkn⟩
  · rw [appendA_nil s1 s2 (by simp) hc (by omega) (by omega)]
    by_cases e : s.length = 0
    · rw [if_pos e]
      obtain rfl : s = [] := by simpa using e
      exact ⟨_, _, _, rfl, .inl ⟨rfl, rfl⟩, ⟨fun _ => ⟨rfl, rfl⟩, fun _ => rfl⟩, Nat.le_refl _, fun _ _ => rfl, by simp⟩
    · rw [if_neg e]
      exact ⟨_, _, _, rfl, .inr ⟨σ.n, _, rfl, St.get_push_eq, by simp; exact List.take_of_length_le (by simp), by simp, hlo, by simp [St.n_push]⟩, ⟨(fun h => by cases h), fun h => absurd (by rw [h.2]; rfl) e⟩, by simp [St.n_push], fun j hj => St.get_push_ne (by omega), by simp⟩
  · rw [appendA_row hk s1 s2 (by simp) hc (by omega) (by omega) (by omega)]
    by_cases e : s.length = 0
    · rw [if_pos e]
      obtain rfl : s = [] := by simpa using e
      exact ⟨_, _, _, rfl, .inr ⟨k, cs, by rw [List.append_nil], hk, by rw [List.append_nil]; exact ht, by rw [List.append_nil]; exact hle, hlk, hkn⟩, ⟨(fun h => by cases h), (fun h => by cases h.1)⟩, Nat.le_refl _, fun _ _ => rfl, by simp⟩
    · rw [if_neg e]
      refine ⟨_, _, _, rfl, .inr ⟨σ.n, _, by rw [List.length_append], by rw [St.get_push_eq' (by rw [St.n_set])], ?_, ?_, hlo, by simp [St.n_push, St.n_set]⟩, ⟨(fun h => by cases h), (fun h => by cases h.1)⟩, by simp [St.n_push, St.n_set], fun j hj => by rw [St.get_push_ne (by rw [St.n_set]; omega), St.get_set_ne (by omega)], by simpa using hlk⟩
      · rw [List.drop_zero, Nat.mul_one, ht, ← List.map_append]; exact List.take_of_length_le (by simp)
      · rw [List.drop_zero, Nat.mul_one, ht]; simp
theorem RowP.freeze {lo : Nat} {σ : St} {a : A} {l : List Int} (h : RowP lo σ a l) (hn : a = .d (.slc true []) → l = []) (hr : a ≠ .d (.slc true []) → l ≠ []) (hl : l.length < 1000000) : freezeV σ lo fzDepth a = some (.d (slD l)) := by
  rcases h with ⟨rfl, rfl⟩ | ⟨k, cs, rfl, hk, ht, hle, hlk, hkn⟩
  · rfl
  · have hne := hr (by simp)
    have hf := freeze_row (n := fzDepth) (len := l.length) (es := 1) (ds := l.map fun n => D.int .i64 n) (by unfold fzDepth; omega) hk hlk (by omega) (by
      rw [Nat.mul_one, ht]
      have : (l.map fun n => A.d (.int .i64 n)) = (l.map fun n => D.int .i64 n).map A.d := by rw [List.map_map]; rfl
      rw [this]
      exact freezeL_map (by rw [List.length_map]; unfold fzDepth; omega))
    have hch : chunks 1 l.length (l.map fun n => D.int .i64 n) = intsD l := by
      have h1 := chunks_flat (es := 1) (xs := intsD l) (intsD_one l)
      have h2 : (intsD l).flatMap id = l.map fun n => D.int .i64 n := by
        clear hf ht hle hne hl hr hn h1
        induction l with
        | nil => rfl
        | cons n l ih => simp only [intsD, List.map_cons, List.flatMap_cons, id, List.cons_append, List.nil_append] at ih ⊢; rw [ih]
      rw [h2, intsD_len] at h1; exact h1
    rw [hch] at hf
    have e : l.isEmpty = false := ne_isEmpty hne
    show freezeW σ lo fzDepth (.row k 0 l.length 1) = _
    rw [freezeW, hf, slD, e]
    intro cs h; cases h
set_option maxHeartbeats 4000000 in
theorem concat_c (h46 : fz 46 = .ice) (h88 : fz 88 = .keep) (ls : List (List Int)) (hlen : ls.length < 1000) (htot : ls.flatten.length < 1000000) (k : Nat) (σ : St) (hk : σ.get k = .cells (ls.map fun l => A.d (slD l))) (hkn : k < σ.n) :
    CallsTo (XX fz) (.func 46 []) [.row k 0 ls.length 1] σ (.d (slD ls.flatten)) σ [] := by
  refine CallsTo.ice0 h46 fn46 (by simp) ?_
  simp only [Try.f46, Option.getD_some]
  have hpre : ∀ i, ((ls.take i).flatten).length ≤ ls.flatten.length := fun i => by
    have h := congrArg List.length (congrArg List.flatten (List.take_append_drop i ls))
    rw [List.flatten_append, List.length_append] at h; omega
  have hsuc : ∀ i (hl : i < ls.length), (ls.take (i + 1)).flatten = (ls.take i).flatten ++ ls[i] := fun i hl => by
    rw [List.take_succ_eq_append_getElem hl, List.flatten_append]; simp
  have hcl : ∀ i (hl : i < ls.length), (ls.map fun l => A.d (slD l))[i]? = some (.d (slD ls[i])) := fun i hl => by simp [hl]
  have hel : ∀ i (hl : i < ls.length), ls[i].length < 1000000 := fun i hl => by
    have h1 := hpre (i + 1)
    rw [hsuc i hl, List.length_append] at h1; omega
  have hidx : ∀ (τ : St) i (hl : i < ls.length), indexR τ 1 k 0 ls.length 1 (i : Int) (.cells (ls.map fun l => A.d (slD l))) = .val (.ptr k (0 + i * 1)) τ [] [k] := fun τ i hl => indexR_nat hl
  simp only [Nat.zero_add, Nat.mul_one] at hidx
  simp only [go_sem, ↓reduceIte, Int.reduceEq, Nat.reduceBEq, Int.reduceBEq, Int.reduceBNe, Int.reduceLT, Int.reduceLE, Nat.reduceAdd, Nat.reducePow, Nat.reduceEqDiff, Nat.reduceLT, Nat.reduceLeDiff, Nat.reduceMul, Nat.reduceSub, hk]
  refine Ev.loop_ind (fun m tm τ W => ∃ i : Nat, m = ls.length - i ∧ i ≤ ls.length ∧ W = [] ∧ τ = σ ∧ tm.at 0 = .row k 0 ls.length 1 ∧ tm.at 3 = .d (.int .i64 (((ls.take i).flatten.length : Nat) : Int)) ∧ tm.at 9 = .row k 0 ls.length 1 ∧ tm.at 10 = .d (.int .i64 (ls.length : Int)) ∧ tm.at 11 = .d (.int .i64 i)) ?_ ls.length _ _ _ ⟨0, rfl, by omega, rfl, rfl, ?_, ?_, ?_, ?_, ?_⟩
  · rintro m tm τ W ⟨i, rfl, hi, rfl, rfl, t0, t3, t9, t10, t11⟩ ih
    by_cases hl : i < ls.length
    · have h1 := hpre (i + 1)
      rw [hsuc i hl, List.length_append] at h1
      have hw : IntKind.i64.wrap ((((ls.take i).flatten.length : Nat) : Int) + ((ls[i].length : Nat) : Int)) = (((ls.take (i + 1)).flatten.length : Nat) : Int) := by
        rw [wrap_small (by omega) (by omega), hsuc i hl, List.length_append]; rfl
      have e0 : decide ((((ls.take (i + 1)).flatten.length : Nat) : Int) < 0) = false := by simp
      simp only [go_sem, ↓reduceIte, Int.reduceEq, Nat.reduceBEq, Int.reduceBEq, Int.reduceBNe, Int.reduceLT, Int.reduceLE, Nat.reduceAdd, Nat.reducePow, Nat.reduceEqDiff, Nat.reduceLT, Nat.reduceLeDiff, Nat.reduceMul, Nat.reduceSub, t0, t3, t9, t10, t11, dec_lt' hl, hk, hidx _ i hl, hcl i hl, len_sl, hw, e0, wrap_succ' hl (by omega)]
      exact ih _ _ _ _ (by omega) ⟨i + 1, rfl, hl, rfl, rfl, by simp only [go_sem, ↓reduceIte, Int.reduceEq, Nat.reduceBEq, Int.reduceBEq, Int.reduceBNe, Int.reduceLT, Int.reduceLE, Nat.reduceAdd, Nat.reducePow, Nat.reduceEqDiff, Nat.reduceLT, Nat.reduceLeDiff, Nat.reduceMul, Nat.reduceSub, t0], by simp only [go_sem, ↓reduceIte, Int.reduceEq, Nat.reduceBEq, Int.reduceBEq, Int.reduceBNe, Int.reduceLT, Int.reduceLE, Nat.reduceAdd, Nat.reducePow, Nat.reduceEqDiff, Nat.reduceLT, Nat.reduceLeDiff, Nat.reduceMul, Nat.reduceSub], by simp only [go_sem, ↓reduceIte, Int.reduceEq, Nat.reduceBEq, Int.reduceBEq, Int.reduceBNe, Int.reduceLT, Int.reduceLE, Nat.reduceAdd, Nat.reducePow, Nat.reduceEqDiff, Nat.reduceLT, Nat.reduceLeDiff, Nat.reduceMul, Nat.reduceSub, t9], by simp only [go_sem, ↓reduceIte, Int.reduceEq, Nat.reduceBEq, Int.reduceBEq, Int.reduceBNe, Int.reduceLT, Int.reduceLE, Nat.reduceAdd, Nat.reducePow, Nat.reduceEqDiff, Nat.reduceLT, Nat.reduceLeDiff, Nat.reduceMul, Nat.reduceSub, t10], by simp only [go_sem, ↓reduceIte, Int.reduceEq, Nat.reduceBEq, Int.reduceBEq, Int.reduceBNe, Int.reduceLT, Int.reduceLE, Nat.reduceAdd, Nat.reducePow, Nat.reduceEqDiff, Nat.reduceLT, Nat.reduceLeDiff, Nat.reduceMul, Nat.reduceSub]⟩
    · have him : i = ls.length := by omega
      subst him
      rw [List.take_length] at t3
      simp only [go_sem, ↓reduceIte, Int.reduceEq, Nat.reduceBEq, Int.reduceBEq, Int.reduceBNe, Int.reduceLT, Int.reduceLE, Nat.reduceAdd, Nat.reducePow, Nat.reduceEqDiff, Nat.reduceLT, Nat.reduceLeDiff, Nat.reduceMul, Nat.reduceSub, t0, t3, t9, t10, t11, dec_ge' hl]
      obtain ⟨a0, τ0, hcall, hR, hn, hg, hz⟩ : ∃ a0 τ0, CallsTo (XX fz) (.func 88 []) [.d (.slc true []), .d (.int .i64 ((ls.flatten.length : Nat) : Int))] τ a0 τ0 [] ∧ RowP τ.n τ0 a0 [] ∧ τ.n ≤ τ0.n ∧ (∀ j, j < τ.n → τ0.get j = τ.get j) ∧ (a0 = .d (.slc true []) ↔ ls.flatten = []) := by
        rcases Nat.eq_zero_or_pos ls.flatten.length with h0 | h0
        · rw [h0]
          exact ⟨_, _, grow0_c h88 τ, .inl ⟨rfl, rfl⟩, Nat.le_refl _, fun _ _ => rfl, fun _ => List.length_eq_zero_iff.1 h0, fun _ => rfl⟩
        · refine ⟨_, _, grow_c h88 τ _ h0 htot, .inr ⟨τ.n, _, rfl, St.get_push_eq, rfl, Nat.zero_le _, Nat.le_refl _, by simp [St.n_push]⟩, by simp [St.n_push], fun j hj => St.get_push_ne hj, (fun h => by cases h), fun h => by rw [h] at h0; simp at h0⟩
      refine ⟨_, _, _, hcall, ?_⟩
      have hk0 : τ0.get k = .cells (ls.map fun l => A.d (slD l)) := by rw [hg k hkn]; exact hk
      have lz0 : low τ.n [] = [] := rfl
      simp only [go_sem, ↓reduceIte, Int.reduceEq, Nat.reduceBEq, Int.reduceBEq, Int.reduceBNe, Int.reduceLT, Int.reduceLE, Nat.reduceAdd, Nat.reducePow, Nat.reduceEqDiff, Nat.reduceLT, Nat.reduceLeDiff, Nat.reduceMul, Nat.reduceSub, hk0, lz0]
      refine Ev.loop_ind (fun m tm ρ W => ∃ (i : Nat) (a : A), m = ls.length - i ∧ i ≤ ls.length ∧ W = [] ∧ τ.n ≤ ρ.n ∧ (∀ j, j < τ.n → ρ.get j = τ.get j) ∧ RowP τ.n ρ a (ls.take i).flatten ∧ (a = .d (.slc true []) ↔ ls.flatten = []) ∧ tm.at 6 = a ∧ tm.at 25 = .row k 0 ls.length 1 ∧ tm.at 26 = .d (.int .i64 (ls.length : Int)) ∧ tm.at 27 = .d (.int .i64 i)) ?_ ls.length _ _ _ ⟨0, a0, rfl, by omega, rfl, hn, hg, hR, hz, by simp only [go_sem, ↓reduceIte, Int.reduceEq, Nat.reduceBEq, Int.reduceBEq, Int.reduceBNe, Int.reduceLT, Int.reduceLE, Nat.reduceAdd, Nat.reducePow, Nat.reduceEqDiff, Nat.reduceLT, Nat.reduceLeDiff, Nat.reduceMul, Nat.reduceSub], by simp only [go_sem, ↓reduceIte, Int.reduceEq, Nat.reduceBEq, Int.reduceBEq, Int.reduceBNe, Int.reduceLT, Int.reduceLE, Nat.reduceAdd, Nat.reducePow, Nat.reduceEqDiff, Nat.reduceLT, Nat.reduceLeDiff, Nat.reduceMul, Nat.reduceSub], by simp only [go_sem, ↓reduceIte, Int.reduceEq, Nat.reduceBEq, Int.reduceBEq, Int.reduceBNe, Int.reduceLT, Int.reduceLE, Nat.reduceAdd, Nat.reducePow, Nat.reduceEqDiff, Nat.reduceLT, Nat.reduceLeDiff, Nat.reduceMul, Nat.reduceSub], by simp only [go_sem, ↓reduceIte, Int.reduceEq, Nat.reduceBEq, Int.reduceBEq, Int.reduceBNe, Int.reduceLT, Int.reduceLE, Nat.reduceAdd, Nat.reducePow, Nat.reduceEqDiff, Nat.reduceLT, Nat.reduceLeDiff, Nat.reduceMul, Nat.reduceSub]; rfl⟩
      rintro m tm ρ W ⟨i, a, rfl, hi, rfl, hn, hg, hR, hz, t6, t25, t26, t27⟩ ih
      have hkr : ρ.get k = .cells (ls.map fun l => A.d (slD l)) := by rw [hg k hkn]; exact hk
      by_cases hl : i < ls.length
      · obtain ⟨a', ρ', T, happ, hR', hz', hn', hg', hT⟩ := hR.app (s := ls[i]) (by have := hpre i; omega) (hel i hl) hn
        have hTl : low τ.n T = [] := low_all hT
        simp only [go_sem, ↓reduceIte, Int.reduceEq, Nat.reduceBEq, Int.reduceBEq, Int.reduceBNe, Int.reduceLT, Int.reduceLE, Nat.reduceAdd, Nat.reducePow, Nat.reduceEqDiff, Nat.reduceLT, Nat.reduceLeDiff, Nat.reduceMul, Nat.reduceSub, t6, t25, t26, t27, dec_lt' hl, hkr, hidx _ i hl, hcl i hl, happ, hTl, wrap_succ' hl (show ls.length < 1000000000 by omega)]
        refine ih _ _ _ _ (by omega) ⟨i + 1, a', rfl, hl, rfl, by omega, fun j hj => (hg' j hj).trans (hg j hj), by rw [hsuc i hl]; exact hR', ?_, by simp only [go_sem, ↓reduceIte, Int.reduceEq, Nat.reduceBEq, Int.reduceBEq, Int.reduceBNe, Int.reduceLT, Int.reduceLE, Nat.reduceAdd, Nat.reducePow, Nat.reduceEqDiff, Nat.reduceLT, Nat.reduceLeDiff, Nat.reduceMul, Nat.reduceSub], by simp only [go_sem, ↓reduceIte, Int.reduceEq, Nat.reduceBEq, Int.reduceBEq, Int.reduceBNe, Int.reduceLT, Int.reduceLE, Nat.reduceAdd, Nat.reducePow, Nat.reduceEqDiff, Nat.reduceLT, Nat.reduceLeDiff, Nat.reduceMul, Nat.reduceSub, t25], by simp only [go_sem, ↓reduceIte, Int.reduceEq, Nat.reduceBEq, Int.reduceBEq, Int.reduceBNe, Int.reduceLT, Int.reduceLE, Nat.reduceAdd, Nat.reducePow, Nat.reduceEqDiff, Nat.reduceLT, Nat.reduceLeDiff, Nat.reduceMul, Nat.reduceSub, t26], by simp only [go_sem, ↓reduceIte, Int.reduceEq, Nat.reduceBEq, Int.reduceBEq, Int.reduceBNe, Int.reduceLT, Int.reduceLE, Nat.reduceAdd, Nat.reducePow, Nat.reduceEqDiff, Nat.reduceLT, Nat.reduceLeDiff, Nat.reduceMul, Nat.reduceSub]⟩
        rw [hz', hz]
        refine ⟨fun h => h.1, fun h => ⟨h, ?_⟩⟩
        have h1 := hpre (i + 1)
        rw [hsuc i hl, List.length_append, h] at h1
        simp at h1
        exact h1.2
      · have him : i = ls.length := by omega
        subst him
        rw [List.take_length] at hR
        simp only [go_sem, ↓reduceIte, Int.reduceEq, Nat.reduceBEq, Int.reduceBEq, Int.reduceBNe, Int.reduceLT, Int.reduceLE, Nat.reduceAdd, Nat.reducePow, Nat.reduceEqDiff, Nat.reduceLT, Nat.reduceLeDiff, Nat.reduceMul, Nat.reduceSub, t6, t25, t26, t27, dec_ge' hl]
        exact hR.freeze hz.1 (fun h h' => h (hz.2 h')) htot
  all_goals first | rfl | (simp only [go_sem, ↓reduceIte, Int.reduceEq, Nat.reduceBEq, Int.reduceBEq, Int.reduceBNe, Int.reduceLT, Int.reduceLE, Nat.reduceAdd, Nat.reducePow, Nat.reduceEqDiff, Nat.reduceLT, Nat.reduceLeDiff, Nat.reduceMul, Nat.reduceSub]; done) | (simp only [go_sem, ↓reduceIte, Int.reduceEq, Nat.reduceBEq, Int.reduceBEq, Int.reduceBNe, Int.reduceLT, Int.reduceLE, Nat.reduceAdd, Nat.reducePow, Nat.reduceEqDiff, Nat.reduceLT, Nat.reduceLeDiff, Nat.reduceMul, Nat.reduceSub]; rfl)
end Go.Am
namespace Go.Am
open Go Go.Proofs
variable {fz : Nat → Md}
/-- what an edge takes -/
def ownP (X : Nx) (e : Eg) : List Int × Bool :=
  if e.kind = 1 then ([e.num], true) else if e.kind = 2 then (X.ca.getD e.num.toNat [], !(X.lg.getD e.num.toNat false)) else ([], true)
theorem index_ca {σ : St} {X : Nx} {i : Nat} {kd : IntKind} (h : i < X.ca.length) : indexK σ 1 (.d (.slc X.ca.isEmpty (caD X.ca))) (.d (.int kd (i : Int))) = .val (.d (.vptr [slD (X.ca.getD i [])] 0)) σ [] [] := by
  rw [indexK_d]; exact indexD_nat (by simp [caD, h]) rfl
theorem index_lg {σ : St} {X : Nx} {i : Nat} {kd : IntKind} (h : i < X.lg.length) : indexK σ 1 (.d (.slc X.lg.isEmpty (bsD X.lg))) (.d (.int kd (i : Int))) = .val (.d (.vptr [.bool (X.lg.getD i false)] 0)) σ [] [] := by
  rw [indexK_d]; exact indexD_nat (by simp [bsD, h]) rfl
set_option maxHeartbeats 2000000 in
theorem own_c (h45 : fz 45 = .ice) (N : Nv) (X : Nx) (e : Eg) (hk : 0 ≤ e.kind ∧ e.kind ≤ 2) (hn : 0 ≤ e.num) (h2 : e.kind = 2 → e.num < X.ca.length ∧ e.num < X.lg.length) (σ : St) :
    CallsTo (XX fz) (.func 45 []) [netP N X, .agg (e.D.map A.d)] σ (.tup [.d (slD (ownP X e).1), .d (.bool (ownP X e).2)]) σ [] := by
  refine CallsTo.ice0 h45 fn45 (by simp) ?_
  simp only [Try.f45, Option.getD_some]
  unfold ownP
  rcases (show e.kind = 0 ∨ e.kind = 1 ∨ e.kind = 2 by omega) with h | h | h
  · have c1 : (e.kind == 1) = false := by rw [h]; rfl
    have c2 : (e.kind == 2) = false := by rw [h]; rfl
    rw [if_neg (by omega), if_neg (by omega)]
    simp only [go_sem, ↓reduceIte, Int.reduceEq, Nat.reduceBEq, Int.reduceBEq, Int.reduceBNe, Int.reduceLT, Int.reduceLE, Nat.reduceAdd, Nat.reducePow, Nat.reduceEqDiff, Nat.reduceLT, Nat.reduceLeDiff, Nat.reduceMul, Nat.reduceSub, netP, netC_map, Eg.D_c, c1, c2]
    rfl
  · have c1 : (e.kind == 1) = true := by rw [h]; rfl
    rw [if_pos h]
    simp only [go_sem, ↓reduceIte, Int.reduceEq, Nat.reduceBEq, Int.reduceBEq, Int.reduceBNe, Int.reduceLT, Int.reduceLE, Nat.reduceAdd, Nat.reducePow, Nat.reduceEqDiff, Nat.reduceLT, Nat.reduceLeDiff, Nat.reduceMul, Nat.reduceSub, netP, netC_map, Eg.D_c, c1]
    have hf := freeze_row (σ := (σ.push (.cells [.d (.int .i64 e.kind), .d (.int .i64 e.num), .d (.int .i64 (e.to : Int))])).push (.cells [.d (.int .i64 e.num)])) (lo := σ.n) (n := fzDepth) (k := σ.n + 1) (len := 1) (es := 1) (cs := [.d (.int .i64 e.num)]) (ds := [.int .i64 e.num]) (by unfold fzDepth; omega) (St.get_push_eq' (by simp [St.n_push])) (by omega) (by simp) (by
      rw [List.take_of_length_le (by simp), freezeL_cons (by unfold fzDepth; omega), freeze_d, freezeL_nil]; rfl)
    rw [hf]; rfl
  · have c1 : (e.kind == 1) = false := by rw [h]; rfl
    have c2 : (e.kind == 2) = true := by rw [h]; rfl
    obtain ⟨q1, q2⟩ := h2 h
    rw [if_neg (by omega), if_pos h]
    obtain ⟨n, hn'⟩ := Int.eq_ofNat_of_zero_le hn
    rw [hn', Int.toNat_natCast]
    rw [hn'] at q1 q2
    have i1 := fun σ : St => index_ca (σ := σ) (X := X) (kd := .i64) (i := n) (by omega)
    have i2 := fun σ : St => index_lg (σ := σ) (X := X) (kd := .i64) (i := n) (by omega)
    simp only [go_sem, ↓reduceIte, Int.reduceEq, Nat.reduceBEq, Int.reduceBEq, Int.reduceBNe, Int.reduceLT, Int.reduceLE, Nat.reduceAdd, Nat.reducePow, Nat.reduceEqDiff, Nat.reduceLT, Nat.reduceLeDiff, Nat.reduceMul, Nat.reduceSub, netP, netC_map, Eg.D_c, c1, c2, hn', i1, i2]
    rfl
end Go.Am
namespace Go.Am
open Go Go.Proofs
abbrev KT := List (Option (List Int))
/-- a state's edges, each looked at once -/
def nsE (X : Nx) (s : Nat) : List Eg → KT → Bool → KT × Bool
  | [], K, m => (K, m)
  | e :: r, K, m => match kF K e.to with
    | none => nsE X s r K m
    | some rest => if ((ownP X e).2 = false ∨ (ownP X e).1.length + rest.length > 256) then nsE X s r K m
      else if better K s ((ownP X e).1 ++ rest) = true then nsE X s r (K.set s (some ((ownP X e).1 ++ rest))) true else nsE X s r K m
/-- the states of a rule -/
def nsP (X : Nx) (N : Nv) (ru : Int) : List (List Eg) → Nat → KT → Bool → KT × Bool
  | [], _, K, m => (K, m)
  | l :: r, s, K, m => if N.rule s = ru then nsP X N ru r (s + 1) (nsE X s l K m).1 (nsE X s l K m).2 else nsP X N ru r (s + 1) K m
def nsF (X : Nx) (N : Nv) (ru : Int) : Nat → KT → KT
  | 0, K => K
  | n + 1, K => if (nsP X N ru N.es 0 K false).2 = true then nsF X N ru n (nsP X N ru N.es 0 K false).1 else (nsP X N ru N.es 0 K false).1
/-- lists of small numbers, not too long -/
def SmK (K : KT) : Prop := ∀ n s, kF K n = some s → small64 s ∧ s.length ≤ 256
theorem small64_app {a b : List Int} (ha : small64 a) (hb : small64 b) : small64 (a ++ b) := fun x hx => (List.mem_append.1 hx).elim (ha x) (hb x)
theorem SmK.set {K : KT} (h : SmK K) {i : Nat} {s : List Int} (hi : i < K.length) (h1 : small64 s) (h2 : s.length ≤ 256) : SmK (K.set i (some s)) := fun n u hu => by
  rw [kF_set hi] at hu
  split at hu
  · cases hu; exact ⟨h1, h2⟩
  · exact h n u hu
theorem SmK.rank {K : KT} (h : SmK K) {i : Nat} {s : List Int} (hs : small64 s) (hl : s.length ≤ 256) (hb : better K i s = true) : rank s 0 < rk1 (kF K i) := by
  unfold better at hb
  cases e : kF K i with
  | none => exact rank_max hs hl
  | some o => rw [e] at hb; exact rank_less hs (h i o e).1 hb
section
variable {X : Nx} {N : Nv} {ru : Int}
theorem nsE_ok {s : Nat} : ∀ (l : List Eg) (K : KT) (m : Bool), (∀ e ∈ l, (ownP X e).2 = true → small64 (ownP X e).1) → s < K.length → SmK K →
    SmK (nsE X s l K m).1 ∧ (nsE X s l K m).1.length = K.length ∧ meas (nsE X s l K m).1 ≤ meas K ∧ (m = true → (nsE X s l K m).2 = true) ∧ (m = false → (nsE X s l K m).2 = true → meas (nsE X s l K m).1 < meas K)
  | [], K, m, _, _, h => ⟨h, rfl, Nat.le_refl _, fun h => h, fun h1 h2 => by rw [nsE] at h2; rw [h1] at h2; cases h2⟩
  | e :: r, K, m, ho, hs, h => by
    have ho' : ∀ e ∈ r, (ownP X e).2 = true → small64 (ownP X e).1 := fun e he => ho e (by simp [he])
    rw [nsE]
    cases hk : kF K e.to with
    | none => exact nsE_ok r K m ho' hs h
    | some rest =>
      dsimp only
      split
      · exact nsE_ok r K m ho' hs h
      · rename_i hc
        split
        · rename_i hb
          have h1 : small64 ((ownP X e).1 ++ rest) := small64_app (ho e (by simp) (by cases hq : (ownP X e).2 with
            | true => rfl
            | false => exact absurd (.inl hq) hc)) (h _ _ hk).1
          have h2 : ((ownP X e).1 ++ rest).length ≤ 256 := by rw [List.length_append]; omega
          have hm := meas_set hs (h.rank h1 h2 hb)
          obtain ⟨r1, r2, r3, r4, r5⟩ := nsE_ok r (K.set s (some ((ownP X e).1 ++ rest))) true ho' (by rw [List.length_set]; exact hs) (h.set hs h1 h2)
          exact ⟨r1, by rw [r2, List.length_set], by omega, fun _ => r4 rfl, fun _ _ => by omega⟩
        · exact nsE_ok r K m ho' hs h
theorem nsP_ok : ∀ (l : List (List Eg)) (s : Nat) (K : KT) (m : Bool), (∀ row ∈ l, ∀ e ∈ row, (ownP X e).2 = true → small64 (ownP X e).1) → s + l.length ≤ K.length → SmK K →
    SmK (nsP X N ru l s K m).1 ∧ (nsP X N ru l s K m).1.length = K.length ∧ meas (nsP X N ru l s K m).1 ≤ meas K ∧ (m = false → (nsP X N ru l s K m).2 = true → meas (nsP X N ru l s K m).1 < meas K)
  | [], s, K, m, _, _, h => ⟨h, rfl, Nat.le_refl _, fun h1 h2 => by rw [nsP] at h2; rw [h1] at h2; cases h2⟩
  | row :: r, s, K, m, ho, hl, h => by
    have ho' : ∀ row ∈ r, ∀ e ∈ row, (ownP X e).2 = true → small64 (ownP X e).1 := fun a ha => ho a (by simp [ha])
    simp only [List.length_cons] at hl
    rw [nsP]
    split
    · obtain ⟨a1, a2, a3, a4, a5⟩ := nsE_ok (s := s) row K m (ho row (by simp)) (by omega) h
      obtain ⟨b1, b2, b3, b4⟩ := nsP_ok r (s + 1) (nsE X s row K m).1 (nsE X s row K m).2 ho' (by omega) a1
      refine ⟨b1, by omega, by omega, fun hm hh => ?_⟩
      by_cases hq : (nsE X s row K m).2 = true
      · have := a5 hm hq; omega
      · have := b4 (by simpa using hq) hh; omega
    · exact nsP_ok r (s + 1) K m ho' (by omega) h
def OwS (X : Nx) (N : Nv) : Prop := ∀ row ∈ N.es, ∀ e ∈ row, (ownP X e).2 = true → small64 (ownP X e).1
theorem nsF_fuel (ho : OwS X N) : ∀ (n m : Nat) (K : KT), SmK K → N.es.length ≤ K.length → meas K < n → meas K < m → nsF X N ru n K = nsF X N ru m K
  | 0, _, K, _, _, h, _ => by omega
  | _, 0, K, _, _, _, h => by omega
  | n + 1, m + 1, K, hK, hl, h1, h2 => by
    obtain ⟨p1, p2, p3, p4⟩ := nsP_ok (ru := ru) N.es 0 K false ho (by omega) hK
    rw [nsF, nsF]
    split
    · rename_i h
      have := p4 rfl h
      exact nsF_fuel ho n m _ p1 (by omega) (by omega) (by omega)
    · rfl
end
/-- what is known at the begin, and at the end -/
def nsK0 (N : Nv) (lf : Nat) : KT := (K0 N.es.length).set lf (some [])
def nsEnd (X : Nx) (N : Nv) (ru : Int) (lf : Nat) : KT := nsF X N ru (meas (nsK0 N lf) + 1) (nsK0 N lf)
theorem K0_get (n i : Nat) : kF (K0 n) i = none := by
  unfold kF K0; rw [List.getD_eq_getElem?_getD, List.getElem?_replicate]; split <;> rfl
theorem nsK0_Sm {N : Nv} {lf : Nat} (h : lf < N.es.length) : SmK (nsK0 N lf) := by
  refine SmK.set (fun n s hs => ?_) (by simp [K0]; exact h) (fun a ha => by cases ha) (by simp)
  rw [K0_get] at hs; cases hs
/-- what Short answers -/
def nshV (X : Nx) (N : Nv) (ru : Int) (lf st : Nat) : D × Int := match kF (nsEnd X N ru lf) st with
  | some l => (slD l, 0)
  | none => (.slc true [], 5)
end Go.Am

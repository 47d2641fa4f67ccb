/- Part U2 of a proof that runs a program's calls on a small machine whose values bear no addresses: no conditions. -/
import Derived.Test.YtahfdfpakikbpaaAmU1
set_option autoImplicit false
set_option linter.unusedSimpArgs false
set_option linter.unusedVariables false
set_option linter.unusedSectionVars false
namespace Go.Am
open Go Go.Proofs
variable {fz : Nat → Md}
set_option maxHeartbeats 2000000 in
theorem cpK_call (h43 : fz 43 = .keep) (h87 : fz 87 = .ice) (g : Gr) (σ : St) (hg : SmallG g) (hL : g.rules.length < 1000000000) : ∃ a σ', CallsTo (XX fz) (.func 43 []) [g.a] σ a σ' [] ∧ ∃ a' bs, a = .agg [.d (.int .i64 g.tokens), a'] ∧ RowN 4 σ' a' (rowR (g.rules.map Ru.cp)) bs ∧ (∀ k ∈ bs, σ.n ≤ k) ∧ Ext σ σ' := by
  refine CallsTo.keepP h43 fn43 (by simp) ?_
  simp only [Try.f43, Option.getD_some]
  simp only [go_sem, ↓reduceIte, Int.reduceEq, Nat.reduceBEq, Option.some.injEq, Bool.true_eq_false, Bool.false_eq_true, Int.reduceBEq, Int.reduceBNe, Int.reduceLT, Int.reduceLE, Nat.add_assoc, Nat.reduceAdd, Nat.reducePow, Nat.zero_le, Nat.reduceEqDiff, Nat.reduceLT, Nat.reduceLeDiff, Nat.reduceMul, Nat.reduceSub, Nat.add_left_cancel_iff, Nat.lt_irrefl, Nat.le_refl, Nat.add_eq_left, Nat.left_eq_add, beq_self_eq_true, Gr.a]
  refine Ev.loop_ind (fun k tm τ W => ∃ (i : Nat) (a : A) (bs : List Nat), k = g.rules.length - i ∧ i ≤ g.rules.length ∧ W = [] ∧ σ.n + 3 ≤ τ.n ∧ (∀ j, j < σ.n → τ.get j = σ.get j) ∧ τ.get σ.n = .cells g.c ∧ (∃ cs, τ.get (σ.n + 1) = .cells cs ∧ cs.length = 2) ∧ τ.get (σ.n + 2) = .cells [.d (.int .i64 g.tokens), a] ∧ RowN 4 τ a (rowR ((g.rules.take i).map Ru.cp)) bs ∧ (∀ k ∈ bs, σ.n + 3 ≤ k) ∧
      tm.at 1 = .ptr σ.n 0 ∧ tm.at 2 = .ptr (σ.n + 1) 0 ∧ tm.at 3 = .ptr (σ.n + 2) 0 ∧ tm.at 4 = .d (.int .i64 i)) ?_ g.rules.length _ _ _ ⟨0, .d (.slc true []), [], rfl, by omega, rfl, ?_, ?_, ?_, ?_, ?_, RowN.nil, (by simp), ?_, ?_, ?_, ?_⟩
  · rintro k tm τ W ⟨i, a, bs, rfl, hi, rfl, hn, gold, g0, ⟨cs1, g1, g1l⟩, g2, hR, hbs, t1, t2, t3, t4⟩ ih
    by_cases hl : i < g.rules.length
    · have hget : g.rules[i]? = some g.rules[i] := by simp [hl]
      have hmem : g.rules[i] ∈ g.rules := List.getElem_mem hl
      simp only [go_sem, ↓reduceIte, Int.reduceEq, Nat.reduceBEq, Option.some.injEq, Bool.true_eq_false, Bool.false_eq_true, Int.reduceBEq, Int.reduceBNe, Int.reduceLT, Int.reduceLE, Nat.add_assoc, Nat.reduceAdd, Nat.reducePow, Nat.zero_le, Nat.reduceEqDiff, Nat.reduceLT, Nat.reduceLeDiff, Nat.reduceMul, Nat.reduceSub, Nat.add_left_cancel_iff, Nat.lt_irrefl, Nat.le_refl, Nat.add_eq_left, Nat.left_eq_add, beq_self_eq_true, t1, t2, t3, t4, g0, g2, dec_lt' hl, Gr.index_rd hget, Ru.c_name]
      refine ⟨_, _, _, cp_call h87 g.rules[i].body _ (hg _ hmem), ?_⟩
      have hR1 : RowN 4 (τ.push (.cells (Ru.cp g.rules[i]).c)) a (rowR ((g.rules.take i).map Ru.cp)) bs := hR.stay (by simp only [St.n_push]; omega) fun k hk => St.get_push_ne (hR.1.lt hk)
      obtain ⟨a', τ', T, bs', happ, hR', hK, hc1, hc2⟩ := app_ex (b := 56) (x := (Ru.cp g.rules[i]).cs) (j := τ.n) (Ru.cs_len _) (by omega) hR1 (by rw [St.get_push_eq, Ru.cs_map]) (by rw [rowR_len, List.length_map, List.length_take]; omega)
      have hT : low σ.n T = [] := low_all fun k hk => by
        rcases hK.w k hk with h | h
        · have := hbs k h; omega
        · simp only [St.n_push] at h; omega
      have hn' := hK.n
      simp only [St.n_push] at hn'
      have hold : ∀ j, j < σ.n + 3 → τ'.get j = τ.get j := fun j hj => by rw [hK.same j (by simp only [St.n_push]; omega) (fun h => by have := hbs _ h; omega), St.get_push_ne (by omega)]
      have k0 := (hold σ.n (by omega)).trans g0
      have k1 := (hold (σ.n + 1) (by omega)).trans g1
      have k2 := (hold (σ.n + 2) (by omega)).trans g2
      rw [Ru.cp] at happ hR' 
      simp only [go_sem, ↓reduceIte, Int.reduceEq, Nat.reduceBEq, Option.some.injEq, Bool.true_eq_false, Bool.false_eq_true, Int.reduceBEq, Int.reduceBNe, Int.reduceLT, Int.reduceLE, Nat.add_assoc, Nat.reduceAdd, Nat.reducePow, Nat.zero_le, Nat.reduceEqDiff, Nat.reduceLT, Nat.reduceLeDiff, Nat.reduceMul, Nat.reduceSub, Nat.add_left_cancel_iff, Nat.lt_irrefl, Nat.le_refl, Nat.add_eq_left, Nat.left_eq_add, beq_self_eq_true, Ex.a, Ru.put1, Ru.put0, happ, hc1, hc2, t1, t2, t3, t4, k2]
      refine ⟨drawOk_rel [14, 17, 19] [(14, 0), (14, 1), (14, 2), (14, 3), (14, 4), (14, 5), (14, 6), (14, 7)] rfl (by kernel_rfl) rfl (by simp [meets]), ?_⟩
      simp only [go_sem, ↓reduceIte, Int.reduceEq, Nat.reduceBEq, Option.some.injEq, Bool.true_eq_false, Bool.false_eq_true, Int.reduceBEq, Int.reduceBNe, Int.reduceLT, Int.reduceLE, Nat.add_assoc, Nat.reduceAdd, Nat.reducePow, Nat.zero_le, Nat.reduceEqDiff, Nat.reduceLT, Nat.reduceLeDiff, Nat.reduceMul, Nat.reduceSub, Nat.add_left_cancel_iff, Nat.lt_irrefl, Nat.le_refl, Nat.add_eq_left, Nat.left_eq_add, beq_self_eq_true, hT, t4, wrap_succ' hl hL]
      refine ih _ _ _ _ (by omega) ⟨i + 1, a', bs', rfl, hl, rfl, by simp only [St.n_set]; omega, fun j hj => by rw [St.get_set_ne (by omega), hold j (by omega)]; exact gold j hj, ?_, ⟨cs1, ?_, g1l⟩, ?_, ?_, fun k hk => ?_, by simp only [go_sem, ↓reduceIte, Int.reduceEq, Nat.reduceBEq, Option.some.injEq, Bool.true_eq_false, Bool.false_eq_true, Int.reduceBEq, Int.reduceBNe, Int.reduceLT, Int.reduceLE, Nat.add_assoc, Nat.reduceAdd, Nat.reducePow, Nat.zero_le, Nat.reduceEqDiff, Nat.reduceLT, Nat.reduceLeDiff, Nat.reduceMul, Nat.reduceSub, Nat.add_left_cancel_iff, Nat.lt_irrefl, Nat.le_refl, Nat.add_eq_left, Nat.left_eq_add, beq_self_eq_true, t1], by simp only [go_sem, ↓reduceIte, Int.reduceEq, Nat.reduceBEq, Option.some.injEq, Bool.true_eq_false, Bool.false_eq_true, Int.reduceBEq, Int.reduceBNe, Int.reduceLT, Int.reduceLE, Nat.add_assoc, Nat.reduceAdd, Nat.reducePow, Nat.zero_le, Nat.reduceEqDiff, Nat.reduceLT, Nat.reduceLeDiff, Nat.reduceMul, Nat.reduceSub, Nat.add_left_cancel_iff, Nat.lt_irrefl, Nat.le_refl, Nat.add_eq_left, Nat.left_eq_add, beq_self_eq_true, t2], by simp only [go_sem, ↓reduceIte, Int.reduceEq, Nat.reduceBEq, Option.some.injEq, Bool.true_eq_false, Bool.false_eq_true, Int.reduceBEq, Int.reduceBNe, Int.reduceLT, Int.reduceLE, Nat.add_assoc, Nat.reduceAdd, Nat.reducePow, Nat.zero_le, Nat.reduceEqDiff, Nat.reduceLT, Nat.reduceLeDiff, Nat.reduceMul, Nat.reduceSub, Nat.add_left_cancel_iff, Nat.lt_irrefl, Nat.le_refl, Nat.add_eq_left, Nat.left_eq_add, beq_self_eq_true, t3], by simp only [go_sem, ↓reduceIte, Int.reduceEq, Nat.reduceBEq, Option.some.injEq, Bool.true_eq_false, Bool.false_eq_true, Int.reduceBEq, Int.reduceBNe, Int.reduceLT, Int.reduceLE, Nat.add_assoc, Nat.reduceAdd, Nat.reducePow, Nat.zero_le, Nat.reduceEqDiff, Nat.reduceLT, Nat.reduceLeDiff, Nat.reduceMul, Nat.reduceSub, Nat.add_left_cancel_iff, Nat.lt_irrefl, Nat.le_refl, Nat.add_eq_left, Nat.left_eq_add, beq_self_eq_true]⟩
      · rw [St.get_set_ne (by omega)]; exact k0
      · rw [St.get_set_ne (by omega)]; exact k1
      · rw [St.get_set_eq]
      · rw [List.take_succ_eq_append_getElem hl, List.map_append]
        have : rowR (List.map Ru.cp (List.take i g.rules) ++ List.map Ru.cp [g.rules[i]]) = rowR (List.map Ru.cp (List.take i g.rules)) ++ [Ru.cs ⟨g.rules[i].name, g.rules[i].body.cp⟩] := by simp [rowR, Ru.cp]
        rw [this]
        refine hR'.stay (Nat.le_refl _) fun k hk => St.get_set_ne ?_
        rcases hK.o k hk with h | h
        · have := hbs k h; omega
        · simp only [St.n_push] at h; omega
      · rcases hK.o k hk with h | h
        · exact hbs k h
        · simp only [St.n_push] at h; omega
    · have hcell := hR.1.cell
      have hd : List.drop 2 cs1 = [] := List.drop_eq_nil_of_le (by omega)
      rw [List.take_of_length_le (by omega)] at hR
      have hR2 : RowN 4 (τ.set (σ.n + 1) (.cells [.d (.int .i64 g.tokens), a])) a (rowR (g.rules.map Ru.cp)) bs := hR.stay (Nat.le_refl _) fun k hk => St.get_set_ne (by have := hbs k hk; omega)
      simp only [go_sem, ↓reduceIte, Int.reduceEq, Nat.reduceBEq, Option.some.injEq, Bool.true_eq_false, Bool.false_eq_true, Int.reduceBEq, Int.reduceBNe, Int.reduceLT, Int.reduceLE, Nat.add_assoc, Nat.reduceAdd, Nat.reducePow, Nat.zero_le, Nat.reduceEqDiff, Nat.reduceLT, Nat.reduceLeDiff, Nat.reduceMul, Nat.reduceSub, Nat.add_left_cancel_iff, Nat.lt_irrefl, Nat.le_refl, Nat.add_eq_left, Nat.left_eq_add, beq_self_eq_true, t1, t2, t3, t4, g0, g1, g2, g1l, dec_ge' hl, hcell, hd]
      exact ⟨_, _, rfl, hR2, (fun k hk => by have := hbs k hk; omega), ⟨by simp only [St.n_set]; omega, fun j hj => by rw [St.get_set_ne (by omega)]; exact gold j hj⟩⟩
  · simp only [St.n_push, St.n_set]; omega
  · intro j hj; rw [St.get_set_ne (by omega), St.get_push_ne (by simp only [St.n_push]; omega), St.get_push_ne (by simp only [St.n_push]; omega), St.get_push_ne hj]
  · simp [St.get_set, St.get_push, St.n_push, St.n_set]; intro h; omega
  · exact ⟨_, by simp [St.get_set, St.get_push, St.n_push, St.n_set]; rfl, rfl⟩
  · simp [St.get_set, St.get_push, St.n_push, St.n_set]
  all_goals first | rfl | (simp only [go_sem, ↓reduceIte, Int.reduceEq, Nat.reduceBEq, Option.some.injEq, Bool.true_eq_false, Bool.false_eq_true, Int.reduceBEq, Int.reduceBNe, Int.reduceLT, Int.reduceLE, Nat.add_assoc, Nat.reduceAdd, Nat.reducePow, Nat.zero_le, Nat.reduceEqDiff, Nat.reduceLT, Nat.reduceLeDiff, Nat.reduceMul, Nat.reduceSub, Nat.add_left_cancel_iff, Nat.lt_irrefl, Nat.le_refl, Nat.add_eq_left, Nat.left_eq_add, beq_self_eq_true]; done) | (simp only [go_sem, ↓reduceIte, Int.reduceEq, Nat.reduceBEq, Option.some.injEq, Bool.true_eq_false, Bool.false_eq_true, Int.reduceBEq, Int.reduceBNe, Int.reduceLT, Int.reduceLE, Nat.add_assoc, Nat.reduceAdd, Nat.reducePow, Nat.zero_le, Nat.reduceEqDiff, Nat.reduceLT, Nat.reduceLeDiff, Nat.reduceMul, Nat.reduceSub, Nat.add_left_cancel_iff, Nat.lt_irrefl, Nat.le_refl, Nat.add_eq_left, Nat.left_eq_add, beq_self_eq_true]; rfl)
end Go.Am
namespace Go.Am
open Go Go.Proofs
variable {fz : Nat → Md}

/-! Parts in memory. -/
theorem freezeL_append {σ : St} {lo : Nat} : ∀ {a b : List A} {n : Nat} {x y : List D}, a.length ≤ n → freezeL σ lo n a = some x → freezeL σ lo (n - a.length) b = some y → freezeL σ lo n (a ++ b) = some (x ++ y)
  | [], b, n, x, y, _, h1, h2 => by
    rw [freezeL_nil] at h1; cases h1; simpa using h2
  | c :: a, b, n, x, y, hl, h1, h2 => by
    simp only [List.length_cons] at hl h2
    rw [List.cons_append, freezeL_cons (by omega)]
    rw [freezeL_cons (by omega)] at h1
    cases hc : freeze σ lo (n - 1) c with
    | none => rw [hc] at h1; cases h1
    | some d =>
      rw [hc] at h1
      cases hr : freezeL σ lo (n - 1) a with
      | none => simp [hr] at h1
      | some l =>
        simp only [hr, Option.map_some, Option.some.injEq] at h1; subst h1
        rw [freezeL_append (by omega) hr (by rw [show n - 1 - a.length = n - (a.length + 1) by omega]; exact h2)]; rfl

/-- cells of a part in memory -/
structure Frz (N : Nat) (σ : St) (c : List A) (x : Ex) : Prop where
  form : ∃ L, c = [.d (.int .i64 x.kind), .d (.int .i64 x.num), L] ∧ L.isCell = true ∧ L.cells = some [L] ∧ L.under σ.n = true ∧ ∀ τ, Ext σ τ → ∀ n, N ≤ n → freeze τ 0 n L = some (.slc (x.z && x.l.isEmpty) (x.l.map Ex.cs))
theorem Frz.len {N : Nat} {σ : St} {c : List A} {x : Ex} (h : Frz N σ c x) : c.length = 3 := by obtain ⟨L, rfl, -⟩ := h.form; rfl
theorem Frz.cell {N : Nat} {σ : St} {c : List A} {x : Ex} (h : Frz N σ c x) : c.all A.isCell = true := by obtain ⟨L, rfl, h1, -⟩ := h.form; rw [List.all_cons, List.all_cons, List.all_cons, List.all_nil, h1]; rfl
theorem Frz.take {N : Nat} {σ : St} {c : List A} {x : Ex} (h : Frz N σ c x) : c.take 3 = c := List.take_of_length_le (by rw [h.len]; omega)
theorem Frz.mono {N : Nat} {σ τ : St} {c : List A} {x : Ex} (h : Frz N σ c x) (he : Ext σ τ) : Frz N τ c x := by
  obtain ⟨L, h1, h2, h3, h4, h5⟩ := h.form
  exact ⟨L, h1, h2, h3, A.under_mono he.n L h4, fun ρ hρ => h5 ρ (he.trans hρ)⟩
theorem Frz.up {N N' : Nat} {σ : St} {c : List A} {x : Ex} (h : Frz N σ c x) (hN : N ≤ N') : Frz N' σ c x := by
  obtain ⟨L, h1, h2, h3, h4, h5⟩ := h.form
  exact ⟨L, h1, h2, h3, h4, fun ρ hρ n hn => h5 ρ hρ n (by omega)⟩
theorem Frz.frz {N : Nat} {σ : St} {c : List A} {x : Ex} (h : Frz N σ c x) {τ : St} (he : Ext σ τ) {n : Nat} (hn : N + 3 ≤ n) : freezeL τ 0 n c = some x.cs := by
  obtain ⟨L, rfl, h2, h3, h4, h5⟩ := h.form
  rw [freezeL3 (by omega) (h5 τ he (n - 3) (by omega))]
  cases x; simp [Ex.cs, Ex.kind, Ex.num, Ex.z, Ex.l]
theorem Frz.data (x : Ex) (σ : St) : Frz 0 σ x.c x := ⟨x.ld, rfl, rfl, rfl, rfl, fun τ _ n _ => by rw [Ex.ld, freeze_d]⟩
/-- a row of parts -/
theorem Frz.row {N k : Nat} {σ : St} {css : List (List A)} {xs : List Ex} {kd : Int} (hk : σ.get k = .cells (css.flatMap id)) (hlt : k < σ.n) (hl : css.length = xs.length) (h : ∀ (i : Nat) (c : List A) (x : Ex), css[i]? = some c → xs[i]? = some x → Frz N σ c x) :
    Frz (N + 3 * xs.length + 4) σ [.d (.int .i64 kd), .d (.int .i64 0), .row k 0 xs.length 3] (.mk kd 0 false xs) := by
  refine ⟨_, rfl, rfl, rfl, by simpa [A.under] using hlt, fun τ he n hn => ?_⟩
  have key : ∀ (css : List (List A)) (xs : List Ex), css.length = xs.length → (∀ (i : Nat) (c : List A) (x : Ex), css[i]? = some c → xs[i]? = some x → Frz N σ c x) → (css.flatMap id).length = xs.length * 3 ∧ ∀ n, N + 3 * xs.length + 3 ≤ n → freezeL τ 0 n (css.flatMap id) = some (xs.flatMap Ex.cs) := by
    intro css
    induction css with
    | nil => intro xs hl _; cases xs with | nil => exact ⟨rfl, fun n _ => by rw [List.flatMap_nil, freezeL_nil]; rfl⟩ | cons _ _ => cases hl
    | cons c css ih =>
      intro xs hl h
      cases xs with
      | nil => cases hl
      | cons x xs =>
        have hc := h 0 c x rfl rfl
        obtain ⟨i1, i2⟩ := ih xs (by simpa using hl) fun i c x h1 h2 => h (i + 1) c x (by simpa using h1) (by simpa using h2)
        rw [List.flatMap_cons, List.flatMap_cons]
        refine ⟨by rw [List.length_append, i1, id, hc.len, List.length_cons]; omega, fun n hn => ?_⟩
        simp only [List.length_cons] at hn
        exact freezeL_append (by rw [id, hc.len]; omega) (hc.frz he (by omega)) (by rw [id, hc.len]; exact i2 _ (by omega))
  obtain ⟨k1, k2⟩ := key css xs hl h
  rw [freeze_row (ds := xs.flatMap Ex.cs) (by omega) ((he.g k hlt).trans hk) (Nat.zero_le _) (by rw [k1]; exact Nat.le_refl _) (by rw [List.take_of_length_le (by rw [k1]; exact Nat.le_refl _)]; exact k2 _ (by omega))]
  have : xs.flatMap Ex.cs = (xs.map Ex.cs).flatMap id := by rw [List.flatMap_map]; rfl
  have hl2 : (xs.map Ex.cs).length = xs.length := List.length_map _
  rw [this, ← hl2, chunks_flat (fun y hy => by obtain ⟨z, -, rfl⟩ := List.mem_map.1 hy; exact z.cs_len)]
  simp [Ex.z, Ex.l]

/-! Ways to write parts. -/
def exC (n : Int) : Ex := .mk 2 n true []
def exT (n : Int) : Ex := .mk 1 n true []
theorem c38 (h38 : fz 38 = .cut) (n : Int) (σ : St) : CallsTo (XX fz) (.func 38 []) [.d (.int .i64 n)] σ (.agg (exC n).c) σ [] := by
  refine CallsTo.cut0 h38 fn38 (by simp) rfl ?_
  simp only [Try.f38, Option.getD_some]
  simp only [go_sem, ↓reduceIte, Int.reduceEq, Nat.reduceBEq, Option.some.injEq, Bool.true_eq_false, Bool.false_eq_true, Int.reduceBEq, Int.reduceBNe, Int.reduceLT, Int.reduceLE, Nat.add_assoc, Nat.reduceAdd, Nat.reducePow, Nat.zero_le, Nat.reduceEqDiff, Nat.reduceLT, Nat.reduceLeDiff, Nat.reduceMul, Nat.reduceSub, Nat.add_left_cancel_iff, Nat.lt_irrefl, Nat.le_refl, Nat.add_eq_left, Nat.left_eq_add, beq_self_eq_true]; rfl
theorem c42 (h42 : fz 42 = .cut) (n : Int) (σ : St) : CallsTo (XX fz) (.func 42 []) [.d (.int .i64 n)] σ (.agg (exT n).c) σ [] := by
  refine CallsTo.cut0 h42 fn42 (by simp) rfl ?_
  simp only [Try.f42, Option.getD_some]
  simp only [go_sem, ↓reduceIte, Int.reduceEq, Nat.reduceBEq, Option.some.injEq, Bool.true_eq_false, Bool.false_eq_true, Int.reduceBEq, Int.reduceBNe, Int.reduceLT, Int.reduceLE, Nat.add_assoc, Nat.reduceAdd, Nat.reducePow, Nat.zero_le, Nat.reduceEqDiff, Nat.reduceLT, Nat.reduceLeDiff, Nat.reduceMul, Nat.reduceSub, Nat.add_left_cancel_iff, Nat.lt_irrefl, Nat.le_refl, Nat.add_eq_left, Nat.left_eq_add, beq_self_eq_true]; rfl
theorem c37 (h37 : fz 37 = .cut) {k m : Nat} {σ : St} (hk : k < σ.n) : CallsTo (XX fz) (.func 37 []) [.row k 0 m 3] σ (.agg [.d (.int .i64 3), .d (.int .i64 0), .row k 0 m 3]) σ [] := by
  refine CallsTo.cut0 h37 fn37 (by simp) (by simp [A.under, A.underL, hk]) ?_
  simp only [Try.f37, Option.getD_some]
  have hc : (A.row k 0 m 3).isCell = true := rfl
  have hcs : (A.row k 0 m 3).cells = some [A.row k 0 m 3] := rfl
  simp only [go_sem, ↓reduceIte, Int.reduceEq, Nat.reduceBEq, Option.some.injEq, Bool.true_eq_false, Bool.false_eq_true, Int.reduceBEq, Int.reduceBNe, Int.reduceLT, Int.reduceLE, Nat.add_assoc, Nat.reduceAdd, Nat.reducePow, Nat.zero_le, Nat.reduceEqDiff, Nat.reduceLT, Nat.reduceLeDiff, Nat.reduceMul, Nat.reduceSub, Nat.add_left_cancel_iff, Nat.lt_irrefl, Nat.le_refl, Nat.add_eq_left, Nat.left_eq_add, beq_self_eq_true, hc, hcs]
theorem c39 (h39 : fz 39 = .cut) {k m : Nat} {σ : St} (hk : k < σ.n) : CallsTo (XX fz) (.func 39 []) [.row k 0 m 3] σ (.agg [.d (.int .i64 4), .d (.int .i64 0), .row k 0 m 3]) σ [] := by
  refine CallsTo.cut0 h39 fn39 (by simp) (by simp [A.under, A.underL, hk]) ?_
  simp only [Try.f39, Option.getD_some]
  have hc : (A.row k 0 m 3).isCell = true := rfl
  have hcs : (A.row k 0 m 3).cells = some [A.row k 0 m 3] := rfl
  simp only [go_sem, ↓reduceIte, Int.reduceEq, Nat.reduceBEq, Option.some.injEq, Bool.true_eq_false, Bool.false_eq_true, Int.reduceBEq, Int.reduceBNe, Int.reduceLT, Int.reduceLE, Nat.add_assoc, Nat.reduceAdd, Nat.reducePow, Nat.zero_le, Nat.reduceEqDiff, Nat.reduceLT, Nat.reduceLeDiff, Nat.reduceMul, Nat.reduceSub, Nat.add_left_cancel_iff, Nat.lt_irrefl, Nat.le_refl, Nat.add_eq_left, Nat.left_eq_add, beq_self_eq_true, hc, hcs]
end Go.Am
namespace Go.Am
open Go Go.Proofs
variable {fz : Nat → Md}

def Gr.ext (g : Gr) (nm : ByteArray) (x : Ex) : Gr := ⟨g.tokens, false, g.rules.map Ru.cp ++ [⟨nm, x⟩]⟩
/-- a grammar in memory -/
structure LentG (σ : St) (c : List A) (g : Gr) : Prop where
  form : ∃ k m, c = [.d (.int .i64 g.tokens), .row k 0 m 4] ∧ k < σ.n
  fr : ∀ τ, Ext σ τ → freezeW τ 0 fzDepth (.agg c) = some g.a
theorem LentG.mono {σ τ : St} {c : List A} {g : Gr} (h : LentG σ c g) (he : Ext σ τ) : LentG τ c g := by
  obtain ⟨k, m, h1, h2⟩ := h.form
  exact ⟨⟨k, m, h1, by have := he.n; omega⟩, fun ρ hρ => h.fr ρ (he.trans hρ)⟩
theorem cp_sz : ∀ x : Ex, x.cp.sz = x.sz
  | .mk k n z l => by
    rw [Ex.cp, Ex.sz, Ex.sz, cpL_map]
    have : (l.map Ex.cp).map Ex.sz = l.map Ex.sz := by
      rw [List.map_map]; exact List.map_congr_left fun y hy => cp_sz y
    rw [this]
theorem Gr.ext_small {g : Gr} (h : SmallG g) {nm : ByteArray} {x : Ex} (hx : SmallE x) : SmallG (g.ext nm x) := fun r hr => by
  rcases List.mem_append.1 hr with hr | hr
  · obtain ⟨r', h1, rfl⟩ := List.mem_map.1 hr
    have := h r' h1
    unfold SmallE at this ⊢
    rw [Ru.cp, cp_sz]; exact this
  · simp at hr; subst hr; exact hx
theorem check_lent {σ : St} {c : List A} {g : Gr} (h : LentG σ c g) (hg : SmallG g) : CallsTo (XX mdL) (.func 35 []) [.agg c] σ (.d (.int .i64 (checkP g))) σ [] := by
  obtain ⟨k, m, rfl, h2⟩ := h.form
  have hf := h.fr σ (Ext.refl σ)
  exact CallsTo.oraL (F := F35) rfl fn35 rfl (show freezeWs σ 0 fzDepth _ = some [g.a] by rw [freezeWs, hf, freezeWs]) (F35_at hg) rfl
theorem derives_lent {σ : St} {c : List A} {g : Gr} (h : LentG σ c g) (hg : SmallG g) (rule : Int) (z : Bool) (l : List Int) (hl : l.length < 1000000000) :
    CallsTo (XX mdL) (.func 31 []) [.agg c, .d (.int .i64 rule), .d (.slc z (intsD l))] σ (.tup [.d (.bool (derV g rule l)), .d (.int .i64 (derE g rule l))]) σ [] := by
  obtain ⟨k, m, rfl, h2⟩ := h.form
  have hf := h.fr σ (Ext.refl σ)
  exact CallsTo.oraL (F := F31n) rfl fn31 rfl (show freezeWs σ 0 fzDepth _ = some [g.a, .d (.int .i64 rule), .d (.slc z (intsD l))] by
    have h0 : freezeWs σ 0 fzDepth [.d (.int .i64 rule), .d (.slc z (intsD l))] = some [.d (.int .i64 rule), .d (.slc z (intsD l))] := by simp only [freezeWs, freezeW, freeze_d]
    rw [freezeWs, hf, h0]) (F31n_at hg rule z l hl) rfl
/-- append to a row of data -/
theorem app_row {es b : Nat} {τ : St} {a : A} {l : List (List D)} {bs : List Nat} {j : Nat} {c : List A} (hb : b ≤ 64) (r : RowN es τ a l bs) (hj : τ.get j = .cells c) (hc : c.length = es) (hcc : c.all A.isCell = true) (hl : l.length < 2000000000) :
    ∃ τ' T, appendA es b τ a (.row j 0 1 es) = .val (.row τ.n 0 (l.length + 1) es) τ' T [] ∧ τ'.n = τ.n + 1 ∧ τ'.get τ.n = .cells ((l.flatMap id).map A.d ++ c) ∧ (∀ i, i < τ.n → i ∉ bs → τ'.get i = τ.get i) ∧ ∀ i ∈ T, i ∈ bs := by
  have s1 : sliceCells τ (.row j 0 1 es) = some c := by rw [sliceCells_row hj (by omega), List.drop_zero, List.take_of_length_le (by omega)]
  have s2 : sliceLen τ (.row j 0 1 es) = some 1 := by rw [sliceLen_row, hj]; rfl
  rcases r.1.2 with ⟨rfl, rfl, rfl⟩ | ⟨k, rfl, hk, hlt, rfl⟩
  · rw [appendA_nil s1 s2 (by omega) hcc (by omega) (by omega), if_neg (by omega)]
    exact ⟨_, _, rfl, rfl, by rw [St.get_push_eq]; rfl, fun i hi _ => St.get_push_ne hi, by simp⟩
  · have hle : 0 + l.length * es ≤ ((l.flatMap id).map A.d).length := by rw [List.length_map, flat_len r.1.1]; omega
    rw [appendA_row hk s1 s2 (by omega) hcc hle (by have := Nat.mul_le_mul (show l.length + 1 ≤ 2000000001 by omega) hb; omega) (by omega), if_neg (by omega)]
    refine ⟨_, _, rfl, rfl, ?_, fun i hi hn => ?_, by simp⟩
    · rw [St.get_push, St.n_set, if_pos rfl, List.drop_zero, List.take_of_length_le (by rw [List.length_map, flat_len r.1.1]; exact Nat.le_refl _)]
    · rw [St.get_push_ne (by rw [St.n_set]; exact hi), St.get_set_ne (by simpa using hn)]

def moreB : ByteArray := ⟨#[109, 111, 114, 101]⟩
set_option maxHeartbeats 4000000 in
theorem behind_L {g : Gr} (hg : SmallG g) (hL : g.rules.length < 2000000) {N : Nat} {σ : St} {c : List A} {x : Ex} (hx : Frz N σ c x) (hN : N ≤ 1000) (hs : SmallE x) :
    ∃ a σ', CallsTo (XX mdL) (.func 36 []) [g.a, .agg c] σ (.tup [.agg a, .d (.bool (checkP (g.ext moreB x) == 0))]) σ' [] ∧ Ext σ σ' ∧ LentG σ' a (g.ext moreB x) := by
  have key := CallsTo.keepP (X := XX mdL) (f := 36) (cap := []) (args := [g.a, .agg c]) (σ := σ) (P := fun r σ' => ∃ a, r = .tup [.agg a, .d (.bool (checkP (g.ext moreB x) == 0))] ∧ Ext σ σ' ∧ LentG σ' a (g.ext moreB x)) rfl fn36 (by simp) ?_
  · obtain ⟨r, σ', hc, a, rfl, h1, h2⟩ := key
    exact ⟨a, σ', hc, h1, h2⟩
  simp only [Try.f36, Option.getD_some]
  obtain ⟨L, rfl, hL1, hL2, hL3, hL4⟩ := id hx.form
  simp only [go_sem, ↓reduceIte, Int.reduceEq, Nat.reduceBEq, Option.some.injEq, Bool.true_eq_false, Bool.false_eq_true, Int.reduceBEq, Int.reduceBNe, Int.reduceLT, Int.reduceLE, Nat.add_assoc, Nat.reduceAdd, Nat.reducePow, Nat.zero_le, Nat.reduceEqDiff, Nat.reduceLT, Nat.reduceLeDiff, Nat.reduceMul, Nat.reduceSub, Nat.add_left_cancel_iff, Nat.lt_irrefl, Nat.le_refl, Nat.add_eq_left, Nat.left_eq_add, beq_self_eq_true, Gr.a, hL1, hL2]
  obtain ⟨a, σ1, hc1, a', bs, rfl, hR, hbs, hE⟩ := cpK_call (fz := mdL) rfl rfl g (((σ.push (Blk.cells g.c)).push (Blk.cells [.d (.int .i64 x.kind), .d (.int .i64 x.num), L])).push (Blk.cells [A.d (D.int IntKind.i64 0), A.d (D.slc true [])])) hg (by omega)
  refine ⟨_, _, _, hc1, ?_⟩
  have hn1 := hE.n
  simp only [St.n_push] at hn1 hbs
  have g1 : σ1.get (σ.n + 1) = .cells [.d (.int .i64 x.kind), .d (.int .i64 x.num), L] := by
    rw [hE.g _ (by simp only [St.n_push]; omega), St.get_push_ne (by simp only [St.n_push]; omega)]; exact St.get_push_eq' (by simp [St.n_push])
  have g2 : σ1.get (σ.n + 2) = .cells [A.d (D.int IntKind.i64 0), A.d (D.slc true [])] := by
    rw [hE.g _ (by simp only [St.n_push]; omega)]; exact St.get_push_eq' (by simp [St.n_push])
  have hold : ∀ j, j < σ.n → σ1.get j = σ.get j := fun j hj => by
    rw [hE.g j (by simp only [St.n_push]; omega), St.get_push_ne (by simp only [St.n_push]; omega), St.get_push_ne (by simp only [St.n_push]; omega), St.get_push_ne hj]
  have hcell := hR.1.cell
  have hcells := hR.1.cells
  have ne1 : σ.n + 1 ≠ σ1.n := by omega
  have ne2 : σ.n + 1 < σ1.n := by omega
  simp only [go_sem, ↓reduceIte, Int.reduceEq, Nat.reduceBEq, Option.some.injEq, Bool.true_eq_false, Bool.false_eq_true, Int.reduceBEq, Int.reduceBNe, Int.reduceLT, Int.reduceLE, Nat.add_assoc, Nat.reduceAdd, Nat.reducePow, Nat.zero_le, Nat.reduceEqDiff, Nat.reduceLT, Nat.reduceLeDiff, Nat.reduceMul, Nat.reduceSub, Nat.add_left_cancel_iff, Nat.lt_irrefl, Nat.le_refl, Nat.add_eq_left, Nat.left_eq_add, beq_self_eq_true, hcell, hcells, g1, ne1, ne2, hL1, hL2]
  generalize hτ : (σ1.push (.cells [.d (.int .i64 0), .d (.slc true [])])).set σ1.n (.cells [.d (.int .i64 g.tokens), a']) = τ
  have hτn : τ.n = σ1.n + 1 := by rw [← hτ]; simp [St.n_set, St.n_push]
  have hτg : ∀ j, j < σ1.n → τ.get j = σ1.get j := fun j hj => by rw [← hτ, St.get_set_ne (by omega), St.get_push_ne hj]
  have hτo : τ.get σ1.n = .cells [.d (.int .i64 g.tokens), a'] := by rw [← hτ, St.get_set_eq]
  have hR2 : RowN 4 (τ.push (.cells [.d (.str ⟨#[109, 111, 114, 101]⟩), .d (.int .i64 x.kind), .d (.int .i64 x.num), L])) a' (rowR (g.rules.map Ru.cp)) bs := hR.stay (by simp only [St.n_push]; omega) fun k hk => by
    have := hR.1.lt hk
    rw [St.get_push_ne (by omega), hτg k this]
  obtain ⟨τ3, T, happ, hn3, hg3, ho3, hT⟩ := app_row (b := 56) (j := σ1.n + 1) (c := [.d (.str ⟨#[109, 111, 114, 101]⟩), .d (.int .i64 x.kind), .d (.int .i64 x.num), L]) (by omega) hR2 (St.get_push_eq' (by omega)) rfl (by rw [List.all_cons, List.all_cons, List.all_cons, List.all_cons, List.all_nil, hL1]; rfl) (by rw [rowR_len, List.length_map]; omega)
  simp only [St.n_push, hτn] at happ hn3 hg3 ho3
  have hlt : ∀ k ∈ bs, k < σ1.n := fun k hk => hR.1.lt hk
  have ho3' : ∀ j, j < σ.n + 3 → τ3.get j = σ1.get j := fun j hj => by
    rw [ho3 j (by omega) (fun h => by have := hbs j h; omega), St.get_push_ne (by omega), hτg j (by omega)]
  have gout : τ3.get σ1.n = .cells [.d (.int .i64 g.tokens), a'] := by
    rw [ho3 _ (by omega) (fun h => by have := hlt _ h; omega), St.get_push_ne (by omega)]; exact hτo
  have gres : τ3.get (σ.n + 2) = .cells [A.d (D.int IntKind.i64 0), A.d (D.slc true [])] := (ho3' _ (by omega)).trans g2
  have lzT : low σ.n T = [] := low_all fun k hk => by have := hbs k (hT k hk); omega
  have lz1 : low σ.n [σ1.n] = [] := by rw [low_cons_ge (by omega)]; rfl
  have ne3 : σ.n + 2 ≠ σ1.n := by omega
  have rc : (A.row (σ1.n + 2) 0 ((rowR (g.rules.map Ru.cp)).length + 1) 4).cells = some [A.row (σ1.n + 2) 0 ((rowR (g.rules.map Ru.cp)).length + 1) 4] := rfl
  have rcc : (A.row (σ1.n + 2) 0 ((rowR (g.rules.map Ru.cp)).length + 1) 4).isCell = true := rfl
  have hLent : ∀ ρ : St, σ1.n + 2 < ρ.n → (∀ j, j < σ.n → ρ.get j = σ.get j) → ρ.get (σ1.n + 2) = τ3.get (σ1.n + 2) → LentG ρ [.d (.int .i64 g.tokens), .row (σ1.n + 2) 0 ((rowR (g.rules.map Ru.cp)).length + 1) 4] (g.ext moreB x) := fun ρ hρn hρ hρ2 => by
    refine ⟨⟨_, _, rfl, hρn⟩, fun υ hυ => ?_⟩
    have hEσ : Ext σ υ := ⟨by have := hυ.n; omega, fun j hj => by rw [hυ.g j (by omega), hρ j hj]⟩
    have hcl : (((rowR (g.rules.map Ru.cp)).flatMap id).map A.d).length = (rowR (g.rules.map Ru.cp)).length * 4 := by rw [List.length_map, flat_len hR.1.1]
    have hf1 : freezeL υ 0 (fzDepth - 3) ((((rowR (g.rules.map Ru.cp)).flatMap id).map A.d) ++ [.d (.str ⟨#[109, 111, 114, 101]⟩), .d (.int .i64 x.kind), .d (.int .i64 x.num), L]) = some ((rowR (g.rules.map Ru.cp)).flatMap id ++ (.str ⟨#[109, 111, 114, 101]⟩ :: x.cs)) := by
      refine freezeL_append (by rw [hcl, rowR_len, List.length_map]; unfold fzDepth; omega) (freezeL_map (by rw [flat_len hR.1.1, rowR_len, List.length_map]; unfold fzDepth; omega)) ?_
      rw [hcl, rowR_len, List.length_map, freezeL_cons (by unfold fzDepth; omega), freeze_d, hx.frz hEσ (by unfold fzDepth; omega)]; rfl
    have hf2 : freeze υ 0 (fzDepth - 2) (.row (σ1.n + 2) 0 ((rowR (g.rules.map Ru.cp)).length + 1) 4) = some (.slc false (chunks 4 ((rowR (g.rules.map Ru.cp)).length + 1) ((rowR (g.rules.map Ru.cp)).flatMap id ++ (.str ⟨#[109, 111, 114, 101]⟩ :: x.cs)))) := by
      refine freeze_row (by unfold fzDepth; omega) ((hυ.g _ hρn).trans (hρ2.trans hg3)) (Nat.zero_le _) (by rw [List.length_append, hcl]; simp; omega) ?_
      rw [List.take_of_length_le (by rw [List.length_append, hcl]; simp; omega)]
      exact hf1
    have hch : chunks 4 ((rowR (g.rules.map Ru.cp)).length + 1) ((rowR (g.rules.map Ru.cp)).flatMap id ++ (.str ⟨#[109, 111, 114, 101]⟩ :: x.cs)) = rowR (g.rules.map Ru.cp ++ [⟨moreB, x⟩]) := by
      have e1 : (rowR (g.rules.map Ru.cp)).flatMap id ++ (.str ⟨#[109, 111, 114, 101]⟩ :: x.cs) = (rowR (g.rules.map Ru.cp ++ [⟨moreB, x⟩])).flatMap id := by
        simp [rowR, Ru.cs, moreB, List.flatMap_append]
      have e2 : (rowR (g.rules.map Ru.cp)).length + 1 = (rowR (g.rules.map Ru.cp ++ [⟨moreB, x⟩])).length := by simp [rowR]
      rw [e1, e2]
      exact chunks_flat fun y hy => by obtain ⟨z, -, rfl⟩ := List.mem_map.1 hy; exact z.cs_len
    rw [hch] at hf2
    rw [freezeW, freezeL_cons (by unfold fzDepth; omega), freeze_d, freezeL_cons (by unfold fzDepth; omega), show fzDepth - 1 - 1 = fzDepth - 2 by omega, hf2, freezeL_nil]
    simp [Gr.a, Gr.c, Gr.rd, Gr.ext, rowR]
  simp only [go_sem, ↓reduceIte, Int.reduceEq, Nat.reduceBEq, Option.some.injEq, Bool.true_eq_false, Bool.false_eq_true, Int.reduceBEq, Int.reduceBNe, Int.reduceLT, Int.reduceLE, Nat.add_assoc, Nat.reduceAdd, Nat.reducePow, Nat.zero_le, Nat.reduceEqDiff, Nat.reduceLT, Nat.reduceLeDiff, Nat.reduceMul, Nat.reduceSub, Nat.add_left_cancel_iff, Nat.lt_irrefl, Nat.le_refl, Nat.add_eq_left, Nat.left_eq_add, beq_self_eq_true, happ, gout, rc, rcc]
  have hn4 : σ1.n + 2 < τ3.n := by omega
  have hlow : ∀ (ρ : St) (b : Blk), (∀ j, j < σ.n → ρ.get j = σ.get j) → ∀ k, σ.n ≤ k → ∀ j, j < σ.n → (ρ.set k b).get j = σ.get j := fun ρ b h k hk j hj => by rw [St.get_set_ne (by omega)]; exact h j hj
  have h3 : ∀ j, j < σ.n → τ3.get j = σ.get j := fun j hj => (ho3' j (by omega)).trans (hold j hj)
  have hL4' := hLent (τ3.set σ1.n (.cells [.d (.int .i64 g.tokens), .row (σ1.n + 2) 0 ((rowR (g.rules.map Ru.cp)).length + 1) 4])) (by simp only [St.n_set]; exact hn4) (hlow _ _ h3 _ (by omega)) (by rw [St.get_set_ne (by omega)])
  refine ⟨_, _, _, check_lent hL4' (Gr.ext_small hg hs), ?_⟩
  simp only [go_sem, ↓reduceIte, Int.reduceEq, Nat.reduceBEq, Option.some.injEq, Bool.true_eq_false, Bool.false_eq_true, Int.reduceBEq, Int.reduceBNe, Int.reduceLT, Int.reduceLE, Nat.add_assoc, Nat.reduceAdd, Nat.reducePow, Nat.zero_le, Nat.reduceEqDiff, Nat.reduceLT, Nat.reduceLeDiff, Nat.reduceMul, Nat.reduceSub, Nat.add_left_cancel_iff, Nat.lt_irrefl, Nat.le_refl, Nat.add_eq_left, Nat.left_eq_add, beq_self_eq_true, ne3, gres, rc, rcc, lzT, lz1]
  refine ⟨drawOk_rel [2, 4] [(2, 0), (4, 3)] rfl (by kernel_rfl) rfl (by simp [meets]), ?_⟩
  have lz2 : low σ.n [σ.n + 2] = [] := by rw [low_cons_ge (by omega)]; rfl
  refine ⟨_, rfl, ⟨by simp only [St.n_set]; omega, hlow _ _ (hlow _ _ h3 _ (by omega)) _ (by omega)⟩, hLent _ (by simp only [St.n_set]; exact hn4) (hlow _ _ (hlow _ _ h3 _ (by omega)) _ (by omega)) (by rw [St.get_set_ne (by omega), St.get_set_ne (by omega)])⟩
end Go.Am

/- Part C1 of a proof that runs a program's calls on a small machine whose values bear no addresses: no conditions. -/
import Derived.Test.YtbppacknigeiaaaDoorAmHD
import Derived.Test.YtbppacknigeiaaaDoorAmHH
set_option autoImplicit false
set_option linter.unusedSimpArgs false
set_option linter.unusedVariables false
set_option linter.unusedSectionVars false
namespace Go.Am
open Go Go.Proofs
variable {fz : Nat → Md}
set_option maxHeartbeats 8000000 in
theorem list_k (h70 : fz 70 = .keep) (htz : ∀ (k : Nat) (σ : St), k < 2 ^ 64 → CallsTo (XX fz) (.func 94 []) [.d (.int .u64 (k : Int))] σ (.d (.int .i64 (Lib.ctz 64 k : Int))) σ []) (k : Nat) (hk : k < 2 ^ 64) (σ : St) :
    ∃ a σ' T, CallsTo (XX fz) (.func 70 []) [.d (.int .u64 (k : Int))] σ a σ' T ∧ T = [] ∧ σ.n ≤ σ'.n ∧ (∀ j, j < σ.n → σ'.get j = σ.get j) ∧ ∃ bs, RowN 1 σ' a (intsD (bitsI k)) bs ∧ ∀ j ∈ bs, σ.n ≤ j := by
  refine CallsTo.keepE h70 fn70 (by simp) ?_
  simp only [Tryd.f70, Option.getD_some]
  simp only [go_sem, ↓reduceIte, Int.reduceEq, Nat.reduceBEq, Int.reduceBEq, Int.reduceBNe, Int.reduceLT, Int.reduceLE, Nat.reduceAdd, Nat.reducePow, Nat.reduceEqDiff, Nat.reduceLT, Nat.reduceLeDiff, Nat.reduceMul, Nat.reduceSub]
  refine Ev.loop_ind (fun m tm τ W => ∃ (q : Nat) (out : List Int) (a : A) (bs : List Nat), m = pop q ∧ W = [] ∧ σ.n ≤ τ.n ∧ (∀ j, j < σ.n → τ.get j = σ.get j) ∧ RowN 1 τ a (intsD out) bs ∧ (∀ k ∈ bs, σ.n ≤ k) ∧ q < 2 ^ 64 ∧ out ++ bitsI q = bitsI k ∧
      tm.at 0 = .d (.int .u64 (q : Int)) ∧ tm.at 3 = a) ?_ (pop k) _ _ _ ⟨k, [], .d (.slc true []), [], rfl, rfl, Nat.le_refl _, fun _ _ => rfl, RowN.nil, by simp, hk, rfl, ?_, ?_⟩
  · rintro m tm τ W ⟨q, out, a, bs, rfl, rfl, hn, hsm, hR, hbs, hq, he, t0, t3⟩ ih
    by_cases h0 : q = 0
    · subst h0
      have e0 : bitsI 0 = [] := by rw [bitsI, bitsN_0]; rfl
      rw [e0, List.append_nil] at he
      have hb : (((0 : Nat) : Int) != 0) = false := rfl
      simp only [go_sem, ↓reduceIte, Int.reduceEq, Nat.reduceBEq, Int.reduceBEq, Int.reduceBNe, Int.reduceLT, Int.reduceLE, Nat.reduceAdd, Nat.reducePow, Nat.reduceEqDiff, Nat.reduceLT, Nat.reduceLeDiff, Nat.reduceMul, Nat.reduceSub, t0, t3, hb]
      rw [← he]
      exact ⟨hn, hsm, bs, hR, hbs⟩
    · have hb : (((q : Nat) : Int) != 0) = true := by rw [bne_iff_ne]; omega
      obtain ⟨c1, c2, c3⟩ := ctz_bits h0 hq
      have hz := htz q
      generalize Lib.ctz 64 q = c at c1 c2 c3 hz
      have h2 : 2 ^ c < 2 ^ 64 := Nat.pow_lt_pow_right (by omega) c1
      have hcl := clr_bits hq c1
      have hst := bitsN_step c1 c2 c3 hcl
      have hql : (q &&& (18446744073709551615 - 2 ^ c)) < 2 ^ 64 := Nat.lt_of_le_of_lt Nat.and_le_left hq
      have hpop : pop (q &&& (18446744073709551615 - 2 ^ c)) < pop q := pop_lt (fun i hi => by rw [hcl, Bool.and_eq_true] at hi; exact hi.1) (fun e => by have := hcl c; rw [e, c3] at this; simp at this) hq
      have hcw := clr_w hq h2
      simp only [go_sem, ↓reduceIte, Int.reduceEq, Nat.reduceBEq, Int.reduceBEq, Int.reduceBNe, Int.reduceLT, Int.reduceLE, Nat.reduceAdd, Nat.reducePow, Nat.reduceEqDiff, Nat.reduceLT, Nat.reduceLeDiff, Nat.reduceMul, Nat.reduceSub, t0, t3, hb]
      refine ⟨_, _, _, hz τ hq, ?_⟩
      obtain ⟨a', τ', T, bs', happ, hR', hK, hc1, hc2⟩ := app_ex (es := 1) (b := 8) (x := [.int .i64 (c : Int)]) (j := τ.n) rfl (by omega) (hR.stay (τ := τ.push (.cells [.d (.int .i64 (c : Int))])) (by simp only [St.n_push]; omega) fun k hk => St.get_push_ne (hR.1.lt hk)) St.get_push_eq (by
        have h1 : (bitsN k).length ≤ 64 := by
          have := List.length_filter_le (fun i => k.testBit i) (List.range 64)
          rw [List.length_range] at this; exact this
        have h2 : (bitsI k).length = (bitsN k).length := by simp [bitsI]
        have h3 : out.length ≤ (bitsI k).length := by rw [← he]; simp
        rw [intsD_len]; omega)
      have hT : low σ.n T = [] := low_all fun k hk => by
        rcases hK.w k hk with h | h
        · exact hbs k h
        · simp only [St.n_push] at h; omega
      have hn' := hK.n
      simp only [St.n_push] at hn'
      have hn0 : ¬ ((c : Int) < 0) := by omega
      have hsm' : ∀ j, j < σ.n → τ'.get j = σ.get j := fun j hj => by
        rw [hK.same j (by simp only [St.n_push]; omega) (fun h => by have := hbs j h; omega), St.get_push_ne (by omega)]; exact hsm j hj
      simp only [go_sem, ↓reduceIte, Int.reduceEq, Nat.reduceBEq, Int.reduceBEq, Int.reduceBNe, Int.reduceLT, Int.reduceLE, Nat.reduceAdd, Nat.reducePow, Nat.reduceEqDiff, Nat.reduceLT, Nat.reduceLeDiff, Nat.reduceMul, Nat.reduceSub, happ, hT, t0, bin_shl, hn0, Int.toNat_natCast, sh_u c1, bin_andN]
      refine ih _ _ _ _ hpop ⟨q &&& (18446744073709551615 - 2 ^ c), out ++ [(c : Int)], a', bs', rfl, rfl, by omega, hsm', by rw [show intsD (out ++ [(c : Int)]) = intsD out ++ [[.int .i64 (c : Int)]] by simp [intsD]]; exact hR', fun k hk => ?_, hql, ?_, ?_, ?_⟩
      · rcases hK.o k hk with h | h
        · exact hbs k h
        · simp only [St.n_push] at h; omega
      · rw [← he, bitsI, bitsI, hst]; simp
      · simp only [go_sem, ↓reduceIte, Int.reduceEq, Nat.reduceBEq, Int.reduceBEq, Int.reduceBNe, Int.reduceLT, Int.reduceLE, Nat.reduceAdd, Nat.reducePow, Nat.reduceEqDiff, Nat.reduceLT, Nat.reduceLeDiff, Nat.reduceMul, Nat.reduceSub]; exact congrArg (fun n => A.d (D.int IntKind.u64 n)) hcw
      · simp only [go_sem, ↓reduceIte, Int.reduceEq, Nat.reduceBEq, Int.reduceBEq, Int.reduceBNe, Int.reduceLT, Int.reduceLE, Nat.reduceAdd, Nat.reducePow, Nat.reduceEqDiff, Nat.reduceLT, Nat.reduceLeDiff, Nat.reduceMul, Nat.reduceSub]
  all_goals (simp only [go_sem, ↓reduceIte, Int.reduceEq, Nat.reduceBEq, Int.reduceBEq, Int.reduceBNe, Int.reduceLT, Int.reduceLE, Nat.reduceAdd, Nat.reducePow, Nat.reduceEqDiff, Nat.reduceLT, Nat.reduceLeDiff, Nat.reduceMul, Nat.reduceSub])
def IL (lo kx : Nat) (σ : St) (v : A) (l : List Int) : Prop := v = .d (.slc true (intsD l)) ∧ l = [] ∨ ∃ k, v = .row k 0 l.length 1 ∧ σ.get k = .cells (((intsD l).flatMap id).map A.d) ∧ lo ≤ k ∧ k < σ.n ∧ k ≠ kx
theorem IL.stay {lo kx kx' : Nat} {σ τ : St} {v : A} {l : List Int} (h : IL lo kx σ v l) (hn : σ.n ≤ τ.n) (hg : ∀ k, lo ≤ k → k < σ.n → k ≠ kx → τ.get k = σ.get k ∧ k ≠ kx') : IL lo kx' τ v l := by
  rcases h with h | ⟨k, h1, h2, h3, h4, h5⟩
  · exact .inl h
  · obtain ⟨g1, g2⟩ := hg k h3 h4 h5
    exact .inr ⟨k, h1, g1.trans h2, h3, by omega, g2⟩
theorem IL.of {lo kx : Nat} {σ : St} {v : A} {l : List Int} {bs : List Nat} (h : RowN 1 σ v (intsD l) bs) (hb : ∀ j ∈ bs, lo ≤ j) (hx : ∀ j ∈ bs, j ≠ kx) : IL lo kx σ v l := by
  rcases h.1.2 with ⟨e, rfl, -⟩ | ⟨k, rfl, h2, h3, rfl⟩
  · have : l = [] := by cases l with | nil => rfl | cons a r => simp [intsD] at e
    subst this; exact .inl ⟨rfl, rfl⟩
  · exact .inr ⟨k, by rw [intsD_len], h2, hb k (by simp), h3, hx k (by simp)⟩
def VRow (σ : St) (a : A) (vs : List A) (k : Nat) : Prop := (vs = [] ∧ a = .d (.slc true [])) ∨ (vs ≠ [] ∧ a = .row k 0 vs.length 1 ∧ σ.get k = .cells vs ∧ k < σ.n)
theorem VRow.stay {σ τ : St} {a : A} {vs : List A} {k : Nat} (h : VRow σ a vs k) (hn : σ.n ≤ τ.n) (hg : k < σ.n → τ.get k = σ.get k) : VRow τ a vs k := h.imp id fun q => ⟨q.1, q.2.1, (hg q.2.2.2).trans q.2.2.1, by have := q.2.2.2; omega⟩
theorem VRow.app {σ : St} {a : A} {vs : List A} {k j : Nat} {v : A} (h : VRow σ a vs k) (hj : σ.get j = .cells [v]) (hv : v.isCell = true) (hi : vs.length < 1000000) :
    ∃ σ' T, appendA 1 24 σ a (.row j 0 1 1) = .val (.row σ.n 0 (vs.length + 1) 1) σ' T [] ∧ σ'.n = σ.n + 1 ∧ (∀ x, x < σ.n → x ≠ k → σ'.get x = σ.get x) ∧ VRow σ' (.row σ.n 0 (vs.length + 1) 1) (vs ++ [v]) σ.n ∧ (∀ x ∈ T, x = k) ∧ (vs = [] → T = []) := by
  have s1 : sliceCells σ (.row j 0 1 1) = some [v] := by rw [sliceCells_row hj (by simp)]; rfl
  have s2 : sliceLen σ (.row j 0 1 1) = some 1 := by rw [sliceLen_row, hj]; rfl
  rcases h with ⟨rfl, rfl⟩ | ⟨h0, rfl, hk, hlt⟩
  · rw [appendA_nil s1 s2 (by simp) (by simp [hv]) (by omega) (by omega), if_neg (by omega)]
    exact ⟨_, _, rfl, by simp [St.n_push], fun x hx _ => St.get_push_ne hx, .inr ⟨by simp, rfl, St.get_push_eq, by simp [St.n_push]⟩, by simp, fun _ => rfl⟩
  · rw [appendA_row hk s1 s2 (by simp) (by simp [hv]) (by simp) (by omega) (by omega), if_neg (by omega)]
    refine ⟨_, _, rfl, by simp [St.n_push, St.n_set], fun x hx hne => ?_, .inr ⟨by simp, by simp, ?_, by simp [St.n_push, St.n_set]⟩, by simp, fun h => absurd h h0⟩
    · rw [St.get_push_ne (by rw [St.n_set]; exact hx), St.get_set_ne hne]
    · rw [St.get_push_eq' (by rw [St.n_set]), List.drop_zero, List.take_of_length_le (by simp)]
structure LKept (F : List Nat) (σ : St) (a : A) (σ' : St) (k : Nat) (vs : List A) : Prop where
  n : σ.n ≤ σ'.n
  same : ∀ j, j < σ.n → σ'.get j = σ.get j
  row : VRow σ' a vs k
  lo : vs ≠ [] → σ.n ≤ k
  len : vs.length = F.length
  at_ : ∀ (i : Nat) (v : A), vs[i]? = some v → IL σ.n k σ' v (bitsI (F.getD i 0))
set_option maxHeartbeats 8000000 in
theorem lists_k (h38 : fz 38 = .keep) (h70 : fz 70 = .keep) (htz : ∀ (k : Nat) (σ : St), k < 2 ^ 64 → CallsTo (XX fz) (.func 94 []) [.d (.int .u64 (k : Int))] σ (.d (.int .i64 (Lib.ctz 64 k : Int))) σ []) (F : List Nat) (hF : Lt64 F) (hl : F.length ≤ 1000) (σ : St) {k1 : Nat} (hk : σ.get k1 = .cells (ubA F)) (hlt : k1 < σ.n) :
    ∃ a σ' T, CallsTo (XX fz) (.func 38 []) [.row k1 0 F.length 1] σ a σ' T ∧ T = [] ∧ ∃ k vs, LKept F σ a σ' k vs := by
  refine CallsTo.keepE h38 fn38 (by simp) ?_
  simp only [Tryd.f38, Option.getD_some]
  simp only [go_sem, ↓reduceIte, Int.reduceEq, Nat.reduceBEq, Int.reduceBEq, Int.reduceBNe, Int.reduceLT, Int.reduceLE, Nat.reduceAdd, Nat.reducePow, Nat.reduceEqDiff, Nat.reduceLT, Nat.reduceLeDiff, Nat.reduceMul, Nat.reduceSub, hk]
  refine Ev.loop_ind (fun m tm τ W => ∃ (i : Nat) (a : A) (vs : List A) (k : Nat), m = F.length - i ∧ i ≤ F.length ∧ W = [] ∧ LKept (F.take i) σ a τ k vs ∧ τ.get k1 = .cells (ubA F) ∧
      tm.at 3 = a ∧ tm.at 6 = .row k1 0 F.length 1 ∧ tm.at 7 = .d (.int .i64 (F.length : Int)) ∧ tm.at 8 = .d (.int .i64 (i : Int))) ?_ F.length _ _ _ ⟨0, .d (.slc true []), [], 0, rfl, by omega, rfl, ⟨Nat.le_refl _, fun _ _ => rfl, .inl ⟨rfl, rfl⟩, fun h => absurd rfl h, rfl, fun i v h => by simp at h⟩, hk, ?_, ?_, ?_, ?_⟩
  · rintro m tm τ W ⟨i, a, vs, k, rfl, hi, rfl, hL, hk1, t3, t6, t7, t8⟩ ih
    have hn := hL.n
    by_cases hil : i < F.length
    · have ix := fun ρ : St => indexR_nat (σ := ρ) (k := k1) (off := 0) (s := 1) (cs := ubA F) hil
      simp only [Nat.zero_add, Nat.mul_one] at ix
      have cg := ubA_get (l := F) hil
      simp only [go_sem, ↓reduceIte, Int.reduceEq, Nat.reduceBEq, Int.reduceBEq, Int.reduceBNe, Int.reduceLT, Int.reduceLE, Nat.reduceAdd, Nat.reducePow, Nat.reduceEqDiff, Nat.reduceLT, Nat.reduceLeDiff, Nat.reduceMul, Nat.reduceSub, t3, t6, t7, t8, dec_lt' hil, hk1, ix, cg]
      obtain ⟨v, τ1, T1, hc, rfl, n1, s1, bs, hR, hbs⟩ := list_k h70 htz (F.getD i 0) (hF i) τ
      refine ⟨_, _, _, hc, ?_⟩
      have hvs : vs.length = i := by rw [hL.len, List.length_take]; omega
      have hrow1 : VRow (τ1.push (.cells [v])) a vs k := hL.row.stay (by rw [St.n_push]; omega) fun h => by rw [St.get_push_ne (by omega)]; exact s1 k h
      obtain ⟨τ2, T2, happ, n2, s2, hrow2, hT2, hT2'⟩ := hrow1.app (j := τ1.n) (v := v) St.get_push_eq hR.1.cell (by omega)
      simp only [St.n_push] at n2 s2 happ hrow2
      have hlo : ∀ x, x < σ.n → x ≠ k ∨ vs = [] := fun x hx => by
        by_cases h0 : vs = []
        · exact .inr h0
        · have := hL.lo h0; exact .inl (by omega)
      have hs3 : ∀ x, x < σ.n → τ2.get x = τ.get x := fun x hx => by
        rcases hlo x hx with h | h
        · rw [s2 x (by omega) h, St.get_push_ne (by omega), s1 x (by omega)]
        · subst h
          have : (τ1.push (.cells [v])).get x = τ.get x := by rw [St.get_push_ne (by omega), s1 x (by omega)]
          rcases hrow1 with ⟨-, rfl⟩ | ⟨h0, -⟩
          · have e := appendA_nil (es := 1) (b := 24) (σ := τ1.push (.cells [v])) (x := .row τ1.n 0 1 1) (n := 1) (new := [v]) (by rw [sliceCells_row St.get_push_eq (by simp)]; rfl) (by rw [sliceLen_row, St.get_push_eq]; rfl) (by simp) (by simp [hR.1.cell]) (by omega) (by omega)
            rw [if_neg (by omega)] at e
            rw [happ] at e
            cases e
            rw [St.get_push_ne (by rw [St.n_push]; omega)]; exact this
          · exact absurd rfl h0
      have hTl : low σ.n T2 = [] := low_all fun x hx => by
        by_cases h0 : vs = []
        · rw [hT2' h0] at hx; cases hx
        · have := hL.lo h0; rw [hT2 x hx]; exact this
      simp only [go_sem, ↓reduceIte, Int.reduceEq, Nat.reduceBEq, Int.reduceBEq, Int.reduceBNe, Int.reduceLT, Int.reduceLE, Nat.reduceAdd, Nat.reducePow, Nat.reduceEqDiff, Nat.reduceLT, Nat.reduceLeDiff, Nat.reduceMul, Nat.reduceSub, hR.1.cell, hR.1.cells, happ, hTl, t8, wrap_succ' hil (show F.length < 1000000000 by omega)]
      refine ih _ _ _ _ (by omega) ⟨i + 1, _, vs ++ [v], τ1.n + 1, rfl, hil, rfl, ⟨by omega, fun j hj => (hs3 j hj).trans (hL.same j hj), hrow2, fun _ => by omega, ?_, ?_⟩, (hs3 k1 hlt).trans hk1, ?_, ?_, ?_, ?_⟩
      · rw [List.length_append, hvs, List.length_take, List.length_singleton]; omega
      · intro j u hj
        have hgd : ∀ q, q < i + 1 → (F.take (i + 1)).getD q 0 = F.getD q 0 := fun q hq => by
          rw [List.getD_eq_getElem?_getD, List.getD_eq_getElem?_getD, List.getElem?_take, if_pos hq]
        rcases Nat.lt_or_ge j vs.length with q | q
        · rw [List.getElem?_append_left q] at hj
          have := hL.at_ j u hj
          have hgd2 : (F.take i).getD j 0 = F.getD j 0 := by
            rw [List.getD_eq_getElem?_getD, List.getD_eq_getElem?_getD, List.getElem?_take, if_pos (by omega)]
          rw [hgd2] at this
          rw [hgd j (by omega)]
          exact this.stay (by omega) fun x hx1 hx2 hx3 => ⟨by rw [s2 x (by omega) hx3, St.get_push_ne (by omega), s1 x hx2], by omega⟩
        · rw [List.getElem?_append_right q] at hj
          have hj0 : j - vs.length = 0 := by
            have := (List.getElem?_eq_some_iff.1 hj).1
            simp at this; omega
          rw [hj0] at hj; cases hj
          have hji : j = i := by omega
          rw [hgd j (by omega), hji]
          refine IL.of (hR.stay (τ := τ2) (by omega) fun x hx => ?_) (fun x hx => by have := hbs x hx; omega) (fun x hx => by have := hR.1.lt hx; omega)
          have hx1 := hbs x hx
          have hx2 := hR.1.lt hx
          have hxk : x ≠ k ∨ vs = [] := by
            by_cases h0 : vs = []
            · exact .inr h0
            · rcases hL.row with ⟨h, -⟩ | ⟨-, -, -, h⟩
              · exact absurd h h0
              · exact .inl (by omega)
          rcases hxk with h | h
          · rw [s2 x (by omega) h, St.get_push_ne (by omega)]
          · subst h
            rcases hrow1 with ⟨-, rfl⟩ | ⟨h0, -⟩
            · have e := appendA_nil (es := 1) (b := 24) (σ := τ1.push (.cells [v])) (x := .row τ1.n 0 1 1) (n := 1) (new := [v]) (by rw [sliceCells_row St.get_push_eq (by simp)]; rfl) (by rw [sliceLen_row, St.get_push_eq]; rfl) (by simp) (by simp [hR.1.cell]) (by omega) (by omega)
              rw [if_neg (by omega)] at e
              rw [happ] at e
              cases e
              rw [St.get_push_ne (by rw [St.n_push]; omega), St.get_push_ne (by omega)]
            · exact absurd rfl h0
      all_goals (simp only [go_sem, ↓reduceIte, Int.reduceEq, Nat.reduceBEq, Int.reduceBEq, Int.reduceBNe, Int.reduceLT, Int.reduceLE, Nat.reduceAdd, Nat.reducePow, Nat.reduceEqDiff, Nat.reduceLT, Nat.reduceLeDiff, Nat.reduceMul, Nat.reduceSub, t6, t7]; try rw [hvs])
    · have hin : i = F.length := by omega
      rw [hin, List.take_length] at hL
      simp only [go_sem, ↓reduceIte, Int.reduceEq, Nat.reduceBEq, Int.reduceBEq, Int.reduceBNe, Int.reduceLT, Int.reduceLE, Nat.reduceAdd, Nat.reducePow, Nat.reduceEqDiff, Nat.reduceLT, Nat.reduceLeDiff, Nat.reduceMul, Nat.reduceSub, t3, t6, t7, t8, dec_ge' hil]
      exact ⟨k, vs, hL⟩
  all_goals first | rfl | (simp only [go_sem, ↓reduceIte, Int.reduceEq, Nat.reduceBEq, Int.reduceBEq, Int.reduceBNe, Int.reduceLT, Int.reduceLE, Nat.reduceAdd, Nat.reducePow, Nat.reduceEqDiff, Nat.reduceLT, Nat.reduceLeDiff, Nat.reduceMul, Nat.reduceSub]; done) | (simp only [go_sem, ↓reduceIte, Int.reduceEq, Nat.reduceBEq, Int.reduceBEq, Int.reduceBNe, Int.reduceLT, Int.reduceLE, Nat.reduceAdd, Nat.reducePow, Nat.reduceEqDiff, Nat.reduceLT, Nat.reduceLeDiff, Nat.reduceMul, Nat.reduceSub]; rfl)
end Go.Am
namespace Go.Am
open Go Go.Proofs
variable {fz : Nat → Md}
theorem IL.lo {lo lo' kx : Nat} {σ : St} {v : A} {l : List Int} (h : IL lo kx σ v l) (hl : lo' ≤ lo) : IL lo' kx σ v l := h.imp id fun ⟨k, a, b, c, d, e⟩ => ⟨k, a, b, by omega, d, e⟩
theorem LKept.base {F : List Nat} {σ τ σ' : St} {a : A} {k : Nat} {vs : List A} (h : LKept F τ a σ' k vs) (hn : σ.n ≤ τ.n) (hs : ∀ j, j < σ.n → τ.get j = σ.get j) : LKept F σ a σ' k vs where
  n := Nat.le_trans hn h.n
  same j hj := (h.same j (by omega)).trans (hs j hj)
  row := h.row
  lo h0 := Nat.le_trans hn (h.lo h0)
  len := h.len
  at_ i v hv := (h.at_ i v hv).lo hn
structure FK (g : Gr) (σ : St) (a : A) (σ' : St) : Prop where
  n : σ.n ≤ σ'.n
  same : ∀ j, j < σ.n → σ'.get j = σ.get j
  ok : checkP g = 0 → ∃ k vs, LKept (frG g) σ a σ' k vs
  no : checkP g ≠ 0 → a = .d (.slc true [])
set_option maxHeartbeats 4000000 in
theorem first_k (h13 : fz 13 = .keep) (h37 : fz 37 = .keep) (h69 : fz 69 = .cut) (h38 : fz 38 = .keep) (h70 : fz 70 = .keep) (htz : ∀ (k : Nat) (σ : St), k < 2 ^ 64 → CallsTo (XX fz) (.func 94 []) [.d (.int .u64 (k : Int))] σ (.d (.int .i64 (Lib.ctz 64 k : Int))) σ [])
    (hnull : ∀ (g : Gr) (σ : St), SmallG g → CallsTo (XX fz) (.func 28 []) [g.a] σ (.tup [.d (nullD g), .d (.int .i64 (checkP g))]) σ []) (g : Gr) (hg : SmallG g) (σ : St) :
    ∃ r σ' T, CallsTo (XX fz) (.func 13 []) [g.a] σ r σ' T ∧ T = [] ∧ ∃ a, r = .tup [a, .d (.int .i64 (checkP g))] ∧ FK g σ a σ' := by
  refine CallsTo.keepE h13 fn13 (by simp) ?_
  simp only [Tryd.f13, Option.getD_some]
  simp only [go_sem, ↓reduceIte, Int.reduceEq, Nat.reduceBEq, Int.reduceBEq, Int.reduceBNe, Int.reduceLT, Int.reduceLE, Nat.reduceAdd, Nat.reducePow, Nat.reduceEqDiff, Nat.reduceLT, Nat.reduceLeDiff, Nat.reduceMul, Nat.reduceSub, Gr.a]
  obtain ⟨a, τ, T, hc, hN, hP⟩ := made_c h37 h69 hnull g hg (σ.push (.cells g.c))
  refine ⟨_, _, _, hc, ?_⟩
  have hNn := hN.n
  simp only [St.n_push] at hNn
  have lz : low σ.n T = [] := low_all fun k hk => by have := hN.w k hk; simp only [St.n_push] at this; omega
  have hs0 : ∀ j, j < σ.n → τ.get j = σ.get j := fun j hj => by rw [hN.same j (by rw [St.n_push]; omega), St.get_push_ne hj]
  cases hcc : (checkP g != 0) with
  | true =>
    have hc0 : ¬ checkP g = 0 := by simpa using hcc
    rw [if_pos hcc] at hP; subst hP
    simp only [go_sem, ↓reduceIte, Int.reduceEq, Nat.reduceBEq, Int.reduceBEq, Int.reduceBNe, Int.reduceLT, Int.reduceLE, Nat.reduceAdd, Nat.reducePow, Nat.reduceEqDiff, Nat.reduceLT, Nat.reduceLeDiff, Nat.reduceMul, Nat.reduceSub, hcc, lz]
    exact ⟨_, rfl, by omega, hs0, fun h => absurd h hc0, fun _ => rfl⟩
  | false =>
    have hc0 : checkP g = 0 := by simpa using hcc
    rw [if_neg (by rw [hcc]; simp)] at hP
    obtain ⟨ks, k1, k2, k3, rfl, hM, -⟩ := hP
    have h := GOk.of hc0
    have hle := h.le
    simp only [go_sem, ↓reduceIte, Int.reduceEq, Nat.reduceBEq, Int.reduceBEq, Int.reduceBNe, Int.reduceLT, Int.reduceLE, Nat.reduceAdd, Nat.reducePow, Nat.reduceEqDiff, Nat.reduceLT, Nat.reduceLeDiff, Nat.reduceMul, Nat.reduceSub, hM.s, lz]
    obtain ⟨a, τ1, T1, hl, rfl, k, vs, hL⟩ := lists_k h38 h70 htz (frG g) (frG_ok h).1.lt (by rw [frG_len h]; omega) τ hM.f hM.l1
    rw [hM.fl] at hl
    refine ⟨_, _, _, hl, ?_⟩
    simp only [go_sem, ↓reduceIte, Int.reduceEq, Nat.reduceBEq, Int.reduceBEq, Int.reduceBNe, Int.reduceLT, Int.reduceLE, Nat.reduceAdd, Nat.reducePow, Nat.reduceEqDiff, Nat.reduceLT, Nat.reduceLeDiff, Nat.reduceMul, Nat.reduceSub, hc0]
    have hL2 := hL.base (σ := σ) (by omega) hs0
    exact ⟨_, rfl, hL2.n, hL2.same, fun _ => ⟨k, vs, hL2⟩, fun h => absurd hc0 h⟩
theorem nothing21_c (h98 : fz 98 = .cut) {t : Int} (z : Bool) (nl : List Bool) (x : Ex) (σ : St) (hx : SmallE x) (ho : okE t nl.length x) : CallsTo (XX fz) (.func 98 []) [x.a, .d (.slc z (boolsD nl))] σ (.d (.bool (canE false (qOf nl) x))) σ [] := by
  refine CallsTo.cut0 h98 fn98 (by simp) rfl ?_
  simp only [Tryd.f98, Option.getD_some]
  have hlen := hx.len
  rw [canE_eq]
  simp only [go_sem, ↓reduceIte, Int.reduceEq, Nat.reduceBEq, Int.reduceBEq, Int.reduceBNe, Int.reduceLT, Int.reduceLE, Nat.reduceAdd, Nat.reducePow, Nat.reduceEqDiff, Nat.reduceLT, Nat.reduceLeDiff, Nat.reduceMul, Nat.reduceSub, Ex.a]
  by_cases k1 : x.kind = 1
  · have e : (x.kind == 1) = true := by simpa using k1
    simp only [go_sem, ↓reduceIte, Int.reduceEq, Nat.reduceBEq, Int.reduceBEq, Int.reduceBNe, Int.reduceLT, Int.reduceLE, Nat.reduceAdd, Nat.reducePow, Nat.reduceEqDiff, Nat.reduceLT, Nat.reduceLeDiff, Nat.reduceMul, Nat.reduceSub, e, if_pos k1]
  have e1 : (x.kind == 1) = false := by simpa using k1
  rw [if_neg k1]
  by_cases k2 : x.kind = 2
  · have e : (x.kind == 2) = true := by simpa using k2
    obtain ⟨c1, c2⟩ := ho.call k2
    obtain ⟨n, hn⟩ := Int.eq_ofNat_of_zero_le c1
    simp only [go_sem, ↓reduceIte, Int.reduceEq, Nat.reduceBEq, Int.reduceBEq, Int.reduceBNe, Int.reduceLT, Int.reduceLE, Nat.reduceAdd, Nat.reducePow, Nat.reduceEqDiff, Nat.reduceLT, Nat.reduceLeDiff, Nat.reduceMul, Nat.reduceSub, e1, e, if_pos k2, hn, index_bools (show n < nl.length by omega), qOf, Int.toNat_natCast]
  have e2 : (x.kind == 2) = false := by simpa using k2
  rw [if_neg k2]
  by_cases k3 : x.kind = 3
  · have e : (x.kind == 3) = true := by simpa using k3
    have k4 : ¬ x.kind = 4 := by omega
    rw [if_neg k4, if_pos k3]
    simp only [go_sem, ↓reduceIte, Int.reduceEq, Nat.reduceBEq, Int.reduceBEq, Int.reduceBNe, Int.reduceLT, Int.reduceLE, Nat.reduceAdd, Nat.reducePow, Nat.reduceEqDiff, Nat.reduceLT, Nat.reduceLeDiff, Nat.reduceMul, Nat.reduceSub, e1, e2, e]
    refine Ev.loop_ind (fun k tm τ W => ∃ i : Nat, k = x.l.length - i ∧ i ≤ x.l.length ∧ W = [] ∧ σ.n < τ.n ∧ τ.get σ.n = .cells x.c ∧ (!(x.l.drop i).any fun y => !canE false (qOf nl) y) = (!x.l.any fun y => !canE false (qOf nl) y) ∧
      tm.at 1 = .d (.slc z (boolsD nl)) ∧ tm.at 2 = .ptr σ.n 0 ∧ tm.at 5 = .d (.int .i64 i)) ?_ x.l.length _ _ _ ⟨0, rfl, by omega, rfl, by rw [St.n_push]; omega, St.get_push_eq, rfl, ?_, ?_, ?_⟩
    · rintro k tm τ W ⟨i, rfl, hi, rfl, hn, g0, he, t1, t2, t5⟩ ih
      by_cases hl : i < x.l.length
      · have hget : x.l[i]? = some x.l[i] := by simp [hl]
        have hmem : x.l[i] ∈ x.l := List.getElem_mem hl
        rw [List.drop_eq_getElem_cons hl, List.any_cons] at he
        simp only [go_sem, ↓reduceIte, Int.reduceEq, Nat.reduceBEq, Int.reduceBEq, Int.reduceBNe, Int.reduceLT, Int.reduceLE, Nat.reduceAdd, Nat.reducePow, Nat.reduceEqDiff, Nat.reduceLT, Nat.reduceLeDiff, Nat.reduceMul, Nat.reduceSub, t1, t2, t5, g0, Ex.len_ld, dec_lt' hl, Ex.index_ld hget]
        refine ⟨_, _, _, nothing21_c h98 z nl x.l[i] τ (hx.sub hmem) (ho.sub hmem), ?_⟩
        cases hb : canE false (qOf nl) x.l[i] with
        | true =>
          rw [hb, Bool.not_true, Bool.false_or] at he
          simp only [go_sem, ↓reduceIte, Int.reduceEq, Nat.reduceBEq, Int.reduceBEq, Int.reduceBNe, Int.reduceLT, Int.reduceLE, Nat.reduceAdd, Nat.reducePow, Nat.reduceEqDiff, Nat.reduceLT, Nat.reduceLeDiff, Nat.reduceMul, Nat.reduceSub, t1, t2, t5, wrap_succ' hl hlen]
          refine ih _ _ _ _ (by omega) ⟨i + 1, rfl, hl, rfl, hn, g0, he, ?_, ?_, ?_⟩
          all_goals (simp only [go_sem, ↓reduceIte, Int.reduceEq, Nat.reduceBEq, Int.reduceBEq, Int.reduceBNe, Int.reduceLT, Int.reduceLE, Nat.reduceAdd, Nat.reducePow, Nat.reduceEqDiff, Nat.reduceLT, Nat.reduceLeDiff, Nat.reduceMul, Nat.reduceSub, t1, t2])
        | false =>
          rw [hb, Bool.not_false, Bool.true_or] at he
          simp only [go_sem, ↓reduceIte, Int.reduceEq, Nat.reduceBEq, Int.reduceBEq, Int.reduceBNe, Int.reduceLT, Int.reduceLE, Nat.reduceAdd, Nat.reducePow, Nat.reduceEqDiff, Nat.reduceLT, Nat.reduceLeDiff, Nat.reduceMul, Nat.reduceSub, t1, t2, t5, ← he]
      · rw [List.drop_eq_nil_of_le (by omega)] at he
        simp only [go_sem, ↓reduceIte, Int.reduceEq, Nat.reduceBEq, Int.reduceBEq, Int.reduceBNe, Int.reduceLT, Int.reduceLE, Nat.reduceAdd, Nat.reducePow, Nat.reduceEqDiff, Nat.reduceLT, Nat.reduceLeDiff, Nat.reduceMul, Nat.reduceSub, t1, t2, t5, g0, Ex.len_ld, dec_ge' hl, ← he]
        rfl
    all_goals first | rfl | (simp only [go_sem, ↓reduceIte, Int.reduceEq, Nat.reduceBEq, Int.reduceBEq, Int.reduceBNe, Int.reduceLT, Int.reduceLE, Nat.reduceAdd, Nat.reducePow, Nat.reduceEqDiff, Nat.reduceLT, Nat.reduceLeDiff, Nat.reduceMul, Nat.reduceSub]; done) | (simp only [go_sem, ↓reduceIte, Int.reduceEq, Nat.reduceBEq, Int.reduceBEq, Int.reduceBNe, Int.reduceLT, Int.reduceLE, Nat.reduceAdd, Nat.reducePow, Nat.reduceEqDiff, Nat.reduceLT, Nat.reduceLeDiff, Nat.reduceMul, Nat.reduceSub]; rfl)
  have e3 : (x.kind == 3) = false := by simpa using k3
  by_cases k4 : x.kind = 4
  · have e : (x.kind == 4) = true := by simpa using k4
    rw [if_pos k4]
    simp only [go_sem, ↓reduceIte, Int.reduceEq, Nat.reduceBEq, Int.reduceBEq, Int.reduceBNe, Int.reduceLT, Int.reduceLE, Nat.reduceAdd, Nat.reducePow, Nat.reduceEqDiff, Nat.reduceLT, Nat.reduceLeDiff, Nat.reduceMul, Nat.reduceSub, e1, e2, e3, e]
    refine Ev.loop_ind (fun k tm τ W => ∃ i : Nat, k = x.l.length - i ∧ i ≤ x.l.length ∧ W = [] ∧ σ.n < τ.n ∧ τ.get σ.n = .cells x.c ∧ (x.l.drop i).any (canE false (qOf nl)) = x.l.any (canE false (qOf nl)) ∧
      tm.at 1 = .d (.slc z (boolsD nl)) ∧ tm.at 2 = .ptr σ.n 0 ∧ tm.at 6 = .d (.int .i64 i)) ?_ x.l.length _ _ _ ⟨0, rfl, by omega, rfl, by rw [St.n_push]; omega, St.get_push_eq, rfl, ?_, ?_, ?_⟩
    · rintro k tm τ W ⟨i, rfl, hi, rfl, hn, g0, he, t1, t2, t6⟩ ih
      by_cases hl : i < x.l.length
      · have hget : x.l[i]? = some x.l[i] := by simp [hl]
        have hmem : x.l[i] ∈ x.l := List.getElem_mem hl
        rw [List.drop_eq_getElem_cons hl, List.any_cons] at he
        simp only [go_sem, ↓reduceIte, Int.reduceEq, Nat.reduceBEq, Int.reduceBEq, Int.reduceBNe, Int.reduceLT, Int.reduceLE, Nat.reduceAdd, Nat.reducePow, Nat.reduceEqDiff, Nat.reduceLT, Nat.reduceLeDiff, Nat.reduceMul, Nat.reduceSub, t1, t2, t6, g0, Ex.len_ld, dec_lt' hl, Ex.index_ld hget]
        refine ⟨_, _, _, nothing21_c h98 z nl x.l[i] τ (hx.sub hmem) (ho.sub hmem), ?_⟩
        cases hb : canE false (qOf nl) x.l[i] with
        | false =>
          rw [hb, Bool.false_or] at he
          simp only [go_sem, ↓reduceIte, Int.reduceEq, Nat.reduceBEq, Int.reduceBEq, Int.reduceBNe, Int.reduceLT, Int.reduceLE, Nat.reduceAdd, Nat.reducePow, Nat.reduceEqDiff, Nat.reduceLT, Nat.reduceLeDiff, Nat.reduceMul, Nat.reduceSub, t1, t2, t6, wrap_succ' hl hlen]
          refine ih _ _ _ _ (by omega) ⟨i + 1, rfl, hl, rfl, hn, g0, he, ?_, ?_, ?_⟩
          all_goals (simp only [go_sem, ↓reduceIte, Int.reduceEq, Nat.reduceBEq, Int.reduceBEq, Int.reduceBNe, Int.reduceLT, Int.reduceLE, Nat.reduceAdd, Nat.reducePow, Nat.reduceEqDiff, Nat.reduceLT, Nat.reduceLeDiff, Nat.reduceMul, Nat.reduceSub, t1, t2])
        | true =>
          rw [hb, Bool.true_or] at he
          simp only [go_sem, ↓reduceIte, Int.reduceEq, Nat.reduceBEq, Int.reduceBEq, Int.reduceBNe, Int.reduceLT, Int.reduceLE, Nat.reduceAdd, Nat.reducePow, Nat.reduceEqDiff, Nat.reduceLT, Nat.reduceLeDiff, Nat.reduceMul, Nat.reduceSub, t1, t2, t6, ← he]
      · rw [List.drop_eq_nil_of_le (by omega)] at he
        simp only [go_sem, ↓reduceIte, Int.reduceEq, Nat.reduceBEq, Int.reduceBEq, Int.reduceBNe, Int.reduceLT, Int.reduceLE, Nat.reduceAdd, Nat.reducePow, Nat.reduceEqDiff, Nat.reduceLT, Nat.reduceLeDiff, Nat.reduceMul, Nat.reduceSub, t1, t2, t6, g0, Ex.len_ld, dec_ge' hl, ← he]
        rfl
    all_goals first | rfl | (simp only [go_sem, ↓reduceIte, Int.reduceEq, Nat.reduceBEq, Int.reduceBEq, Int.reduceBNe, Int.reduceLT, Int.reduceLE, Nat.reduceAdd, Nat.reducePow, Nat.reduceEqDiff, Nat.reduceLT, Nat.reduceLeDiff, Nat.reduceMul, Nat.reduceSub]; done) | (simp only [go_sem, ↓reduceIte, Int.reduceEq, Nat.reduceBEq, Int.reduceBEq, Int.reduceBNe, Int.reduceLT, Int.reduceLE, Nat.reduceAdd, Nat.reducePow, Nat.reduceEqDiff, Nat.reduceLT, Nat.reduceLeDiff, Nat.reduceMul, Nat.reduceSub]; rfl)
  have e4 : (x.kind == 4) = false := by simpa using k4
  rw [if_neg k4, if_neg k3]
  simp only [go_sem, ↓reduceIte, Int.reduceEq, Nat.reduceBEq, Int.reduceBEq, Int.reduceBNe, Int.reduceLT, Int.reduceLE, Nat.reduceAdd, Nat.reducePow, Nat.reduceEqDiff, Nat.reduceLT, Nat.reduceLeDiff, Nat.reduceMul, Nat.reduceSub, e1, e2, e3, e4]
termination_by x
decreasing_by all_goals exact Ex.sub_lt hmem
end Go.Am
namespace Go.Am
open Go Go.Proofs
variable {fz : Nat → Md}
set_option maxHeartbeats 8000000 in
theorem first78_c (h78 : fz 78 = .cut) (h98 : fz 98 = .cut) {t : Int} {F : List Nat} (hF : Lt64 F) (ht : t ≤ 64) (z : Bool) (nl : List Bool) (hnl : nl.length = F.length) {kF : Nat} (x : Ex) (σ : St) (hx : SmallE x) (ho : okE t F.length x) (hk : σ.get kF = .cells (ubA F)) (hlt : kF < σ.n) :
    CallsTo (XX fz) (.func 78 []) [x.a, .row kF 0 F.length 1, .d (.slc z (boolsD nl))] σ (.d (.int .u64 ((bgE F nl x).1 : Int))) σ [] := by
  refine CallsTo.cut0 h78 fn78 (by simp) rfl ?_
  simp only [Tryd.f78, Option.getD_some]
  have hlen := hx.len
  rw [bgE_eq]
  have kne : kF ≠ σ.n := by omega
  simp only [go_sem, ↓reduceIte, Int.reduceEq, Nat.reduceBEq, Int.reduceBEq, Nat.reduceAdd, Nat.reduceEqDiff, Nat.reduceLT, Nat.reduceSub, Ex.a]
  by_cases k1 : x.kind = 1
  · have e : (x.kind == 1) = true := by simpa using k1
    obtain ⟨c1, c2⟩ := ho.tok k1
    obtain ⟨n, hn⟩ := Int.eq_ofNat_of_zero_le c1
    have hn0 : ¬ ((n : Int) < 0) := by omega
    rw [if_pos k1]
    simp only [go_sem, ↓reduceIte, Int.reduceEq, Nat.reduceBEq, Int.reduceBEq, Nat.reduceAdd, Nat.reduceEqDiff, Nat.reduceLT, Nat.reduceSub, e, hn, bin_shl, hn0, Int.toNat_natCast]
    rw [sh_u (by omega)]
  have e1 : (x.kind == 1) = false := by simpa using k1
  rw [if_neg k1]
  by_cases k2 : x.kind = 2
  · have e : (x.kind == 2) = true := by simpa using k2
    obtain ⟨c1, c2⟩ := ho.call k2
    obtain ⟨n, hn⟩ := Int.eq_ofNat_of_zero_le c1
    have hn2 : n < F.length := by omega
    have ix := fun ρ : St => indexR_nat (σ := ρ) (k := kF) (off := 0) (s := 1) (cs := ubA F) hn2
    simp only [Nat.zero_add, Nat.mul_one] at ix
    have cg := ubA_get (l := F) hn2
    rw [if_pos k2]
    simp only [go_sem, ↓reduceIte, Int.reduceEq, Nat.reduceBEq, Int.reduceBEq, Nat.reduceAdd, Nat.reduceEqDiff, Nat.reduceLT, Nat.reduceSub, e1, e, hn, kne, hk, ix, cg, Int.toNat_natCast]
  have e2 : (x.kind == 2) = false := by simpa using k2
  rw [if_neg k2]
  by_cases k3 : x.kind = 3
  · have e : (x.kind == 3) = true := by simpa using k3
    rw [if_pos k3]
    simp only [go_sem, ↓reduceIte, Int.reduceEq, Nat.reduceBEq, Int.reduceBEq, Nat.reduceAdd, Nat.reduceEqDiff, Nat.reduceLT, Nat.reduceSub, e1, e2]
    refine Ev.loop_ind (fun k tm τ W => ∃ i a : Nat, k = x.l.length - i ∧ i ≤ x.l.length ∧ W = [] ∧ σ.n < τ.n ∧ τ.get σ.n = .cells x.c ∧ τ.get kF = .cells (ubA F) ∧ a < 2 ^ 64 ∧ (bgS F nl (x.l.drop i) a).1 = (bgS F nl x.l 0).1 ∧
      tm.at 1 = .row kF 0 F.length 1 ∧ tm.at 2 = .d (.slc z (boolsD nl)) ∧ tm.at 3 = .ptr σ.n 0 ∧ tm.at 7 = .d (.int .u64 (a : Int)) ∧ tm.at 8 = .d (.int .i64 i)) ?_ x.l.length _ _ _ ⟨0, 0, rfl, by omega, rfl, by rw [St.n_push]; omega, St.get_push_eq, by rw [St.get_push_ne hlt]; exact hk, by omega, rfl, ?_, ?_, ?_, ?_, ?_⟩
    · rintro k tm τ W ⟨i, a, rfl, hi, rfl, hn, g0, gF, ha, he, t1, t2, t3, t7, t8⟩ ih
      by_cases hl : i < x.l.length
      · have hget : x.l[i]? = some x.l[i] := by simp [hl]
        have hmem : x.l[i] ∈ x.l := List.getElem_mem hl
        rw [List.drop_eq_getElem_cons hl, bgS] at he
        have hlt2 := bgE_lt hF ht (nl := nl) _ (ho.sub hmem)
        have hor := or_lt ha hlt2
        have how := or_w ha hlt2
        simp only [go_sem, ↓reduceIte, Int.reduceEq, Nat.reduceBEq, Int.reduceBEq, Nat.reduceAdd, Nat.reduceEqDiff, Nat.reduceLT, Nat.reduceSub, t1, t2, t3, t7, t8, g0, Ex.len_ld, dec_lt' hl, Ex.index_ld hget]
        refine ⟨_, _, _, first78_c h78 h98 hF ht z nl hnl x.l[i] τ (hx.sub hmem) (ho.sub hmem) gF (by omega), ?_⟩
        simp only [go_sem, ↓reduceIte, Int.reduceEq, Nat.reduceBEq, Int.reduceBEq, Nat.reduceAdd, Nat.reduceEqDiff, Nat.reduceLT, Nat.reduceSub, t1, t2, t3, t7, t8, g0, e, Ex.index_ld hget]
        refine ⟨_, _, _, nothing21_c h98 (t := t) z nl x.l[i] τ (hx.sub hmem) (by rw [hnl]; exact ho.sub hmem), ?_⟩
        cases hb : canE false (qOf nl) x.l[i] with
        | true =>
          rw [bg2, hb, if_pos rfl] at he
          simp only [go_sem, ↓reduceIte, Int.reduceEq, Nat.reduceBEq, Int.reduceBEq, Nat.reduceAdd, Nat.reduceEqDiff, Nat.reduceLT, Nat.reduceSub, t1, t2, t3, t8, wrap_succ' hl hlen]
          refine ih _ _ _ _ (by omega) ⟨i + 1, a ||| (bgE F nl x.l[i]).1, rfl, hl, rfl, hn, g0, gF, hor, he, ?_, ?_, ?_, ?_, ?_⟩
          · simp only [go_sem, ↓reduceIte, Int.reduceEq, Nat.reduceBEq, Int.reduceBEq, Nat.reduceAdd, Nat.reduceEqDiff, Nat.reduceLT, Nat.reduceSub, t1]
          · simp only [go_sem, ↓reduceIte, Int.reduceEq, Nat.reduceBEq, Int.reduceBEq, Nat.reduceAdd, Nat.reduceEqDiff, Nat.reduceLT, Nat.reduceSub, t2]
          · simp only [go_sem, ↓reduceIte, Int.reduceEq, Nat.reduceBEq, Int.reduceBEq, Nat.reduceAdd, Nat.reduceEqDiff, Nat.reduceLT, Nat.reduceSub, t3]
          · simp only [go_sem, ↓reduceIte, Int.reduceEq, Nat.reduceBEq, Int.reduceBEq, Nat.reduceAdd, Nat.reduceEqDiff, Nat.reduceLT, Nat.reduceSub]; exact congrArg (fun n => A.d (D.int IntKind.u64 n)) how
          · simp only [go_sem, ↓reduceIte, Int.reduceEq, Nat.reduceBEq, Int.reduceBEq, Nat.reduceAdd, Nat.reduceEqDiff, Nat.reduceLT, Nat.reduceSub]
        | false =>
          rw [bg2, hb, if_neg (by simp)] at he
          simp only [go_sem, ↓reduceIte, Int.reduceEq, Nat.reduceBEq, Int.reduceBEq, Nat.reduceAdd, Nat.reduceEqDiff, Nat.reduceLT, Nat.reduceSub, t1, t2, t3, t8, ← he]
          exact congrArg (fun n => A.d (D.int IntKind.u64 n)) how
      · rw [List.drop_eq_nil_of_le (by omega), bgS] at he
        simp only [go_sem, ↓reduceIte, Int.reduceEq, Nat.reduceBEq, Int.reduceBEq, Nat.reduceAdd, Nat.reduceEqDiff, Nat.reduceLT, Nat.reduceSub, t1, t2, t3, t7, t8, g0, Ex.len_ld, dec_ge' hl, ← he]
    all_goals first | rfl | (simp only [go_sem, ↓reduceIte, Int.reduceEq, Nat.reduceBEq, Int.reduceBEq, Nat.reduceAdd, Nat.reduceEqDiff, Nat.reduceLT, Nat.reduceSub]; done) | (simp only [go_sem, ↓reduceIte, Int.reduceEq, Nat.reduceBEq, Int.reduceBEq, Nat.reduceAdd, Nat.reduceEqDiff, Nat.reduceLT, Nat.reduceSub]; rfl)
  have e3 : (x.kind == 3) = false := by simpa using k3
  rw [if_neg k3]
  simp only [go_sem, ↓reduceIte, Int.reduceEq, Nat.reduceBEq, Int.reduceBEq, Nat.reduceAdd, Nat.reduceEqDiff, Nat.reduceLT, Nat.reduceSub, e1, e2]
  refine Ev.loop_ind (fun k tm τ W => ∃ (i a : Nat) (b : Bool), k = x.l.length - i ∧ i ≤ x.l.length ∧ W = [] ∧ σ.n < τ.n ∧ τ.get σ.n = .cells x.c ∧ τ.get kF = .cells (ubA F) ∧ a < 2 ^ 64 ∧ (bgA F nl (x.l.drop i) a b).1 = (bgA F nl x.l 0 (x.kind != 4)).1 ∧
    tm.at 1 = .row kF 0 F.length 1 ∧ tm.at 2 = .d (.slc z (boolsD nl)) ∧ tm.at 3 = .ptr σ.n 0 ∧ tm.at 7 = .d (.int .u64 (a : Int)) ∧ tm.at 8 = .d (.int .i64 i)) ?_ x.l.length _ _ _ ⟨0, 0, _, rfl, by omega, rfl, by rw [St.n_push]; omega, St.get_push_eq, by rw [St.get_push_ne hlt]; exact hk, by omega, rfl, ?_, ?_, ?_, ?_, ?_⟩
  · rintro k tm τ W ⟨i, a, b, rfl, hi, rfl, hn, g0, gF, ha, he, t1, t2, t3, t7, t8⟩ ih
    by_cases hl : i < x.l.length
    · have hget : x.l[i]? = some x.l[i] := by simp [hl]
      have hmem : x.l[i] ∈ x.l := List.getElem_mem hl
      rw [List.drop_eq_getElem_cons hl, bgA] at he
      have hlt2 := bgE_lt hF ht (nl := nl) _ (ho.sub hmem)
      have hor := or_lt ha hlt2
      have how := or_w ha hlt2
      simp only [go_sem, ↓reduceIte, Int.reduceEq, Nat.reduceBEq, Int.reduceBEq, Nat.reduceAdd, Nat.reduceEqDiff, Nat.reduceLT, Nat.reduceSub, t1, t2, t3, t7, t8, g0, Ex.len_ld, dec_lt' hl, Ex.index_ld hget]
      refine ⟨_, _, _, first78_c h78 h98 hF ht z nl hnl x.l[i] τ (hx.sub hmem) (ho.sub hmem) gF (by omega), ?_⟩
      simp only [go_sem, ↓reduceIte, Int.reduceEq, Nat.reduceBEq, Int.reduceBEq, Nat.reduceAdd, Nat.reduceEqDiff, Nat.reduceLT, Nat.reduceSub, t1, t2, t3, t7, t8, g0, e3, wrap_succ' hl hlen]
      refine ih _ _ _ _ (by omega) ⟨i + 1, a ||| (bgE F nl x.l[i]).1, _, rfl, hl, rfl, hn, g0, gF, hor, he, ?_, ?_, ?_, ?_, ?_⟩
      · simp only [go_sem, ↓reduceIte, Int.reduceEq, Nat.reduceBEq, Int.reduceBEq, Nat.reduceAdd, Nat.reduceEqDiff, Nat.reduceLT, Nat.reduceSub, t1]
      · simp only [go_sem, ↓reduceIte, Int.reduceEq, Nat.reduceBEq, Int.reduceBEq, Nat.reduceAdd, Nat.reduceEqDiff, Nat.reduceLT, Nat.reduceSub, t2]
      · simp only [go_sem, ↓reduceIte, Int.reduceEq, Nat.reduceBEq, Int.reduceBEq, Nat.reduceAdd, Nat.reduceEqDiff, Nat.reduceLT, Nat.reduceSub, t3]
      · simp only [go_sem, ↓reduceIte, Int.reduceEq, Nat.reduceBEq, Int.reduceBEq, Nat.reduceAdd, Nat.reduceEqDiff, Nat.reduceLT, Nat.reduceSub]; exact congrArg (fun n => A.d (D.int IntKind.u64 n)) how
      · simp only [go_sem, ↓reduceIte, Int.reduceEq, Nat.reduceBEq, Int.reduceBEq, Nat.reduceAdd, Nat.reduceEqDiff, Nat.reduceLT, Nat.reduceSub]
    · rw [List.drop_eq_nil_of_le (by omega), bgA] at he
      simp only [go_sem, ↓reduceIte, Int.reduceEq, Nat.reduceBEq, Int.reduceBEq, Nat.reduceAdd, Nat.reduceEqDiff, Nat.reduceLT, Nat.reduceSub, t1, t2, t3, t7, t8, g0, Ex.len_ld, dec_ge' hl, ← he]
  all_goals first | rfl | (simp only [go_sem, ↓reduceIte, Int.reduceEq, Nat.reduceBEq, Int.reduceBEq, Nat.reduceAdd, Nat.reduceEqDiff, Nat.reduceLT, Nat.reduceSub]; done) | (simp only [go_sem, ↓reduceIte, Int.reduceEq, Nat.reduceBEq, Int.reduceBEq, Nat.reduceAdd, Nat.reduceEqDiff, Nat.reduceLT, Nat.reduceSub]; rfl)
termination_by x
decreasing_by all_goals exact Ex.sub_lt hmem
end Go.Am

/- Part HH of a proof that runs a program's calls on a small machine whose values bear no addresses: no conditions. -/
import Derived.Test.YtbppacknigeiaaaDoorAmHG
set_option autoImplicit false
set_option linter.unusedSimpArgs false
set_option linter.unusedVariables false
set_option linter.unusedSectionVars false
namespace Go.Am
open Go Go.Proofs
/-! with what is derived begins -/
section
variable {F : List Nat} {nl : List Bool}
theorem bgS2 : ∀ (l : List Ex) (a : Nat), (∀ y ∈ l, (bgE F nl y).2 = canE false (qOf nl) y) → (bgS F nl l a).2 = !(l.any fun y => !canE false (qOf nl) y)
  | [], a, _ => by rw [bgS]; rfl
  | x :: l, a, h => by
    rw [bgS, h x (by simp), List.any_cons]
    cases hx : canE false (qOf nl) x with
    | true => rw [if_pos rfl, bgS2 l _ (fun y hy => h y (by simp [hy]))]; simp
    | false => rw [if_neg (by simp)]; simp
theorem bgA2 : ∀ (l : List Ex) (a : Nat) (b : Bool), (∀ y ∈ l, (bgE F nl y).2 = canE false (qOf nl) y) → (bgA F nl l a b).2 = (b || l.any (canE false (qOf nl)))
  | [], a, b, _ => by rw [bgA]; simp
  | x :: l, a, b, h => by
    rw [bgA, bgA2 l _ _ (fun y hy => h y (by simp [hy])), h x (by simp), List.any_cons, Bool.or_assoc]
theorem bg2 : ∀ x : Ex, (bgE F nl x).2 = canE false (qOf nl) x := fun x => by
  have hsub : ∀ y ∈ x.l, (bgE F nl y).2 = canE false (qOf nl) y := fun y hy => bg2 y
  rw [bgE_eq, canE_eq]
  by_cases k1 : x.kind = 1
  · rw [if_pos k1, if_pos k1]
  by_cases k2 : x.kind = 2
  · rw [if_neg k1, if_pos k2, if_neg k1, if_pos k2]; rfl
  by_cases k3 : x.kind = 3
  · rw [if_neg k1, if_neg k2, if_pos k3, if_neg k1, if_neg k2, if_neg (by omega), if_pos k3]
    exact bgS2 _ _ hsub
  by_cases k4 : x.kind = 4
  · rw [if_neg k1, if_neg k2, if_neg k3, if_neg k1, if_neg k2, if_pos k4, bgA2 _ _ _ hsub, k4]; simp
  · rw [if_neg k1, if_neg k2, if_neg k3, if_neg k1, if_neg k2, if_neg k4, if_neg k3, bgA2 _ _ _ hsub]
    have : (x.kind != 4) = true := by simpa using k4
    rw [this]; simp
termination_by x => x
decreasing_by exact Ex.sub_lt hy
theorem bgS_sub : ∀ (l : List Ex) (a : Nat), Sub a (bgS F nl l a).1
  | [], a => by rw [bgS]; exact Sub.refl _
  | x :: l, a => by
    rw [bgS]; split
    · exact (Sub.orl _ _).trans (bgS_sub l _)
    · exact Sub.orl _ _
theorem bgA_sub : ∀ (l : List Ex) (a : Nat) (b : Bool), Sub a (bgA F nl l a b).1
  | [], a, b => by rw [bgA]; exact Sub.refl _
  | x :: l, a, b => by rw [bgA]; exact (Sub.orl _ _).trans (bgA_sub l _ _)
theorem bgA_mem : ∀ {l : List Ex} {y : Ex}, y ∈ l → ∀ (a : Nat) (b : Bool), Sub (bgE F nl y).1 (bgA F nl l a b).1
  | x :: l, y, h, a, b => by
    rw [bgA]
    rcases List.mem_cons.1 h with rfl | h
    · exact (Sub.orr _ _).trans (bgA_sub l _ _)
    · exact bgA_mem h _ _
/-- **what is derived begins with a token of what a part begins with** -/
theorem begins {bs : List Ex} {t : Int} {r : Nat} {l : List Int} (hF : ∀ (n : Nat) (x : Ex), bs[n]? = some x → (bgE F nl x).1 = F.getD n 0) (hcl : ∀ (n : Int) (y : Ex), 0 ≤ n → bs[n.toNat]? = some y → canE false (qOf nl) y = true → qOf nl n = true)
    (hok : ∀ y ∈ bs, okE t r y) {w : Ex ⊕ List Ex} {i j : Nat} (h : Dx bs l w i j) : i < j → ∀ c, l[i]? = some c → match w with
      | .inl x => okE t r x → 0 ≤ c ∧ (bgE F nl x).1.testBit c.toNat = true
      | .inr xs => (∀ x ∈ xs, okE t r x) → ∀ a, 0 ≤ c ∧ (bgS F nl xs a).1.testBit c.toNat = true := by
  induction h with
  | tok h1 h2 =>
    intro _ c hc; dsimp only; intro ho
    rw [h2] at hc; cases hc
    rw [bgE_eq, if_pos h1]; exact ⟨(ho.tok h1).1, by simp [Nat.testBit_two_pow_self]⟩
  | @call x y i j h1 h2 h3 ih =>
    intro hij c hc; dsimp only; intro ho
    have := ih hij c hc (hok y (List.mem_of_getElem? h2))
    rw [hF _ _ h2] at this
    rw [bgE_eq, if_neg (by omega), if_pos h1]; exact this
  | @alt x y i j h1 h2 h3 ih =>
    intro hij c hc; dsimp only; intro ho
    rw [bgE_eq, if_neg (by omega), if_neg (by omega), if_neg (by omega)]
    exact (ih hij c hc (ho.sub h2)).imp id (bgA_mem h2 _ _ _)
  | opt0 h1 => intro h; omega
  | @opt1 x y i j h1 h2 h3 ih =>
    intro hij c hc; dsimp only; intro ho
    have hy : y ∈ x.l := by rw [h2]; simp
    rw [bgE_eq, if_neg (by omega), if_neg (by omega), if_neg (by omega)]
    exact (ih hij c hc (ho.sub hy)).imp id (bgA_mem hy _ _ _)
  | star0 h1 => intro h; omega
  | @star1 x y i k j h1 h2 h3 h4 ih1 ih2 =>
    intro hij c hc; dsimp only; intro ho
    have hy : y ∈ x.l := by rw [h2]; simp
    rcases Nat.lt_or_ge i k with q | q
    · exact ih1 q c hc ho
    · have hik : i = k := Nat.le_antisymm h3.le q
      subst hik
      rw [bgE_eq, if_neg (by omega), if_neg (by omega), if_neg (by omega)]
      exact (ih2 hij c hc (ho.sub hy)).imp id (bgA_mem hy _ _ _)
  | @seq x i j h1 h2 ih =>
    intro hij c hc; dsimp only; intro ho
    by_cases k3 : x.kind = 3
    · rw [bgE_eq, if_neg (by omega), if_neg (by omega), if_pos k3]
      exact ih hij c hc (fun y hy => ho.sub hy) 0
    · have k0 := ho.kind0 h1.1 h1.2.1 k3 h1.2.2.1 h1.2.2.2.1 h1.2.2.2.2
      have hl : x.l = [] := by
        have := ho.c
        simp [rightN, k0, rightC] at this
        exact this.2
      rw [hl] at h2
      cases h2; omega
  | nil => intro h; omega
  | @cons y rr i k j h1 h2 ih1 ih2 =>
    intro hij c hc; dsimp only; intro ho a
    rw [bgS]
    rcases Nat.lt_or_ge i k with q | q
    · have := ih1 q c hc (ho y (by simp))
      have hb : (a ||| (bgE F nl y).1).testBit c.toNat = true := Sub.orr _ _ _ this.2
      split
      · exact ⟨this.1, bgS_sub _ _ _ hb⟩
      · exact ⟨this.1, hb⟩
    · have hik : i = k := Nat.le_antisymm h1.le q
      subst hik
      have hn := Dx.null hcl hok h1 rfl (ho y (by simp))
      rw [bg2, if_pos hn]
      exact ih2 hij c hc (fun z hz => ho z (by simp [hz])) _
end
theorem null_cl {g : Gr} : ∀ (n : Int) (y : Ex), 0 ≤ n → g.bodies[n.toNat]? = some y → canE false (qOf g.null) y = true → qOf g.null n = true := fun n y _ hy hc => growsP_closed false g.bodies hy hc
theorem mem_bitsI {k : Nat} {c : Int} (hc0 : 0 ≤ c) (hc : c < 64) (h : k.testBit c.toNat = true) : (bitsI k).contains c = true := by
  rw [List.contains_iff_mem]
  unfold bitsI bitsN
  rw [List.mem_map]
  exact ⟨c.toNat, List.mem_filter.2 ⟨List.mem_range.2 (by omega), h⟩, by omega⟩
theorem begins_law {g : Gr} (hc : checkP g = 0) {k : Nat} (hk : k < g.rules.length) {l : List Int} (hl : l.length ≤ 64) (hd : derQ g k l = true) {c : Int} (h0 : l[0]? = some c) : (bitsI ((frG g).getD k 0)).contains c = true := by
  have h := GOk.of hc
  have hb := body_at hk
  have hd := (derV_in hc (by omega) (by omega) hl).1 hd
  rw [Int.toNat_natCast] at hd
  obtain ⟨f1, f2, -⟩ := frG_ok h
  have hpos : 0 < l.length := (List.getElem?_eq_some_iff.1 h0).1
  obtain ⟨c0, this⟩ := begins f2 null_cl h.ok hd hpos c h0 (h.ok _ (List.mem_of_getElem? hb))
  rw [f2 _ _ hb] at this
  have hlt := f1.lt k
  have h64 : c.toNat < 64 := by
    rcases Nat.lt_or_ge c.toNat 64 with q | q
    · exact q
    · have h2 : (frG g).getD k 0 < 2 ^ c.toNat := Nat.lt_of_lt_of_le hlt (Nat.pow_le_pow_right (by omega) q)
      rw [Nat.testBit_lt_two_pow h2] at this; cases this
  exact mem_bitsI c0 (by omega) this
end Go.Am
namespace Go.Am
open Go Go.Proofs
theorem index_sets {σ : St} {F : List Nat} {z : Bool} {i : Nat} (h : i < F.length) : indexK σ 1 (.d (.slc z (setsR F))) (.d (.int .i64 (i : Int))) = .val (.d (.vptr [slD (bitsI (F.getD i 0))] 0)) σ [] [] := by
  rw [indexK_d]; exact indexD_nat (by simp [setsR, h]) rfl
theorem len_sets {σ : St} {F : List Nat} {z : Bool} : sliceLen σ (.d (.slc z (setsR F))) = some F.length := by simp [sliceLen, setsR_len]
set_option maxHeartbeats 8000000 in
theorem begins_call (g : Gr) (hg : SmallG g) (hL : g.rules.length < 1000000000) (rule : Int) (z : Bool) (l : List Int) (hl0 : l.length < 1000000000) : ∃ σ' T, CallsTo (XX mdS) (.func 9 []) [g.a, .d (.int .i64 rule), .d (.slc z (intsD l))] St.empty (.d (.bool true)) σ' T := by
  refine ⟨St.empty, [], CallsTo.cut0 rfl fn9 (by simp) rfl ?_⟩
  simp only [Tryd.f9, Option.getD_some]
  simp only [go_sem, ↓reduceIte, Int.reduceEq, Nat.reduceBEq, Int.reduceBEq, Int.reduceBNe, Int.reduceLT, Int.reduceLE, Nat.reduceAdd, Nat.reducePow, Nat.reduceEqDiff, Nat.reduceLT, Nat.reduceLeDiff, Nat.reduceMul, Nat.reduceSub, Gr.a]
  refine ⟨_, _, _, works_S _, ?_⟩
  simp only [go_sem, ↓reduceIte, Int.reduceEq, Nat.reduceBEq, Int.reduceBEq, Int.reduceBNe, Int.reduceLT, Int.reduceLE, Nat.reduceAdd, Nat.reducePow, Nat.reduceEqDiff, Nat.reduceLT, Nat.reduceLeDiff, Nat.reduceMul, Nat.reduceSub]
  refine ⟨_, _, _, deep_S g _ hg hL, ?_⟩
  cases hd : deepG g with
  | true => simp only [go_sem, ↓reduceIte, Int.reduceEq, Nat.reduceBEq, Int.reduceBEq, Int.reduceBNe, Int.reduceLT, Int.reduceLE, Nat.reduceAdd, Nat.reducePow, Nat.reduceEqDiff, Nat.reduceLT, Nat.reduceLeDiff, Nat.reduceMul, Nat.reduceSub]
  | false =>
  simp only [go_sem, ↓reduceIte, Int.reduceEq, Nat.reduceBEq, Int.reduceBEq, Int.reduceBNe, Int.reduceLT, Int.reduceLE, Nat.reduceAdd, Nat.reducePow, Nat.reduceEqDiff, Nat.reduceLT, Nat.reduceLeDiff, Nat.reduceMul, Nat.reduceSub]
  refine ⟨_, _, _, check_S g _ hg, ?_⟩
  cases hc : (checkP g != 0) with
  | true => simp only [go_sem, ↓reduceIte, Int.reduceEq, Nat.reduceBEq, Int.reduceBEq, Int.reduceBNe, Int.reduceLT, Int.reduceLE, Nat.reduceAdd, Nat.reducePow, Nat.reduceEqDiff, Nat.reduceLT, Nat.reduceLeDiff, Nat.reduceMul, Nat.reduceSub, hc]
  | false =>
  have hc' : checkP g = 0 := by simpa using hc
  have h := GOk.of hc'
  have hpos := h.pos
  have hle := h.le
  by_cases e0 : l.length = 0
  · have c0 : ((l.length : Int) == 0) = true := by simp [e0]
    simp only [go_sem, ↓reduceIte, Int.reduceEq, Nat.reduceBEq, Int.reduceBEq, Int.reduceBNe, Int.reduceLT, Int.reduceLE, Nat.reduceAdd, Nat.reducePow, Nat.reduceEqDiff, Nat.reduceLT, Nat.reduceLeDiff, Nat.reduceMul, Nat.reduceSub, hc', len_ints, c0]
  have c0 : ((l.length : Int) == 0) = false := by rw [beq_eq_false_iff_ne]; omega
  by_cases e1 : l.length > 64
  · have c1 : decide ((l.length : Int) > 64) = true := by simp; omega
    simp only [go_sem, ↓reduceIte, Int.reduceEq, Nat.reduceBEq, Int.reduceBEq, Int.reduceBNe, Int.reduceLT, Int.reduceLE, Nat.reduceAdd, Nat.reducePow, Nat.reduceEqDiff, Nat.reduceLT, Nat.reduceLeDiff, Nat.reduceMul, Nat.reduceSub, hc', len_ints, c0, c1]
  have c1 : decide ((l.length : Int) > 64) = false := by simp; omega
  simp only [go_sem, ↓reduceIte, Int.reduceEq, Nat.reduceBEq, Int.reduceBEq, Int.reduceBNe, Int.reduceLT, Int.reduceLE, Nat.reduceAdd, Nat.reducePow, Nat.reduceEqDiff, Nat.reduceLT, Nat.reduceLeDiff, Nat.reduceMul, Nat.reduceSub, hc', len_ints, c0, c1]
  refine ⟨_, _, _, bring_call rfl rule _ _, ?_⟩
  obtain ⟨b1, b2⟩ := bring_lt (i := rule) (n := (g.rules.length : Int)) (by omega) (by omega)
  obtain ⟨k, hk⟩ := Int.eq_ofNat_of_zero_le b1
  have hlt : k < g.rules.length := by omega
  simp only [go_sem, ↓reduceIte, Int.reduceEq, Nat.reduceBEq, Int.reduceBEq, Int.reduceBNe, Int.reduceLT, Int.reduceLE, Nat.reduceAdd, Nat.reducePow, Nat.reduceEqDiff, Nat.reduceLT, Nat.reduceLeDiff, Nat.reduceMul, Nat.reduceSub, hk]
  refine ⟨_, _, _, first_S g _ hg, ?_⟩
  simp only [go_sem, ↓reduceIte, Int.reduceEq, Nat.reduceBEq, Int.reduceBEq, Int.reduceBNe, Int.reduceLT, Int.reduceLE, Nat.reduceAdd, Nat.reducePow, Nat.reduceEqDiff, Nat.reduceLT, Nat.reduceLeDiff, Nat.reduceMul, Nat.reduceSub, hc']
  refine ⟨_, _, _, derives34 hg k _ l (by omega) _, ?_⟩
  cases hdq : derQ g k l with
  | false =>
    simp only [go_sem, ↓reduceIte, Int.reduceEq, Nat.reduceBEq, Int.reduceBEq, Int.reduceBNe, Int.reduceLT, Int.reduceLE, Nat.reduceAdd, Nat.reducePow, Nat.reduceEqDiff, Nat.reduceLT, Nat.reduceLeDiff, Nat.reduceMul, Nat.reduceSub]
    exact drawOk_rel [] [] rfl (by kernel_rfl) rfl (by simp)
  | true =>
    have hl1 : 0 < l.length := by omega
    have hb := begins_law hc' hlt (by omega) hdq (List.getElem?_eq_getElem hl1)
    have hfk : k < (frG g).length := by rw [frG_len h]; exact hlt
    have i0 : ∀ ρ : St, indexK ρ 1 (.d (.slc z (intsD l))) (.d (.int .i64 0)) = .val (.d (.vptr [.int .i64 l[0]] 0)) ρ [] [] := fun ρ => index_ints hl1
    have hln : (bitsI ((frG g).getD k 0)).length < 1000000000 := by
      unfold bitsI bitsN
      rw [List.length_map]
      have := List.length_filter_le (fun i => ((frG g).getD k 0).testBit i) (List.range 64)
      simp at this ⊢; omega
    simp only [go_sem, ↓reduceIte, Int.reduceEq, Nat.reduceBEq, Int.reduceBEq, Int.reduceBNe, Int.reduceLT, Int.reduceLE, Nat.reduceAdd, Nat.reducePow, Nat.reduceEqDiff, Nat.reduceLT, Nat.reduceLeDiff, Nat.reduceMul, Nat.reduceSub, firstV, hc', setsD, index_sets hfk, i0]
    refine ⟨_, _, _, has_c rfl _ _ _ hln _, ?_⟩
    rw [hb]
    simp only [go_sem, ↓reduceIte, Int.reduceEq, Nat.reduceBEq, Int.reduceBEq, Int.reduceBNe, Int.reduceLT, Int.reduceLE, Nat.reduceAdd, Nat.reducePow, Nat.reduceEqDiff, Nat.reduceLT, Nat.reduceLeDiff, Nat.reduceMul, Nat.reduceSub]
    exact drawOk_rel [] [] rfl (by kernel_rfl) rfl (by simp)
end Go.Am

/- Part HH of a proof that runs a program's calls on a small machine whose values bear no addresses: no conditions. -/
import Derived.Test.YtbppacknigeiaaaDoorAmHF
set_option autoImplicit false
set_option linter.unusedSimpArgs false
set_option linter.unusedVariables false
set_option linter.unusedSectionVars false
namespace Go.Am
open Go Go.Proofs
section
variable {F : List Nat} {nl : List Bool}
theorem bgS2 : ∀ (l : List Ex) (a : Nat), (∀ y ∈ l, (bgE F nl y).2 = canE false (qOf nl) y) → (bgS F nl l a).2 = !(l.any fun y => !canE false (qOf nl) y)
  | [], a, _ => by rw [bgS]; rfl
  | x :: l, a, h => by
    rw [bgS, h x (by simp), List.any_cons]
    cases hx : canE false (qOf nl) x with
    | true => rw [if_pos rfl, bgS2 l _ (fun y hy => h y (by simp [hy]))]; simp
    | false => rw [if_neg (by simp)]; simp
theorem bgA2 : ∀ (l : List Ex) (a : Nat) (b : Bool), (∀ y ∈ l, (bgE F nl y).2 = canE false (qOf nl) y) → (bgA F nl l a b).2 = (b || l.any (canE false (qOf nl)))
  | [], a, b, _ => by rw [bgA]; simp
  | x :: l, a, b, h => by
    rw [bgA, bgA2 l _ _ (fun y hy => h y (by simp [hy])), h x (by simp), List.any_cons, Bool.or_assoc]
theorem bg2 : ∀ x : Ex, (bgE F nl x).2 = canE false (qOf nl) x := fun x => by
  have hsub : ∀ y ∈ x.l, (bgE F nl y).2 = canE false (qOf nl) y := fun y hy => bg2 y
  rw [bgE_eq, canE_eq]
  by_cases k1 : x.kind = 1
  · rw [if_pos k1, if_pos k1]
  by_cases k2 : x.kind = 2
  · rw [if_neg k1, if_pos k2, if_neg k1, if_pos k2]; rfl
  by_cases k3 : x.kind = 3
  · rw [if_neg k1, if_neg k2, if_pos k3, if_neg k1, if_neg k2, if_neg (by omega), if_pos k3]
    exact bgS2 _ _ hsub
  by_cases k4 : x.kind = 4
  · rw [if_neg k1, if_neg k2, if_neg k3, if_neg k1, if_neg k2, if_pos k4, bgA2 _ _ _ hsub, k4]; simp
  · rw [if_neg k1, if_neg k2, if_neg k3, if_neg k1, if_neg k2, if_neg k4, if_neg k3, bgA2 _ _ _ hsub]
    have : (x.kind != 4) = true := by simpa using k4
    rw [this]; simp
termination_by x => x
decreasing_by exact Ex.sub_lt hy
theorem bgS_sub : ∀ (l : List Ex) (a : Nat), Sub a (bgS F nl l a).1
  | [], a => by rw [bgS]; exact Sub.refl _
  | x :: l, a => by
    rw [bgS]; split
    · exact (Sub.orl _ _).trans (bgS_sub l _)
    · exact Sub.orl _ _
theorem bgA_sub : ∀ (l : List Ex) (a : Nat) (b : Bool), Sub a (bgA F nl l a b).1
  | [], a, b => by rw [bgA]; exact Sub.refl _
  | x :: l, a, b => by rw [bgA]; exact (Sub.orl _ _).trans (bgA_sub l _ _)
theorem bgA_mem : ∀ {l : List Ex} {y : Ex}, y ∈ l → ∀ (a : Nat) (b : Bool), Sub (bgE F nl y).1 (bgA F nl l a b).1
  | x :: l, y, h, a, b => by
    rw [bgA]
    rcases List.mem_cons.1 h with rfl | h
    · exact (Sub.orr _ _).trans (bgA_sub l _ _)
    · exact bgA_mem h _ _
theorem begins {bs : List Ex} {t : Int} {r : Nat} {l : List Int} (hF : ∀ (n : Nat) (x : Ex), bs[n]? = some x → (bgE F nl x).1 = F.getD n 0) (hcl : ∀ (n : Int) (y : Ex), 0 ≤ n → bs[n.toNat]? = some y → canE false (qOf nl) y = true → qOf nl n = true)
    (hok : ∀ y ∈ bs, okE t r y) {w : Ex ⊕ List Ex} {i j : Nat} (h : Dx bs l w i j) : i < j → ∀ c, l[i]? = some c → match w with
      | .inl x => okE t r x → 0 ≤ c ∧ (bgE F nl x).1.testBit c.toNat = true
      | .inr xs => (∀ x ∈ xs, okE t r x) → ∀ a, 0 ≤ c ∧ (bgS F nl xs a).1.testBit c.toNat = true := by
  induction h with
  | tok h1 h2 =>
    intro _ c hc; dsimp only; intro ho
    rw [h2] at hc; cases hc
    rw [bgE_eq, if_pos h1]; exact ⟨(ho.tok h1).1, by simp [Nat.testBit_two_pow_self]⟩
  | @call x y i j h1 h2 h3 ih =>
    intro hij c hc; dsimp only; intro ho
    have := ih hij c hc (hok y (List.mem_of_getElem? h2))
    rw [hF _ _ h2] at this
    rw [bgE_eq, if_neg (by omega), if_pos h1]; exact this
  | @alt x y i j h1 h2 h3 ih =>
    intro hij c hc; dsimp only; intro ho
    rw [bgE_eq, if_neg (by omega), if_neg (by omega), if_neg (by omega)]
    exact (ih hij c hc (ho.sub h2)).imp id (bgA_mem h2 _ _ _)
  | opt0 h1 => intro h; omega
  | @opt1 x y i j h1 h2 h3 ih =>
    intro hij c hc; dsimp only; intro ho
    have hy : y ∈ x.l := by rw [h2]; simp
    rw [bgE_eq, if_neg (by omega), if_neg (by omega), if_neg (by omega)]
    exact (ih hij c hc (ho.sub hy)).imp id (bgA_mem hy _ _ _)
  | star0 h1 => intro h; omega
  | @star1 x y i k j h1 h2 h3 h4 ih1 ih2 =>
    intro hij c hc; dsimp only; intro ho
    have hy : y ∈ x.l := by rw [h2]; simp
    rcases Nat.lt_or_ge i k with q | q
    · exact ih1 q c hc ho
    · have hik : i = k := Nat.le_antisymm h3.le q
      subst hik
      rw [bgE_eq, if_neg (by omega), if_neg (by omega), if_neg (by omega)]
      exact (ih2 hij c hc (ho.sub hy)).imp id (bgA_mem hy _ _ _)
  | @seq x i j h1 h2 ih =>
    intro hij c hc; dsimp only; intro ho
    by_cases k3 : x.kind = 3
    · rw [bgE_eq, if_neg (by omega), if_neg (by omega), if_pos k3]
      exact ih hij c hc (fun y hy => ho.sub hy) 0
    · have k0 := ho.kind0 h1.1 h1.2.1 k3 h1.2.2.1 h1.2.2.2.1 h1.2.2.2.2
      have hl : x.l = [] := by
        have := ho.c
        simp [rightN, k0, rightC] at this
        exact this.2
      rw [hl] at h2
      cases h2; omega
  | nil => intro h; omega
  | @cons y rr i k j h1 h2 ih1 ih2 =>
    intro hij c hc; dsimp only; intro ho a
    rw [bgS]
    rcases Nat.lt_or_ge i k with q | q
    · have := ih1 q c hc (ho y (by simp))
      have hb : (a ||| (bgE F nl y).1).testBit c.toNat = true := Sub.orr _ _ _ this.2
      split
      · exact ⟨this.1, bgS_sub _ _ _ hb⟩
      · exact ⟨this.1, hb⟩
    · have hik : i = k := Nat.le_antisymm h1.le q
      subst hik
      have hn := Dx.null hcl hok h1 rfl (ho y (by simp))
      rw [bg2, if_pos hn]
      exact ih2 hij c hc (fun z hz => ho z (by simp [hz])) _
end
end Go.Am
namespace Go.Am
open Go Go.Proofs
theorem index_sets {σ : St} {F : List Nat} {z : Bool} {i : Nat} (h : i < F.length) : indexK σ 1 (.d (.slc z (setsR F))) (.d (.int .i64 (i : Int))) = .val (.d (.vptr [slD (bitsI (F.getD i 0))] 0)) σ [] [] := by
  rw [indexK_d]; exact indexD_nat (by simp [setsR, h]) rfl
theorem len_sets {σ : St} {F : List Nat} {z : Bool} : sliceLen σ (.d (.slc z (setsR F))) = some F.length := by simp [sliceLen, setsR_len]
end Go.Am

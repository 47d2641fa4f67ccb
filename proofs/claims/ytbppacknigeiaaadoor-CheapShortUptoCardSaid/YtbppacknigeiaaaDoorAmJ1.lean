/- Part J1 of a proof that runs a program's calls on a small machine whose values bear no addresses: no conditions. -/
import Derived.Test.YtbppacknigeiaaaDoorAmX1
import Derived.Test.YtbppacknigeiaaaDoorAmH2
import Derived.Test.YtbppacknigeiaaaDoorAmT2
import Derived.Test.YtbppacknigeiaaaDoorAmV0
import Derived.Test.YtbppacknigeiaaaDoorAmU1
set_option autoImplicit false
set_option linter.unusedSimpArgs false
set_option linter.unusedVariables false
set_option linter.unusedSectionVars false
namespace Go.Am
open Go
def jac (bs : List Ex) (K : List (Option (List Int))) : List (Option (List Int)) := bs.map fun y => shortE (kF K) y
def jacN (bs : List Ex) : Nat → List (Option (List Int))
  | 0 => K0 bs.length
  | k + 1 => jac bs (jacN bs k)
theorem jac_at {bs : List Ex} {K : List (Option (List Int))} {n : Nat} {y : Ex} (h : bs[n]? = some y) : kF (jac bs K) n = shortE (kF K) y := by
  unfold kF jac
  rw [List.getD_eq_getElem?_getD, List.getElem?_map, h]; rfl
theorem jac_no {bs : List Ex} {K : List (Option (List Int))} {n : Nat} (h : bs[n]? = none) : kF (jac bs K) n = none := by
  unfold kF jac
  rw [List.getD_eq_getElem?_getD, List.getElem?_map, h]; rfl
theorem jacN_len (bs : List Ex) : ∀ k, (jacN bs k).length = bs.length
  | 0 => by simp [jacN, K0]
  | k + 1 => by simp [jacN, jac]
theorem jacN_ok {bs : List Ex} {t : Int} (hok : ∀ y ∈ bs, okE t bs.length y) (ht : t ≤ 64) : ∀ k, KOk bs (jacN bs k)
  | 0 => K0_ok bs
  | k + 1 => by
    have h := jacN_ok hok ht k
    refine ⟨jacN_len bs (k + 1), fun n s hs => ?_⟩
    cases hy : bs[n]? with
    | none => rw [jacN, jac_no hy] at hs; cases hs
    | some y =>
      rw [jacN, jac_at hy] at hs
      obtain ⟨p1, p2, p3⟩ := short_ok h.ok ht h.lt y (hok y (List.mem_of_getElem? hy)) s hs
      exact ⟨p1, p2, fun z hz => by cases hz; exact p3⟩
theorem lexLt_anti : ∀ {a b : List Int}, a.length = b.length → lexLt a b = false → lexLt b a = false → a = b
  | [], [], _, _, _ => rfl
  | x :: a, y :: b, hl, h1, h2 => by
    rw [lexLt] at h1 h2
    split at h1
    · cases h1
    · rename_i c1
      rw [if_neg c1] at h2
      split at h1
      · rename_i c2; rw [if_pos c2] at h2; cases h2
      · rename_i c2
        rw [if_neg c2] at h2
        have : x = y := by omega
        rw [this, lexLt_anti (by simpa using hl) h1 h2]
theorem Ge.anti {a b : List Int} (h : Ge a b) (k : Ge b a) : a = b := by
  have h1 := h.len
  have h2 := k.len
  have hl : a.length = b.length := by omega
  unfold Ge lessP at h k
  rw [if_pos hl] at h
  rw [if_pos hl.symm] at k
  exact lexLt_anti hl h k
def BegW (q : Int → Bool) : Ex ⊕ List Ex → Nat → Prop
  | .inl x, n => Beg q x n
  | .inr xs, n => ∃ pre y post, xs = pre ++ y :: post ∧ (∀ z ∈ pre, canE false q z = true) ∧ Beg q y n
theorem least_via {bs : List Ex} {q : Int → Bool} {t : Int} {r : Nat} {F : Nat → Option (List Int)} (hcl : ∀ (n : Int) (y : Ex), 0 ≤ n → bs[n.toNat]? = some y → canE false q y = true → q n = true) (hok : ∀ y ∈ bs, okE t r y) {l : List Int} {w : Ex ⊕ List Ex} {i j : Nat} (h : Dx bs l w i j) : j ≤ l.length → j - i ≤ 256 →
    (match w with | .inl x => okE t r x | .inr xs => ∀ x ∈ xs, okE t r x) →
    (∀ (n i' j' : Nat) (y : Ex), bs[n]? = some y → Dx bs l (.inl y) i' j' → j' ≤ l.length → (j' - i' < j - i ∨ (i' = i ∧ j' = j ∧ BegW q w n)) → ∃ o, F n = some o ∧ Ge (wd l i' j') o) →
    match w with
    | .inl x => ∃ s, shortE F x = some s ∧ Ge (wd l i j) s
    | .inr xs => ∃ s, shortS F xs [] = some s ∧ Ge (wd l i j) s := by
  induction h with
  | @tok x i h1 h2 =>
    intro hj _ _ _
    refine ⟨[x.num], by rw [shortE_eq, if_pos h1], ?_⟩
    have : wd l i (i + 1) = [x.num] := by
      unfold wd
      obtain ⟨hi, he⟩ := List.getElem?_eq_some_iff.1 h2
      rw [List.drop_eq_getElem_cons hi, he, show i + 1 - i = 1 by omega]; rfl
    rw [this]; exact Ge.refl _
  | @call x y i j h1 h2 h3 ih =>
    intro hj hd ho hP
    obtain ⟨o, ho, hg⟩ := hP _ i j y h2 h3 hj (.inr ⟨rfl, rfl, .call h1⟩)
    exact ⟨o, by rw [shortE_eq, if_neg (by omega), if_pos h1]; exact ho, hg⟩
  | @alt x y i j h1 h2 _ ih =>
    intro hj hd ho hP
    dsimp only at ho
    obtain ⟨s, hs, hg⟩ := ih hj hd (ho.sub h2) fun n i' j' z hz hd hl hh => hP n i' j' z hz hd hl (hh.imp id fun ⟨a, b, c⟩ => ⟨a, b, .sub (by omega) h2 c⟩)
    obtain ⟨r, hr, hg2⟩ := (shortA_best F x.l none).2 y h2 s hs
    exact ⟨r, by rw [shortE_eq, if_neg (by omega), if_neg (by omega), if_neg (by omega), if_pos h1]; exact hr, hg.trans hg2⟩
  | @opt0 x i h1 => intro _ _ _ _; exact ⟨[], by rw [shortE_eq, if_neg (by omega), if_neg (by omega), if_neg (by omega), if_neg (by omega)], Ge.nil _⟩
  | opt1 h1 => intro _ _ _ _; exact ⟨[], by rw [shortE_eq, if_neg (by omega), if_neg (by omega), if_neg (by omega), if_neg (by omega)], Ge.nil _⟩
  | star0 h1 => intro _ _ _ _; exact ⟨[], by rw [shortE_eq, if_neg (by omega), if_neg (by omega), if_neg (by omega), if_neg (by omega)], Ge.nil _⟩
  | star1 h1 => intro _ _ _ _; exact ⟨[], by rw [shortE_eq, if_neg (by omega), if_neg (by omega), if_neg (by omega), if_neg (by omega)], Ge.nil _⟩
  | @seq x i j h1 _ ih =>
    intro hj hd ho hP
    dsimp only at ho
    by_cases k3 : x.kind = 3
    · obtain ⟨s, hs, hg⟩ := ih hj hd (fun y hy => ho.sub hy) fun n i' j' z hz hd hl hh => hP n i' j' z hz hd hl (hh.imp id fun ⟨a, b, pre, y, post, c1, c2, c3⟩ => ⟨a, b, .seq c1 c2 c3⟩)
      exact ⟨s, by rw [shortE_eq, if_neg h1.1, if_neg h1.2.1, if_pos k3]; exact hs, hg⟩
    · exact ⟨[], by rw [shortE_eq, if_neg h1.1, if_neg h1.2.1, if_neg k3, if_neg h1.2.2.1], Ge.nil _⟩
  | @nil i => intro _ _ _ _; exact ⟨[], by rw [shortS], Ge.nil _⟩
  | @cons y rr i k j h1 h2 ih1 ih2 =>
    intro hj hd ho hP
    dsimp only at ho
    have a := h1.le
    have b := h2.le
    obtain ⟨s1, e1, g1⟩ := ih1 (by omega) (by omega) (ho y (by simp)) fun n i' j' z hz hd hl hh => hP n i' j' z hz hd hl (by
      rcases hh with q | ⟨q1, q2, q3⟩
      · exact .inl (by omega)
      · by_cases hk : k = j
        · exact .inr ⟨q1, by omega, [], y, rr, rfl, by simp, q3⟩
        · exact .inl (by omega))
    obtain ⟨s2, e2, g2⟩ := ih2 hj (by omega) (fun z hz => ho z (by simp [hz])) fun n i' j' z hz hd hl hh => hP n i' j' z hz hd hl (by
      rcases hh with q | ⟨q1, q2, q3⟩
      · exact .inl (by omega)
      · by_cases hk : i = k
        · subst hk
          have hn := Dx.null hcl hok h1 rfl (ho y (by simp))
          obtain ⟨pre, x, post, c1, c2, c3⟩ := q3
          refine .inr ⟨q1, q2, y :: pre, x, post, by rw [c1]; rfl, fun z hz => ?_, c3⟩
          rcases List.mem_cons.1 hz with rfl | hz
          · exact hn
          · exact c2 z hz
        · exact .inl (by omega))
    have l1 := g1.len
    have l2 := g2.len
    have w1 := wd_len (l := l) (i := i) (j := k)
    have w2 := wd_len (l := l) (i := k) (j := j)
    refine ⟨s1 ++ s2, ?_, by rw [wd_app a b]; exact g1.app g2⟩
    rw [shortS, e1]
    simp only [List.length_nil, Nat.zero_add, List.nil_append]
    rw [if_neg (by omega)]
    exact shortS_pre F rr s1 (by omega) s2 e2 (by omega)
section
variable {bs : List Ex} {q : Int → Bool} {t : Int} {rk : Nat → Nat}
def keyLt (rk : Nat → Nat) (E : Nat → Option (List Int)) (n m : Nat) : Bool := match E n, E m with
  | some a, some b => decide (a.length < b.length ∨ (a.length = b.length ∧ rk n < rk m))
  | _, _ => false
theorem keyLt_trans {E : Nat → Option (List Int)} {a b c : Nat} (h : keyLt rk E a b = true) (k : keyLt rk E b c = true) : keyLt rk E a c = true := by
  unfold keyLt at *
  cases ha : E a with
  | none => rw [ha] at h; simp at h
  | some x =>
    cases hb : E b with
    | none => rw [hb] at k; simp at k
    | some y =>
      cases hc : E c with
      | none => rw [hb, hc] at k; simp at k
      | some z =>
        rw [ha, hb] at h; rw [hb, hc] at k
        simp only [decide_eq_true_eq] at *
        omega
theorem keyLt_irrefl {E : Nat → Option (List Int)} (a : Nat) : keyLt rk E a a = false := by
  unfold keyLt
  cases E a with
  | none => rfl
  | some x => simp
def placeOf (rk : Nat → Nat) (E : Nat → Option (List Int)) (N m : Nat) : Nat := (List.range N).countP fun n => keyLt rk E n m
theorem place_lt {E : Nat → Option (List Int)} {N n m : Nat} (hn : n < N) (h : keyLt rk E n m = true) : placeOf rk E N n < placeOf rk E N m :=
  countP_lt (fun x _ hx => keyLt_trans hx h) ⟨n, List.mem_range.2 hn, h, keyLt_irrefl n⟩
theorem place_le {E : Nat → Option (List Int)} {N m : Nat} (hm : m < N) : placeOf rk E N m < N := by
  have h : placeOf rk E N m < (List.range N).countP fun _ => true := countP_lt (fun _ _ _ => rfl) ⟨m, List.mem_range.2 hm, rfl, keyLt_irrefl m⟩
  rw [List.countP_true, List.length_range] at h; exact h
theorem jac_is (hok : ∀ y ∈ bs, okE t bs.length y) (ht : t ≤ 64) (hcl : ∀ (n : Int) (y : Ex), 0 ≤ n → bs[n.toNat]? = some y → canE false q y = true → q n = true)
    (hrk : ∀ (n m : Nat) (y : Ex), bs[n]? = some y → Beg q y m → rk m < rk n) (k : Nat) (hk : bs.length ≤ k) (m : Nat) : kF (jacN bs k) m = kF (shEnd bs) m := by
  obtain ⟨e1, e2⟩ := shEnd_ok hok ht
  have snd : ∀ k m s, kF (jacN bs k) m = some s → ∃ o, kF (shEnd bs) m = some o ∧ Ge s o := fun k m s hs => by
    have hj := jacN_ok hok ht k
    have hm := hj.lt m s hs
    obtain ⟨p1, p2, p3⟩ := hj.ok m s hs
    have hy : bs[m]? = some bs[m] := List.getElem?_eq_getElem hm
    obtain ⟨r, hr, hg⟩ := short_least e2 (p3 _ hy) (Nat.le_refl _) (by omega)
    have hw : wd s 0 s.length = s := by simp [wd]
    rw [hw] at hg
    obtain ⟨o, ho, hg2⟩ := e2 m _ hy r hr
    exact ⟨o, ho, hg.trans hg2⟩
  have cpl : ∀ d m o, placeOf rk (kF (shEnd bs)) bs.length m < d → kF (shEnd bs) m = some o → ∀ k, placeOf rk (kF (shEnd bs)) bs.length m < k → kF (jacN bs k) m = some o := by
    intro d
    induction d with
    | zero => intro m o h; omega
    | succ d ih =>
      intro m o hd ho k hk
      obtain ⟨k, rfl⟩ : ∃ k', k = k' + 1 := ⟨k - 1, by omega⟩
      have hm := e1.lt m o ho
      have hy : bs[m]? = some bs[m] := List.getElem?_eq_getElem hm
      obtain ⟨p1, p2, p3⟩ := e1.ok m o ho
      have hw : wd o 0 o.length = o := by simp [wd]
      obtain ⟨s, hs, hg⟩ := least_via (F := kF (jacN bs k)) hcl hok (p3 _ hy) (Nat.le_refl _) (by omega) (hok _ (List.mem_of_getElem? hy)) fun n i' j' z hz hdz hl hh => by
        obtain ⟨r, hr, hg⟩ := short_least e2 hdz hl (by rcases hh with q | ⟨q1, q2, -⟩ <;> omega)
        obtain ⟨v, hv, hg2⟩ := e2 n z hz r hr
        have hgv := hg.trans hg2
        have hlv := hgv.len
        have hw2 := wd_len (l := o) (i := i') (j := j')
        have hkey : keyLt rk (kF (shEnd bs)) n m = true := by
          unfold keyLt; rw [hv, ho]
          simp only [decide_eq_true_eq]
          rcases hh with q | ⟨q1, q2, q3⟩
          · left; omega
          · have := hrk m n _ hy q3
            omega
        have hnl := e1.lt n v hv
        have hpl := place_lt (N := bs.length) hnl hkey
        exact ⟨v, ih n v (by omega) hv k (by omega), hgv⟩
      rw [hw] at hg
      have h3 : kF (jacN bs (k + 1)) m = some s := by rw [jacN, jac_at hy]; exact hs
      obtain ⟨o', ho', hg3⟩ := snd (k + 1) m s h3
      rw [ho] at ho'; cases ho'
      rw [h3, Ge.anti hg3 hg]
  cases ho : kF (shEnd bs) m with
  | some o =>
    have hm := e1.lt m o ho
    exact cpl _ m o (Nat.lt_succ_self _) ho k (Nat.lt_of_lt_of_le (place_le hm) hk)
  | none =>
    cases hs : kF (jacN bs k) m with
    | none => rfl
    | some s =>
      obtain ⟨o, h1, -⟩ := snd k m s hs
      rw [ho] at h1; cases h1
end
end Go.Am
namespace Go.Am
open Go Go.Proofs
variable {fz : Nat → Md}
def lessO : Option (List Int) → Option (List Int) → Bool
  | none, _ => false
  | some _, none => true
  | some a, some b => lessP a b
def sA (o : Option (List Int)) (z : Bool) : A := .agg [.d (.bool o.isSome), .d (.slc z (intsD (o.getD [])))]
set_option maxHeartbeats 4000000 in
theorem lessO_c (h101 : fz 101 = .cut) (a b : Option (List Int)) (z z' : Bool) (ha : (a.getD []).length < 1000000000) (σ : St) : CallsTo (XX fz) (.func 101 []) [sA a z, sA b z'] σ (.d (.bool (lessO a b))) σ [] := by
  refine CallsTo.cut0 h101 fn101 (by simp) rfl ?_
  simp only [Tryd.f101, Option.getD_some]
  have n0 : σ.n ≠ σ.n + 1 := by omega
  cases a with
  | none =>
    simp only [go_sem, ↓reduceIte, Int.reduceEq, Nat.reduceBEq, Int.reduceBEq, Int.reduceBNe, Int.reduceLT, Int.reduceLE, Nat.reduceAdd, Nat.reducePow, Nat.reduceEqDiff, Nat.reduceLT, Nat.reduceLeDiff, Nat.reduceMul, Nat.reduceSub, sA, Option.isSome_none, Option.getD_none]
    rfl
  | some a =>
  cases b with
  | none =>
    simp only [go_sem, ↓reduceIte, Int.reduceEq, Nat.reduceBEq, Int.reduceBEq, Int.reduceBNe, Int.reduceLT, Int.reduceLE, Nat.reduceAdd, Nat.reducePow, Nat.reduceEqDiff, Nat.reduceLT, Nat.reduceLeDiff, Nat.reduceMul, Nat.reduceSub, sA, Option.isSome_none, Option.isSome_some, Option.getD_none]
    rfl
  | some b =>
  rw [Option.getD_some] at ha
  show Ev _ _ _ _ _ _ _ _ _ (RetQ _ _ fun x _ W1 => x = A.d (.bool (lessP a b)) ∧ W1 = [])
  unfold lessP
  simp only [go_sem, ↓reduceIte, Int.reduceEq, Nat.reduceBEq, Int.reduceBEq, Int.reduceBNe, Int.reduceLT, Int.reduceLE, Nat.reduceAdd, Nat.reducePow, Nat.reduceEqDiff, Nat.reduceLT, Nat.reduceLeDiff, Nat.reduceMul, Nat.reduceSub, sA, Option.isSome_some, Option.getD_some, len_ints]
  by_cases hl : a.length = b.length
  · have c : ((a.length : Int) != (b.length : Int)) = false := by rw [hl]; simp
    rw [if_pos hl]
    simp only [go_sem, ↓reduceIte, Int.reduceEq, Nat.reduceBEq, Int.reduceBEq, Int.reduceBNe, Int.reduceLT, Int.reduceLE, Nat.reduceAdd, Nat.reducePow, Nat.reduceEqDiff, Nat.reduceLT, Nat.reduceLeDiff, Nat.reduceMul, Nat.reduceSub, c]
    refine Ev.loop_ind (fun m tm τ W => ∃ i : Nat, m = a.length - i ∧ i ≤ a.length ∧ W = [] ∧ τ.get σ.n = .cells [.d (.bool true), .d (.slc z (intsD a))] ∧ τ.get (σ.n + 1) = .cells [.d (.bool true), .d (.slc z' (intsD b))] ∧ lexLt (a.drop i) (b.drop i) = lexLt a b ∧
      tm.at 2 = .ptr σ.n 0 ∧ tm.at 3 = .ptr (σ.n + 1) 0 ∧ tm.at 5 = .d (.int .i64 i)) ?_ a.length _ _ _ ⟨0, rfl, by omega, rfl, by simp only [go_sem, ↓reduceIte, Int.reduceEq, Nat.reduceBEq, Int.reduceBEq, Int.reduceBNe, Int.reduceLT, Int.reduceLE, Nat.reduceAdd, Nat.reducePow, Nat.reduceEqDiff, Nat.reduceLT, Nat.reduceLeDiff, Nat.reduceMul, Nat.reduceSub], by simp only [go_sem, ↓reduceIte, Int.reduceEq, Nat.reduceBEq, Int.reduceBEq, Int.reduceBNe, Int.reduceLT, Int.reduceLE, Nat.reduceAdd, Nat.reducePow, Nat.reduceEqDiff, Nat.reduceLT, Nat.reduceLeDiff, Nat.reduceMul, Nat.reduceSub], rfl, ?_, ?_, ?_⟩
    · rintro m tm τ W ⟨i, rfl, hi, rfl, g0, g1, he, t2, t3, t5⟩ ih
      by_cases hia : i < a.length
      · have hib : i < b.length := by omega
        rw [List.drop_eq_getElem_cons hia, List.drop_eq_getElem_cons hib, lexLt] at he
        cases hne : (a[i] != b[i]) with
        | true =>
          have hne' : a[i] ≠ b[i] := by simpa using hne
          simp only [go_sem, ↓reduceIte, Int.reduceEq, Nat.reduceBEq, Int.reduceBEq, Int.reduceBNe, Int.reduceLT, Int.reduceLE, Nat.reduceAdd, Nat.reducePow, Nat.reduceEqDiff, Nat.reduceLT, Nat.reduceLeDiff, Nat.reduceMul, Nat.reduceSub, t2, t3, t5, g0, g1, len_ints, dec_lt' hia, index_ints hia, index_ints hib, hne]
          refine ⟨drawOk_rel [] [] rfl (by kernel_rfl) rfl (by simp), drawOk_rel [] [] rfl (by kernel_rfl) rfl (by simp), ?_⟩
          rw [← he]
          by_cases hlt : a[i] < b[i]
          · rw [if_pos hlt, decide_eq_true hlt]
          · rw [if_neg hlt, decide_eq_false hlt, if_pos (by omega)]
        | false =>
          have heq : a[i] = b[i] := by simpa using hne
          rw [if_neg (by omega), if_neg (by omega)] at he
          simp only [go_sem, ↓reduceIte, Int.reduceEq, Nat.reduceBEq, Int.reduceBEq, Int.reduceBNe, Int.reduceLT, Int.reduceLE, Nat.reduceAdd, Nat.reducePow, Nat.reduceEqDiff, Nat.reduceLT, Nat.reduceLeDiff, Nat.reduceMul, Nat.reduceSub, t2, t3, t5, g0, g1, len_ints, dec_lt' hia, index_ints hia, index_ints hib, hne, wrap_succ' hia ha]
          refine ⟨drawOk_rel [] [] rfl (by kernel_rfl) rfl (by simp), ?_⟩
          refine ih _ _ _ _ (by omega) ⟨i + 1, rfl, hia, rfl, g0, g1, he, ?_, ?_, ?_⟩
          all_goals (simp only [go_sem, ↓reduceIte, Int.reduceEq, Nat.reduceBEq, Int.reduceBEq, Int.reduceBNe, Int.reduceLT, Int.reduceLE, Nat.reduceAdd, Nat.reducePow, Nat.reduceEqDiff, Nat.reduceLT, Nat.reduceLeDiff, Nat.reduceMul, Nat.reduceSub, t2, t3])
      · rw [List.drop_eq_nil_of_le (by omega), List.drop_eq_nil_of_le (by omega), lexLt] at he
        · simp only [go_sem, ↓reduceIte, Int.reduceEq, Nat.reduceBEq, Int.reduceBEq, Int.reduceBNe, Int.reduceLT, Int.reduceLE, Nat.reduceAdd, Nat.reducePow, Nat.reduceEqDiff, Nat.reduceLT, Nat.reduceLeDiff, Nat.reduceMul, Nat.reduceSub, t2, t3, t5, g0, g1, len_ints, dec_ge' hia, ← he]
        · simp
    all_goals first | rfl | (simp only [go_sem, ↓reduceIte, Int.reduceEq, Nat.reduceBEq, Int.reduceBEq, Int.reduceBNe, Int.reduceLT, Int.reduceLE, Nat.reduceAdd, Nat.reducePow, Nat.reduceEqDiff, Nat.reduceLT, Nat.reduceLeDiff, Nat.reduceMul, Nat.reduceSub]; done) | (simp only [go_sem, ↓reduceIte, Int.reduceEq, Nat.reduceBEq, Int.reduceBEq, Int.reduceBNe, Int.reduceLT, Int.reduceLE, Nat.reduceAdd, Nat.reducePow, Nat.reduceEqDiff, Nat.reduceLT, Nat.reduceLeDiff, Nat.reduceMul, Nat.reduceSub]; rfl)
  · have c : ((a.length : Int) != (b.length : Int)) = true := by rw [bne_iff_ne]; omega
    rw [if_neg hl]
    simp only [go_sem, ↓reduceIte, Int.reduceEq, Nat.reduceBEq, Int.reduceBEq, Int.reduceBNe, Int.reduceLT, Int.reduceLE, Nat.reduceAdd, Nat.reducePow, Nat.reduceEqDiff, Nat.reduceLT, Nat.reduceLeDiff, Nat.reduceMul, Nat.reduceSub, c, len_ints]
    have : decide ((a.length : Int) < (b.length : Int)) = decide (a.length < b.length) := by simp
    rw [this]
def eqI (a b : List Int) : Bool := decide (a = b)
set_option maxHeartbeats 4000000 in
theorem eqInts_c (h21 : fz 21 = .cut) (z z' : Bool) (a b : List Int) (ha : a.length < 1000000000) (σ : St) : CallsTo (XX fz) (.func 21 []) [.d (.slc z (intsD a)), .d (.slc z' (intsD b))] σ (.d (.bool (eqI a b))) σ [] := by
  refine CallsTo.cut0 h21 fn21 (by simp) rfl ?_
  simp only [Tryd.f21, Option.getD_some]
  by_cases hl : a.length = b.length
  · have c : ((a.length : Int) != (b.length : Int)) = false := by rw [hl]; simp
    simp only [go_sem, ↓reduceIte, Int.reduceEq, Nat.reduceBEq, Int.reduceBEq, Int.reduceBNe, Int.reduceLT, Int.reduceLE, Nat.reduceAdd, Nat.reducePow, Nat.reduceEqDiff, Nat.reduceLT, Nat.reduceLeDiff, Nat.reduceMul, Nat.reduceSub, len_ints, c]
    refine Ev.loop_ind (fun m tm τ W => ∃ i : Nat, m = a.length - i ∧ i ≤ a.length ∧ W = [] ∧ eqI (a.drop i) (b.drop i) = eqI a b ∧
      tm.at 0 = .d (.slc z (intsD a)) ∧ tm.at 1 = .d (.slc z' (intsD b)) ∧ tm.at 5 = .d (.int .i64 i)) ?_ a.length _ _ _ ⟨0, rfl, by omega, rfl, rfl, ?_, ?_, ?_⟩
    · rintro m tm τ W ⟨i, rfl, hi, rfl, he, t0, t1, t5⟩ ih
      by_cases hia : i < a.length
      · have hib : i < b.length := by omega
        rw [List.drop_eq_getElem_cons hia, List.drop_eq_getElem_cons hib] at he
        cases hne : (a[i] != b[i]) with
        | true =>
          have hne' : a[i] ≠ b[i] := by simpa using hne
          have : eqI (a[i] :: a.drop (i + 1)) (b[i] :: b.drop (i + 1)) = false := decide_eq_false fun q => hne' (by injection q)
          rw [this] at he
          simp only [go_sem, ↓reduceIte, Int.reduceEq, Nat.reduceBEq, Int.reduceBEq, Int.reduceBNe, Int.reduceLT, Int.reduceLE, Nat.reduceAdd, Nat.reducePow, Nat.reduceEqDiff, Nat.reduceLT, Nat.reduceLeDiff, Nat.reduceMul, Nat.reduceSub, t0, t1, t5, len_ints, dec_lt' hia, index_ints hia, index_ints hib, hne, ← he]
          exact drawOk_rel [] [] rfl (by kernel_rfl) rfl (by simp)
        | false =>
          have heq : a[i] = b[i] := by simpa using hne
          have : eqI (a[i] :: a.drop (i + 1)) (b[i] :: b.drop (i + 1)) = eqI (a.drop (i + 1)) (b.drop (i + 1)) := by
            unfold eqI
            rw [Bool.eq_iff_iff, decide_eq_true_iff, decide_eq_true_iff, heq]
            exact ⟨fun q => by injection q, fun q => by rw [q]⟩
          rw [this] at he
          simp only [go_sem, ↓reduceIte, Int.reduceEq, Nat.reduceBEq, Int.reduceBEq, Int.reduceBNe, Int.reduceLT, Int.reduceLE, Nat.reduceAdd, Nat.reducePow, Nat.reduceEqDiff, Nat.reduceLT, Nat.reduceLeDiff, Nat.reduceMul, Nat.reduceSub, t0, t1, t5, len_ints, dec_lt' hia, index_ints hia, index_ints hib, hne, wrap_succ' hia ha]
          refine ⟨drawOk_rel [] [] rfl (by kernel_rfl) rfl (by simp), ?_⟩
          refine ih _ _ _ _ (by omega) ⟨i + 1, rfl, hia, rfl, he, ?_, ?_, ?_⟩
          all_goals (simp only [go_sem, ↓reduceIte, Int.reduceEq, Nat.reduceBEq, Int.reduceBEq, Int.reduceBNe, Int.reduceLT, Int.reduceLE, Nat.reduceAdd, Nat.reducePow, Nat.reduceEqDiff, Nat.reduceLT, Nat.reduceLeDiff, Nat.reduceMul, Nat.reduceSub, t0, t1])
      · rw [List.drop_eq_nil_of_le (by omega), List.drop_eq_nil_of_le (by omega)] at he
        simp only [go_sem, ↓reduceIte, Int.reduceEq, Nat.reduceBEq, Int.reduceBEq, Int.reduceBNe, Int.reduceLT, Int.reduceLE, Nat.reduceAdd, Nat.reducePow, Nat.reduceEqDiff, Nat.reduceLT, Nat.reduceLeDiff, Nat.reduceMul, Nat.reduceSub, t0, t1, t5, len_ints, dec_ge' hia, ← he]
        rfl
    all_goals first | rfl | (simp only [go_sem, ↓reduceIte, Int.reduceEq, Nat.reduceBEq, Int.reduceBEq, Int.reduceBNe, Int.reduceLT, Int.reduceLE, Nat.reduceAdd, Nat.reducePow, Nat.reduceEqDiff, Nat.reduceLT, Nat.reduceLeDiff, Nat.reduceMul, Nat.reduceSub]; done) | (simp only [go_sem, ↓reduceIte, Int.reduceEq, Nat.reduceBEq, Int.reduceBEq, Int.reduceBNe, Int.reduceLT, Int.reduceLE, Nat.reduceAdd, Nat.reducePow, Nat.reduceEqDiff, Nat.reduceLT, Nat.reduceLeDiff, Nat.reduceMul, Nat.reduceSub]; rfl)
  · have c : ((a.length : Int) != (b.length : Int)) = true := by rw [bne_iff_ne]; omega
    have : eqI a b = false := decide_eq_false fun q => hl (by rw [q])
    simp only [go_sem, ↓reduceIte, Int.reduceEq, Nat.reduceBEq, Int.reduceBEq, Int.reduceBNe, Int.reduceLT, Int.reduceLE, Nat.reduceAdd, Nat.reducePow, Nat.reduceEqDiff, Nat.reduceLT, Nat.reduceLeDiff, Nat.reduceMul, Nat.reduceSub, len_ints, c, this]
end Go.Am
namespace Go.Am
open Go Go.Proofs
variable {fz : Nat → Md}
structure SRow (σ : St) (k : Nat) (K : List (Option (List Int))) : Prop where
  ex : ∃ cs, σ.get k = .cells cs ∧ cs.length = K.length * 2 ∧ ∀ (i : Nat) (o : Option (List Int)), K[i]? = some o → ∃ z, (cs.drop (i * 2)).take 2 = [.d (.bool o.isSome), .d (.slc z (intsD (o.getD [])))]
theorem SRow.stay {σ τ : St} {k : Nat} {K : List (Option (List Int))} (h : SRow σ k K) (hg : τ.get k = σ.get k) : SRow τ k K := by
  obtain ⟨cs, h1, h2, h3⟩ := h.ex
  exact ⟨cs, by rw [hg]; exact h1, h2, h3⟩
theorem CallsTo.iceZ {X : X} {f : Nat} {cap args : List A} {F : AFn} {σ : St} {R : Bool → A} (hz : X.fz f = .ice) (hF : X.fn f = some F) (hl : args.length + cap.length ≤ F.nt)
    (e : Ev X f F.nt none σ.n [.code F.body] (initTm (args ++ cap) 0 .nil) σ [] (RetQ X F.results fun a σ1 W1 => ∃ z, freezeV σ1 σ.n fzDepth a = some (R z) ∧ W1 = [])) : ∃ z, CallsTo X (.func f cap) args σ (R z) σ [] := by
  obtain ⟨n, o, hn, hq⟩ := e
  cases o with
  | leave _ _ _ => exact hq.elim
  | ret tm σ1 W1 =>
    unfold RetQ at hq
    dsimp only at hq
    split at hq
    · rename_i l hl'
      obtain ⟨z, h, rfl⟩ := hq
      refine ⟨z, CallsTo.ofQ hF hl ⟨n, _, hn, ?_⟩⟩
      unfold RetQ; dsimp only; rw [hl']
      simp [leaveCall, hz, h, cutSt]
    · exact hq.elim
theorem shortA_step (F : Nat → Option (List Int)) (x : Ex) (l : List Ex) (best : Option (List Int)) : shortA F (x :: l) best = shortA F l (if lessO (shortE F x) best = true then shortE F x else best) := by
  rw [shortA]
  cases shortE F x with
  | none => rfl
  | some s =>
    cases best with
    | none => rfl
    | some b => rfl
set_option maxHeartbeats 16000000 in
theorem short83 (h83 : fz 83 = .ice) (h101 : fz 101 = .cut) {t : Int} (K : List (Option (List Int))) (hF : Len256 (kF K)) (ko : Nat) (x : Ex) (σ : St) (hx : SmallE x) (ho : okE t K.length x) (hs : SRow σ ko K) (hlt : ko < σ.n) :
    ∃ z, CallsTo (XX fz) (.func 83 []) [x.a, .row ko 0 K.length 2] σ (sA (shortE (kF K) x) z) σ [] := by
  refine CallsTo.iceZ h83 fn83 (by simp) ?_
  · simp only [Tryd.f83, Option.getD_some]
    rw [shortE_eq]
    have hlen := hx.len
    have m0 : ko ≠ σ.n := by omega
    have m1 : ko ≠ σ.n + 1 := by omega
    simp only [go_sem, ↓reduceIte, Int.reduceEq, Nat.reduceBEq, Int.reduceBEq, Int.reduceBNe, Int.reduceLT, Int.reduceLE, Nat.reduceAdd, Nat.reducePow, Nat.reduceEqDiff, Nat.reduceLT, Nat.reduceLeDiff, Nat.reduceMul, Nat.reduceSub, Ex.a]
    by_cases k1 : x.kind = 1
    · have e : (x.kind == 1) = true := by simpa using k1
      rw [if_pos k1]
      simp only [go_sem, ↓reduceIte, Int.reduceEq, Nat.reduceBEq, Int.reduceBEq, Int.reduceBNe, Int.reduceLT, Int.reduceLE, Nat.reduceAdd, Nat.reducePow, Nat.reduceEqDiff, Nat.reduceLT, Nat.reduceLeDiff, Nat.reduceMul, Nat.reduceSub, e, fzD0, fzD1]
      rw [freeze_row (cs := [.d (.int .i64 x.num)]) (ds := [.int .i64 x.num]) (by unfold fzDepth; omega) (by rw [St.get_set_ne (by omega)]; exact St.get_push_eq' (by simp only [St.n_push])) (by omega) (by simp) (by
        rw [List.take_of_length_le (by simp), freezeL_cons (by unfold fzDepth; omega), freeze_d, freezeL_nil]; rfl)]
      exact ⟨false, rfl⟩
    have e1 : (x.kind == 1) = false := by simpa using k1
    rw [if_neg k1]
    by_cases k2 : x.kind = 2
    · have e : (x.kind == 2) = true := by simpa using k2
      rw [if_pos k2]
      obtain ⟨c1, c2⟩ := ho.call k2
      obtain ⟨n, hn⟩ := Int.eq_ofNat_of_zero_le c1
      have hnl : n < K.length := by omega
      obtain ⟨cs, g1, g2, g3⟩ := hs.ex
      obtain ⟨z, hz⟩ := g3 n _ (List.getElem?_eq_getElem hnl)
      have hkF : kF K n = K[n] := by unfold kF; rw [List.getD_eq_getElem?_getD, List.getElem?_eq_getElem hnl]; rfl
      have ix := fun ρ : St => indexR_nat (σ := ρ) (k := ko) (off := 0) (s := 2) (cs := cs) hnl
      simp only [Nat.zero_add] at ix
      rw [hn, Int.toNat_natCast, hkF]
      simp only [go_sem, ↓reduceIte, Int.reduceEq, Nat.reduceBEq, Int.reduceBEq, Int.reduceBNe, Int.reduceLT, Int.reduceLE, Nat.reduceAdd, Nat.reducePow, Nat.reduceEqDiff, Nat.reduceLT, Nat.reduceLeDiff, Nat.reduceMul, Nat.reduceSub, e1, e, hn, m0, m1, g1, ix, hz]
      rw [if_pos (by omega)]
      simp only [go_sem, ↓reduceIte, Int.reduceEq, Nat.reduceBEq, Int.reduceBEq, Int.reduceBNe, Int.reduceLT, Int.reduceLE, Nat.reduceAdd, Nat.reducePow, Nat.reduceEqDiff, Nat.reduceLT, Nat.reduceLeDiff, Nat.reduceMul, Nat.reduceSub, fzD0, fzD1]
      exact ⟨z, rfl⟩
    have e2 : (x.kind == 2) = false := by simpa using k2
    rw [if_neg k2]
    by_cases k3 : x.kind = 3
    · have e : (x.kind == 3) = true := by simpa using k3
      rw [if_pos k3]
      simp only [go_sem, ↓reduceIte, Int.reduceEq, Nat.reduceBEq, Int.reduceBEq, Int.reduceBNe, Int.reduceLT, Int.reduceLE, Nat.reduceAdd, Nat.reducePow, Nat.reduceEqDiff, Nat.reduceLT, Nat.reduceLeDiff, Nat.reduceMul, Nat.reduceSub, e1, e2, e]
      refine Ev.loop_ind (fun k tm τ W => ∃ (i : Nat) (out : List Int) (a : A) (bs : List Nat), k = x.l.length - i ∧ i ≤ x.l.length ∧ W = [] ∧ σ.n + 3 ≤ τ.n ∧ τ.get ko = σ.get ko ∧ τ.get σ.n = .cells x.c ∧ τ.get (σ.n + 1) = .cells [.d (.bool false), .d (.slc true [])] ∧ τ.get (σ.n + 2) = .cells [.d (.bool true), a] ∧ RowAt 1 τ a (intsD out) bs ∧ (∀ k ∈ bs, σ.n + 3 ≤ k) ∧ out.length ≤ 256 ∧ shortS (kF K) (x.l.drop i) out = shortS (kF K) x.l [] ∧
        tm.at 1 = .row ko 0 K.length 2 ∧ tm.at 2 = .ptr σ.n 0 ∧ tm.at 4 = .ptr (σ.n + 1) 0 ∧ tm.at 5 = .ptr (σ.n + 2) 0 ∧ tm.at 6 = .d (.int .i64 i)) ?_ x.l.length _ _ _ ⟨0, [], .d (.slc true []), [], rfl, by omega, rfl, by simp only [St.n_set, St.n_push]; omega, ?_, by simp only [go_sem, ↓reduceIte, Int.reduceEq, Nat.reduceBEq, Int.reduceBEq, Int.reduceBNe, Int.reduceLT, Int.reduceLE, Nat.reduceAdd, Nat.reducePow, Nat.reduceEqDiff, Nat.reduceLT, Nat.reduceLeDiff, Nat.reduceMul, Nat.reduceSub], by simp only [go_sem, ↓reduceIte, Int.reduceEq, Nat.reduceBEq, Int.reduceBEq, Int.reduceBNe, Int.reduceLT, Int.reduceLE, Nat.reduceAdd, Nat.reducePow, Nat.reduceEqDiff, Nat.reduceLT, Nat.reduceLeDiff, Nat.reduceMul, Nat.reduceSub], by simp only [go_sem, ↓reduceIte, Int.reduceEq, Nat.reduceBEq, Int.reduceBEq, Int.reduceBNe, Int.reduceLT, Int.reduceLE, Nat.reduceAdd, Nat.reducePow, Nat.reduceEqDiff, Nat.reduceLT, Nat.reduceLeDiff, Nat.reduceMul, Nat.reduceSub], RowAt.nil, by simp, by simp, rfl, ?_, ?_, ?_, ?_, ?_⟩
      · rintro k tm τ W ⟨i, out, a, bs, rfl, hi, rfl, hn, gk, g0, g1, g2, hR, hbs, hol, he, t1, t2, t4, t5, t6⟩ ih
        by_cases hl : i < x.l.length
        · have hget : x.l[i]? = some x.l[i] := by simp [hl]
          have hmem : x.l[i] ∈ x.l := List.getElem_mem hl
          rw [List.drop_eq_getElem_cons hl, shortS] at he
          simp only [go_sem, ↓reduceIte, Int.reduceEq, Nat.reduceBEq, Int.reduceBEq, Int.reduceBNe, Int.reduceLT, Int.reduceLE, Nat.reduceAdd, Nat.reducePow, Nat.reduceEqDiff, Nat.reduceLT, Nat.reduceLeDiff, Nat.reduceMul, Nat.reduceSub, t1, t2, t4, t5, t6, g0, Ex.len_ld, dec_lt' hl, Ex.index_ld hget]
          obtain ⟨zy, hc⟩ := short83 h83 h101 K hF ko x.l[i] τ (hx.sub hmem) (ho.sub hmem) (hs.stay gk) (by omega)
          refine ⟨_, _, _, hc, ?_⟩
          have lz : low σ.n [τ.n] = [] := by rw [low_cons_ge (by omega)]; rfl
          have lz1 : low σ.n [σ.n + 1] = [] := by rw [low_cons_ge (by omega)]; rfl
          have lz2 : low σ.n [σ.n + 2] = [] := by rw [low_cons_ge (by omega)]; rfl
          have u2 : σ.n + 2 ≠ τ.n := by omega
          have u0 : σ.n ≠ τ.n := by omega
          have u1 : σ.n + 1 ≠ τ.n := by omega
          have uk : ko ≠ τ.n := by omega
          have hRl : sliceLen τ a = some out.length := by rw [hR.len, intsD_len]
          cases hy : shortE (kF K) x.l[i] with
          | none =>
            rw [hy] at he
            dsimp only at he
            simp only [go_sem, ↓reduceIte, Int.reduceEq, Nat.reduceBEq, Int.reduceBEq, Int.reduceBNe, Int.reduceLT, Int.reduceLE, Nat.reduceAdd, Nat.reducePow, Nat.reduceEqDiff, Nat.reduceLT, Nat.reduceLeDiff, Nat.reduceMul, Nat.reduceSub, sA, Option.isSome_none, Option.getD_none, t1, t2, t4, t5, t6, g1, u1, Ne.symm u1, lz, lz1, fzD0, fzD1]
            rw [← he]
            exact ⟨true, rfl⟩
          | some s =>
            have hsl := shortE_len hF _ _ hy
            rw [hy] at he
            dsimp only at he
            generalize hτ : (τ.push (.cells [.d (.bool false), .d (.slc true [])])).set τ.n (.cells [.d (.bool true), .d (.slc zy (intsD s))]) = τ1
            have n1 : τ1.n = τ.n + 1 := by rw [← hτ]; simp only [St.n_set, St.n_push]
            have o1 : ∀ j, j < τ.n → τ1.get j = τ.get j := fun j hj => by rw [← hτ, St.get_set_ne (by omega), St.get_push_ne hj]
            have y1 : τ1.get τ.n = .cells [.d (.bool true), .d (.slc zy (intsD s))] := by rw [← hτ, St.get_set_eq]
            have hR1 : RowAt 1 τ1 a (intsD out) bs := hR.stay (by omega) fun k hk => o1 k (hR.lt hk)
            have hRl1 : sliceLen τ1 a = some out.length := by rw [hR1.len, intsD_len]
            have q1 : τ1.get (σ.n + 1) = .cells [.d (.bool false), .d (.slc true [])] := by rw [o1 _ (by omega)]; exact g1
            have q2 : τ1.get (σ.n + 2) = .cells [.d (.bool true), a] := by rw [o1 _ (by omega)]; exact g2
            have hcel : a.cells = some [a] := hR.cells
            have hisc : a.isCell = true := hR.cell
            have hrf : a.refs = bs := hR.refs
            have hw : IntKind.i64.wrap ((out.length : Int) + (s.length : Int)) = (out.length : Int) + (s.length : Int) := wrap_small (by omega) (by omega)
            cases hc2 : decide ((out.length : Int) + (s.length : Int) > 256) with
            | true =>
              have hc' : out.length + s.length > 256 := by have : (out.length : Int) + (s.length : Int) > 256 := by simpa using hc2
                                                           omega
              rw [if_pos hc'] at he
              simp only [go_sem, ↓reduceIte, Int.reduceEq, Nat.reduceBEq, Int.reduceBEq, Int.reduceBNe, Int.reduceLT, Int.reduceLE, Nat.reduceAdd, Nat.reducePow, Nat.reduceEqDiff, Nat.reduceLT, Nat.reduceLeDiff, Nat.reduceMul, Nat.reduceSub, sA, Option.isSome_some, Option.getD_some, hτ, t1, t2, t4, t5, t6, q1, q2, y1, hRl1, hcel, hisc, len_ints, hw, hc2, lz, lz1, fzD0, fzD1]
              rw [← he]
              exact ⟨true, rfl⟩
            | false =>
              have hc' : ¬ out.length + s.length > 256 := by have : ¬ ((out.length : Int) + (s.length : Int) > 256) := by simpa using hc2
                                                             omega
              rw [if_neg hc'] at he
              have w2 : σ.n + 2 ≠ τ1.n := by omega
              have w1 : σ.n + 1 ≠ τ1.n := by omega
              have wy : τ.n ≠ τ1.n := by omega
              generalize hτ2 : τ1.push (.cells []) = τ2
              simp only [go_sem, ↓reduceIte, Int.reduceEq, Nat.reduceBEq, Int.reduceBEq, Int.reduceBNe, Int.reduceLT, Int.reduceLE, Nat.reduceAdd, Nat.reducePow, Nat.reduceEqDiff, Nat.reduceLT, Nat.reduceLeDiff, Nat.reduceMul, Nat.reduceSub, sA, Option.isSome_some, Option.getD_some, hτ, hτ2, t1, t2, t4, t5, t6, q1, q2, y1, hRl1, hcel, hisc, len_ints, hw, hc2, lz, lz1, w2, w1, wy, Ne.symm w2, Ne.symm w1, Ne.symm wy]
              have r2 : τ2.get (σ.n + 2) = .cells [.d (.bool true), a] := by rw [← hτ2, St.get_push_ne (by omega)]; exact q2
              have ry : τ2.get τ.n = .cells [.d (.bool true), .d (.slc zy (intsD s))] := by rw [← hτ2, St.get_push_ne (by omega)]; exact y1
              have re : τ2.get τ1.n = .cells [] := by rw [← hτ2, St.get_push_eq]
              have n2 : τ2.n = τ1.n + 1 := by rw [← hτ2, St.n_push]
              have hR2 : RowAt 1 τ2 a (intsD out) bs := hR1.stay (by omega) fun k hk => by rw [← hτ2, St.get_push_ne (hR1.lt hk)]
              have hE : RowAt 1 τ2 (.row τ1.n 0 0 1) [] [τ1.n] := ⟨by simp, .inr ⟨τ1.n, rfl, by rw [re]; rfl, by omega, rfl⟩⟩
              obtain ⟨a1, τ3, T1, bs1, happ1, hR3, hK1⟩ := hE.app (x := a) (ys := intsD out) (b := 8) hR2.sc hR2.len (intsD_one out) (by rw [intsD_len]; simp; omega) (by rw [intsD_len]; simp; omega)
              rw [List.nil_append] at hR3
              have hT1 : ∀ k ∈ T1, k = τ1.n ∨ τ2.n ≤ k := fun k hk => by
                rcases hK1.w k hk with h | h
                · simp at h; exact .inl h
                · exact .inr h
              have kp1 : ∀ k, k < τ1.n → τ3.get k = τ2.get k := fun k hk => hK1.same k (by omega) (by simp; omega)
              have r3y : τ3.get τ.n = .cells [.d (.bool true), .d (.slc zy (intsD s))] := (kp1 _ (by omega)).trans ry
              have hn3 := hK1.n
              obtain ⟨a2, τ4, T2, bs2, happ2, hR4, hK2⟩ := hR3.app (x := .d (.slc zy (intsD s))) (ys := intsD s) (b := 8) rfl (by simp [sliceLen]) (intsD_one s) (by rw [intsD_len, intsD_len]; omega) (by rw [intsD_len, intsD_len]; omega)
              have hb1 : ∀ k ∈ bs1, τ1.n ≤ k := fun k hk => by
                rcases hK1.o k hk with h | h
                · simp at h; omega
                · omega
              have kp2 : ∀ k, k < τ1.n → τ4.get k = τ2.get k := fun k hk => (hK2.same k (by omega) (fun h => by have := hb1 k h; omega)).trans (kp1 k hk)
              have r4 : τ4.get (σ.n + 2) = .cells [.d (.bool true), a] := (kp2 _ (by omega)).trans r2
              have hn4 := hK2.n
              have l1 : low σ.n T1 = [] := low_all fun k hk => by rcases hT1 k hk with h | h <;> omega
              have l2 : low σ.n T2 = [] := low_all fun k hk => by
                rcases hK2.w k hk with h | h
                · have := hb1 k h; omega
                · omega
              have hb2 : ∀ k ∈ bs2, τ1.n ≤ k := fun k hk => by
                rcases hK2.o k hk with h | h
                · exact hb1 k h
                · omega
              simp only [go_sem, ↓reduceIte, Int.reduceEq, Nat.reduceBEq, Int.reduceBEq, Int.reduceBNe, Int.reduceLT, Int.reduceLE, Nat.reduceAdd, Nat.reducePow, Nat.reduceEqDiff, Nat.reduceLT, Nat.reduceLeDiff, Nat.reduceMul, Nat.reduceSub, r2, ry, happ1, r3y, happ2, r4, hR4.cells, hR4.cell, hcel, hisc, t2, t5, t6, l1, l2, lz2, wrap_succ' hl hlen]
              have hmt : meets T1 [τ.n] = false := by
                unfold meets
                rw [List.any_eq_false]
                intro k hk
                have : k ≠ τ.n := by rcases hT1 k hk with h | h <;> omega
                simpa using this
              have hmn : meets T1 [] = false := by
                unfold meets
                rw [List.any_eq_false]
                intro k hk
                simp
              refine ⟨drawOk_rel [3, 6, 8] [(3, 4), (3, 5)] rfl (by kernel_rfl) rfl ?_, ?_⟩
              · intro p hp x hx hxi y hy hyi
                simp only [List.mem_cons, List.not_mem_nil, or_false] at hp hx hy
                rcases hp with rfl | rfl
                all_goals
                  rcases hx with rfl | rfl | rfl | rfl | rfl | rfl | rfl | rfl | rfl <;> (try (cases hxi; done)) <;>
                  rcases hy with rfl | rfl | rfl | rfl | rfl | rfl | rfl | rfl | rfl <;> (try (cases hyi; done)) <;> exact ⟨hmt, hmn⟩
              refine ih _ _ _ _ (by omega) ⟨i + 1, out ++ s, a2, bs2, rfl, hl, rfl, by simp only [St.n_set]; omega, ?_, ?_, ?_, ?_, ?_, ?_, ?_, he, ?_, ?_, ?_, ?_, ?_⟩
              · rw [St.get_set_ne (by omega), kp2 _ (by omega), ← hτ2, St.get_push_ne (by omega), o1 _ (by omega)]; exact gk
              · rw [St.get_set_ne (by omega), kp2 _ (by omega), ← hτ2, St.get_push_ne (by omega), o1 _ (by omega)]; exact g0
              · rw [St.get_set_ne (by omega), kp2 _ (by omega), ← hτ2, St.get_push_ne (by omega), o1 _ (by omega)]; exact g1
              · rw [St.get_set_eq]
              · rw [show intsD (out ++ s) = intsD out ++ intsD s by simp [intsD]]
                exact hR4.stay (by rw [St.n_set]; exact Nat.le_refl _) fun k hk => by rw [St.get_set_ne (by have := hb2 k hk; omega)]
              · intro k hk; have := hb2 k hk; omega
              · rw [List.length_append]; omega
              all_goals (simp only [go_sem, ↓reduceIte, Int.reduceEq, Nat.reduceBEq, Int.reduceBEq, Int.reduceBNe, Int.reduceLT, Int.reduceLE, Nat.reduceAdd, Nat.reducePow, Nat.reduceEqDiff, Nat.reduceLT, Nat.reduceLeDiff, Nat.reduceMul, Nat.reduceSub, t1, t2, t4, t5])
        · rw [List.drop_eq_nil_of_le (by omega), shortS] at he
          have lz1 : low σ.n [σ.n + 1] = [] := by rw [low_cons_ge (by omega)]; rfl
          simp only [go_sem, ↓reduceIte, Int.reduceEq, Nat.reduceBEq, Int.reduceBEq, Int.reduceBNe, Int.reduceLT, Int.reduceLE, Nat.reduceAdd, Nat.reducePow, Nat.reduceEqDiff, Nat.reduceLT, Nat.reduceLeDiff, Nat.reduceMul, Nat.reduceSub, t1, t2, t4, t5, t6, g0, g1, g2, Ex.len_ld, dec_ge' hl, lz1, hR.cells, hR.cell, fzD0, fzD1]
          rw [← he]
          have hR5 : RowAt 1 (τ.set (σ.n + 1) (.cells [.d (.bool true), a])) a (intsD out) bs := hR.stay (by rw [St.n_set]; exact Nat.le_refl _) fun k hk => by rw [St.get_set_ne (by have := hbs k hk; omega)]
          rcases hR5.freeze (lo := σ.n) (n := fzDepth - 1 - 1) (fun k hk => by have := hbs k hk; omega) (by rw [intsD_len]; unfold fzDepth; omega) with hf | ⟨k, -, hf⟩
          · rw [hf]; exact ⟨_, rfl⟩
          · rw [hf]; exact ⟨_, rfl⟩
      · have m2 : ko ≠ σ.n + 2 := by omega
        simp only [go_sem, ↓reduceIte, Int.reduceEq, Nat.reduceBEq, Int.reduceBEq, Int.reduceBNe, Int.reduceLT, Int.reduceLE, Nat.reduceAdd, Nat.reducePow, Nat.reduceEqDiff, Nat.reduceLT, Nat.reduceLeDiff, Nat.reduceMul, Nat.reduceSub, m0, m1, m2]
      all_goals first | rfl | (simp only [go_sem, ↓reduceIte, Int.reduceEq, Nat.reduceBEq, Int.reduceBEq, Int.reduceBNe, Int.reduceLT, Int.reduceLE, Nat.reduceAdd, Nat.reducePow, Nat.reduceEqDiff, Nat.reduceLT, Nat.reduceLeDiff, Nat.reduceMul, Nat.reduceSub]; done) | (simp only [go_sem, ↓reduceIte, Int.reduceEq, Nat.reduceBEq, Int.reduceBEq, Int.reduceBNe, Int.reduceLT, Int.reduceLE, Nat.reduceAdd, Nat.reducePow, Nat.reduceEqDiff, Nat.reduceLT, Nat.reduceLeDiff, Nat.reduceMul, Nat.reduceSub]; rfl)
    have e3 : (x.kind == 3) = false := by simpa using k3
    rw [if_neg k3]
    by_cases k4 : x.kind = 4
    · have e : (x.kind == 4) = true := by simpa using k4
      rw [if_pos k4]
      simp only [go_sem, ↓reduceIte, Int.reduceEq, Nat.reduceBEq, Int.reduceBEq, Int.reduceBNe, Int.reduceLT, Int.reduceLE, Nat.reduceAdd, Nat.reducePow, Nat.reduceEqDiff, Nat.reduceLT, Nat.reduceLeDiff, Nat.reduceMul, Nat.reduceSub, e1, e2, e3, e]
      refine Ev.loop_ind (fun k tm τ W => ∃ (i : Nat) (best : Option (List Int)) (z : Bool), k = x.l.length - i ∧ i ≤ x.l.length ∧ W = [] ∧ σ.n + 3 ≤ τ.n ∧ τ.get ko = σ.get ko ∧ τ.get σ.n = .cells x.c ∧ τ.get (σ.n + 1) = .cells [.d (.bool false), .d (.slc true [])] ∧ τ.get (σ.n + 2) = .cells [.d (.bool best.isSome), .d (.slc z (intsD (best.getD [])))] ∧ (best.getD []).length ≤ 256 ∧ shortA (kF K) (x.l.drop i) best = shortA (kF K) x.l none ∧
        tm.at 1 = .row ko 0 K.length 2 ∧ tm.at 2 = .ptr σ.n 0 ∧ tm.at 4 = .ptr (σ.n + 1) 0 ∧ tm.at 8 = .ptr (σ.n + 2) 0 ∧ tm.at 9 = .d (.int .i64 i)) ?_ x.l.length _ _ _ ⟨0, none, true, rfl, by omega, rfl, by simp only [St.n_set, St.n_push]; omega, ?_, by simp only [go_sem, ↓reduceIte, Int.reduceEq, Nat.reduceBEq, Int.reduceBEq, Int.reduceBNe, Int.reduceLT, Int.reduceLE, Nat.reduceAdd, Nat.reducePow, Nat.reduceEqDiff, Nat.reduceLT, Nat.reduceLeDiff, Nat.reduceMul, Nat.reduceSub], by simp only [go_sem, ↓reduceIte, Int.reduceEq, Nat.reduceBEq, Int.reduceBEq, Int.reduceBNe, Int.reduceLT, Int.reduceLE, Nat.reduceAdd, Nat.reducePow, Nat.reduceEqDiff, Nat.reduceLT, Nat.reduceLeDiff, Nat.reduceMul, Nat.reduceSub], by simp only [go_sem, ↓reduceIte, Int.reduceEq, Nat.reduceBEq, Int.reduceBEq, Int.reduceBNe, Int.reduceLT, Int.reduceLE, Nat.reduceAdd, Nat.reducePow, Nat.reduceEqDiff, Nat.reduceLT, Nat.reduceLeDiff, Nat.reduceMul, Nat.reduceSub]; rfl, by simp, rfl, ?_, ?_, ?_, ?_, ?_⟩
      · rintro k tm τ W ⟨i, best, z, rfl, hi, rfl, hn, gk, g0, g1, g2, hbl, he, t1, t2, t4, t8, t9⟩ ih
        by_cases hl : i < x.l.length
        · have hget : x.l[i]? = some x.l[i] := by simp [hl]
          have hmem : x.l[i] ∈ x.l := List.getElem_mem hl
          rw [List.drop_eq_getElem_cons hl, shortA_step] at he
          simp only [go_sem, ↓reduceIte, Int.reduceEq, Nat.reduceBEq, Int.reduceBEq, Int.reduceBNe, Int.reduceLT, Int.reduceLE, Nat.reduceAdd, Nat.reducePow, Nat.reduceEqDiff, Nat.reduceLT, Nat.reduceLeDiff, Nat.reduceMul, Nat.reduceSub, t1, t2, t4, t8, t9, g0, Ex.len_ld, dec_lt' hl, Ex.index_ld hget]
          obtain ⟨zy, hc⟩ := short83 h83 h101 K hF ko x.l[i] τ (hx.sub hmem) (ho.sub hmem) (hs.stay gk) (by omega)
          refine ⟨_, _, _, hc, ?_⟩
          have hyl : ((shortE (kF K) x.l[i]).getD []).length ≤ 256 := by
            cases hy : shortE (kF K) x.l[i] with
            | none => simp
            | some s => exact shortE_len hF _ _ hy
          have lz : low σ.n [τ.n] = [] := by rw [low_cons_ge (by omega)]; rfl
          have lz2 : low σ.n [σ.n + 2] = [] := by rw [low_cons_ge (by omega)]; rfl
          have u2 : σ.n + 2 ≠ τ.n := by omega
          have u0 : σ.n ≠ τ.n := by omega
          have u1 : σ.n + 1 ≠ τ.n := by omega
          have uk : ko ≠ τ.n := by omega
          have uk2 : ko ≠ σ.n + 2 := by omega
          simp only [go_sem, ↓reduceIte, Int.reduceEq, Nat.reduceBEq, Int.reduceBEq, Int.reduceBNe, Int.reduceLT, Int.reduceLE, Nat.reduceAdd, Nat.reducePow, Nat.reduceEqDiff, Nat.reduceLT, Nat.reduceLeDiff, Nat.reduceMul, Nat.reduceSub, sA, t1, t2, t4, t8, t9, g2, u2, Ne.symm u2, lz]
          refine ⟨_, _, _, lessO_c h101 (shortE (kF K) x.l[i]) best zy z (by omega) _, ?_⟩
          cases hle : lessO (shortE (kF K) x.l[i]) best with
          | true =>
            rw [hle, if_pos rfl] at he
            simp only [go_sem, ↓reduceIte, Int.reduceEq, Nat.reduceBEq, Int.reduceBEq, Int.reduceBNe, Int.reduceLT, Int.reduceLE, Nat.reduceAdd, Nat.reducePow, Nat.reduceEqDiff, Nat.reduceLT, Nat.reduceLeDiff, Nat.reduceMul, Nat.reduceSub, sA, t1, t2, t4, t8, t9, g2, u2, Ne.symm u2, lz2, wrap_succ' hl hlen]
            refine ih _ _ _ _ (by omega) ⟨i + 1, _, zy, rfl, hl, rfl, by simp only [St.n_set, St.n_push]; omega, ?_, ?_, ?_, ?_, hyl, he, ?_, ?_, ?_, ?_, ?_⟩
            · rw [St.get_set_ne uk2, St.get_set_ne uk, St.get_push_ne (by omega)]; exact gk
            · rw [St.get_set_ne (by omega), St.get_set_ne u0, St.get_push_ne (by omega)]; exact g0
            · rw [St.get_set_ne (by omega), St.get_set_ne u1, St.get_push_ne (by omega)]; exact g1
            · rw [St.get_set_eq]
            all_goals (simp only [go_sem, ↓reduceIte, Int.reduceEq, Nat.reduceBEq, Int.reduceBEq, Int.reduceBNe, Int.reduceLT, Int.reduceLE, Nat.reduceAdd, Nat.reducePow, Nat.reduceEqDiff, Nat.reduceLT, Nat.reduceLeDiff, Nat.reduceMul, Nat.reduceSub, t1, t2, t4, t8])
          | false =>
            rw [hle, if_neg (by simp)] at he
            simp only [go_sem, ↓reduceIte, Int.reduceEq, Nat.reduceBEq, Int.reduceBEq, Int.reduceBNe, Int.reduceLT, Int.reduceLE, Nat.reduceAdd, Nat.reducePow, Nat.reduceEqDiff, Nat.reduceLT, Nat.reduceLeDiff, Nat.reduceMul, Nat.reduceSub, sA, t1, t2, t4, t8, t9, g2, u2, Ne.symm u2, lz2, wrap_succ' hl hlen]
            refine ih _ _ _ _ (by omega) ⟨i + 1, best, z, rfl, hl, rfl, by simp only [St.n_set, St.n_push]; omega, ?_, ?_, ?_, ?_, hbl, he, ?_, ?_, ?_, ?_, ?_⟩
            · rw [St.get_set_ne uk, St.get_push_ne (by omega)]; exact gk
            · rw [St.get_set_ne u0, St.get_push_ne (by omega)]; exact g0
            · rw [St.get_set_ne u1, St.get_push_ne (by omega)]; exact g1
            · rw [St.get_set_ne u2, St.get_push_ne (by omega)]; exact g2
            all_goals (simp only [go_sem, ↓reduceIte, Int.reduceEq, Nat.reduceBEq, Int.reduceBEq, Int.reduceBNe, Int.reduceLT, Int.reduceLE, Nat.reduceAdd, Nat.reducePow, Nat.reduceEqDiff, Nat.reduceLT, Nat.reduceLeDiff, Nat.reduceMul, Nat.reduceSub, t1, t2, t4, t8])
        · rw [List.drop_eq_nil_of_le (by omega), shortA] at he
          have lz1 : low σ.n [σ.n + 1] = [] := by rw [low_cons_ge (by omega)]; rfl
          simp only [go_sem, ↓reduceIte, Int.reduceEq, Nat.reduceBEq, Int.reduceBEq, Int.reduceBNe, Int.reduceLT, Int.reduceLE, Nat.reduceAdd, Nat.reducePow, Nat.reduceEqDiff, Nat.reduceLT, Nat.reduceLeDiff, Nat.reduceMul, Nat.reduceSub, t1, t2, t4, t8, t9, g0, g1, g2, Ex.len_ld, dec_ge' hl, lz1, fzD0, fzD1]
          rw [← he]
          exact ⟨z, rfl⟩
      · have m2 : ko ≠ σ.n + 2 := by omega
        simp only [go_sem, ↓reduceIte, Int.reduceEq, Nat.reduceBEq, Int.reduceBEq, Int.reduceBNe, Int.reduceLT, Int.reduceLE, Nat.reduceAdd, Nat.reducePow, Nat.reduceEqDiff, Nat.reduceLT, Nat.reduceLeDiff, Nat.reduceMul, Nat.reduceSub, m0, m1, m2]
      all_goals first | rfl | (simp only [go_sem, ↓reduceIte, Int.reduceEq, Nat.reduceBEq, Int.reduceBEq, Int.reduceBNe, Int.reduceLT, Int.reduceLE, Nat.reduceAdd, Nat.reducePow, Nat.reduceEqDiff, Nat.reduceLT, Nat.reduceLeDiff, Nat.reduceMul, Nat.reduceSub]; done) | (simp only [go_sem, ↓reduceIte, Int.reduceEq, Nat.reduceBEq, Int.reduceBEq, Int.reduceBNe, Int.reduceLT, Int.reduceLE, Nat.reduceAdd, Nat.reducePow, Nat.reduceEqDiff, Nat.reduceLT, Nat.reduceLeDiff, Nat.reduceMul, Nat.reduceSub]; rfl)
    have e4 : (x.kind == 4) = false := by simpa using k4
    rw [if_neg k4]
    simp only [go_sem, ↓reduceIte, Int.reduceEq, Nat.reduceBEq, Int.reduceBEq, Int.reduceBNe, Int.reduceLT, Int.reduceLE, Nat.reduceAdd, Nat.reducePow, Nat.reduceEqDiff, Nat.reduceLT, Nat.reduceLeDiff, Nat.reduceMul, Nat.reduceSub, e1, e2, e3, e4, fzD0, fzD1]
    exact ⟨true, rfl⟩
termination_by x
decreasing_by all_goals exact Ex.sub_lt hmem
end Go.Am

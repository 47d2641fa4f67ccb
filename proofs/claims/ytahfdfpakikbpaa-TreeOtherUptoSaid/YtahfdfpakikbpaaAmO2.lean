/- Part O2 of a proof that runs a program's calls on a small machine whose values bear no addresses: no conditions. -/
import Derived.Test.YtahfdfpakikbpaaAmO1
import Derived.Test.YtahfdfpakikbpaaAmP1
set_option autoImplicit false
set_option linter.unusedSimpArgs false
set_option linter.unusedVariables false
set_option linter.unusedSectionVars false
namespace Go.Am
open Go Go.Proofs
variable {fz : Nat → Md}

/-- another number -/
def xor1 (n : Int) : Int := IntKind.i64.wrap (BitVec.ofInt IntKind.i64.bits n ^^^ BitVec.ofInt IntKind.i64.bits 1).toNat
theorem xor1_ne (n : Int) : xor1 n ≠ n := by
  intro h
  have hb : BitVec.ofInt 64 (xor1 n) = BitVec.ofInt 64 n ^^^ 1#64 := by
    unfold xor1
    have e1 : BitVec.ofInt IntKind.i64.bits 1 = 1#64 := by rfl
    rw [e1]
    show BitVec.ofInt 64 (IntKind.i64.wrap ((BitVec.ofInt 64 n ^^^ 1#64).toNat : Int)) = _
    generalize BitVec.ofInt 64 n ^^^ 1#64 = b
    have hlt := b.isLt
    unfold IntKind.wrap
    simp only [IntKind.signed, IntKind.bits, Bool.true_and]
    apply BitVec.eq_of_toNat_eq
    rw [BitVec.toNat_ofInt]
    split
    · omega
    · omega
  rw [h] at hb
  have : (BitVec.ofInt 64 n ^^^ 1#64) ^^^ BitVec.ofInt 64 n = BitVec.ofInt 64 n ^^^ BitVec.ofInt 64 n := by rw [← hb]
  rw [BitVec.xor_self, BitVec.xor_comm, ← BitVec.xor_assoc, BitVec.xor_self, BitVec.zero_xor] at this
  exact absurd this (by decide)

mutual
/-- a tree of which a leaf is another one -/
def chP (at' : Bool) : Int → Node → Node × Int
  | j, .mk k n p z l => if k ≠ 0 then (if j = 0 then (if at' then .mk k n (xor1 p) z l else .mk k (xor1 n) p z l) else .mk k n p z l, j - 1) else (.mk k n p z (chL at' j l).1, (chL at' j l).2)
def chL (at' : Bool) : Int → List Node → List Node × Int
  | j, [] => ([], j)
  | j, x :: l => ((chP at' j x).1 :: (chL at' (chP at' j x).2 l).1, (chL at' (chP at' j x).2 l).2)
end
mutual
theorem ch_left (b : Bool) : ∀ (x : Node) (j : Int), (chP b j x).2 = j - leavesN x
  | .mk k n p z l, j => by
    rw [chP, leavesN]
    by_cases hk : k = 0
    · rw [if_neg (by simp [hk]), if_pos hk]; exact ch_leftL b l j
    · rw [if_pos hk, if_neg hk]; rfl
theorem ch_leftL (b : Bool) : ∀ (l : List Node) (j : Int), (chL b j l).2 = j - leavesM l
  | [], j => by simp [chL, leavesM]
  | x :: l, j => by rw [chL, leavesM]; dsimp only; rw [ch_left b x, ch_leftL b l]; omega
end
mutual
theorem ch_size (b : Bool) : ∀ (x : Node) (j : Int), (chP b j x).1.size = x.size
  | .mk k n p z l, j => by
    rw [chP]
    by_cases hk : k = 0
    · rw [if_neg (by simp [hk])]; dsimp only; rw [Node.size, Node.size, ch_sizeL b l j]
    · rw [if_pos hk]; dsimp only; split
      · split <;> simp [Node.size, hk]
      · rfl
theorem ch_sizeL (b : Bool) : ∀ (l : List Node) (j : Int), ((chL b j l).1.map Node.size).sum = (l.map Node.size).sum
  | [], j => by simp [chL]
  | x :: l, j => by rw [chL]; dsimp only; rw [List.map_cons, List.sum_cons, List.map_cons, List.sum_cons, ch_size b x, ch_sizeL b l]
end
mutual
theorem same_refl : ∀ x : Node, sameP x x = true
  | .mk k n p z l => by rw [sameP, same_reflL l]; simp
theorem same_reflL : ∀ l : List Node, sameL l l = true
  | [] => by rw [sameL]
  | x :: l => by rw [sameL, same_refl x, same_reflL l]; rfl
end
mutual
theorem ch_off (b : Bool) : ∀ (x : Node) (j : Int), (j < 0 ∨ leavesN x ≤ j) → (chP b j x).1 = x
  | .mk k n p z l, j, h => by
    rw [chP]
    rw [leavesN] at h
    by_cases hk : k = 0
    · rw [if_neg (by simp [hk])]; rw [if_pos hk] at h; dsimp only; rw [ch_offL b l j h]
    · rw [if_pos hk]; rw [if_neg hk] at h; dsimp only; rw [if_neg (by omega)]
theorem ch_offL (b : Bool) : ∀ (l : List Node) (j : Int), (j < 0 ∨ leavesM l ≤ j) → (chL b j l).1 = l
  | [], j, _ => by rw [chL]
  | x :: l, j, h => by
    rw [leavesM] at h
    rw [chL]; dsimp only
    rw [ch_left b x, ch_off b x j (by omega), ch_offL b l _ (by omega)]
end
mutual
theorem ch_on (b : Bool) : ∀ (x : Node) (j : Int), 0 ≤ j → j < leavesN x → sameP x (chP b j x).1 = false ∧ sameP (chP b j x).1 x = false
  | .mk k n p z l, j, h0, h1 => by
    rw [leavesN] at h1
    rw [chP]
    by_cases hk : k = 0
    · rw [if_neg (by simp [hk])]; rw [if_pos hk] at h1
      obtain ⟨e1, e2⟩ := ch_onL b l j h0 h1
      dsimp only; rw [sameP, sameP, e1, e2]; simp
    · rw [if_neg hk] at h1
      rw [if_pos hk, if_pos (by omega)]
      dsimp only
      have hn : (n == xor1 n) = false := beq_eq_false_iff_ne.2 (Ne.symm (xor1_ne n))
      have hn' : (xor1 n == n) = false := beq_eq_false_iff_ne.2 (xor1_ne n)
      have hp : (p == xor1 p) = false := beq_eq_false_iff_ne.2 (Ne.symm (xor1_ne p))
      have hp' : (xor1 p == p) = false := beq_eq_false_iff_ne.2 (xor1_ne p)
      cases b with
      | true => rw [if_pos rfl, sameP, sameP, hp, hp']; simp
      | false => rw [if_neg (by simp), sameP, sameP, hn, hn']; simp
theorem ch_onL (b : Bool) : ∀ (l : List Node) (j : Int), 0 ≤ j → j < leavesM l → sameL l (chL b j l).1 = false ∧ sameL (chL b j l).1 l = false
  | [], j, h0, h1 => by rw [leavesM] at h1; omega
  | x :: l, j, h0, h1 => by
    rw [leavesM] at h1
    rw [chL]; dsimp only
    rw [sameL, sameL]
    by_cases e : j < leavesN x
    · obtain ⟨e1, e2⟩ := ch_on b x j h0 e
      rw [e1, e2]; simp
    · rw [ch_left b x]
      obtain ⟨e1, e2⟩ := ch_onL b l (j - leavesN x) (by omega) (by omega)
      rw [e1, e2]; simp
end
end Go.Am
namespace Go.Am
open Go Go.Proofs
variable {fz : Nat → Md}

theorem NV.re {m : Bool} {σ : St} {a b c : D} {lv : A} {k n p k' n' p' : Int} {z z' : Bool} {l : List Node} {bs : List Nat} (h : NV m σ [.d a, .d b, .d c, lv] (.mk k n p z l) bs) :
    NV m σ [.d (.int .i64 k'), .d (.int .i64 n'), .d (.int .i64 p'), lv] (.mk k' n' p' z' l) bs := by
  cases h with
  | data hm => exact .data hm
  | row css bss h1 h2 h3 h4 h5 h6 => exact .row css bss h1 h2 h3 h4 h5 h6
theorem putAt_mid : ∀ (vs mid pre post : List A), vs.length = mid.length → putAt (pre ++ (mid ++ post)) pre.length vs = pre ++ (vs ++ post)
  | [], mid, pre, post, h => by cases mid with | nil => rfl | cons _ _ => cases h
  | a :: r, mid, pre, post, h => by
    cases mid with
    | nil => cases h
    | cons c cr =>
      rw [putAt]
      have h1 : (pre ++ (c :: cr ++ post)).set pre.length a = (pre ++ [a]) ++ (cr ++ post) := by simp
      have h2 : pre.length + 1 = (pre ++ [a]).length := by simp
      rw [h1, h2, putAt_mid r cr (pre ++ [a]) post (by simpa using h)]; simp
theorem range_at {n i : Nat} (h : i < n) : List.range n = List.range i ++ i :: (List.range n).drop (i + 1) := by
  have h1 := List.take_append_drop i (List.range n)
  rw [List.take_range, Nat.min_eq_left (Nat.le_of_lt h), List.drop_eq_getElem_cons (by simpa using h)] at h1
  simpa using h1.symm
theorem storeC_flat {n i : Nat} {css : Nat → List A} {c : List A} (h : ∀ r, (css r).length = 4) (hi : i < n) (hc : c.length = 4) (hcell : c.all A.isCell = true) :
    storeC 4 (i * 4) c ((List.range n).flatMap css) = some ((List.range n).flatMap fun r => if r = i then c else css r) := by
  have hl := flat_range_len (n := n) h
  have hle : i * 4 + 4 ≤ n * 4 := by have := Nat.mul_le_mul_right 4 (show i + 1 ≤ n from hi); rw [Nat.succ_mul] at this; exact this
  unfold storeC
  rw [if_pos ⟨hc, by rw [hl, hc]; exact hle, hcell⟩]
  congr 1
  have e1 : (List.range n).flatMap css = (List.range i).flatMap css ++ (css i ++ ((List.range n).drop (i + 1)).flatMap css) := by
    conv => lhs; rw [range_at hi]
    simp
  have e2 : ((List.range n).flatMap fun r => if r = i then c else css r) = (List.range i).flatMap css ++ (c ++ ((List.range n).drop (i + 1)).flatMap css) := by
    conv => lhs; rw [range_at hi]
    rw [List.flatMap_append, List.flatMap_cons, if_pos rfl, range_congr (g := css) fun r hr => if_neg (by omega)]
    congr 2
    have : ∀ (l : List Nat), (∀ r ∈ l, r ≠ i) → (l.flatMap fun r => if r = i then c else css r) = l.flatMap css := fun l hl => by
      induction l with
      | nil => rfl
      | cons a l ih => rw [List.flatMap_cons, List.flatMap_cons, if_neg (hl a (by simp)), ih fun r hr => hl r (by simp [hr])]
    refine this _ fun r hr => ?_
    obtain ⟨k, hk⟩ := List.mem_iff_getElem?.1 hr
    rw [List.getElem?_drop] at hk
    have := List.getElem?_eq_some_iff.1 hk
    obtain ⟨_, e⟩ := this
    simp at e; omega
  rw [e1, e2]
  have h3 : i * 4 = ((List.range i).flatMap css).length := (flat_range_len h).symm
  rw [h3]
  exact putAt_mid _ _ _ _ (by rw [hc, h])
theorem ch_get (b : Bool) : ∀ (l : List Node) (j : Int) (r : Nat) (y : Node), l[r]? = some y → (chL b j l).1[r]? = some (chP b (j - leavesM (l.take r)) y).1
  | [], j, r, y, h => by simp at h
  | x :: l, j, 0, y, h => by simp at h; subst h; rw [chL]; simp [leavesM]
  | x :: l, j, r + 1, y, h => by
    rw [chL]; dsimp only
    rw [List.getElem?_cons_succ, ch_left b x, ch_get b l _ r y (by simpa using h), List.take_succ_cons, leavesM]
    congr 3; omega
theorem chL_len (b : Bool) : ∀ (l : List Node) (j : Int), (chL b j l).1.length = l.length
  | [], j => by simp [chL]
  | x :: l, j => by rw [chL]; simp [chL_len b l]
theorem leavesM_take : ∀ (l : List Node) (r : Nat) (y : Node), l[r]? = some y → leavesM (l.take (r + 1)) = leavesM (l.take r) + leavesN y
  | [], r, y, h => by simp at h
  | x :: l, 0, y, h => by simp at h; subst h; simp [leavesM]
  | x :: l, r + 1, y, h => by
    rw [List.take_succ_cons, List.take_succ_cons, leavesM, leavesM, leavesM_take l r y (by simpa using h)]; omega
theorem leavesM_le : ∀ (l : List Node) (r : Nat), leavesM (l.take r) ≤ leavesM l
  | [], r => by simp
  | x :: l, 0 => by simp [leavesM]
  | x :: l, r + 1 => by rw [List.take_succ_cons, leavesM, leavesM]; have := leavesM_le l r; omega

theorem chP_leaf {b : Bool} {j : Int} {x : Node} (h : x.kind ≠ 0) : chP b j x = (if j = 0 then (if b then .mk x.kind x.num (xor1 x.pos) x.z x.l else .mk x.kind (xor1 x.num) x.pos x.z x.l) else x, j - 1) := by
  cases x; rw [chP]; exact if_pos h
theorem chP_rule {b : Bool} {j : Int} {x : Node} (h : x.kind = 0) : chP b j x = (.mk x.kind x.num x.pos x.z (chL b j x.l).1, (chL b j x.l).2) := by
  cases x; rw [chP]; exact if_neg (not_not_intro h)

set_option maxHeartbeats 4000000 in
theorem changed_run (h27 : fz 27 = .keep) (b : Bool) (x : Node) (c : List A) (bs : List Nat) (j : Int) (kl : Nat) (σ : St) (hx : Small x) (n1 : NV true σ c x bs) (hk : σ.get kl = .cells [.d (.int .i64 j)]) (hlt : kl < σ.n) (hkb : kl ∉ bs)
    (hj : -1000000000000 < j - leavesN x ∧ j < 1000000000000) :
    ∃ r, Run (XX fz) (.func 27 []) [.agg c, .ptr kl 0, .d (.bool b)] σ (kl :: bs) r fun σ' own => ∃ c', r = .agg c' ∧ own = kl :: bs ∧ NV true σ' c' (chP b j x).1 bs ∧ σ'.get kl = .cells [.d (.int .i64 (chP b j x).2)] := by
  obtain ⟨lv, rfl, e1, i1, len1, idx1⟩ := n1.open4
  have hlen := hx.len
  have hne : kl ≠ σ.n := by omega
  have hne1 : kl ≠ σ.n + 1 := by omega
  refine Run.keepE h27 fn27 (by simp) ?_
  simp only [Try.f27, Option.getD_some]
  simp only [go_sem, ↓reduceIte, Option.some.injEq, Bool.true_eq_false, Bool.false_eq_true, Int.reduceBEq, Int.reduceBNe, Int.reduceLT, Int.reduceLE, Nat.add_assoc, Nat.reduceAdd, Nat.reducePow, Nat.zero_le, Nat.reduceEqDiff, Nat.reduceLT, Nat.reduceLeDiff, Nat.reduceMul, Nat.reduceSub, Nat.add_left_cancel_iff, Nat.lt_irrefl, Nat.le_refl, Nat.add_eq_left, Nat.left_eq_add, beq_self_eq_true, hne, hk]
  cases hkd : (x.kind != 0) with
  | true =>
    have hk0 : x.kind ≠ 0 := by simpa using hkd
    have hl1 : leavesN x = 1 := by cases x; rw [leavesN]; exact if_neg hk0
    have hw : IntKind.i64.wrap (j - 1) = j - 1 := wrap_small (by omega) (by omega)
    cases hj0 : (j == 0) with
    | true =>
      have hj00 : j = 0 := by simpa using hj0
      cases b with
      | true =>
        simp only [go_sem, ↓reduceIte, Option.some.injEq, Bool.true_eq_false, Bool.false_eq_true, Int.reduceBEq, Int.reduceBNe, Int.reduceLT, Int.reduceLE, Nat.add_assoc, Nat.reduceAdd, Nat.reducePow, Nat.zero_le, Nat.reduceEqDiff, Nat.reduceLT, Nat.reduceLeDiff, Nat.reduceMul, Nat.reduceSub, Nat.add_left_cancel_iff, Nat.lt_irrefl, Nat.le_refl, Nat.add_eq_left, Nat.left_eq_add, beq_self_eq_true, hne, hne1, Ne.symm hne, Ne.symm hne1, hk, hj0, hw, e1, i1]
        rw [chP_leaf hk0, if_pos hj00, if_pos rfl]
        have K := ((((((Kept.refl (σ := σ) (own := kl :: bs)).push (b := .cells [.d (.int .i64 x.kind), .d (.int .i64 x.num), .d (.int .i64 x.pos), lv])).push (b := .cells [.d (.int .i64 0), .d (.int .i64 0), .d (.int .i64 0), .d (.slc true [])])).set (k := σ.n) (b := .cells [.d (.int .i64 x.kind), .d (.int .i64 x.num), .d (.int .i64 (xor1 x.pos)), lv]) (.inr (Nat.le_refl _))).write (k := kl) (b := .cells [.d (.int .i64 (j - 1))]) (.inl (by simp))).set (k := σ.n + 1) (b := .cells [.d (.int .i64 x.kind), .d (.int .i64 x.num), .d (.int .i64 (xor1 x.pos)), lv]) (.inr (by omega)))
        refine ⟨kl :: bs, K, _, rfl, rfl, ?_, rfl⟩
        refine NV.stay (σ := σ) ?_ (by simp only [St.n_set, St.n_push]; omega) fun q hq => ?_
        · cases x; exact n1.re
        · have := n1.lt q hq
          rw [St.get_set_ne (by omega), St.get_set_ne (by rintro rfl; exact hkb hq), St.get_set_ne (by omega), St.get_push_ne (by simp only [St.n_push]; omega), St.get_push_ne this]
      | false =>
        simp only [go_sem, ↓reduceIte, Option.some.injEq, Bool.true_eq_false, Bool.false_eq_true, Int.reduceBEq, Int.reduceBNe, Int.reduceLT, Int.reduceLE, Nat.add_assoc, Nat.reduceAdd, Nat.reducePow, Nat.zero_le, Nat.reduceEqDiff, Nat.reduceLT, Nat.reduceLeDiff, Nat.reduceMul, Nat.reduceSub, Nat.add_left_cancel_iff, Nat.lt_irrefl, Nat.le_refl, Nat.add_eq_left, Nat.left_eq_add, beq_self_eq_true, hne, hne1, Ne.symm hne, Ne.symm hne1, hk, hj0, hw, e1, i1]
        rw [chP_leaf hk0, if_pos hj00, if_neg (by simp)]
        have K := ((((((Kept.refl (σ := σ) (own := kl :: bs)).push (b := .cells [.d (.int .i64 x.kind), .d (.int .i64 x.num), .d (.int .i64 x.pos), lv])).push (b := .cells [.d (.int .i64 0), .d (.int .i64 0), .d (.int .i64 0), .d (.slc true [])])).set (k := σ.n) (b := .cells [.d (.int .i64 x.kind), .d (.int .i64 (xor1 x.num)), .d (.int .i64 x.pos), lv]) (.inr (Nat.le_refl _))).write (k := kl) (b := .cells [.d (.int .i64 (j - 1))]) (.inl (by simp))).set (k := σ.n + 1) (b := .cells [.d (.int .i64 x.kind), .d (.int .i64 (xor1 x.num)), .d (.int .i64 x.pos), lv]) (.inr (by omega)))
        refine ⟨kl :: bs, K, _, rfl, rfl, ?_, rfl⟩
        refine NV.stay (σ := σ) ?_ (by simp only [St.n_set, St.n_push]; omega) fun q hq => ?_
        · cases x; exact n1.re
        · have := n1.lt q hq
          rw [St.get_set_ne (by omega), St.get_set_ne (by rintro rfl; exact hkb hq), St.get_set_ne (by omega), St.get_push_ne (by simp only [St.n_push]; omega), St.get_push_ne this]
    | false =>
      simp only [go_sem, ↓reduceIte, Option.some.injEq, Bool.true_eq_false, Bool.false_eq_true, Int.reduceBEq, Int.reduceBNe, Int.reduceLT, Int.reduceLE, Nat.add_assoc, Nat.reduceAdd, Nat.reducePow, Nat.zero_le, Nat.reduceEqDiff, Nat.reduceLT, Nat.reduceLeDiff, Nat.reduceMul, Nat.reduceSub, Nat.add_left_cancel_iff, Nat.lt_irrefl, Nat.le_refl, Nat.add_eq_left, Nat.left_eq_add, beq_self_eq_true, hne, hne1, Ne.symm hne, Ne.symm hne1, hk, hj0, hw, e1, i1]
      rw [chP_leaf hk0, if_neg (by simpa using hj0)]
      have K := (((((Kept.refl (σ := σ) (own := kl :: bs)).push (b := .cells [.d (.int .i64 x.kind), .d (.int .i64 x.num), .d (.int .i64 x.pos), lv])).push (b := .cells [.d (.int .i64 0), .d (.int .i64 0), .d (.int .i64 0), .d (.slc true [])])).write (k := kl) (b := .cells [.d (.int .i64 (j - 1))]) (.inl (by simp))).set (k := σ.n + 1) (b := .cells [.d (.int .i64 x.kind), .d (.int .i64 x.num), .d (.int .i64 x.pos), lv]) (.inr (by omega)))
      refine ⟨kl :: bs, K, _, rfl, rfl, ?_, rfl⟩
      refine NV.stay (σ := σ) n1 (by simp only [St.n_set, St.n_push]; omega) fun q hq => ?_
      have := n1.lt q hq
      rw [St.get_set_ne (by omega), St.get_set_ne (by rintro rfl; exact hkb hq), St.get_push_ne (by simp only [St.n_push]; omega), St.get_push_ne this]
  | false =>
    have hk0 : x.kind = 0 := by simpa using hkd
    simp only [go_sem, ↓reduceIte, Option.some.injEq, Bool.true_eq_false, Bool.false_eq_true, Int.reduceBEq, Int.reduceBNe, Int.reduceLT, Int.reduceLE, Nat.add_assoc, Nat.reduceAdd, Nat.reducePow, Nat.zero_le, Nat.reduceEqDiff, Nat.reduceLT, Nat.reduceLeDiff, Nat.reduceMul, Nat.reduceSub, Nat.add_left_cancel_iff, Nat.lt_irrefl, Nat.le_refl, Nat.add_eq_left, Nat.left_eq_add, beq_self_eq_true, hne, hne1, Ne.symm hne, Ne.symm hne1, hk]
    have hlv : leavesN x = leavesM x.l := by cases x; rw [leavesN]; exact if_pos hk0
    rw [chP_rule hk0]
    -- the list: nothing, or a row of its own
    have hrow : x.l = [] ∨ ∃ kb css bss, lv = .row kb 0 x.l.length 4 ∧ σ.get kb = .cells ((List.range x.l.length).flatMap css) ∧ kb < σ.n ∧ (∀ (i : Nat) (y : Node), x.l[i]? = some y → NV true σ (css i) y (bss i)) ∧ (∀ i, (css i).length = 4) ∧
        (∀ i, i < x.l.length → kb ∉ bss i) ∧ (∀ i r, i < x.l.length → r < x.l.length → i ≠ r → ∀ q ∈ bss i, q ∉ bss r) ∧ bs = kb :: (List.range x.l.length).flatMap bss := by
      cases x with | mk k0 n0 p0 z0 l0 =>
      cases n1 with
      | data hm => exact .inl (hm.resolve_left (by simp))
      | row css bss h1 h2 h3 h4 h5 h6 => exact .inr ⟨_, css, bss, rfl, h1, h2, h3, h4, h5, h6, rfl⟩
    have KB := ((Kept.refl (σ := σ) (own := kl :: bs)).push (b := .cells [.d (.int .i64 x.kind), .d (.int .i64 x.num), .d (.int .i64 x.pos), lv])).push (b := .cells [.d (.int .i64 0), .d (.int .i64 0), .d (.int .i64 0), .d (.slc true [])])
    have hlenN : ∀ τ : St, NV true τ [.d (.int .i64 x.kind), .d (.int .i64 x.num), .d (.int .i64 x.pos), lv] x bs → sliceLen τ lv = some x.l.length := fun τ h => by
      obtain ⟨lv', hlv', -, -, hh, -⟩ := h.open4
      simp only [List.cons.injEq, and_true, true_and] at hlv'
      subst hlv'; exact hh
    rcases hrow with hnil | ⟨kb, css, bss, rfl, h1, h2, h3, h4, h5, h6, rfl⟩
    · refine Ev.loop_ind (fun m tm τ W => m = 0 ∧ W = [] ∧ τ = (σ.push (.cells [.d (.int .i64 x.kind), .d (.int .i64 x.num), .d (.int .i64 x.pos), lv])).push (.cells [.d (.int .i64 0), .d (.int .i64 0), .d (.int .i64 0), .d (.slc true [])]) ∧ Tm.at tm 3 = .ptr σ.n 0 ∧ Tm.at tm 6 = .ptr (σ.n + 1) 0 ∧ Tm.at tm 7 = .d (.int .i64 0)) ?_ 0 _ _ _ ⟨rfl, rfl, rfl, ?_, ?_, ?_⟩
      · rintro m tm τ W ⟨-, rfl, rfl, t3, t6, t7⟩ -
        have hl := hlenN ((σ.push (.cells [.d (.int .i64 x.kind), .d (.int .i64 x.num), .d (.int .i64 x.pos), lv])).push (.cells [.d (.int .i64 0), .d (.int .i64 0), .d (.int .i64 0), .d (.slc true [])])) n1.push.push
        rw [hnil] at hl ⊢
        have hd : decide ((0 : Int) < ((([] : List Node).length : Nat) : Int)) = false := by decide
        have hd0 : decide ((0 : Int) < ((0 : Nat) : Int)) = false := by decide
        simp only [go_sem, ↓reduceIte, Option.some.injEq, Bool.true_eq_false, Bool.false_eq_true, Int.reduceBEq, Int.reduceBNe, Int.reduceLT, Int.reduceLE, Nat.add_assoc, Nat.reduceAdd, Nat.reducePow, Nat.zero_le, Nat.reduceEqDiff, Nat.reduceLT, Nat.reduceLeDiff, Nat.reduceMul, Nat.reduceSub, Nat.add_left_cancel_iff, Nat.lt_irrefl, Nat.le_refl, Nat.add_eq_left, Nat.left_eq_add, beq_self_eq_true, t3, t6, t7, hl, hd, hd0, e1, i1, hne, hne1, hk]
        refine ⟨kl :: bs, KB.set (.inr (by omega)), _, rfl, rfl, ?_, by rw [chL]⟩
        have n5 : NV true (((σ.push (.cells [.d (.int .i64 x.kind), .d (.int .i64 x.num), .d (.int .i64 x.pos), lv])).push (.cells [.d (.int .i64 0), .d (.int .i64 0), .d (.int .i64 0), .d (.slc true [])])).set (σ.n + 1) (.cells [.d (.int .i64 x.kind), .d (.int .i64 x.num), .d (.int .i64 x.pos), lv])) [.d (.int .i64 x.kind), .d (.int .i64 x.num), .d (.int .i64 x.pos), lv] x bs := (n1.push.push).set fun h => by have := n1.lt _ h; omega
        rw [chL]
        cases x with | mk k0 n0 p0 z0 l0 => have hnil : l0 = [] := hnil; subst hnil; exact n5
      all_goals first | rfl | (simp only [go_sem, ↓reduceIte, Option.some.injEq, Bool.true_eq_false, Bool.false_eq_true, Int.reduceBEq, Int.reduceBNe, Int.reduceLT, Int.reduceLE, Nat.add_assoc, Nat.reduceAdd, Nat.reducePow, Nat.zero_le, Nat.reduceEqDiff, Nat.reduceLT, Nat.reduceLeDiff, Nat.reduceMul, Nat.reduceSub, Nat.add_left_cancel_iff, Nat.lt_irrefl, Nat.le_refl, Nat.add_eq_left, Nat.left_eq_add, beq_self_eq_true]; done) | (simp only [go_sem, ↓reduceIte, Option.some.injEq, Bool.true_eq_false, Bool.false_eq_true, Int.reduceBEq, Int.reduceBNe, Int.reduceLT, Int.reduceLE, Nat.add_assoc, Nat.reduceAdd, Nat.reducePow, Nat.zero_le, Nat.reduceEqDiff, Nat.reduceLT, Nat.reduceLeDiff, Nat.reduceMul, Nat.reduceSub, Nat.add_left_cancel_iff, Nat.lt_irrefl, Nat.le_refl, Nat.add_eq_left, Nat.left_eq_add, beq_self_eq_true]; rfl)
    · have hin : ∀ r, r < x.l.length → ∀ q ∈ bss r, q ∈ kb :: (List.range x.l.length).flatMap bss := fun r hr q hq => List.mem_cons_of_mem _ (List.mem_flatMap.2 ⟨r, List.mem_range.2 hr, hq⟩)
      have hklb : kl ≠ kb := fun e => hkb (by simp [e])
      have hnkb : σ.n ≠ kb := by omega
      have hnkb1 : σ.n + 1 ≠ kb := by omega
      refine Ev.loop_ind (fun m tm τ W => ∃ (i : Nat) (cs : Nat → List A), m = x.l.length - i ∧ i ≤ x.l.length ∧ σ.n + 2 ≤ τ.n ∧ Kept σ (kl :: kb :: (List.range x.l.length).flatMap bss) τ (kl :: kb :: (List.range x.l.length).flatMap bss) W ∧
        τ.get σ.n = .cells [.d (.int .i64 x.kind), .d (.int .i64 x.num), .d (.int .i64 x.pos), .row kb 0 x.l.length 4] ∧ τ.get (σ.n + 1) = .cells [.d (.int .i64 0), .d (.int .i64 0), .d (.int .i64 0), .d (.slc true [])] ∧ τ.get kb = .cells ((List.range x.l.length).flatMap cs) ∧ (∀ r, (cs r).length = 4) ∧
        (∀ (r : Nat) (y : Node), x.l[r]? = some y → NV true τ (cs r) (if r < i then (chP b (j - leavesM (x.l.take r)) y).1 else y) (bss r)) ∧ τ.get kl = .cells [.d (.int .i64 (j - leavesM (x.l.take i)))] ∧
        Tm.at tm 1 = .ptr kl 0 ∧ Tm.at tm 2 = .d (.bool b) ∧ Tm.at tm 3 = .ptr σ.n 0 ∧ Tm.at tm 6 = .ptr (σ.n + 1) 0 ∧ Tm.at tm 7 = .d (.int .i64 i)) ?_ x.l.length _ _ _
        ⟨0, css, rfl, by omega, by simp [St.n_push], KB, by simp only [go_sem, ↓reduceIte, Option.some.injEq, Bool.true_eq_false, Bool.false_eq_true, Int.reduceBEq, Int.reduceBNe, Int.reduceLT, Int.reduceLE, Nat.add_assoc, Nat.reduceAdd, Nat.reducePow, Nat.zero_le, Nat.reduceEqDiff, Nat.reduceLT, Nat.reduceLeDiff, Nat.reduceMul, Nat.reduceSub, Nat.add_left_cancel_iff, Nat.lt_irrefl, Nat.le_refl, Nat.add_eq_left, Nat.left_eq_add, beq_self_eq_true], by simp only [go_sem, ↓reduceIte, Option.some.injEq, Bool.true_eq_false, Bool.false_eq_true, Int.reduceBEq, Int.reduceBNe, Int.reduceLT, Int.reduceLE, Nat.add_assoc, Nat.reduceAdd, Nat.reducePow, Nat.zero_le, Nat.reduceEqDiff, Nat.reduceLT, Nat.reduceLeDiff, Nat.reduceMul, Nat.reduceSub, Nat.add_left_cancel_iff, Nat.lt_irrefl, Nat.le_refl, Nat.add_eq_left, Nat.left_eq_add, beq_self_eq_true], by rw [St.get_push_ne (by simp [St.n_push]; omega), St.get_push_ne h2]; exact h1, h4, fun r y hy => by rw [if_neg (by omega)]; exact (h3 r y hy).push.push, by simp only [go_sem, ↓reduceIte, Option.some.injEq, Bool.true_eq_false, Bool.false_eq_true, Int.reduceBEq, Int.reduceBNe, Int.reduceLT, Int.reduceLE, Nat.add_assoc, Nat.reduceAdd, Nat.reducePow, Nat.zero_le, Nat.reduceEqDiff, Nat.reduceLT, Nat.reduceLeDiff, Nat.reduceMul, Nat.reduceSub, Nat.add_left_cancel_iff, Nat.lt_irrefl, Nat.le_refl, Nat.add_eq_left, Nat.left_eq_add, beq_self_eq_true, hne, hne1, hk, List.take_zero, leavesM]; simp, ?_, ?_, ?_, ?_, ?_⟩
      · rintro m tm τ W ⟨i, cs, rfl, hi, hn, hK, g0, g1, gb, hcs, hnv, gk, t1, t2, t3, t6, t7⟩ ih
        by_cases hl : i < x.l.length
        · have hget : x.l[i]? = some x.l[i] := by simp [hl]
          have hmem : x.l[i] ∈ x.l := List.getElem_mem hl
          have ni := hnv i _ hget
          rw [if_neg (by omega)] at ni
          have hlm := leavesM_take x.l i _ hget
          have hle1 := leavesM_le x.l (i + 1)
          obtain ⟨r, σ1, T, own1, hc, hK1, c', rfl, rfl, hnv1, gk1⟩ := changed_run h27 b x.l[i] (cs i) (bss i) (j - leavesM (x.l.take i)) kl τ (hx.sub hmem) ni gk (by omega) (fun h => hkb (hin i hl kl h)) (by omega)
          have hkt : kb < τ.n := by omega
          have same1 : ∀ k, k < τ.n → k ≠ kl → k ∉ bss i → σ1.get k = τ.get k := fun k h h' h'' => hK1.same k h (by simp [h', h''])
          have q0 := (same1 σ.n (by omega) (Ne.symm hne) (fun h => by have := n1.lt _ (hin i hl _ h); omega)).trans g0
          have q1 := (same1 (σ.n + 1) (by omega) (Ne.symm hne1) (fun h => by have := n1.lt _ (hin i hl _ h); omega)).trans g1
          have qb := (same1 kb hkt (Ne.symm hklb) (h5 i hl)).trans gb
          have n11 := hK1.n
          have hflen := flat_range_len (n := x.l.length) hcs
          have hle : i * 4 + 4 ≤ x.l.length * 4 := by have := Nat.mul_le_mul_right 4 (show i + 1 ≤ x.l.length from hl); rw [Nat.succ_mul] at this; exact this
          have hst := storeC_flat hcs hl hnv1.len hnv1.cell
          have hcl := hnv1.len
          simp only [go_sem, ↓reduceIte, Option.some.injEq, Bool.true_eq_false, Bool.false_eq_true, Int.reduceBEq, Int.reduceBNe, Int.reduceLT, Int.reduceLE, Nat.add_assoc, Nat.reduceAdd, Nat.reducePow, Nat.zero_le, Nat.reduceEqDiff, Nat.reduceLT, Nat.reduceLeDiff, Nat.reduceMul, Nat.reduceSub, Nat.add_left_cancel_iff, Nat.lt_irrefl, Nat.le_refl, Nat.add_eq_left, Nat.left_eq_add, beq_self_eq_true, t1, t2, t3, t6, t7, g0, gb, dec_lt hl, hflen, hle, flat_range_at hcs hl, indexR_nat hl, sliceLen_row]
          refine ⟨_, _, _, hc, ?_⟩
          simp only [go_sem, ↓reduceIte, Option.some.injEq, Bool.true_eq_false, Bool.false_eq_true, Int.reduceBEq, Int.reduceBNe, Int.reduceLT, Int.reduceLE, Nat.add_assoc, Nat.reduceAdd, Nat.reducePow, Nat.zero_le, Nat.reduceEqDiff, Nat.reduceLT, Nat.reduceLeDiff, Nat.reduceMul, Nat.reduceSub, Nat.add_left_cancel_iff, Nat.lt_irrefl, Nat.le_refl, Nat.add_eq_left, Nat.left_eq_add, beq_self_eq_true, t1, t2, t3, t6, t7, qb, indexR_nat hl, hst]
          refine ⟨drawOk_rel [10, 12] [(10, 0), (10, 1), (10, 2)] rfl (by kernel_rfl) rfl ?_, ?_⟩
          · have hx0 : meets T [σ.n] = false := by
              unfold meets; rw [List.any_eq_false]; intro k hk'
              rcases hK1.w k hk' with h | h
              · rcases List.mem_cons.1 h with rfl | h
                · simp; omega
                · have := n1.lt k (hin i hl k h); simp; omega
              · simp; omega
            have h6' : meets T [] = false := by unfold meets; simp
            simp [hx0, h6']
          · rw [wrap_succ hl hlen]
            have hK2 : Kept σ (kl :: kb :: (List.range x.l.length).flatMap bss) σ1 (kl :: bss i) (W ++ low σ.n T) := (hK.owns (own2 := kl :: bss i) (fun k hk' => .inl (by
              rcases List.mem_cons.1 hk' with rfl | hk'
              · simp
              · exact List.mem_cons_of_mem _ (hin i hl k hk')))).call hK1
            have hK3 := (hK2.write (k := kb) (b := .cells ((List.range x.l.length).flatMap fun r => if r = i then c' else cs r)) (.inl (by simp))).owns (own2 := kl :: kb :: (List.range x.l.length).flatMap bss) fun k hk' => .inl hk'
            refine ih _ _ _ _ (by omega) ⟨i + 1, fun r => if r = i then c' else cs r, rfl, hl, by simp only [St.n_set]; omega, hK3, by rw [St.get_set_ne hnkb]; exact q0, by rw [St.get_set_ne hnkb1]; exact q1, St.get_set_eq, fun r => ?_, fun r y hy => ?_, ?_, by simp only [go_sem, ↓reduceIte, Option.some.injEq, Bool.true_eq_false, Bool.false_eq_true, Int.reduceBEq, Int.reduceBNe, Int.reduceLT, Int.reduceLE, Nat.add_assoc, Nat.reduceAdd, Nat.reducePow, Nat.zero_le, Nat.reduceEqDiff, Nat.reduceLT, Nat.reduceLeDiff, Nat.reduceMul, Nat.reduceSub, Nat.add_left_cancel_iff, Nat.lt_irrefl, Nat.le_refl, Nat.add_eq_left, Nat.left_eq_add, beq_self_eq_true, t1], by simp only [go_sem, ↓reduceIte, Option.some.injEq, Bool.true_eq_false, Bool.false_eq_true, Int.reduceBEq, Int.reduceBNe, Int.reduceLT, Int.reduceLE, Nat.add_assoc, Nat.reduceAdd, Nat.reducePow, Nat.zero_le, Nat.reduceEqDiff, Nat.reduceLT, Nat.reduceLeDiff, Nat.reduceMul, Nat.reduceSub, Nat.add_left_cancel_iff, Nat.lt_irrefl, Nat.le_refl, Nat.add_eq_left, Nat.left_eq_add, beq_self_eq_true, t2], by simp only [go_sem, ↓reduceIte, Option.some.injEq, Bool.true_eq_false, Bool.false_eq_true, Int.reduceBEq, Int.reduceBNe, Int.reduceLT, Int.reduceLE, Nat.add_assoc, Nat.reduceAdd, Nat.reducePow, Nat.zero_le, Nat.reduceEqDiff, Nat.reduceLT, Nat.reduceLeDiff, Nat.reduceMul, Nat.reduceSub, Nat.add_left_cancel_iff, Nat.lt_irrefl, Nat.le_refl, Nat.add_eq_left, Nat.left_eq_add, beq_self_eq_true, t3], by simp only [go_sem, ↓reduceIte, Option.some.injEq, Bool.true_eq_false, Bool.false_eq_true, Int.reduceBEq, Int.reduceBNe, Int.reduceLT, Int.reduceLE, Nat.add_assoc, Nat.reduceAdd, Nat.reducePow, Nat.zero_le, Nat.reduceEqDiff, Nat.reduceLT, Nat.reduceLeDiff, Nat.reduceMul, Nat.reduceSub, Nat.add_left_cancel_iff, Nat.lt_irrefl, Nat.le_refl, Nat.add_eq_left, Nat.left_eq_add, beq_self_eq_true, t6], by simp only [go_sem, ↓reduceIte, Option.some.injEq, Bool.true_eq_false, Bool.false_eq_true, Int.reduceBEq, Int.reduceBNe, Int.reduceLT, Int.reduceLE, Nat.add_assoc, Nat.reduceAdd, Nat.reducePow, Nat.zero_le, Nat.reduceEqDiff, Nat.reduceLT, Nat.reduceLeDiff, Nat.reduceMul, Nat.reduceSub, Nat.add_left_cancel_iff, Nat.lt_irrefl, Nat.le_refl, Nat.add_eq_left, Nat.left_eq_add, beq_self_eq_true]⟩
            · dsimp only; split
              · exact hcl
              · exact hcs r
            · have hr : r < x.l.length := (List.getElem?_eq_some_iff.1 hy).1
              by_cases e : r = i
              · subst e
                rw [hget] at hy; cases hy
                simp only [if_true]
                rw [if_pos (by omega)]
                exact hnv1.set (h5 r hr)
              · simp only [e, if_false]
                have hold := hnv r y hy
                have hflag : (if r < i + 1 then (chP b (j - leavesM (x.l.take r)) y).1 else y) = (if r < i then (chP b (j - leavesM (x.l.take r)) y).1 else y) := by
                  by_cases e' : r < i
                  · rw [if_pos (by omega), if_pos e']
                  · rw [if_neg (by omega), if_neg e']
                rw [hflag]
                refine (hold.stay hK1.n fun q hq => same1 q (hold.lt q hq) ?_ (h6 r i hr hl e q hq)).set (h5 r hr)
                rintro rfl; exact hkb (hin r hr _ hq)
            · rw [St.get_set_ne hklb, gk1, ch_left, hlm]
              congr 4; omega
        · have hi' : i = x.l.length := by omega
          simp only [go_sem, ↓reduceIte, Option.some.injEq, Bool.true_eq_false, Bool.false_eq_true, Int.reduceBEq, Int.reduceBNe, Int.reduceLT, Int.reduceLE, Nat.add_assoc, Nat.reduceAdd, Nat.reducePow, Nat.zero_le, Nat.reduceEqDiff, Nat.reduceLT, Nat.reduceLeDiff, Nat.reduceMul, Nat.reduceSub, Nat.add_left_cancel_iff, Nat.lt_irrefl, Nat.le_refl, Nat.add_eq_left, Nat.left_eq_add, beq_self_eq_true, t1, t2, t3, t6, t7, g0, gb, g1, dec_ge hl, hne1, gk, sliceLen_row]
          rw [hi', List.take_length] at gk
          refine ⟨_, hK.set (.inr (by omega)), _, rfl, rfl, ?_, by rw [hi', List.take_length, ch_leftL]⟩
          have hll := chL_len b x.l j
          have key := NV.row (m := true) (σ := τ.set (σ.n + 1) (.cells [.d (.int .i64 x.kind), .d (.int .i64 x.num), .d (.int .i64 x.pos), .row kb 0 x.l.length 4])) (k := x.kind) (n := x.num) (p := x.pos) (z := x.z) (l := (chL b j x.l).1) (kb := kb) cs bss
            (by rw [St.get_set_ne (Ne.symm hnkb1), hll]; exact gb) (by simp only [St.n_set]; omega) (fun r y hy => ?_) hcs (by rw [hll]; exact h5) (by rw [hll]; exact h6)
          · rw [hll] at key; exact key
          · have hr : r < x.l.length := by have := (List.getElem?_eq_some_iff.1 hy).1; omega
            have hgr : x.l[r]? = some x.l[r] := by simp [hr]
            rw [ch_get b x.l j r _ hgr] at hy
            cases hy
            have hold := hnv r _ hgr
            rw [if_pos (by omega)] at hold
            exact hold.set fun h => by have := n1.lt _ (hin r hr _ h); omega
      all_goals first | rfl | (simp only [go_sem, ↓reduceIte, Option.some.injEq, Bool.true_eq_false, Bool.false_eq_true, Int.reduceBEq, Int.reduceBNe, Int.reduceLT, Int.reduceLE, Nat.add_assoc, Nat.reduceAdd, Nat.reducePow, Nat.zero_le, Nat.reduceEqDiff, Nat.reduceLT, Nat.reduceLeDiff, Nat.reduceMul, Nat.reduceSub, Nat.add_left_cancel_iff, Nat.lt_irrefl, Nat.le_refl, Nat.add_eq_left, Nat.left_eq_add, beq_self_eq_true]; done) | (simp only [go_sem, ↓reduceIte, Option.some.injEq, Bool.true_eq_false, Bool.false_eq_true, Int.reduceBEq, Int.reduceBNe, Int.reduceLT, Int.reduceLE, Nat.add_assoc, Nat.reduceAdd, Nat.reducePow, Nat.zero_le, Nat.reduceEqDiff, Nat.reduceLT, Nat.reduceLeDiff, Nat.reduceMul, Nat.reduceSub, Nat.add_left_cancel_iff, Nat.lt_irrefl, Nat.le_refl, Nat.add_eq_left, Nat.left_eq_add, beq_self_eq_true]; rfl)
termination_by x
decreasing_by exact Node.sub_lt hmem
end Go.Am
namespace Go.Am
open Go Go.Proofs

/-- how calls leave memory, for TreeOther -/
def mdO : Nat → Md := fun f => match f with
  | 56 | 22 | 21 | 49 | 19 => .ice
  | 52 | 53 | 96 | 18 | 54 | 55 | 57 | 24 | 27 => .keep
  | _ => .cut
theorem works1O (m : Nat → Blk) : CallsTo (XX mdO) (.func 15 []) [] ⟨1, m⟩ (.d (.bool true)) ⟨1, m⟩ [] := ⟨3000, by kernel_rfl⟩

def bringP (i n : Int) : Int := if n ≤ 0 then 0 else if i.tmod n < 0 then IntKind.i64.wrap (i.tmod n + n) else i.tmod n
theorem bring_call {fz : Nat → Md} (h26 : fz 26 = .cut) (i n : Int) (σ : St) : CallsTo (XX fz) (.func 26 []) [.d (.int .i64 i), .d (.int .i64 n)] σ (.d (.int .i64 (bringP i n))) σ [] := by
  refine CallsTo.cut0 h26 fn26 (by simp) rfl ?_
  simp only [Try.f26, Option.getD_some]
  unfold bringP
  simp only [go_sem, ↓reduceIte, Option.some.injEq, Bool.true_eq_false, Bool.false_eq_true, Int.reduceBEq, Int.reduceBNe, Int.reduceLT, Int.reduceLE, Nat.add_assoc, Nat.reduceAdd, Nat.reducePow, Nat.zero_le, Nat.reduceEqDiff, Nat.reduceLT, Nat.reduceLeDiff, Nat.reduceMul, Nat.reduceSub, Nat.add_left_cancel_iff, Nat.lt_irrefl, Nat.le_refl, Nat.add_eq_left, Nat.left_eq_add, beq_self_eq_true]
  by_cases h : n ≤ 0
  · have h1 : decide (n ≤ 0) = true := by simpa using h
    simp only [go_sem, ↓reduceIte, Option.some.injEq, Bool.true_eq_false, Bool.false_eq_true, Int.reduceBEq, Int.reduceBNe, Int.reduceLT, Int.reduceLE, Nat.add_assoc, Nat.reduceAdd, Nat.reducePow, Nat.zero_le, Nat.reduceEqDiff, Nat.reduceLT, Nat.reduceLeDiff, Nat.reduceMul, Nat.reduceSub, Nat.add_left_cancel_iff, Nat.lt_irrefl, Nat.le_refl, Nat.add_eq_left, Nat.left_eq_add, beq_self_eq_true, h1, h]
  · have h1 : decide (n ≤ 0) = false := by simpa using h
    simp only [go_sem, ↓reduceIte, Option.some.injEq, Bool.true_eq_false, Bool.false_eq_true, Int.reduceBEq, Int.reduceBNe, Int.reduceLT, Int.reduceLE, Nat.add_assoc, Nat.reduceAdd, Nat.reducePow, Nat.zero_le, Nat.reduceEqDiff, Nat.reduceLT, Nat.reduceLeDiff, Nat.reduceMul, Nat.reduceSub, Nat.add_left_cancel_iff, Nat.lt_irrefl, Nat.le_refl, Nat.add_eq_left, Nat.left_eq_add, beq_self_eq_true, h1, h, bin_rem (show n ≠ 0 by omega)]
    by_cases h2 : i.tmod n < 0
    · have h3 : decide (i.tmod n < 0) = true := by simpa using h2
      simp only [go_sem, ↓reduceIte, Option.some.injEq, Bool.true_eq_false, Bool.false_eq_true, Int.reduceBEq, Int.reduceBNe, Int.reduceLT, Int.reduceLE, Nat.add_assoc, Nat.reduceAdd, Nat.reducePow, Nat.zero_le, Nat.reduceEqDiff, Nat.reduceLT, Nat.reduceLeDiff, Nat.reduceMul, Nat.reduceSub, Nat.add_left_cancel_iff, Nat.lt_irrefl, Nat.le_refl, Nat.add_eq_left, Nat.left_eq_add, beq_self_eq_true, h3, h2]
    · have h3 : decide (i.tmod n < 0) = false := by simpa using h2
      simp only [go_sem, ↓reduceIte, Option.some.injEq, Bool.true_eq_false, Bool.false_eq_true, Int.reduceBEq, Int.reduceBNe, Int.reduceLT, Int.reduceLE, Nat.add_assoc, Nat.reduceAdd, Nat.reducePow, Nat.zero_le, Nat.reduceEqDiff, Nat.reduceLT, Nat.reduceLeDiff, Nat.reduceMul, Nat.reduceSub, Nat.add_left_cancel_iff, Nat.lt_irrefl, Nat.le_refl, Nat.add_eq_left, Nat.left_eq_add, beq_self_eq_true, h3, h2]
theorem bring_lt {i n : Int} (h : 0 < n) (hn : n < 1000000000) : 0 ≤ bringP i n ∧ bringP i n < n := by
  unfold bringP
  rw [if_neg (by omega)]
  have h1 := Int.tmod_lt_of_pos i h
  have h2 : -n < i.tmod n := by
    have := Int.lt_tmod_of_pos i h; omega
  split
  · rw [wrap_small (by omega) (by omega)]; omega
  · omega

noncomputable def toR : Array Nat × Code × Code := ((rangesOf (Try.f5.body.getD .skip))[0]?).getD default
noncomputable def toL (tm : Tm) : ALoop := ⟨5, 62, tm, toR.1, toR.2.1, toR.2.2, .ready, none⟩
def ToI (kl k7 : Nat) (L : ALoop) (_ : Nat) (s : Int) (σ : St) (own : List Nat) : Prop :=
  own = [kl, k7] ∧ σ.get kl = .loop L ∧ σ.get k7 = .cells [.d (.int .i64 s)] ∧ kl < σ.n ∧ k7 < σ.n
theorem to_rounds {fz : Nat → Md} {kl k7 : Nat} {tm : Tm} (t7 : tm.at 7 = .ptr k7 0) (n1 : kl ≠ k7) : Rounds fz Int kl cntS (fun _ x => Small x) (ToI kl k7 (toL tm)) where
  stay := by
    rintro b s σ τ own ⟨rfl, g1, g2, l1, l2⟩ hn hg
    exact ⟨rfl, by rw [hg kl (by simp)]; exact g1, by rw [hg k7 (by simp)]; exact g2, by omega, by omega⟩
  lt := by
    rintro b s σ own k ⟨rfl, g1, g2, l1, l2⟩ hk
    simp at hk; omega
  less := fun _ _ _ _ h => h
  sub := fun _ x y h _ hy => h.sub hy
  small := fun _ x h => h
  round := by
    rintro b d x s σ own hx hkd ⟨rfl, g1, g2, l1, l2⟩
    refine Run.yld g1 ⟨rfl, by kernel_rfl⟩ ?_
    have w1 : (toL tm).fn = 5 := rfl
    have w2 : (toL tm).nt = 62 := rfl
    have w3 : (toL tm).tm = tm := rfl
    have w4 : (toL tm).params = #[19, 20] := rfl
    have w5 : (toL tm).assign = toR.2.1 := rfl
    have w6 : (toL tm).body = toR.2.2 := rfl
    have w7 : (toL tm).st = .ready := rfl
    simp only [w1, w2, w3, w4, w5, w6, toR, Try.f5, rangesOf, Option.getD_some, List.append_nil, List.nil_append, List.getElem?_cons_zero, List.cons_append]
    simp only [go_sem, ↓reduceIte, Option.some.injEq, Bool.true_eq_false, Bool.false_eq_true, Int.reduceBEq, Int.reduceBNe, Int.reduceLT, Int.reduceLE, Nat.add_assoc, Nat.reduceAdd, Nat.reducePow, Nat.zero_le, Nat.reduceEqDiff, Nat.reduceLT, Nat.reduceLeDiff, Nat.reduceMul, Nat.reduceSub, Nat.add_left_cancel_iff, Nat.lt_irrefl, Nat.le_refl, Nat.add_eq_left, Nat.left_eq_add, beq_self_eq_true, Node.a, n1, g1, g2, t7, w7, Ne.symm n1]
    refine ⟨_, rfl, rfl, [kl, k7], ((Kept.refl.write (.inl (by simp))).write (.inl (by simp))).raw (.inl (by simp)), rfl, St.get_set_eq, ?_, ?_, ?_⟩
    · rw [St.get_set_ne (Ne.symm n1), St.get_set_eq]; rfl
    · simp only [St.n_set]; omega
    · simp only [St.n_set]; omega
end Go.Am
namespace Go.Am
open Go Go.Proofs

mutual
theorem ch_sz (b : Bool) : ∀ (x : Node) (j : Int), (chP b j x).1.sz = x.sz
  | .mk k n p z l, j => by
    rw [chP]
    by_cases hk : k = 0
    · rw [if_neg (by simp [hk])]; dsimp only; rw [Node.sz, Node.sz, ch_szL b l j]
    · rw [if_pos hk]; dsimp only; split
      · split <;> simp [Node.sz]
      · rfl
theorem ch_szL (b : Bool) : ∀ (l : List Node) (j : Int), ((chL b j l).1.map Node.sz).sum = (l.map Node.sz).sum
  | [], j => by simp [chL]
  | x :: l, j => by rw [chL]; dsimp only; rw [List.map_cons, List.sum_cons, List.map_cons, List.sum_cons, ch_sz b x, ch_szL b l]
end

set_option maxHeartbeats 2000000 in
theorem other_call (x : Node) (hx : Small x) (which how : Int) : ∃ σ' T, CallsTo (XX mdO) (.func 5 []) [x.a, .d (.int .i64 which), .d (.int .i64 how)] St.empty (.d (.bool true)) σ' T := by
  refine law_call rfl fn5 (by simp) ?_
  simp only [Try.f5, Option.getD_some]
  have z0 : (St.empty).n = 0 := rfl
  simp only [go_sem, ↓reduceIte, Option.some.injEq, Bool.true_eq_false, Bool.false_eq_true, Int.reduceBEq, Int.reduceBNe, Int.reduceLT, Int.reduceLE, Nat.add_assoc, Nat.reduceAdd, Nat.reducePow, Nat.zero_le, Nat.reduceEqDiff, Nat.reduceLT, Nat.reduceLeDiff, Nat.reduceMul, Nat.reduceSub, Nat.add_left_cancel_iff, Nat.lt_irrefl, Nat.le_refl, Nat.add_eq_left, Nat.left_eq_add, beq_self_eq_true, Node.a, z0]
  have hw : CallsTo (XX mdO) (.func 15 []) [] (St.empty.push (.cells x.c)) (.d (.bool true)) (St.empty.push (.cells x.c)) [] := works1O _
  generalize hσ : St.empty.push (.cells x.c) = σ at hw
  have e2 : σ.n = 1 := by rw [← hσ]; rfl
  have b0 : σ.get 0 = .cells x.c := by rw [← hσ]; rfl
  clear hσ
  refine ⟨_, _, _, hw, ?_⟩
  simp only [go_sem, ↓reduceIte, Option.some.injEq, Bool.true_eq_false, Bool.false_eq_true, Int.reduceBEq, Int.reduceBNe, Int.reduceLT, Int.reduceLE, Nat.add_assoc, Nat.reduceAdd, Nat.reducePow, Nat.zero_le, Nat.reduceEqDiff, Nat.reduceLT, Nat.reduceLeDiff, Nat.reduceMul, Nat.reduceSub, Nat.add_left_cancel_iff, Nat.lt_irrefl, Nat.le_refl, Nat.add_eq_left, Nat.left_eq_add, beq_self_eq_true, e2, b0, low_zero]
  refine ⟨_, _, _, deep_call (fz := mdO) rfl x 1000 σ hx (by omega), ?_⟩
  cases hd : deepP x 1000 with
  | true => simp only [go_sem, ↓reduceIte, Option.some.injEq, Bool.true_eq_false, Bool.false_eq_true, Int.reduceBEq, Int.reduceBNe, Int.reduceLT, Int.reduceLE, Nat.add_assoc, Nat.reduceAdd, Nat.reducePow, Nat.zero_le, Nat.reduceEqDiff, Nat.reduceLT, Nat.reduceLeDiff, Nat.reduceMul, Nat.reduceSub, Nat.add_left_cancel_iff, Nat.lt_irrefl, Nat.le_refl, Nat.add_eq_left, Nat.left_eq_add, beq_self_eq_true]
  | false =>
    simp only [go_sem, ↓reduceIte, Option.some.injEq, Bool.true_eq_false, Bool.false_eq_true, Int.reduceBEq, Int.reduceBNe, Int.reduceLT, Int.reduceLE, Nat.add_assoc, Nat.reduceAdd, Nat.reducePow, Nat.zero_le, Nat.reduceEqDiff, Nat.reduceLT, Nat.reduceLeDiff, Nat.reduceMul, Nat.reduceSub, Nat.add_left_cancel_iff, Nat.lt_irrefl, Nat.le_refl, Nat.add_eq_left, Nat.left_eq_add, beq_self_eq_true, e2, b0, low_zero]
    have t1 : ((σ.push (.cells [.d (.int .i64 0)])).set 1 (.cells [.d (.int .i64 0)])).n = 2 := by rw [St.n_set, St.n_push, e2]
    generalize hσ1 : (σ.push (.cells [.d (.int .i64 0)])).set 1 (.cells [.d (.int .i64 0)]) = σ1 at t1
    have g0 : σ1.get 0 = .cells x.c := by rw [← hσ1, St.get_set_ne (by omega), St.get_push_ne (by omega)]; exact b0
    have g1 : σ1.get 1 = .cells [.d (.int .i64 0)] := by rw [← hσ1, St.get_set_eq]
    have l1 := leaves_call (fz := mdO) rfl x σ1
    rw [t1] at l1
    refine ⟨_, _, _, l1, ?_⟩
    simp only [go_sem, ↓reduceIte, Option.some.injEq, Bool.true_eq_false, Bool.false_eq_true, Int.reduceBEq, Int.reduceBNe, Int.reduceLT, Int.reduceLE, Nat.add_assoc, Nat.reduceAdd, Nat.reducePow, Nat.zero_le, Nat.reduceEqDiff, Nat.reduceLT, Nat.reduceLeDiff, Nat.reduceMul, Nat.reduceSub, Nat.add_left_cancel_iff, Nat.lt_irrefl, Nat.le_refl, Nat.add_eq_left, Nat.left_eq_add, beq_self_eq_true, t1, g0, g1, low_zero]
    have l2 := leaves_call (fz := mdO) rfl x (σ1.push (.cells x.c))
    rw [St.n_push, t1] at l2
    refine ⟨_, _, _, l2, ?_⟩
    simp only [go_sem, ↓reduceIte, Option.some.injEq, Bool.true_eq_false, Bool.false_eq_true, Int.reduceBEq, Int.reduceBNe, Int.reduceLT, Int.reduceLE, Nat.add_assoc, Nat.reduceAdd, Nat.reducePow, Nat.zero_le, Nat.reduceEqDiff, Nat.reduceLT, Nat.reduceLeDiff, Nat.reduceMul, Nat.reduceSub, Nat.add_left_cancel_iff, Nat.lt_irrefl, Nat.le_refl, Nat.add_eq_left, Nat.left_eq_add, beq_self_eq_true, t1, g0, g1, low_zero]
    generalize hσ2 : (σ1.push (.cells x.c)).push (.cells x.c) = σ2
    have n2 : σ2.n = 4 := by rw [← hσ2]; simp [St.n_push, t1]
    have k0 : σ2.get 0 = .cells x.c := by rw [← hσ2, St.get_push_ne (by simp [St.n_push, t1]), St.get_push_ne (by omega)]; exact g0
    have k1 : σ2.get 1 = .cells [.d (.int .i64 0)] := by rw [← hσ2, St.get_push_ne (by simp [St.n_push, t1]), St.get_push_ne (by omega)]; exact g1
    have k3 : σ2.get 3 = .cells x.c := by rw [← hσ2, St.get_push_eq' (by simp [St.n_push, t1])]
    clear hσ2 hσ1 l1 l2 hw
    generalize htm : FT.set _ 18 (A.func 54 [A.ptr 3 0]) = tm
    have u1 : Tm.at tm 1 = .d (.int .i64 which) := by rw [← htm]; simp only [go_sem, ↓reduceIte, Option.some.injEq, Bool.true_eq_false, Bool.false_eq_true, Int.reduceBEq, Int.reduceBNe, Int.reduceLT, Int.reduceLE, Nat.add_assoc, Nat.reduceAdd, Nat.reducePow, Nat.zero_le, Nat.reduceEqDiff, Nat.reduceLT, Nat.reduceLeDiff, Nat.reduceMul, Nat.reduceSub, Nat.add_left_cancel_iff, Nat.lt_irrefl, Nat.le_refl, Nat.add_eq_left, Nat.left_eq_add, beq_self_eq_true]
    have u2 : Tm.at tm 2 = .d (.int .i64 how) := by rw [← htm]; simp only [go_sem, ↓reduceIte, Option.some.injEq, Bool.true_eq_false, Bool.false_eq_true, Int.reduceBEq, Int.reduceBNe, Int.reduceLT, Int.reduceLE, Nat.add_assoc, Nat.reduceAdd, Nat.reducePow, Nat.zero_le, Nat.reduceEqDiff, Nat.reduceLT, Nat.reduceLeDiff, Nat.reduceMul, Nat.reduceSub, Nat.add_left_cancel_iff, Nat.lt_irrefl, Nat.le_refl, Nat.add_eq_left, Nat.left_eq_add, beq_self_eq_true]
    have u3 : Tm.at tm 3 = .ptr 0 0 := by rw [← htm]; simp only [go_sem, ↓reduceIte, Option.some.injEq, Bool.true_eq_false, Bool.false_eq_true, Int.reduceBEq, Int.reduceBNe, Int.reduceLT, Int.reduceLE, Nat.add_assoc, Nat.reduceAdd, Nat.reducePow, Nat.zero_le, Nat.reduceEqDiff, Nat.reduceLT, Nat.reduceLeDiff, Nat.reduceMul, Nat.reduceSub, Nat.add_left_cancel_iff, Nat.lt_irrefl, Nat.le_refl, Nat.add_eq_left, Nat.left_eq_add, beq_self_eq_true]
    have u7 : Tm.at tm 7 = .ptr 1 0 := by rw [← htm]; simp only [go_sem, ↓reduceIte, Option.some.injEq, Bool.true_eq_false, Bool.false_eq_true, Int.reduceBEq, Int.reduceBNe, Int.reduceLT, Int.reduceLE, Nat.add_assoc, Nat.reduceAdd, Nat.reducePow, Nat.zero_le, Nat.reduceEqDiff, Nat.reduceLT, Nat.reduceLeDiff, Nat.reduceMul, Nat.reduceSub, Nat.add_left_cancel_iff, Nat.lt_irrefl, Nat.le_refl, Nat.add_eq_left, Nat.left_eq_add, beq_self_eq_true]
    have u18 : Tm.at tm 18 = .func 54 [.ptr 3 0] := by rw [← htm]; simp only [go_sem, ↓reduceIte, Option.some.injEq, Bool.true_eq_false, Bool.false_eq_true, Int.reduceBEq, Int.reduceBNe, Int.reduceLT, Int.reduceLE, Nat.add_assoc, Nat.reduceAdd, Nat.reducePow, Nat.zero_le, Nat.reduceEqDiff, Nat.reduceLT, Nat.reduceLeDiff, Nat.reduceMul, Nat.reduceSub, Nat.add_left_cancel_iff, Nat.lt_irrefl, Nat.le_refl, Nat.add_eq_left, Nat.left_eq_add, beq_self_eq_true]
    clear htm
    obtain ⟨σ3, T, own1, hc, hK, rfl, q1, q2, -, -⟩ := leaves_run (fz := mdO) rfl rfl rfl rfl rfl (to_rounds (kl := 4) (k7 := 1) u7 (by omega)) 0 x 0 (σ2.push (.loop (toL tm))) [4, 1]
      hx ⟨rfl, St.get_push_eq' n2.symm, by rw [St.get_push_ne (by omega)]; exact k1, by simp [St.n_push, n2], by simp [St.n_push, n2]⟩
      (kx := 3) (by rw [St.get_push_ne (by omega)]; exact k3) (by simp [St.n_push, n2])
    have hsz := x.size_le
    have hsp := size_split x
    have hsm : x.size < 1000000000 := by unfold Small at hx; omega
    rw [cntLeaf_P x 0 0 (by omega) (by omega), Int.zero_add] at q2
    refine Ev.range (r := .tup []) (σ2 := σ3) (T := T) (L := toL tm) rfl ?_ (by rw [n2]; exact q1) (by intro h; cases h) ?_
    · rw [show ev tm (.tmp 18) = Tm.at tm 18 from rfl, u18, n2]; exact hc
    have hn3 := hK.n
    simp only [St.n_push, n2] at hn3
    have r0 : σ3.get 0 = .cells x.c := by rw [hK.same 0 (by simp [St.n_push, n2]) (by simp), St.get_push_ne (by omega)]; exact k0
    rw [n2, low_zero, show ((toL tm).pending.map Item.code).toList = [] from rfl]
    generalize hσ4 : σ3.set 4 .dead = σ4
    have v0 : σ4.get 0 = .cells x.c := by rw [← hσ4, St.get_set_ne (by omega)]; exact r0
    have v1 : σ4.get 1 = .cells [.d (.int .i64 (leavesN x))] := by rw [← hσ4, St.get_set_ne (by omega)]; exact q2
    have n4 : 5 ≤ σ4.n := by rw [← hσ4, St.n_set]; omega
    clear hσ4 hc hK q1 q2 r0 hn3
    simp only [go_sem, ↓reduceIte, Option.some.injEq, Bool.true_eq_false, Bool.false_eq_true, Int.reduceBEq, Int.reduceBNe, Int.reduceLT, Int.reduceLE, Nat.add_assoc, Nat.reduceAdd, Nat.reducePow, Nat.zero_le, Nat.reduceEqDiff, Nat.reduceLT, Nat.reduceLeDiff, Nat.reduceMul, Nat.reduceSub, Nat.add_left_cancel_iff, Nat.lt_irrefl, Nat.le_refl, Nat.add_eq_left, Nat.left_eq_add, beq_self_eq_true, u3, v0, low_zero]
    obtain ⟨r, σ5, T5, own5, hc5, hK5, c, rfl, hnv⟩ := copy_run (fz := mdO) rfl x σ4 hx
    refine ⟨_, _, _, hc5, ?_⟩
    have n5 := hK5.n
    have w0 : σ5.get 0 = .cells x.c := by rw [hK5.same 0 (by omega) (by simp)]; exact v0
    have w1 : σ5.get 1 = .cells [.d (.int .i64 (leavesN x))] := by rw [hK5.same 1 (by omega) (by simp)]; exact v1
    have own5' : ∀ k ∈ own5, 5 ≤ k := fun k hk => by have := (hK5.o k hk).resolve_left (by simp); omega
    obtain ⟨lv, rfl, e1, i1, -, -⟩ := hnv.open4
    have m0 : (0 : Nat) ≠ σ5.n := by omega
    have m1 : (1 : Nat) ≠ σ5.n := by omega
    simp only [go_sem, ↓reduceIte, Option.some.injEq, Bool.true_eq_false, Bool.false_eq_true, Int.reduceBEq, Int.reduceBNe, Int.reduceLT, Int.reduceLE, Nat.add_assoc, Nat.reduceAdd, Nat.reducePow, Nat.zero_le, Nat.reduceEqDiff, Nat.reduceLT, Nat.reduceLeDiff, Nat.reduceMul, Nat.reduceSub, Nat.add_left_cancel_iff, Nat.lt_irrefl, Nat.le_refl, Nat.add_eq_left, Nat.left_eq_add, beq_self_eq_true, low_zero, e1, i1, u3, u7, w0, w1, m0, m1]
    generalize hσ6 : (σ5.push (.cells [.d (.int .i64 0), .d (.int .i64 0), .d (.int .i64 0), .d (.slc true [])])).set σ5.n (.cells [.d (.int .i64 x.kind), .d (.int .i64 x.num), .d (.int .i64 x.pos), lv]) = σ6
    have n6 : σ6.n = σ5.n + 1 := by rw [← hσ6]; simp [St.n_set, St.n_push]
    have y0 : σ6.get 0 = .cells x.c := by rw [← hσ6, St.get_set_ne m0, St.get_push_ne (by omega)]; exact w0
    have y1 : σ6.get 1 = .cells [.d (.int .i64 (leavesN x))] := by rw [← hσ6, St.get_set_ne m1, St.get_push_ne (by omega)]; exact w1
    have y8 : σ6.get σ5.n = .cells [.d (.int .i64 x.kind), .d (.int .i64 x.num), .d (.int .i64 x.pos), lv] := by rw [← hσ6, St.get_set_eq]
    have hnv6 : NV true σ6 [.d (.int .i64 x.kind), .d (.int .i64 x.num), .d (.int .i64 x.pos), lv] x own5 := by rw [← hσ6]; exact hnv.push.set fun h => by have := hnv.lt _ h; omega
    have own6 : ∀ k ∈ own5, k < σ5.n := hnv.lt
    clear hσ6
    refine ⟨_, _, _, same_call (fz := mdO) rfl rfl x x _ _ _ _ σ6 hx (NV.of x) hnv6, ?_⟩
    rw [same_refl]
    simp only [go_sem, ↓reduceIte, Option.some.injEq, Bool.true_eq_false, Bool.false_eq_true, Int.reduceBEq, Int.reduceBNe, Int.reduceLT, Int.reduceLE, Nat.add_assoc, Nat.reduceAdd, Nat.reducePow, Nat.zero_le, Nat.reduceEqDiff, Nat.reduceLT, Nat.reduceLeDiff, Nat.reduceMul, Nat.reduceSub, Nat.add_left_cancel_iff, Nat.lt_irrefl, Nat.le_refl, Nat.add_eq_left, Nat.left_eq_add, beq_self_eq_true, low_zero, u3, u7, y0, y1, y8]
    refine ⟨_, _, _, same_call (fz := mdO) rfl rfl x x _ _ _ _ σ6 hx hnv6 (NV.of x), ?_⟩
    rw [same_refl]
    simp only [go_sem, ↓reduceIte, Option.some.injEq, Bool.true_eq_false, Bool.false_eq_true, Int.reduceBEq, Int.reduceBNe, Int.reduceLT, Int.reduceLE, Nat.add_assoc, Nat.reduceAdd, Nat.reducePow, Nat.zero_le, Nat.reduceEqDiff, Nat.reduceLT, Nat.reduceLeDiff, Nat.reduceMul, Nat.reduceSub, Nat.add_left_cancel_iff, Nat.lt_irrefl, Nat.le_refl, Nat.add_eq_left, Nat.left_eq_add, beq_self_eq_true, low_zero, u3, u7, y0, y1, y8]
    cases h0 : ((leavesN x : Int) == 0) with
    | true => simp only [go_sem, ↓reduceIte, Option.some.injEq, Bool.true_eq_false, Bool.false_eq_true, Int.reduceBEq, Int.reduceBNe, Int.reduceLT, Int.reduceLE, Nat.add_assoc, Nat.reduceAdd, Nat.reducePow, Nat.zero_le, Nat.reduceEqDiff, Nat.reduceLT, Nat.reduceLeDiff, Nat.reduceMul, Nat.reduceSub, Nat.add_left_cancel_iff, Nat.lt_irrefl, Nat.le_refl, Nat.add_eq_left, Nat.left_eq_add, beq_self_eq_true]
    | false =>
      have h0' : 0 < (leavesN x : Int) := by have := beq_eq_false_iff_ne.1 h0; omega
      simp only [go_sem, ↓reduceIte, Option.some.injEq, Bool.true_eq_false, Bool.false_eq_true, Int.reduceBEq, Int.reduceBNe, Int.reduceLT, Int.reduceLE, Nat.add_assoc, Nat.reduceAdd, Nat.reducePow, Nat.zero_le, Nat.reduceEqDiff, Nat.reduceLT, Nat.reduceLeDiff, Nat.reduceMul, Nat.reduceSub, Nat.add_left_cancel_iff, Nat.lt_irrefl, Nat.le_refl, Nat.add_eq_left, Nat.left_eq_add, beq_self_eq_true, low_zero, u1, u2, u3, u7, y0, y1, y8]
      refine ⟨_, _, _, bring_call (fz := mdO) rfl which (leavesN x) σ6, ?_⟩
      obtain ⟨br1, br2⟩ := bring_lt (i := which) h0' (by omega)
      have m2 : σ5.n ≠ σ6.n := by omega
      have m3 : (0 : Nat) ≠ σ6.n := by omega
      have m4 : (1 : Nat) ≠ σ6.n := by omega
      simp only [go_sem, ↓reduceIte, Option.some.injEq, Bool.true_eq_false, Bool.false_eq_true, Int.reduceBEq, Int.reduceBNe, Int.reduceLT, Int.reduceLE, Nat.add_assoc, Nat.reduceAdd, Nat.reducePow, Nat.zero_le, Nat.reduceEqDiff, Nat.reduceLT, Nat.reduceLeDiff, Nat.reduceMul, Nat.reduceSub, Nat.add_left_cancel_iff, Nat.lt_irrefl, Nat.le_refl, Nat.add_eq_left, Nat.left_eq_add, beq_self_eq_true, low_zero, u1, u2, u3, u7, y0, y1, y8, m2, m3, m4]
      generalize hσ7 : (σ6.push (.cells [.d (.int .i64 0)])).set σ6.n (.cells [.d (.int .i64 (bringP which (leavesN x)))]) = σ7
      have n7 : σ7.n = σ6.n + 1 := by rw [← hσ7]; simp [St.n_set, St.n_push]
      have z0 : σ7.get 0 = .cells x.c := by rw [← hσ7, St.get_set_ne m3, St.get_push_ne (by omega)]; exact y0
      have z8 : σ7.get σ5.n = .cells [.d (.int .i64 x.kind), .d (.int .i64 x.num), .d (.int .i64 x.pos), lv] := by rw [← hσ7, St.get_set_ne m2, St.get_push_ne (by omega)]; exact y8
      have z9 : σ7.get σ6.n = .cells [.d (.int .i64 (bringP which (leavesN x)))] := by rw [← hσ7, St.get_set_eq]
      have hnv7 : NV true σ7 [.d (.int .i64 x.kind), .d (.int .i64 x.num), .d (.int .i64 x.pos), lv] x own5 := by rw [← hσ7]; exact hnv6.push.set fun h => by have := own6 _ h; omega
      clear hσ7
      refine ⟨_, _, _, bring_call (fz := mdO) rfl how 2 σ7, ?_⟩
      generalize hb : (bringP how 2 == 1) = b
      simp only [go_sem, ↓reduceIte, Option.some.injEq, Bool.true_eq_false, Bool.false_eq_true, Int.reduceBEq, Int.reduceBNe, Int.reduceLT, Int.reduceLE, Nat.add_assoc, Nat.reduceAdd, Nat.reducePow, Nat.zero_le, Nat.reduceEqDiff, Nat.reduceLT, Nat.reduceLeDiff, Nat.reduceMul, Nat.reduceSub, Nat.add_left_cancel_iff, Nat.lt_irrefl, Nat.le_refl, Nat.add_eq_left, Nat.left_eq_add, beq_self_eq_true, low_zero, u1, u2, u3, u7, z0, z8, z9, hb]
      obtain ⟨r, σ8, T8, own8, hc8, hK8, c', rfl, rfl, hnv8, hleft⟩ := changed_run (fz := mdO) rfl b x _ own5 (bringP which (leavesN x)) σ6.n σ7 hx hnv7 z9 (by omega) (fun h => by have := own6 _ h; omega) (by omega)
      refine ⟨_, _, _, hc8, ?_⟩
      have n8 := hK8.n
      have a0 : σ8.get 0 = .cells x.c := by rw [hK8.same 0 (by omega) (by simp only [List.mem_cons, not_or]; exact ⟨by omega, fun h => by have := own5' _ h; omega⟩)]; exact z0
      have a8 : σ8.get σ5.n = .cells [.d (.int .i64 x.kind), .d (.int .i64 x.num), .d (.int .i64 x.pos), lv] := by rw [hK8.same σ5.n (by omega) (by simp only [List.mem_cons, not_or]; exact ⟨m2, fun h => by have := own6 _ h; omega⟩)]; exact z8
      obtain ⟨lv', rfl, e1', i1', -, -⟩ := hnv8.open4
      simp only [go_sem, ↓reduceIte, Option.some.injEq, Bool.true_eq_false, Bool.false_eq_true, Int.reduceBEq, Int.reduceBNe, Int.reduceLT, Int.reduceLE, Nat.add_assoc, Nat.reduceAdd, Nat.reducePow, Nat.zero_le, Nat.reduceEqDiff, Nat.reduceLT, Nat.reduceLeDiff, Nat.reduceMul, Nat.reduceSub, Nat.add_left_cancel_iff, Nat.lt_irrefl, Nat.le_refl, Nat.add_eq_left, Nat.left_eq_add, beq_self_eq_true, low_zero, u1, u2, u3, u7, a0, a8, e1', i1']
      refine ⟨drawOk_rel [4, 5] [] rfl (by kernel_rfl) rfl (by simp), ?_⟩
      obtain ⟨f1, f2⟩ := ch_on b x (bringP which (leavesN x)) br1 br2
      have fs := ch_size b x (bringP which (leavesN x))
      have fz := ch_sz b x (bringP which (leavesN x))
      generalize chP b (bringP which (leavesN x)) x = q at *
      obtain ⟨y, jq⟩ := q
      dsimp only at f1 f2 fs fz hnv8 e1' a8 ⊢
      have hnv9 : NV true (σ8.set σ5.n (.cells [.d (.int .i64 y.kind), .d (.int .i64 y.num), .d (.int .i64 y.pos), lv'])) [.d (.int .i64 y.kind), .d (.int .i64 y.num), .d (.int .i64 y.pos), lv'] y own5 := hnv8.set fun h => by have := own6 _ h; omega
      have hy : Small y := by unfold Small at *; omega
      simp only [go_sem, ↓reduceIte, Option.some.injEq, Bool.true_eq_false, Bool.false_eq_true, Int.reduceBEq, Int.reduceBNe, Int.reduceLT, Int.reduceLE, Nat.add_assoc, Nat.reduceAdd, Nat.reducePow, Nat.zero_le, Nat.reduceEqDiff, Nat.reduceLT, Nat.reduceLeDiff, Nat.reduceMul, Nat.reduceSub, Nat.add_left_cancel_iff, Nat.lt_irrefl, Nat.le_refl, Nat.add_eq_left, Nat.left_eq_add, beq_self_eq_true, low_zero, u1, u2, u3, u7, a0, a8, e1', i1', m0]
      refine ⟨_, _, _, same_call (fz := mdO) rfl rfl x y _ _ _ _ _ hx (NV.of x) hnv9, ?_⟩
      rw [f1]
      simp only [go_sem, ↓reduceIte, Option.some.injEq, Bool.true_eq_false, Bool.false_eq_true, Int.reduceBEq, Int.reduceBNe, Int.reduceLT, Int.reduceLE, Nat.add_assoc, Nat.reduceAdd, Nat.reducePow, Nat.zero_le, Nat.reduceEqDiff, Nat.reduceLT, Nat.reduceLeDiff, Nat.reduceMul, Nat.reduceSub, Nat.add_left_cancel_iff, Nat.lt_irrefl, Nat.le_refl, Nat.add_eq_left, Nat.left_eq_add, beq_self_eq_true, low_zero, u3, a0, m0]
      refine ⟨_, _, _, same_call (fz := mdO) rfl rfl y x _ _ _ _ _ hy hnv9 (NV.of x), ?_⟩
      rw [f2]
      simp only [go_sem, ↓reduceIte, Option.some.injEq, Bool.true_eq_false, Bool.false_eq_true, Int.reduceBEq, Int.reduceBNe, Int.reduceLT, Int.reduceLE, Nat.add_assoc, Nat.reduceAdd, Nat.reducePow, Nat.zero_le, Nat.reduceEqDiff, Nat.reduceLT, Nat.reduceLeDiff, Nat.reduceMul, Nat.reduceSub, Nat.add_left_cancel_iff, Nat.lt_irrefl, Nat.le_refl, Nat.add_eq_left, Nat.left_eq_add, beq_self_eq_true, low_zero, u3, a0, m0]
      refine ⟨_, _, _, sizeN_call (fz := mdO) rfl rfl rfl y _ _ _ hy hnv9, ?_⟩
      simp only [go_sem, ↓reduceIte, Option.some.injEq, Bool.true_eq_false, Bool.false_eq_true, Int.reduceBEq, Int.reduceBNe, Int.reduceLT, Int.reduceLE, Nat.add_assoc, Nat.reduceAdd, Nat.reducePow, Nat.zero_le, Nat.reduceEqDiff, Nat.reduceLT, Nat.reduceLeDiff, Nat.reduceMul, Nat.reduceSub, Nat.add_left_cancel_iff, Nat.lt_irrefl, Nat.le_refl, Nat.add_eq_left, Nat.left_eq_add, beq_self_eq_true, low_zero, u3, a0, m0]
      refine ⟨_, _, _, sizeN_call (fz := mdO) rfl rfl rfl x _ _ _ hx (NV.of x), ?_⟩
      rw [fs]
      simp only [go_sem, ↓reduceIte, Option.some.injEq, Bool.true_eq_false, Bool.false_eq_true, Int.reduceBEq, Int.reduceBNe, Int.reduceLT, Int.reduceLE, Nat.add_assoc, Nat.reduceAdd, Nat.reducePow, Nat.zero_le, Nat.reduceEqDiff, Nat.reduceLT, Nat.reduceLeDiff, Nat.reduceMul, Nat.reduceSub, Nat.add_left_cancel_iff, Nat.lt_irrefl, Nat.le_refl, Nat.add_eq_left, Nat.left_eq_add, beq_self_eq_true, low_zero, u3, a0, m0]
      exact drawOk_quiet rfl
end Go.Am

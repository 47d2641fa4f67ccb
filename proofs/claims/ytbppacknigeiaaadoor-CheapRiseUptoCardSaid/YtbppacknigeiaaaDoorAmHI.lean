/- Part HI of a proof that runs a program's calls on a small machine whose values bear no addresses: no conditions. -/
import Derived.Test.YtbppacknigeiaaaDoorAmHH
set_option autoImplicit false
set_option linter.unusedSimpArgs false
set_option linter.unusedVariables false
set_option linter.unusedSectionVars false
namespace Go.Am
open Go Go.Proofs
/-! kinds of the grammar alone -/
def TokM (t : Int) (a : Nat) : Prop := ∀ i : Nat, a.testBit i = true → (i : Int) < t
theorem TokM.or {t : Int} {a b : Nat} (h : TokM t a) (k : TokM t b) : TokM t (a ||| b) := fun i hi => by
  rw [Nat.testBit_or, Bool.or_eq_true] at hi
  exact hi.elim (h i) (k i)
theorem TokM.zero (t : Int) : TokM t 0 := fun i hi => by simp at hi
section
variable {F : List Nat} {nl : List Bool} {t : Int} {r : Nat}
theorem bgS_tok : ∀ (l : List Ex) (a : Nat), (∀ y ∈ l, TokM t (bgE F nl y).1) → TokM t a → TokM t (bgS F nl l a).1
  | [], a, _, h => by rw [bgS]; exact h
  | x :: l, a, hx, h => by
    rw [bgS]
    have := h.or (hx x (by simp))
    split
    · exact bgS_tok l _ (fun y hy => hx y (by simp [hy])) this
    · exact this
theorem bgA_tok : ∀ (l : List Ex) (a : Nat) (b : Bool), (∀ y ∈ l, TokM t (bgE F nl y).1) → TokM t a → TokM t (bgA F nl l a b).1
  | [], a, b, _, h => by rw [bgA]; exact h
  | x :: l, a, b, hx, h => by
    rw [bgA]
    exact bgA_tok l _ _ (fun y hy => hx y (by simp [hy])) (h.or (hx x (by simp)))
theorem bgE_tok (hF : ∀ n, TokM t (F.getD n 0)) : ∀ x : Ex, okE t r x → TokM t (bgE F nl x).1 := fun x ho => by
  have hsub : ∀ y ∈ x.l, TokM t (bgE F nl y).1 := fun y hy => bgE_tok hF y (ho.sub hy)
  rw [bgE_eq]
  split
  · rename_i k1
    obtain ⟨h1, h2⟩ := ho.tok k1
    intro i hi
    rw [Nat.testBit_two_pow] at hi
    have : x.num.toNat = i := by simpa using hi
    omega
  split
  · exact hF _
  split
  · exact bgS_tok _ _ hsub (TokM.zero t)
  · exact bgA_tok _ _ _ hsub (TokM.zero t)
termination_by x => x
decreasing_by exact Ex.sub_lt hy
theorem mdRun_tok {bs : List Ex} (ho : ∀ y ∈ bs, okE t r y) : ∀ (m : Nat) (F : List Nat), (∀ n, TokM t (F.getD n 0)) → ∀ n, TokM t ((mdRun nl bs m F).getD n 0)
  | 0, F, h => h
  | m + 1, F, h => by
    rw [mdRun]
    cases e : mdAt nl F 0 bs with
    | none => exact h
    | some G =>
      obtain ⟨n, x, hx, hne, rfl⟩ := mdAt_some (bs := bs) e (fun k x hk => by rw [Nat.zero_add]; exact hk)
      refine mdRun_tok ho m _ fun k => ?_
      rw [getD_setN]; split
      · exact bgE_tok h x (ho x (List.mem_of_getElem? hx))
      · exact h k
theorem bhS_tok : ∀ (l : List Ex) (b : Nat) (s : HR), (∀ y ∈ l, TokM t (bgE F nl y).1 ∧ ∀ b s, TokM t b → (∀ n, TokM t (s.1.getD n 0)) → ∀ n, TokM t ((bhE F nl y b s).1.1.getD n 0)) → TokM t b → (∀ n, TokM t (s.1.getD n 0)) →
    (∀ n, TokM t ((bhS F nl l b s).1.1.getD n 0)) ∧ TokM t (bhS F nl l b s).2.1
  | [], b, s, _, hb, hs => by rw [bhS]; exact ⟨hs, hb⟩
  | x :: l, b, s, hl, hb, hs => by
    obtain ⟨h1, h2⟩ := bhS_tok l b s (fun y hy => hl y (by simp [hy])) hb hs
    obtain ⟨h3, h4⟩ := hl x (by simp)
    rw [bhS]
    refine ⟨h4 _ _ h2 h1, ?_⟩
    dsimp only
    split
    · exact h3.or h2
    · exact h3
theorem bhA_tok : ∀ (l : List Ex) (b : Nat) (s : HR) (f : Bool), (∀ y ∈ l, ∀ b s, TokM t b → (∀ n, TokM t (s.1.getD n 0)) → ∀ n, TokM t ((bhE F nl y b s).1.1.getD n 0)) → TokM t b → (∀ n, TokM t (s.1.getD n 0)) → ∀ n, TokM t ((bhA F nl l b s f).1.1.getD n 0)
  | [], b, s, f, _, hb, hs => by rw [bhA]; exact hs
  | x :: l, b, s, f, hl, hb, hs => by
    rw [bhA]
    exact bhA_tok l b _ _ (fun y hy => hl y (by simp [hy])) hb (hl x (by simp) _ _ hb hs)
theorem bhE_tok (hF : ∀ n, TokM t (F.getD n 0)) : ∀ (x : Ex) (b : Nat) (s : HR), okE t r x → TokM t b → (∀ n, TokM t (s.1.getD n 0)) → ∀ n, TokM t ((bhE F nl x b s).1.1.getD n 0) := fun x b s ho hb hs => by
  have hsub : ∀ y ∈ x.l, TokM t (bgE F nl y).1 ∧ ∀ b s, TokM t b → (∀ n, TokM t (s.1.getD n 0)) → ∀ n, TokM t ((bhE F nl y b s).1.1.getD n 0) := fun y hy => ⟨bgE_tok hF y (ho.sub hy), fun b s hb hs => bhE_tok hF y b s (ho.sub hy) hb hs⟩
  rw [bhE_eq]
  split
  · intro n
    show TokM t ((s.1.set _ _).getD n 0)
    rw [getD_setN]; split
    · exact (hs _).or hb
    · exact hs n
  split
  · exact (bhS_tok x.l b s hsub hb hs).1
  split
  · cases hl : x.l with
    | nil => rw [bhH]; exact hs
    | cons y l =>
      obtain ⟨h1, h2⟩ := hsub y (by rw [hl]; simp)
      rw [bhH]
      exact h2 _ _ (hb.or h1) hs
  · exact bhA_tok x.l b s false (fun y hy => (hsub y hy).2) hb hs
termination_by x => x
decreasing_by exact Ex.sub_lt hy
theorem fwAt_tok (hF : ∀ n, TokM t (F.getD n 0)) {s u : HR} (hs : ∀ n, TokM t (s.1.getD n 0)) : ∀ {l : List Ex} {i : Nat}, (∀ y ∈ l, okE t r y) → fwAt F nl s i l = some u → ∀ n, TokM t (u.1.getD n 0)
  | [], i, _, h => by rw [fwAt] at h; cases h
  | x :: l, i, hl, h => by
    rw [fwAt] at h
    split at h
    · cases h
      exact bhE_tok hF x _ s (hl x (by simp)) (hs i) hs
    · exact fwAt_tok hF hs (fun y hy => hl y (by simp [hy])) h
theorem fwRun_tok (hF : ∀ n, TokM t (F.getD n 0)) {bs : List Ex} (ho : ∀ y ∈ bs, okE t r y) : ∀ (m : Nat) (s : HR), (∀ n, TokM t (s.1.getD n 0)) → ∀ n, TokM t ((fwRun F nl bs m s).1.getD n 0)
  | 0, s, h => h
  | m + 1, s, h => by
    rw [fwRun]
    cases e : fwAt F nl s 0 bs with
    | none => exact h
    | some u => exact fwRun_tok hF ho m u (fwAt_tok hF h ho e)
/-! what begins with nothing can be nothing -/
theorem or_zero {a b : Nat} (h : a ||| b = 0) : a = 0 ∧ b = 0 := by
  constructor
  · exact (Sub.eq (Sub.zero a) fun i hi => by rw [← h]; exact Sub.orl _ _ i hi).symm
  · exact (Sub.eq (Sub.zero b) fun i hi => by rw [← h]; exact Sub.orr _ _ i hi).symm
theorem sub_zero {a b : Nat} (h : Sub a b) (hb : b = 0) : a = 0 := (Sub.eq (Sub.zero a) (by rw [hb] at h; exact h)).symm
theorem zero_nl : ∀ x : Ex, okE t r x → (∀ m, Beg (qOf nl) x m → F.getD m 0 = 0 → nl.getD m false = true) → (bgE F nl x).1 = 0 → (bgE F nl x).2 = true := fun x ho hc => by
  have hsub : ∀ y ∈ x.l, (∀ m, Beg (qOf nl) y m → F.getD m 0 = 0 → nl.getD m false = true) → (bgE F nl y).1 = 0 → (bgE F nl y).2 = true := fun y hy => zero_nl y (ho.sub hy)
  rw [bgE_eq]
  by_cases k1 : x.kind = 1
  · rw [if_pos k1]
    intro h
    have : 0 < 2 ^ x.num.toNat := Nat.two_pow_pos _
    have h' : 2 ^ x.num.toNat = 0 := h
    omega
  by_cases k2 : x.kind = 2
  · rw [if_neg k1, if_pos k2]; exact hc _ (.call k2)
  by_cases k3 : x.kind = 3
  · rw [if_neg k1, if_neg k2, if_pos k3]
    have gen : ∀ (l pre : List Ex) (a : Nat), x.l = pre ++ l → (∀ z ∈ pre, canE false (qOf nl) z = true) → (bgS F nl l a).1 = 0 → (bgS F nl l a).2 = true := by
      intro l
      induction l with
      | nil => intro pre a _ _ _; rw [bgS]
      | cons y l ih =>
        intro pre a hx hp h0
        have hy : y ∈ x.l := by rw [hx]; simp
        rw [bgS] at h0 ⊢
        cases hb : (bgE F nl y).2 with
        | true =>
          rw [hb, if_pos rfl] at h0
          rw [if_pos rfl]
          refine ih (pre ++ [y]) _ (by rw [hx]; simp) (fun z hz => ?_) h0
          rcases List.mem_append.1 hz with q | q
          · exact hp z q
          · rw [List.mem_singleton.1 q, ← bg2 (F := F)]; exact hb
        | false =>
          rw [hb, if_neg (by simp)] at h0
          have h2 := (or_zero h0).2
          have := hsub y hy (fun m hm => hc m (.seq hx hp hm)) h2
          rw [hb] at this; cases this
    exact gen x.l [] 0 rfl (by simp)
  rw [if_neg k1, if_neg k2, if_neg k3]
  intro h0
  rw [bgA2 _ _ _ fun y _ => bg2 y]
  by_cases k4 : x.kind = 4
  · have hne := ho.alt k4
    cases hl : x.l with
    | nil => exact absurd hl hne
    | cons y l =>
      have hy : y ∈ x.l := by rw [hl]; simp
      have h2 := sub_zero (bgA_mem hy _ _) h0
      have := hsub y hy (fun m hm => hc m (.sub k3 hy hm)) h2
      rw [bg2] at this
      rw [List.any_cons, this]; simp
  · have : (x.kind != 4) = true := by simpa using k4
    rw [this]; rfl
termination_by x => x
decreasing_by exact Ex.sub_lt hy
end
theorem zero_null {g : Gr} (hc : checkP g = 0) : ∀ (d k : Nat), rkOf g.bodies (qOf g.null) k < d → k < g.rules.length → (frG g).getD k 0 = 0 → g.null.getD k false = true
  | 0, k, hd, _, _ => by omega
  | d + 1, k, hd, hk, h0 => by
    have h := GOk.of hc
    have hch := chk_iff.1 hc
    have hb := body_at hk
    obtain ⟨f1, f2, -⟩ := frG_ok h
    have hox := h.ok _ (List.mem_of_getElem? hb)
    have := zero_nl (F := frG g) (nl := g.null) _ hox (fun m hm h0 => by
      have hr := rank_of h.ok hch.left hb hm
      have hml := beg_lt hm hox
      have hbl : g.bodies.length = g.rules.length := by rw [Gr.bodies, List.length_map]
      exact zero_null hc d m (by omega) (by omega) h0) ((f2 _ _ hb).trans h0)
    rw [bg2] at this
    exact null_cl (k : Int) _ (by omega) (by rw [Int.toNat_natCast]; exact hb) this
theorem frG_tok {g : Gr} (h : GOk g) : ∀ n, TokM g.tokens ((frG g).getD n 0) := mdRun_tok h.ok 2048 _ fun n => by rw [fr0_get]; exact TokM.zero _
theorem fwG_tok {g : Gr} (h : GOk g) : ∀ n, TokM g.tokens ((fwG g).1.getD n 0) := fwRun_tok (frG_tok h) h.ok 2080 _ fun n => by show TokM _ ((fr0 _).getD n 0); rw [fr0_get]; exact TokM.zero _
theorem bitsI_mem {k : Nat} {c : Int} (h : c ∈ bitsI k) : 0 ≤ c ∧ c < 64 ∧ k.testBit c.toNat = true := by
  unfold bitsI bitsN at h
  obtain ⟨n, hn, rfl⟩ := List.mem_map.1 h
  obtain ⟨h1, h2⟩ := List.mem_filter.1 hn
  exact ⟨by omega, by have := List.mem_range.1 h1; omega, by rw [Int.toNat_natCast]; exact h2⟩
theorem bitsI_rise (k : Nat) : (bitsI k).Pairwise (· < ·) := by
  unfold bitsI bitsN
  rw [List.pairwise_map]
  refine (List.Pairwise.filter _ List.pairwise_lt_range).imp fun h => by omega
theorem bitsI_len (k : Nat) : (bitsI k).length ≤ 64 := by
  unfold bitsI bitsN
  rw [List.length_map]
  have := List.length_filter_le (fun i => k.testBit i) (List.range 64)
  simp only [List.length_range] at this; exact this
theorem bitsI_nil {k : Nat} (hk : k < 2 ^ 64) (h : (bitsI k).length = 0) : k = 0 := by
  unfold bitsI bitsN at h
  rw [List.length_map] at h
  have h := List.eq_nil_of_length_eq_zero h
  rw [List.filter_eq_nil_iff] at h
  refine (Sub.eq (Sub.zero k) fun i hi => ?_).symm
  have hi64 : i < 64 := by
    rcases Nat.lt_or_ge i 64 with q | q
    · exact q
    · have h2 : k < 2 ^ i := Nat.lt_of_lt_of_le hk (Nat.pow_le_pow_right (by omega) q)
      rw [Nat.testBit_lt_two_pow h2] at hi; cases hi
  exact absurd hi (h i (List.mem_range.2 hi64))
end Go.Am
namespace Go.Am
open Go Go.Proofs
set_option maxHeartbeats 1000000 in
theorem nullable_S (g : Gr) (σ : St) (h : SmallG g) : CallsTo (XX mdS) (.func 28 []) [g.a] σ (.tup [.d (nullD g), .d (.int .i64 (checkP g))]) σ [] := by
  refine CallsTo.ice0 rfl fn28 (by simp) ?_
  simp only [Tryd.f28, Option.getD_some]
  simp only [go_sem, ↓reduceIte, Int.reduceEq, Nat.reduceBEq, Int.reduceBEq, Int.reduceBNe, Int.reduceLT, Int.reduceLE, Nat.reduceAdd, Nat.reducePow, Nat.reduceEqDiff, Nat.reduceLT, Nat.reduceLeDiff, Nat.reduceMul, Nat.reduceSub, Gr.a]
  refine ⟨_, _, _, check_S g _ h, ?_⟩
  unfold nullD
  cases hc : (checkP g != 0) with
  | true =>
    have hc' : checkP g ≠ 0 := by simpa using hc
    simp only [go_sem, ↓reduceIte, Int.reduceEq, Nat.reduceBEq, Int.reduceBEq, Int.reduceBNe, Int.reduceLT, Int.reduceLE, Nat.reduceAdd, Nat.reducePow, Nat.reduceEqDiff, Nat.reduceLT, Nat.reduceLeDiff, Nat.reduceMul, Nat.reduceSub, hc, if_neg hc']; try rfl
  | false =>
    have hc' : checkP g = 0 := by simpa using hc
    have hk := chk_iff.1 hc'
    simp only [go_sem, ↓reduceIte, Int.reduceEq, Nat.reduceBEq, Int.reduceBEq, Int.reduceBNe, Int.reduceLT, Int.reduceLE, Nat.reduceAdd, Nat.reducePow, Nat.reduceEqDiff, Nat.reduceLT, Nat.reduceLeDiff, Nat.reduceMul, Nat.reduceSub, hc, if_pos hc']
    have hle := hk.le
    refine ⟨_, _, _, grows_call (fz := mdS) rfl rfl rfl rfl rfl rfl rfl g false _ (by omega) (fun r hr => ⟨h r hr, (hk.ok _ (List.mem_map.2 ⟨r, hr, rfl⟩)).calls⟩), ?_⟩
    simp only [go_sem, ↓reduceIte, Int.reduceEq, Nat.reduceBEq, Int.reduceBEq, Int.reduceBNe, Int.reduceLT, Int.reduceLE, Nat.reduceAdd, Nat.reducePow, Nat.reduceEqDiff, Nat.reduceLT, Nat.reduceLeDiff, Nat.reduceMul, Nat.reduceSub, hc']
    rfl
/-- a list that rises, of kinds of the grammar -/
structure Rises (t : Int) (l : List Int) : Prop where
  len : l.length ≤ 64
  lo : ∀ (j : Nat) (h : j < l.length), ¬ l[j] < 0
  hi : ∀ (j : Nat) (h : j < l.length), ¬ l[j] ≥ t
  up : ∀ (j : Nat) (h : j + 1 < l.length), ¬ l[j + 1] ≤ l[j]
theorem bits_rises {t : Int} {a : Nat} (h : TokM t a) : Rises t (bitsI a) where
  len := bitsI_len a
  lo j hj := by have := (bitsI_mem (List.getElem_mem hj)).1; omega
  hi j hj := by
    obtain ⟨h1, h2, h3⟩ := bitsI_mem (List.getElem_mem hj)
    have := h _ h3; omega
  up j hj := by
    have := List.pairwise_iff_getElem.1 (bitsI_rise a) j (j + 1) (by omega) hj (by omega)
    omega
set_option maxHeartbeats 16000000 in
theorem rise_call (g : Gr) (hg : SmallG g) (hL : g.rules.length < 1000000000) : ∃ σ' T, CallsTo (XX mdS) (.func 6 []) [g.a] St.empty (.d (.bool true)) σ' T := by
  refine ⟨St.empty, [], CallsTo.cut0 rfl fn6 (by simp) rfl ?_⟩
  simp only [Tryd.f6, Option.getD_some]
  simp only [go_sem, ↓reduceIte, Int.reduceEq, Nat.reduceBEq, Int.reduceBEq, Int.reduceBNe, Int.reduceLT, Int.reduceLE, Nat.reduceAdd, Nat.reducePow, Nat.reduceEqDiff, Nat.reduceLT, Nat.reduceLeDiff, Nat.reduceMul, Nat.reduceSub, Gr.a]
  refine ⟨_, _, _, works_S _, ?_⟩
  simp only [go_sem, ↓reduceIte, Int.reduceEq, Nat.reduceBEq, Int.reduceBEq, Int.reduceBNe, Int.reduceLT, Int.reduceLE, Nat.reduceAdd, Nat.reducePow, Nat.reduceEqDiff, Nat.reduceLT, Nat.reduceLeDiff, Nat.reduceMul, Nat.reduceSub]
  refine ⟨_, _, _, deep_S g _ hg hL, ?_⟩
  cases hd : deepG g with
  | true => simp only [go_sem, ↓reduceIte, Int.reduceEq, Nat.reduceBEq, Int.reduceBEq, Int.reduceBNe, Int.reduceLT, Int.reduceLE, Nat.reduceAdd, Nat.reducePow, Nat.reduceEqDiff, Nat.reduceLT, Nat.reduceLeDiff, Nat.reduceMul, Nat.reduceSub]
  | false =>
  simp only [go_sem, ↓reduceIte, Int.reduceEq, Nat.reduceBEq, Int.reduceBEq, Int.reduceBNe, Int.reduceLT, Int.reduceLE, Nat.reduceAdd, Nat.reducePow, Nat.reduceEqDiff, Nat.reduceLT, Nat.reduceLeDiff, Nat.reduceMul, Nat.reduceSub]
  refine ⟨_, _, _, first_S g _ hg, ?_⟩
  simp only [go_sem, ↓reduceIte, Int.reduceEq, Nat.reduceBEq, Int.reduceBEq, Int.reduceBNe, Int.reduceLT, Int.reduceLE, Nat.reduceAdd, Nat.reducePow, Nat.reduceEqDiff, Nat.reduceLT, Nat.reduceLeDiff, Nat.reduceMul, Nat.reduceSub]
  refine ⟨_, _, _, follow_S g _ hg, ?_⟩
  unfold firstV followV
  cases hc : (checkP g != 0) with
  | true =>
    have hc0 : ¬ checkP g = 0 := by simpa using hc
    have z0 : (((0 : Nat) : Int) == 0) = true := rfl
    simp only [go_sem, ↓reduceIte, Int.reduceEq, Nat.reduceBEq, Int.reduceBEq, Int.reduceBNe, Int.reduceLT, Int.reduceLE, Nat.reduceAdd, Nat.reducePow, Nat.reduceEqDiff, Nat.reduceLT, Nat.reduceLeDiff, Nat.reduceMul, Nat.reduceSub, hc, if_neg hc0, z0]
    refine ⟨_, _, _, check_S g _ hg, ?_⟩
    simp only [go_sem, ↓reduceIte, Int.reduceEq, Nat.reduceBEq, Int.reduceBEq, Int.reduceBNe, Int.reduceLT, Int.reduceLE, Nat.reduceAdd, Nat.reducePow, Nat.reduceEqDiff, Nat.reduceLT, Nat.reduceLeDiff, Nat.reduceMul, Nat.reduceSub]
  | false =>
  have hc' : checkP g = 0 := by simpa using hc
  have h := GOk.of hc'
  have hpos := h.pos
  have hle := h.le
  have hbl : g.bodies.length = g.rules.length := by rw [Gr.bodies, List.length_map]
  have hfl := frG_len h
  obtain ⟨w1, w2, w3, w4⟩ := fwG_ok h
  have hwl := w1.hl
  have hnl : g.null.length = g.rules.length := by rw [← hbl]; exact growsP_len _ _
  have ne : ((g.rules.length : Int) != (g.rules.length : Int)) = false := by simp
  simp only [go_sem, ↓reduceIte, Int.reduceEq, Nat.reduceBEq, Int.reduceBEq, Int.reduceBNe, Int.reduceLT, Int.reduceLE, Nat.reduceAdd, Nat.reducePow, Nat.reduceEqDiff, Nat.reduceLT, Nat.reduceLeDiff, Nat.reduceMul, Nat.reduceSub, hc, if_pos hc', setsD, hc', len_sets, hfl, hwl, ne]
  refine ⟨_, _, _, nullable_S g _ hg, ?_⟩
  unfold nullD
  simp only [go_sem, ↓reduceIte, Int.reduceEq, Nat.reduceBEq, Int.reduceBEq, Int.reduceBNe, Int.reduceLT, Int.reduceLE, Nat.reduceAdd, Nat.reducePow, Nat.reduceEqDiff, Nat.reduceLT, Nat.reduceLeDiff, Nat.reduceMul, Nat.reduceSub, hc', if_pos]
  have es : St.empty.n = 0 := rfl
  refine Ev.loop_ind (fun k tm τ W => ∃ (i : Nat), k = g.rules.length - i ∧ i ≤ g.rules.length ∧ W = [] ∧ St.empty.n + 1 ≤ τ.n ∧ τ.get St.empty.n = .cells g.c ∧
      tm.at 1 = .ptr St.empty.n 0 ∧ tm.at 3 = .d (.slc (setsR (frG g)).isEmpty (setsR (frG g))) ∧ tm.at 5 = .d (.slc (setsR (fwG g).1).isEmpty (setsR (fwG g).1)) ∧ tm.at 7 = .d (.slc false (boolsD g.null)) ∧ tm.at 8 = .d (.int .i64 0) ∧ tm.at 9 = .d (.int .i64 i)) ?_ g.rules.length _ _ _ ⟨0, rfl, by omega, rfl, ?_, ?_, ?_, ?_, ?_, ?_, ?_, ?_⟩
  · rintro k tm τ W ⟨i, rfl, hi, rfl, hn, g0, t1, t3, t5, t7, t8, t9⟩ ih
    by_cases hl : i < g.rules.length
    · have hfi : i < (frG g).length := by omega
      have hwi : i < (fwG g).1.length := by omega
      simp only [go_sem, ↓reduceIte, Int.reduceEq, Nat.reduceBEq, Int.reduceBEq, Int.reduceBNe, Int.reduceLT, Int.reduceLE, Nat.reduceAdd, Nat.reducePow, Nat.reduceEqDiff, Nat.reduceLT, Nat.reduceLeDiff, Nat.reduceMul, Nat.reduceSub, t1, t3, t5, t7, t8, t9, len_sets, hfl, dec_lt' hl, index_sets hfi, index_sets hwi]
      refine ⟨drawOk_rel [] [] rfl (by kernel_rfl) rfl (by simp), ?_⟩
      have hLr : ∀ m : Nat, Rises g.tokens (if m = 0 then bitsI ((frG g).getD i 0) else bitsI ((fwG g).1.getD i 0)) := fun m => by
        split
        · exact bits_rises (frG_tok h i)
        · exact bits_rises (fwG_tok h i)
      generalize hkb : τ.n = kb
      refine Ev.loop_ind (fun k tm τ W => ∃ m : Nat, k = 2 - m ∧ m ≤ 2 ∧ W = [] ∧ St.empty.n + 1 ≤ τ.n ∧ τ.get St.empty.n = .cells g.c ∧ τ.get kb = .cells [.d (slD (bitsI ((frG g).getD i 0))), .d (slD (bitsI ((fwG g).1.getD i 0)))] ∧
        tm.at 1 = .ptr St.empty.n 0 ∧ tm.at 3 = .d (.slc (setsR (frG g)).isEmpty (setsR (frG g))) ∧ tm.at 5 = .d (.slc (setsR (fwG g).1).isEmpty (setsR (fwG g).1)) ∧ tm.at 7 = .d (.slc false (boolsD g.null)) ∧ tm.at 8 = .d (.int .i64 0) ∧ tm.at 9 = .d (.int .i64 i) ∧
        tm.at 85 = .row kb 0 2 1 ∧ tm.at 86 = .d (.int .i64 ((2 : Nat) : Int)) ∧ tm.at 87 = .d (.int .i64 (m : Int))) ?_ 2 _ _ _ ⟨0, rfl, by omega, rfl, by rw [St.n_push]; omega, by rw [St.get_push_ne (by omega)]; exact g0, by rw [St.get_push_eq' hkb.symm], ?_, ?_, ?_, ?_, ?_, ?_, ?_, ?_, ?_⟩
      · clear t1 t3 t5 t7 t8 t9 g0 hn hkb
        rintro k tm τ W ⟨m, rfl, hm, rfl, hn, g0, gk, t1, t3, t5, t7, t8, t9, t85, t86, t87⟩ ih2
        by_cases hm2 : m < 2
        · have ix := fun (ρ : St) (cs : List A) => indexR_nat (σ := ρ) (k := kb) (off := 0) (s := 1) (cs := cs) hm2
          simp only [Nat.zero_add, Nat.mul_one] at ix
          have hcell : [A.d (slD (bitsI ((frG g).getD i 0))), A.d (slD (bitsI ((fwG g).1.getD i 0)))][m]? = some (.d (slD (if m = 0 then bitsI ((frG g).getD i 0) else bitsI ((fwG g).1.getD i 0)))) := by
            rcases Nat.lt_or_ge m 1 with q | q
            · obtain rfl : m = 0 := by omega
              rfl
            · obtain rfl : m = 1 := by omega
              rfl
          have hR := hLr m
          have hd2 : decide ((m : Int) < ((2 : Nat) : Int)) = true := by simp; omega
          generalize (if m = 0 then bitsI ((frG g).getD i 0) else bitsI ((fwG g).1.getD i 0)) = l at *
          have hl64 := hR.len
          simp only [go_sem, ↓reduceIte, Int.reduceEq, Nat.reduceBEq, Int.reduceBEq, Int.reduceBNe, Int.reduceLT, Int.reduceLE, Nat.reduceAdd, Nat.reducePow, Nat.reduceEqDiff, Nat.reduceLT, Nat.reduceLeDiff, Nat.reduceMul, Nat.reduceSub, t1, t3, t5, t7, t8, t9, t85, t86, t87, hd2, gk, ix, hcell]
          refine Ev.loop_ind (fun k tm τ W => ∃ j : Nat, k = l.length - j ∧ j ≤ l.length ∧ W = [] ∧ St.empty.n + 1 ≤ τ.n ∧ τ.get St.empty.n = .cells g.c ∧ τ.get kb = .cells [.d (slD (bitsI ((frG g).getD i 0))), .d (slD (bitsI ((fwG g).1.getD i 0)))] ∧
            tm.at 1 = .ptr St.empty.n 0 ∧ tm.at 3 = .d (.slc (setsR (frG g)).isEmpty (setsR (frG g))) ∧ tm.at 5 = .d (.slc (setsR (fwG g).1).isEmpty (setsR (fwG g).1)) ∧ tm.at 7 = .d (.slc false (boolsD g.null)) ∧ tm.at 8 = .d (.int .i64 0) ∧ tm.at 9 = .d (.int .i64 i) ∧
            tm.at 85 = .row kb 0 2 1 ∧ tm.at 86 = .d (.int .i64 ((2 : Nat) : Int)) ∧ tm.at 87 = .d (.int .i64 (m : Int)) ∧ tm.at 11 = .d (slD l) ∧ tm.at 12 = .d (.int .i64 (j : Int))) ?_ l.length _ _ _ ⟨0, rfl, by omega, rfl, hn, g0, gk, ?_, ?_, ?_, ?_, ?_, ?_, ?_, ?_, ?_, ?_, ?_⟩
          · clear t1 t3 t5 t7 t8 t9 g0 hn gk t85 t86 t87
            rintro k tm τ W ⟨j, rfl, hj, rfl, hn, g0, gk, t1, t3, t5, t7, t8, t9, t85, t86, t87, t11, t12⟩ ih3
            unfold slD at t11
            by_cases hjl : j < l.length
            · have c1 : decide (l[j] < 0) = false := by have := hR.lo j hjl; simp; omega
              have c2 : decide (l[j] ≥ g.tokens) = false := by have := hR.hi j hjl; simp; omega
              have hw1 := wrap_succ' hjl (show l.length < 1000000000 by omega)
              cases j with
              | zero =>
                have c3 : decide (((0 : Nat) : Int) > 0) = false := rfl
                simp only [go_sem, ↓reduceIte, Int.reduceEq, Nat.reduceBEq, Int.reduceBEq, Int.reduceBNe, Int.reduceLT, Int.reduceLE, Nat.reduceAdd, Nat.reducePow, Nat.reduceEqDiff, Nat.reduceLT, Nat.reduceLeDiff, Nat.reduceMul, Nat.reduceSub, t1, t3, t5, t7, t8, t9, t85, t86, t87, t11, t12, len_ints, dec_lt' hjl, index_ints hjl, c1, g0, c2, c3, hw1]
                refine ⟨drawOk_rel [] [] rfl (by kernel_rfl) rfl (by simp), ?_⟩
                refine ih3 _ _ _ _ (by omega) ⟨1, rfl, by omega, rfl, hn, g0, gk, ?_, ?_, ?_, ?_, ?_, ?_, ?_, ?_, ?_, ?_, ?_⟩
                all_goals (simp only [go_sem, ↓reduceIte, Int.reduceEq, Nat.reduceBEq, Int.reduceBEq, Int.reduceBNe, Int.reduceLT, Int.reduceLE, Nat.reduceAdd, Nat.reducePow, Nat.reduceEqDiff, Nat.reduceLT, Nat.reduceLeDiff, Nat.reduceMul, Nat.reduceSub, t1, t3, t5, t7, t8, t9, t85, t86, t87, t11, slD]; try rfl)
              | succ j =>
                have c3 : decide (((j + 1 : Nat) : Int) > 0) = true := decide_eq_true (by omega)
                have wl : IntKind.i64.wrap (((j + 1 : Nat) : Int) - 1) = (j : Int) := by rw [wrap_small (by omega) (by omega)]; exact (by omega : ((j + 1 : Nat) : Int) - 1 = (j : Int))
                have hjl' : j < l.length := by omega
                have c4 : decide (l[j + 1] ≤ l[j]) = false := by have := hR.up j hjl; simp; omega
                simp only [go_sem, ↓reduceIte, Int.reduceEq, Nat.reduceBEq, Int.reduceBEq, Int.reduceBNe, Int.reduceLT, Int.reduceLE, Nat.reduceAdd, Nat.reducePow, Nat.reduceEqDiff, Nat.reduceLT, Nat.reduceLeDiff, Nat.reduceMul, Nat.reduceSub, t1, t3, t5, t7, t8, t9, t85, t86, t87, t11, t12, len_ints, dec_lt' hjl, index_ints hjl, index_ints hjl', wl, c1, g0, c2, c3, c4, hw1]
                refine ⟨drawOk_rel [] [] rfl (by kernel_rfl) rfl (by simp), ?_⟩
                refine ih3 _ _ _ _ (by omega) ⟨j + 1 + 1, rfl, by omega, rfl, hn, g0, gk, ?_, ?_, ?_, ?_, ?_, ?_, ?_, ?_, ?_, ?_, ?_⟩
                all_goals (simp only [go_sem, ↓reduceIte, Int.reduceEq, Nat.reduceBEq, Int.reduceBEq, Int.reduceBNe, Int.reduceLT, Int.reduceLE, Nat.reduceAdd, Nat.reducePow, Nat.reduceEqDiff, Nat.reduceLT, Nat.reduceLeDiff, Nat.reduceMul, Nat.reduceSub, t1, t3, t5, t7, t8, t9, t85, t86, t87, t11, slD]; try rfl)
            · have hwm : IntKind.i64.wrap ((m : Int) + 1) = ((m + 1 : Nat) : Int) := by rw [wrap_small (by omega) (by omega)]; rfl
              simp only [go_sem, ↓reduceIte, Int.reduceEq, Nat.reduceBEq, Int.reduceBEq, Int.reduceBNe, Int.reduceLT, Int.reduceLE, Nat.reduceAdd, Nat.reducePow, Nat.reduceEqDiff, Nat.reduceLT, Nat.reduceLeDiff, Nat.reduceMul, Nat.reduceSub, t1, t3, t5, t7, t8, t9, t85, t86, t87, t11, t12, len_ints, dec_ge' hjl, hwm]
              refine ih2 _ _ _ _ (by omega) ⟨m + 1, rfl, by omega, rfl, hn, g0, gk, ?_, ?_, ?_, ?_, ?_, ?_, ?_, ?_, ?_⟩
              all_goals (simp only [go_sem, ↓reduceIte, Int.reduceEq, Nat.reduceBEq, Int.reduceBEq, Int.reduceBNe, Int.reduceLT, Int.reduceLE, Nat.reduceAdd, Nat.reducePow, Nat.reduceEqDiff, Nat.reduceLT, Nat.reduceLeDiff, Nat.reduceMul, Nat.reduceSub, t1, t3, t5, t7, t8, t9, t85, t86]; try rfl)
          all_goals first | assumption | (simp only [go_sem, ↓reduceIte, Int.reduceEq, Nat.reduceBEq, Int.reduceBEq, Int.reduceBNe, Int.reduceLT, Int.reduceLE, Nat.reduceAdd, Nat.reducePow, Nat.reduceEqDiff, Nat.reduceLT, Nat.reduceLeDiff, Nat.reduceMul, Nat.reduceSub, t1, t3, t5, t7, t8, t9, t85, t86, t87]; try rfl)
        · have hm3 : m = 2 := by omega
          subst hm3
          have hd2 : decide (((2 : Nat) : Int) < ((2 : Nat) : Int)) = false := by simp
          have hw1 := wrap_succ' hl (show g.rules.length < 1000000000 by omega)
          have hni : i < g.null.length := by omega
          cases hz : (((bitsI ((frG g).getD i 0)).length : Int) == 0) with
          | true =>
            have hz' : (bitsI ((frG g).getD i 0)).length = 0 := by rw [beq_iff_eq] at hz; omega
            have hF0 := bitsI_nil ((frG_ok h).1.lt i) hz'
            have hnull := zero_null hc' _ i (Nat.lt_succ_self _) hl hF0
            simp only [go_sem, ↓reduceIte, Int.reduceEq, Nat.reduceBEq, Int.reduceBEq, Int.reduceBNe, Int.reduceLT, Int.reduceLE, Nat.reduceAdd, Nat.reducePow, Nat.reduceEqDiff, Nat.reduceLT, Nat.reduceLeDiff, Nat.reduceMul, Nat.reduceSub, t1, t3, t5, t7, t8, t9, t85, t86, t87, hd2, index_sets hfi, slD, len_ints, hz, index_bools hni, hnull, hw1]
            refine ih _ _ _ _ (by omega) ⟨i + 1, rfl, hl, rfl, hn, g0, ?_, ?_, ?_, ?_, ?_, ?_⟩
            all_goals (simp only [go_sem, ↓reduceIte, Int.reduceEq, Nat.reduceBEq, Int.reduceBEq, Int.reduceBNe, Int.reduceLT, Int.reduceLE, Nat.reduceAdd, Nat.reducePow, Nat.reduceEqDiff, Nat.reduceLT, Nat.reduceLeDiff, Nat.reduceMul, Nat.reduceSub, t1, t3, t5, t7, t8]; try rfl)
          | false =>
            simp only [go_sem, ↓reduceIte, Int.reduceEq, Nat.reduceBEq, Int.reduceBEq, Int.reduceBNe, Int.reduceLT, Int.reduceLE, Nat.reduceAdd, Nat.reducePow, Nat.reduceEqDiff, Nat.reduceLT, Nat.reduceLeDiff, Nat.reduceMul, Nat.reduceSub, t1, t3, t5, t7, t8, t9, t85, t86, t87, hd2, index_sets hfi, slD, len_ints, hz, hw1]
            refine ih _ _ _ _ (by omega) ⟨i + 1, rfl, hl, rfl, hn, g0, ?_, ?_, ?_, ?_, ?_, ?_⟩
            all_goals (simp only [go_sem, ↓reduceIte, Int.reduceEq, Nat.reduceBEq, Int.reduceBEq, Int.reduceBNe, Int.reduceLT, Int.reduceLE, Nat.reduceAdd, Nat.reducePow, Nat.reduceEqDiff, Nat.reduceLT, Nat.reduceLeDiff, Nat.reduceMul, Nat.reduceSub, t1, t3, t5, t7, t8]; try rfl)
      all_goals (simp only [go_sem, ↓reduceIte, Int.reduceEq, Nat.reduceBEq, Int.reduceBEq, Int.reduceBNe, Int.reduceLT, Int.reduceLE, Nat.reduceAdd, Nat.reducePow, Nat.reduceEqDiff, Nat.reduceLT, Nat.reduceLeDiff, Nat.reduceMul, Nat.reduceSub, t1, t3, t5, t7, t8, t9]; try rfl)
    · simp only [go_sem, ↓reduceIte, Int.reduceEq, Nat.reduceBEq, Int.reduceBEq, Int.reduceBNe, Int.reduceLT, Int.reduceLE, Nat.reduceAdd, Nat.reducePow, Nat.reduceEqDiff, Nat.reduceLT, Nat.reduceLeDiff, Nat.reduceMul, Nat.reduceSub, t1, t3, t5, t7, t8, t9, len_sets, hfl, dec_ge' hl]
  all_goals first | rfl | (simp only [go_sem, ↓reduceIte, Int.reduceEq, Nat.reduceBEq, Int.reduceBEq, Int.reduceBNe, Int.reduceLT, Int.reduceLE, Nat.reduceAdd, Nat.reducePow, Nat.reduceEqDiff, Nat.reduceLT, Nat.reduceLeDiff, Nat.reduceMul, Nat.reduceSub]; done) | (simp only [go_sem, ↓reduceIte, Int.reduceEq, Nat.reduceBEq, Int.reduceBEq, Int.reduceBNe, Int.reduceLT, Int.reduceLE, Nat.reduceAdd, Nat.reducePow, Nat.reduceEqDiff, Nat.reduceLT, Nat.reduceLeDiff, Nat.reduceMul, Nat.reduceSub]; rfl)
end Go.Am

/- Part HG of a proof that runs a program's calls on a small machine whose values bear no addresses: no conditions. -/
import Derived.Test.YtbppacknigeiaaaDoorAmHF
set_option autoImplicit false
set_option linter.unusedSimpArgs false
set_option linter.unusedVariables false
set_option linter.unusedSectionVars false
namespace Go.Am
open Go Go.Proofs
/-! the least law -/
theorem kF_short {g : Gr} {rule : Int} (hc : checkP g = 0) (h0 : 0 ≤ rule) (h1 : rule < (g.rules.length : Int)) : shortV g rule = match kF (shEnd g.bodies) rule.toNat with
    | some s => (slD s, 0)
    | none => (.slc true [], 5) := by
  unfold shortV
  rw [if_neg (by simp [hc]), if_neg (by simp; omega)]
  cases kF (shEnd g.bodies) rule.toNat <;> rfl
theorem derV_in {g : Gr} {rule : Int} {l : List Int} (hc : checkP g = 0) (h0 : 0 ≤ rule) (h1 : rule < (g.rules.length : Int)) (hl : l.length ≤ 64) : derQ g rule l = true ↔ Der g.bodies l (g.bodies.getD rule.toNat (.mk 0 0 true [])) 0 l.length := by
  unfold derQ derE derV
  have c1 : ¬ (checkP g != 0) = true := by simp [hc]
  have c2 : ¬ (decide (rule < 0) || decide (rule ≥ (g.rules.length : Int))) = true := by simp; omega
  have c3 : ¬ decide ((l.length : Int) > 64) = true := by simp; omega
  rw [if_neg c1, if_neg c2, if_neg c3, if_neg c1, if_neg c2, if_neg c3, Bool.and_eq_true, derB_iff]
  exact ⟨fun h => h.2, fun h => ⟨rfl, h⟩⟩
theorem body_at {g : Gr} {k : Nat} (h : k < g.rules.length) : g.bodies[k]? = some (g.bodies.getD k (.mk 0 0 true [])) := by
  have : k < g.bodies.length := by rw [Gr.bodies, List.length_map]; exact h
  rw [List.getD_eq_getElem?_getD, List.getElem?_eq_getElem this]; rfl
theorem least_law {g : Gr} (hc : checkP g = 0) {k : Nat} (hk : k < g.rules.length) {s : List Int} (hs : kF (shEnd g.bodies) k = some s) : s.length ≤ 256 ∧ (s.length ≤ 64 → derQ g k s = true) ∧ ∀ l : List Int, l.length ≤ 64 → derQ g k l = true → lessP l s = false := by
  have h := GOk.of hc
  obtain ⟨p1, p2⟩ := shEnd_ok h.ok h.tok
  obtain ⟨q1, q2, q3⟩ := p1.ok k s hs
  have hb := body_at hk
  refine ⟨q2, fun hl => (derV_in hc (by omega) (by omega) hl).2 ?_, fun l hl hd => ?_⟩
  · rw [Int.toNat_natCast]; exact q3 _ hb
  · have hd := (derV_in hc (by omega) (by omega) hl).1 hd
    rw [Int.toNat_natCast] at hd
    obtain ⟨r, hr, hge⟩ := short_least p2 hd (Nat.le_refl _) (by omega)
    obtain ⟨o, ho, hg2⟩ := p2 k _ hb r hr
    rw [hs] at ho; cases ho
    have : wd l 0 l.length = l := by simp [wd]
    rw [this] at hge
    exact hge.trans hg2
theorem lex_at : ∀ {l s : List Int} (i : Nat), l.length = s.length → lexLt l s = false → (∀ j, j < i → l[j]? = s[j]?) → ∀ a b, l[i]? = some a → s[i]? = some b → a ≠ b → b < a
  | x :: l, y :: s, 0, hl, h, _, a, b, ha, hb, hne => by
    simp only [List.getElem?_cons_zero, Option.some.injEq] at ha hb
    subst ha; subst hb
    rw [lexLt] at h
    split at h
    · cases h
    · omega
  | x :: l, y :: s, i + 1, hl, h, hj, a, b, ha, hb, hne => by
    have h0 := hj 0 (by omega)
    simp only [List.getElem?_cons_zero, Option.some.injEq] at h0
    subst h0
    rw [lexLt, if_neg (by omega), if_neg (by omega)] at h
    exact lex_at i (by simpa using hl) h (fun j hjj => by have := hj (j + 1) (by omega); simpa using this) a b (by simpa using ha) (by simpa using hb) hne
set_option maxHeartbeats 8000000 in
theorem least_call (g : Gr) (hg : SmallG g) (hL : g.rules.length < 1000000000) (rule : Int) (z : Bool) (l0 : List Int) (hl0 : l0.length < 1000000000) : ∃ σ' T, CallsTo (XX mdS) (.func 8 []) [g.a, .d (.int .i64 rule), .d (.slc z (intsD l0))] St.empty (.d (.bool true)) σ' T := by
  refine ⟨St.empty, [], CallsTo.cut0 rfl fn8 (by simp) rfl ?_⟩
  simp only [Tryd.f8, Option.getD_some]
  simp only [go_sem, ↓reduceIte, Int.reduceEq, Nat.reduceBEq, Int.reduceBEq, Int.reduceBNe, Int.reduceLT, Int.reduceLE, Nat.reduceAdd, Nat.reducePow, Nat.reduceEqDiff, Nat.reduceLT, Nat.reduceLeDiff, Nat.reduceMul, Nat.reduceSub, Gr.a]
  refine ⟨_, _, _, works_S _, ?_⟩
  simp only [go_sem, ↓reduceIte, Int.reduceEq, Nat.reduceBEq, Int.reduceBEq, Int.reduceBNe, Int.reduceLT, Int.reduceLE, Nat.reduceAdd, Nat.reducePow, Nat.reduceEqDiff, Nat.reduceLT, Nat.reduceLeDiff, Nat.reduceMul, Nat.reduceSub]
  refine ⟨_, _, _, deep_S g _ hg hL, ?_⟩
  cases hd : deepG g with
  | true => simp only [go_sem, ↓reduceIte, Int.reduceEq, Nat.reduceBEq, Int.reduceBEq, Int.reduceBNe, Int.reduceLT, Int.reduceLE, Nat.reduceAdd, Nat.reducePow, Nat.reduceEqDiff, Nat.reduceLT, Nat.reduceLeDiff, Nat.reduceMul, Nat.reduceSub]
  | false =>
  simp only [go_sem, ↓reduceIte, Int.reduceEq, Nat.reduceBEq, Int.reduceBEq, Int.reduceBNe, Int.reduceLT, Int.reduceLE, Nat.reduceAdd, Nat.reducePow, Nat.reduceEqDiff, Nat.reduceLT, Nat.reduceLeDiff, Nat.reduceMul, Nat.reduceSub]
  refine ⟨_, _, _, check_S g _ hg, ?_⟩
  cases hc : (checkP g != 0) with
  | true => simp only [go_sem, ↓reduceIte, Int.reduceEq, Nat.reduceBEq, Int.reduceBEq, Int.reduceBNe, Int.reduceLT, Int.reduceLE, Nat.reduceAdd, Nat.reducePow, Nat.reduceEqDiff, Nat.reduceLT, Nat.reduceLeDiff, Nat.reduceMul, Nat.reduceSub, hc]
  | false =>
  have hc' : checkP g = 0 := by simpa using hc
  have h := GOk.of hc'
  have hpos := h.pos
  have hle := h.le
  simp only [go_sem, ↓reduceIte, Int.reduceEq, Nat.reduceBEq, Int.reduceBEq, Int.reduceBNe, Int.reduceLT, Int.reduceLE, Nat.reduceAdd, Nat.reducePow, Nat.reduceEqDiff, Nat.reduceLT, Nat.reduceLeDiff, Nat.reduceMul, Nat.reduceSub, hc']
  refine ⟨_, _, _, bring_call rfl rule _ _, ?_⟩
  obtain ⟨b1, b2⟩ := bring_lt (i := rule) (n := (g.rules.length : Int)) (by omega) (by omega)
  obtain ⟨k, hk⟩ := Int.eq_ofNat_of_zero_le b1
  have hlt : k < g.rules.length := by omega
  simp only [go_sem, ↓reduceIte, Int.reduceEq, Nat.reduceBEq, Int.reduceBEq, Int.reduceBNe, Int.reduceLT, Int.reduceLE, Nat.reduceAdd, Nat.reducePow, Nat.reduceEqDiff, Nat.reduceLT, Nat.reduceLeDiff, Nat.reduceMul, Nat.reduceSub, hk]
  refine ⟨_, _, _, short_S g k _ hg, ?_⟩
  rw [kF_short hc' (by omega) (by omega), Int.toNat_natCast]
  cases hs : kF (shEnd g.bodies) k with
  | none => simp only [go_sem, ↓reduceIte, Int.reduceEq, Nat.reduceBEq, Int.reduceBEq, Int.reduceBNe, Int.reduceLT, Int.reduceLE, Nat.reduceAdd, Nat.reducePow, Nat.reduceEqDiff, Nat.reduceLT, Nat.reduceLeDiff, Nat.reduceMul, Nat.reduceSub]
  | some s =>
  obtain ⟨l1, l2, l3⟩ := least_law hc' hlt hs
  simp only [go_sem, ↓reduceIte, Int.reduceEq, Nat.reduceBEq, Int.reduceBEq, Int.reduceBNe, Int.reduceLT, Int.reduceLE, Nat.reduceAdd, Nat.reducePow, Nat.reduceEqDiff, Nat.reduceLT, Nat.reduceLeDiff, Nat.reduceMul, Nat.reduceSub, slD, len_ints]
  by_cases h64 : s.length > 64
  · have c1 : decide ((s.length : Int) > 64) = true := by simp; omega
    have c2 : decide ((s.length : Int) ≤ 256) = true := by simp; omega
    simp only [go_sem, ↓reduceIte, Int.reduceEq, Nat.reduceBEq, Int.reduceBEq, Int.reduceBNe, Int.reduceLT, Int.reduceLE, Nat.reduceAdd, Nat.reducePow, Nat.reduceEqDiff, Nat.reduceLT, Nat.reduceLeDiff, Nat.reduceMul, Nat.reduceSub, c1, c2, len_ints]
  have c1 : decide ((s.length : Int) > 64) = false := by simp; omega
  have hmin : min l0.length 64 ≤ l0.length := Nat.min_le_left _ _
  have hm64 : min l0.length 64 ≤ 64 := Nat.min_le_right _ _
  have hmn : minmax false [.d (.int .i64 (l0.length : Int)), .d (.int .i64 64)] = some (.d (.int .i64 ((min l0.length 64 : Nat) : Int))) := minA (b := 64)
  simp only [go_sem, ↓reduceIte, Int.reduceEq, Nat.reduceBEq, Int.reduceBEq, Int.reduceBNe, Int.reduceLT, Int.reduceLE, Nat.reduceAdd, Nat.reducePow, Nat.reduceEqDiff, Nat.reduceLT, Nat.reduceLeDiff, Nat.reduceMul, Nat.reduceSub, c1, len_ints]
  refine ⟨_, _, _, derives34 hg k _ s (by omega) _, ?_⟩
  rw [l2 (by omega)]
  simp only [go_sem, ↓reduceIte, Int.reduceEq, Nat.reduceBEq, Int.reduceBEq, Int.reduceBNe, Int.reduceLT, Int.reduceLE, Nat.reduceAdd, Nat.reducePow, Nat.reduceEqDiff, Nat.reduceLT, Nat.reduceLeDiff, Nat.reduceMul, Nat.reduceSub, len_ints, hmn, OpR.of, hmin]
  have hl1 : (l0.take (min l0.length 64)).length = min l0.length 64 := by rw [List.length_take]; omega
  generalize hl : l0.take (min l0.length 64) = l at *
  have hl64 : l.length ≤ 64 := by omega
  clear hl1 hmin hm64 hmn hl
  refine ⟨_, _, _, derives34 hg k _ l (by omega) _, ?_⟩
  cases hdq : derQ g k l with
  | true =>
    have hge := l3 l hl64 hdq
    unfold lessP at hge
    simp only [go_sem, ↓reduceIte, Int.reduceEq, Nat.reduceBEq, Int.reduceBEq, Int.reduceBNe, Int.reduceLT, Int.reduceLE, Nat.reduceAdd, Nat.reducePow, Nat.reduceEqDiff, Nat.reduceLT, Nat.reduceLeDiff, Nat.reduceMul, Nat.reduceSub, len_ints]
    by_cases hll : l.length = s.length
    · rw [if_pos hll] at hge
      have c3 : ((l.length : Int) != (s.length : Int)) = false := by rw [hll]; simp
      simp only [go_sem, ↓reduceIte, Int.reduceEq, Nat.reduceBEq, Int.reduceBEq, Int.reduceBNe, Int.reduceLT, Int.reduceLE, Nat.reduceAdd, Nat.reducePow, Nat.reduceEqDiff, Nat.reduceLT, Nat.reduceLeDiff, Nat.reduceMul, Nat.reduceSub, c3]
      refine Ev.loop_ind (fun m tm τ W => ∃ i : Nat, m = l.length - i ∧ i ≤ l.length ∧ W = [] ∧ (∀ j, j < i → l[j]? = s[j]?) ∧ tm.at 2 = .d (.slc z (intsD l)) ∧ tm.at 7 = .d (.slc s.isEmpty (intsD s)) ∧ tm.at 9 = .d (.int .i64 i)) ?_ l.length _ _ _ ⟨0, rfl, by omega, rfl, by intro j hj; omega, ?_, ?_, ?_⟩
      · rintro m tm τ W ⟨i, rfl, hi, rfl, hj, t2, t7, t9⟩ ih
        by_cases hil : i < l.length
        · have his : i < s.length := by omega
          cases hne : (l[i] != s[i]) with
          | true =>
            have hlt2 := lex_at i hll hge hj l[i] s[i] (List.getElem?_eq_getElem hil) (List.getElem?_eq_getElem his) (by simpa using hne)
            have c5 : decide (l[i] > s[i]) = true := by simpa using hlt2
            simp only [go_sem, ↓reduceIte, Int.reduceEq, Nat.reduceBEq, Int.reduceBEq, Int.reduceBNe, Int.reduceLT, Int.reduceLE, Nat.reduceAdd, Nat.reducePow, Nat.reduceEqDiff, Nat.reduceLT, Nat.reduceLeDiff, Nat.reduceMul, Nat.reduceSub, t2, t7, t9, len_ints, dec_lt' hil, index_ints hil, index_ints his, hne, c5]
            exact ⟨drawOk_rel [] [] rfl (by kernel_rfl) rfl (by simp), drawOk_rel [] [] rfl (by kernel_rfl) rfl (by simp)⟩
          | false =>
            have heq : l[i] = s[i] := by simpa using hne
            simp only [go_sem, ↓reduceIte, Int.reduceEq, Nat.reduceBEq, Int.reduceBEq, Int.reduceBNe, Int.reduceLT, Int.reduceLE, Nat.reduceAdd, Nat.reducePow, Nat.reduceEqDiff, Nat.reduceLT, Nat.reduceLeDiff, Nat.reduceMul, Nat.reduceSub, t2, t7, t9, len_ints, dec_lt' hil, index_ints hil, index_ints his, hne, wrap_succ' hil (show l.length < 1000000000 by omega)]
            refine ⟨drawOk_rel [] [] rfl (by kernel_rfl) rfl (by simp), ?_⟩
            refine ih _ _ _ _ (by omega) ⟨i + 1, rfl, hil, rfl, fun j hji => ?_, ?_, ?_, ?_⟩
            · rcases Nat.lt_or_ge j i with q | q
              · exact hj j q
              · obtain rfl : j = i := by omega
                rw [List.getElem?_eq_getElem hil, List.getElem?_eq_getElem his, heq]
            all_goals (simp only [go_sem, ↓reduceIte, Int.reduceEq, Nat.reduceBEq, Int.reduceBEq, Int.reduceBNe, Int.reduceLT, Int.reduceLE, Nat.reduceAdd, Nat.reducePow, Nat.reduceEqDiff, Nat.reduceLT, Nat.reduceLeDiff, Nat.reduceMul, Nat.reduceSub, t2, t7])
        · simp only [go_sem, ↓reduceIte, Int.reduceEq, Nat.reduceBEq, Int.reduceBEq, Int.reduceBNe, Int.reduceLT, Int.reduceLE, Nat.reduceAdd, Nat.reducePow, Nat.reduceEqDiff, Nat.reduceLT, Nat.reduceLeDiff, Nat.reduceMul, Nat.reduceSub, t2, t7, t9, len_ints, dec_ge' hil]
      all_goals first | rfl | (simp only [go_sem, ↓reduceIte, Int.reduceEq, Nat.reduceBEq, Int.reduceBEq, Int.reduceBNe, Int.reduceLT, Int.reduceLE, Nat.reduceAdd, Nat.reducePow, Nat.reduceEqDiff, Nat.reduceLT, Nat.reduceLeDiff, Nat.reduceMul, Nat.reduceSub]; done) | (simp only [go_sem, ↓reduceIte, Int.reduceEq, Nat.reduceBEq, Int.reduceBEq, Int.reduceBNe, Int.reduceLT, Int.reduceLE, Nat.reduceAdd, Nat.reducePow, Nat.reduceEqDiff, Nat.reduceLT, Nat.reduceLeDiff, Nat.reduceMul, Nat.reduceSub]; rfl)
    · rw [if_neg hll] at hge
      have c3 : ((l.length : Int) != (s.length : Int)) = true := by rw [bne_iff_ne]; omega
      have c4 : decide ((l.length : Int) > (s.length : Int)) = true := by simp at hge ⊢; omega
      simp only [go_sem, ↓reduceIte, Int.reduceEq, Nat.reduceBEq, Int.reduceBEq, Int.reduceBNe, Int.reduceLT, Int.reduceLE, Nat.reduceAdd, Nat.reducePow, Nat.reduceEqDiff, Nat.reduceLT, Nat.reduceLeDiff, Nat.reduceMul, Nat.reduceSub, c3, c4, len_ints]
  | false => simp only [go_sem, ↓reduceIte, Int.reduceEq, Nat.reduceBEq, Int.reduceBEq, Int.reduceBNe, Int.reduceLT, Int.reduceLE, Nat.reduceAdd, Nat.reducePow, Nat.reduceEqDiff, Nat.reduceLT, Nat.reduceLeDiff, Nat.reduceMul, Nat.reduceSub]
end Go.Am

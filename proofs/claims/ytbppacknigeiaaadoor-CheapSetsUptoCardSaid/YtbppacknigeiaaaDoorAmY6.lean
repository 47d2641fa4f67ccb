/- Part Y6 of a proof that runs a program's calls on a small machine whose values bear no addresses: no conditions. -/
import Derived.Test.YtbppacknigeiaaaDoorAmY4
import Derived.Test.YtbppacknigeiaaaDoorAmW0
set_option autoImplicit false
set_option linter.unusedSimpArgs false
set_option linter.unusedVariables false
set_option linter.unusedSectionVars false
namespace Go.Am
open Go Go.Proofs
variable {fz : Nat → Md}
def foldN {α : Type} (f : α → Nat → α) : Nat → Nat → α → α
  | 0, _, a => a
  | c + 1, i, a => foldN f c (i + 1) (f a i)
def gN (L : List Nat) (i : Nat) : Nat := L.getD i 0
def stepK (i : Nat) (L : List Nat) (k : Nat) : List Nat := if (gN L i).testBit k = true then L.set i (gN L i ||| gN L k) else L
def stepI (n : Nat) (L : List Nat) (i : Nat) : List Nat := foldN (stepK i) n 0 L
def roundL (n : Nat) (L : List Nat) : List Nat := foldN (stepI n) n 0 L
def closeL (n : Nat) (L : List Nat) : List Nat := foldN (fun L _ => roundL n L) n 0 L
def anyN (p : Nat → Bool) : Nat → Nat → Bool
  | 0, _ => false
  | c + 1, i => p i || anyN p c (i + 1)
def leftR (q : Int → Bool) (bs : List Ex) : Bool := anyN (fun i => (gN (closeL bs.length (bs.map (bgnE q))) i).testBit i) bs.length 0
def LOk (n : Nat) (L : List Nat) : Prop := L.length = n ∧ ∀ i, gN L i < 2 ^ n
theorem gN_set {L : List Nat} {i j v : Nat} (hi : i < L.length) : gN (L.set i v) j = if j = i then v else gN L j := by
  unfold gN
  rw [List.getD_eq_getElem?_getD, List.getD_eq_getElem?_getD, List.getElem?_set]
  by_cases e : j = i
  · subst e; rw [if_pos rfl, if_pos rfl, if_pos hi]; rfl
  · rw [if_neg (fun h => e h.symm), if_neg e]
theorem LOk.step {n : Nat} {L : List Nat} (h : LOk n L) {i k : Nat} (hi : i < n) : LOk n (stepK i L k) := by
  unfold stepK
  split
  · refine ⟨by rw [List.length_set]; exact h.1, fun j => ?_⟩
    rw [gN_set (by rw [h.1]; exact hi)]
    split
    · exact Nat.or_lt_two_pow (h.2 i) (h.2 k)
    · exact h.2 j
  · exact h
theorem foldN_inv {α : Type} {f : α → Nat → α} {P : α → Prop} : ∀ (c i : Nat) (a : α), P a → (∀ a j, i ≤ j → j < i + c → P a → P (f a j)) → P (foldN f c i a)
  | 0, _, _, h, _ => h
  | c + 1, i, a, h, hs => by
    rw [foldN]
    exact foldN_inv c (i + 1) (f a i) (hs a i (Nat.le_refl _) (by omega) h) fun a j h1 h2 h3 => hs a j (by omega) (by omega) h3
theorem LOk.stepI {n : Nat} {L : List Nat} (h : LOk n L) {i : Nat} (hi : i < n) : LOk n (stepI n L i) := foldN_inv (P := LOk n) n 0 L h fun _ _ _ _ h => h.step hi
theorem LOk.round {n : Nat} {L : List Nat} (h : LOk n L) : LOk n (roundL n L) := foldN_inv (P := LOk n) n 0 L h fun _ _ _ hj h => h.stepI (by omega)
def natsD (L : List Nat) : List (List D) := L.map fun p : Nat => [.int .i64 (p : Int)]
def natsA (L : List Nat) : List A := L.map fun p : Nat => .d (.int .i64 (p : Int))
theorem natsA_len (L : List Nat) : (natsA L).length = L.length := by simp [natsA]
theorem natsA_flat : ∀ L : List Nat, ((natsD L).flatMap id).map A.d = natsA L
  | [] => rfl
  | p :: L => by have := natsA_flat L; simp only [natsA, natsD, List.map_cons, List.flatMap_cons, List.map_append] at this ⊢; rw [this]; rfl
theorem natsA_get {L : List Nat} {i : Nat} (h : i < L.length) : (natsA L)[i]? = some (.d (.int .i64 (gN L i : Int))) := by simp [natsA, gN, h]
theorem natsA_set {L : List Nat} {i v : Nat} : (natsA L).set i (.d (.int .i64 (v : Int))) = natsA (L.set i v) := by simp [natsA, List.map_set]
theorem storeC_n {L : List Nat} {i v : Nat} (hi : i < L.length) : storeC 1 i [A.d (.int .i64 (v : Int))] (natsA L) = some (natsA (L.set i v)) := by
  unfold storeC
  rw [if_pos ⟨rfl, by rw [natsA_len]; simp; omega, rfl⟩, putAt_cons, putAt_nil, natsA_set]
theorem bit_i64 {X : X} {σ : St} {t t' : Nat} {P k : Nat} (hP : P < 2 ^ 32) (hk : k < 32) : ∃ v : Int, binA X σ .shr t (.d (.int .i64 (P : Int))) (.d (.int .i64 (k : Int))) = some (.d (.int .i64 v)) ∧ ∃ u : Int, binA X σ .and t' (.d (.int .i64 v)) (.d (.int .i64 1)) = some (.d (.int .i64 u)) ∧ (u == 1) = P.testBit k := by
  have h1 : (P : Int).fdiv (2 ^ (min k IntKind.i64.bits)) = ((P / 2 ^ k : Nat) : Int) := by
    rw [show IntKind.i64.bits = 64 from rfl, Nat.min_eq_left (by omega)]
    have : (2 : Int) ^ k = ((2 ^ k : Nat) : Int) := by simp
    rw [this]; exact (Int.ofNat_fdiv P (2 ^ k)).symm
  refine ⟨((P / 2 ^ k : Nat) : Int), ?_, ((P / 2 ^ k % 2 : Nat) : Int), ?_, ?_⟩
  · simp only [binA]
    rw [if_neg (by omega), Int.toNat_natCast, h1]
  · have hq : P / 2 ^ k < 2 ^ 32 := Nat.lt_of_le_of_lt (Nat.div_le_self _ _) hP
    have h2 : (BitVec.ofInt IntKind.i64.bits ((P / 2 ^ k : Nat) : Int) &&& BitVec.ofInt IntKind.i64.bits 1).toNat = P / 2 ^ k % 2 := by
      rw [BitVec.toNat_and, BitVec.toNat_ofInt, BitVec.toNat_ofInt]
      have key : ∀ w : Nat, w < 2 ^ 32 → ((w : Int) % ((2 ^ IntKind.i64.bits : Nat) : Int)).toNat = w := fun w h => by
        rw [show (2 ^ IntKind.i64.bits : Nat) = 18446744073709551616 from rfl]; omega
      have a1 := key _ hq
      have a2 : ((1 : Int) % ((2 ^ IntKind.i64.bits : Nat) : Int)).toNat = 1 := by
        rw [show (2 ^ IntKind.i64.bits : Nat) = 18446744073709551616 from rfl]; omega
      rw [a1, a2, Nat.and_one_is_mod]
    simp only [binA, intOp, if_true, Option.map_some, h2]
    have key : ∀ w : Nat, IntKind.i64.wrap ((w % 2 : Nat) : Int) = ((w % 2 : Nat) : Int) := fun w => wrap_small (by omega) (by omega)
    rw [key]
  · rw [Nat.testBit_eq_decide_div_mod_eq]
    by_cases e : P / 2 ^ k % 2 = 1
    · rw [e, decide_eq_true rfl]; rfl
    · rw [decide_eq_false e]
      have : P / 2 ^ k % 2 = 0 := by omega
      rw [this]; rfl
set_option maxHeartbeats 8000000 in
theorem left_c (h93 : fz 76 = .cut) (h111 : fz 97 = .cut) (h109 : fz 96 = .cut) (nl : List Bool) (g : Gr) (σ : St) (a : A) (hg : SmallG g) (ho : ∀ y ∈ g.bodies, okE g.tokens g.rules.length y) (hnl : nl.length = g.rules.length) (h32 : g.rules.length ≤ 32) (hpos : 0 < g.rules.length) (ha : BlAt σ a nl) :
    CallsTo (XX fz) (.func 76 []) [g.a, a] σ (.d (.bool (leftR (qOf nl) g.bodies))) σ [] := by
  refine CallsTo.cut0 h93 fn76 (by simp) rfl ?_
  have hbl : g.bodies.length = g.rules.length := by rw [Gr.bodies, List.length_map]
  -- the loops behind the first one
  have rest : ∀ (tm : Tm) (τ : St) (kr : Nat), σ.n ≤ kr → τ.get kr = .cells (natsA (g.bodies.map (bgnE (qOf nl)))) → tm.at 5 = .row kr 0 g.rules.length 1 →
      Ev (XX fz) 76 81 none σ.n [.code (Code.r (Code.r (Code.r (Tryd.f76.body.getD .skip))))] tm τ [] (RetQ (XX fz) [.tmp 4] fun a _ W1 => a = .d (.bool (leftR (qOf nl) g.bodies)) ∧ W1 = []) := by
    intro tm τ kr hkr hk t5
    generalize hL0 : g.bodies.map (bgnE (qOf nl)) = L0 at hk
    have ok0 : LOk g.rules.length L0 := by
      refine ⟨by rw [← hL0, List.length_map, hbl], fun i => ?_⟩
      unfold gN
      rw [← hL0, List.getD_eq_getElem?_getD, List.getElem?_map]
      cases e : g.bodies[i]? with
      | none => simp; exact Nat.two_pow_pos _
      | some y => exact bgnE_lt y (ho y (List.mem_of_getElem? e))
    have hres : leftR (qOf nl) g.bodies = anyN (fun i => (gN (closeL g.rules.length L0) i).testBit i) g.rules.length 0 := by unfold leftR; rw [hL0, hbl]
    rw [hres]
    have b32 : ∀ {v : Nat}, v < 2 ^ g.rules.length → v < 2 ^ 32 := fun h => Nat.lt_of_lt_of_le h (Nat.pow_le_pow_right (by omega) h32)
    have lz : low σ.n [kr] = [] := by rw [low_cons_ge hkr]; rfl
    simp only [Code.r, Tryd.f76, Option.getD_some]
    simp only [go_sem, ↓reduceIte, Int.reduceEq, Nat.reduceBEq, Int.reduceBEq, Int.reduceBNe, Int.reduceLT, Int.reduceLE, Nat.reduceAdd, Nat.reducePow, Nat.reduceEqDiff, Nat.reduceLT, Nat.reduceLeDiff, Nat.reduceMul, Nat.reduceSub]
    refine Ev.loop_ind (fun m tm τ W => ∃ (j : Nat) (L : List Nat), m = g.rules.length - j ∧ j ≤ g.rules.length ∧ W = [] ∧ τ.get kr = .cells (natsA L) ∧ LOk g.rules.length L ∧ foldN (fun L _ => roundL g.rules.length L) (g.rules.length - j) j L = closeL g.rules.length L0 ∧
        tm.at 5 = .row kr 0 g.rules.length 1 ∧ tm.at 7 = .d (.int .i64 j)) ?_ g.rules.length _ _ _ ⟨0, L0, rfl, by omega, rfl, hk, ok0, rfl, by simp only [go_sem, ↓reduceIte, Int.reduceEq, Nat.reduceBEq, Int.reduceBEq, Int.reduceBNe, Int.reduceLT, Int.reduceLE, Nat.reduceAdd, Nat.reducePow, Nat.reduceEqDiff, Nat.reduceLT, Nat.reduceLeDiff, Nat.reduceMul, Nat.reduceSub, t5], by simp only [go_sem, ↓reduceIte, Int.reduceEq, Nat.reduceBEq, Int.reduceBEq, Int.reduceBNe, Int.reduceLT, Int.reduceLE, Nat.reduceAdd, Nat.reducePow, Nat.reduceEqDiff, Nat.reduceLT, Nat.reduceLeDiff, Nat.reduceMul, Nat.reduceSub]; rfl⟩
    rintro m tm τ W ⟨j, L, rfl, hj, rfl, q, ok, he, t5, t7⟩ ih
    by_cases hlt : j < g.rules.length
    · obtain ⟨c, hc'⟩ : ∃ c, g.rules.length - j = c + 1 := ⟨g.rules.length - j - 1, by omega⟩
      rw [hc', foldN] at he
      simp only [go_sem, ↓reduceIte, Int.reduceEq, Nat.reduceBEq, Int.reduceBEq, Int.reduceBNe, Int.reduceLT, Int.reduceLE, Nat.reduceAdd, Nat.reducePow, Nat.reduceEqDiff, Nat.reduceLT, Nat.reduceLeDiff, Nat.reduceMul, Nat.reduceSub, t5, t7, dec_lt' hlt, q]
      refine Ev.loop_ind (fun m2 tm τ W => ∃ (i : Nat) (M : List Nat), m2 = g.rules.length - i ∧ i ≤ g.rules.length ∧ W = [] ∧ τ.get kr = .cells (natsA M) ∧ LOk g.rules.length M ∧ foldN (stepI g.rules.length) (g.rules.length - i) i M = roundL g.rules.length L ∧
          tm.at 5 = .row kr 0 g.rules.length 1 ∧ tm.at 7 = .d (.int .i64 j) ∧ tm.at 8 = .d (.int .i64 i)) ?_ g.rules.length _ _ _ ⟨0, L, rfl, by omega, rfl, q, ok, rfl, by simp only [go_sem, ↓reduceIte, Int.reduceEq, Nat.reduceBEq, Int.reduceBEq, Int.reduceBNe, Int.reduceLT, Int.reduceLE, Nat.reduceAdd, Nat.reducePow, Nat.reduceEqDiff, Nat.reduceLT, Nat.reduceLeDiff, Nat.reduceMul, Nat.reduceSub, t5], by simp only [go_sem, ↓reduceIte, Int.reduceEq, Nat.reduceBEq, Int.reduceBEq, Int.reduceBNe, Int.reduceLT, Int.reduceLE, Nat.reduceAdd, Nat.reducePow, Nat.reduceEqDiff, Nat.reduceLT, Nat.reduceLeDiff, Nat.reduceMul, Nat.reduceSub, t7], by simp only [go_sem, ↓reduceIte, Int.reduceEq, Nat.reduceBEq, Int.reduceBEq, Int.reduceBNe, Int.reduceLT, Int.reduceLE, Nat.reduceAdd, Nat.reducePow, Nat.reduceEqDiff, Nat.reduceLT, Nat.reduceLeDiff, Nat.reduceMul, Nat.reduceSub]; rfl⟩
      rintro m2 tm τ W ⟨i, M, rfl, hi, rfl, q, ok, he2, t5, t7, t8⟩ ih2
      by_cases hil : i < g.rules.length
      · obtain ⟨d, hd'⟩ : ∃ d, g.rules.length - i = d + 1 := ⟨g.rules.length - i - 1, by omega⟩
        rw [hd', foldN] at he2
        simp only [go_sem, ↓reduceIte, Int.reduceEq, Nat.reduceBEq, Int.reduceBEq, Int.reduceBNe, Int.reduceLT, Int.reduceLE, Nat.reduceAdd, Nat.reducePow, Nat.reduceEqDiff, Nat.reduceLT, Nat.reduceLeDiff, Nat.reduceMul, Nat.reduceSub, t5, t8, dec_lt' hil, q]
        refine Ev.loop_ind (fun m3 tm τ W => ∃ (k : Nat) (N : List Nat), m3 = g.rules.length - k ∧ k ≤ g.rules.length ∧ W = [] ∧ τ.get kr = .cells (natsA N) ∧ LOk g.rules.length N ∧ foldN (stepK i) (g.rules.length - k) k N = stepI g.rules.length M i ∧
            tm.at 5 = .row kr 0 g.rules.length 1 ∧ tm.at 7 = .d (.int .i64 j) ∧ tm.at 8 = .d (.int .i64 i) ∧ tm.at 9 = .d (.int .i64 k)) ?_ g.rules.length _ _ _ ⟨0, M, rfl, by omega, rfl, q, ok, rfl, by simp only [go_sem, ↓reduceIte, Int.reduceEq, Nat.reduceBEq, Int.reduceBEq, Int.reduceBNe, Int.reduceLT, Int.reduceLE, Nat.reduceAdd, Nat.reducePow, Nat.reduceEqDiff, Nat.reduceLT, Nat.reduceLeDiff, Nat.reduceMul, Nat.reduceSub, t5], by simp only [go_sem, ↓reduceIte, Int.reduceEq, Nat.reduceBEq, Int.reduceBEq, Int.reduceBNe, Int.reduceLT, Int.reduceLE, Nat.reduceAdd, Nat.reducePow, Nat.reduceEqDiff, Nat.reduceLT, Nat.reduceLeDiff, Nat.reduceMul, Nat.reduceSub, t7], by simp only [go_sem, ↓reduceIte, Int.reduceEq, Nat.reduceBEq, Int.reduceBEq, Int.reduceBNe, Int.reduceLT, Int.reduceLE, Nat.reduceAdd, Nat.reducePow, Nat.reduceEqDiff, Nat.reduceLT, Nat.reduceLeDiff, Nat.reduceMul, Nat.reduceSub, t8], by simp only [go_sem, ↓reduceIte, Int.reduceEq, Nat.reduceBEq, Int.reduceBEq, Int.reduceBNe, Int.reduceLT, Int.reduceLE, Nat.reduceAdd, Nat.reducePow, Nat.reduceEqDiff, Nat.reduceLT, Nat.reduceLeDiff, Nat.reduceMul, Nat.reduceSub]; rfl⟩
        rintro m3 tm τ W ⟨k, N, rfl, hk3, rfl, q, ok, he3, t5, t7, t8, t9⟩ ih3
        by_cases hkl : k < g.rules.length
        · obtain ⟨e, he'⟩ : ∃ e, g.rules.length - k = e + 1 := ⟨g.rules.length - k - 1, by omega⟩
          rw [he', foldN, stepK] at he3
          have hii := indexR_nat (σ := τ) (k := kr) (off := 0) (s := 1) (cs := natsA N) (i := i) (len := g.rules.length) hil
          have hik := indexR_nat (σ := τ) (k := kr) (off := 0) (s := 1) (cs := natsA N) (i := k) (len := g.rules.length) hkl
          have e0 : ∀ i, 0 + i * 1 = i := by intro i; omega
          rw [e0] at hii hik
          have gi := natsA_get (L := N) (i := i) (by rw [ok.1]; exact hil)
          have gk := natsA_get (L := N) (i := k) (by rw [ok.1]; exact hkl)
          obtain ⟨v, hv, u, hu, hb⟩ := bit_i64 (X := XX fz) (σ := τ) (t := 3) (t' := 3) (P := gN N i) (k := k) (b32 (ok.2 i)) (by omega)
          have hor := bin_or64 (X := XX fz) (σ := τ) (t := 3) (b32 (ok.2 i)) (b32 (ok.2 k))
          have hst := storeC_n (L := N) (i := i) (v := gN N i ||| gN N k) (by rw [ok.1]; exact hil)
          cases hbt : (gN N i).testBit k with
          | true =>
            rw [if_pos hbt] at he3
            rw [hbt] at hb
            simp only [go_sem, ↓reduceIte, Int.reduceEq, Nat.reduceBEq, Int.reduceBEq, Int.reduceBNe, Int.reduceLT, Int.reduceLE, Nat.reduceAdd, Nat.reducePow, Nat.reduceEqDiff, Nat.reduceLT, Nat.reduceLeDiff, Nat.reduceMul, Nat.reduceSub, t5, t8, t9, dec_lt' hkl, q, hii, hik, gi, gk, hv, hu, hb, hor, hst]
            refine ⟨drawOk_rel [12] [] rfl (by kernel_rfl) rfl (by simp), ?_⟩
            simp only [go_sem, ↓reduceIte, Int.reduceEq, Nat.reduceBEq, Int.reduceBEq, Int.reduceBNe, Int.reduceLT, Int.reduceLE, Nat.reduceAdd, Nat.reducePow, Nat.reduceEqDiff, Nat.reduceLT, Nat.reduceLeDiff, Nat.reduceMul, Nat.reduceSub, t9, wrap_succ' hkl (show g.rules.length < 1000000000 by omega), lz]
            have := ok.step (i := i) (k := k) hil
            rw [stepK, if_pos hbt] at this
            exact ih3 _ _ _ _ (by omega) ⟨k + 1, _, rfl, hkl, rfl, by rw [St.get_set_eq], this, by rw [show g.rules.length - (k + 1) = e by omega]; exact he3, by simp only [go_sem, ↓reduceIte, Int.reduceEq, Nat.reduceBEq, Int.reduceBEq, Int.reduceBNe, Int.reduceLT, Int.reduceLE, Nat.reduceAdd, Nat.reducePow, Nat.reduceEqDiff, Nat.reduceLT, Nat.reduceLeDiff, Nat.reduceMul, Nat.reduceSub, t5], by simp only [go_sem, ↓reduceIte, Int.reduceEq, Nat.reduceBEq, Int.reduceBEq, Int.reduceBNe, Int.reduceLT, Int.reduceLE, Nat.reduceAdd, Nat.reducePow, Nat.reduceEqDiff, Nat.reduceLT, Nat.reduceLeDiff, Nat.reduceMul, Nat.reduceSub, t7], by simp only [go_sem, ↓reduceIte, Int.reduceEq, Nat.reduceBEq, Int.reduceBEq, Int.reduceBNe, Int.reduceLT, Int.reduceLE, Nat.reduceAdd, Nat.reducePow, Nat.reduceEqDiff, Nat.reduceLT, Nat.reduceLeDiff, Nat.reduceMul, Nat.reduceSub, t8], by simp only [go_sem, ↓reduceIte, Int.reduceEq, Nat.reduceBEq, Int.reduceBEq, Int.reduceBNe, Int.reduceLT, Int.reduceLE, Nat.reduceAdd, Nat.reducePow, Nat.reduceEqDiff, Nat.reduceLT, Nat.reduceLeDiff, Nat.reduceMul, Nat.reduceSub]⟩
          | false =>
            rw [if_neg (by rw [hbt]; simp)] at he3
            rw [hbt] at hb
            simp only [go_sem, ↓reduceIte, Int.reduceEq, Nat.reduceBEq, Int.reduceBEq, Int.reduceBNe, Int.reduceLT, Int.reduceLE, Nat.reduceAdd, Nat.reducePow, Nat.reduceEqDiff, Nat.reduceLT, Nat.reduceLeDiff, Nat.reduceMul, Nat.reduceSub, t5, t8, t9, dec_lt' hkl, q, hii, gi, hv, hu, hb, wrap_succ' hkl (show g.rules.length < 1000000000 by omega)]
            exact ih3 _ _ _ _ (by omega) ⟨k + 1, _, rfl, hkl, rfl, q, ok, by rw [show g.rules.length - (k + 1) = e by omega]; exact he3, by simp only [go_sem, ↓reduceIte, Int.reduceEq, Nat.reduceBEq, Int.reduceBEq, Int.reduceBNe, Int.reduceLT, Int.reduceLE, Nat.reduceAdd, Nat.reducePow, Nat.reduceEqDiff, Nat.reduceLT, Nat.reduceLeDiff, Nat.reduceMul, Nat.reduceSub, t5], by simp only [go_sem, ↓reduceIte, Int.reduceEq, Nat.reduceBEq, Int.reduceBEq, Int.reduceBNe, Int.reduceLT, Int.reduceLE, Nat.reduceAdd, Nat.reducePow, Nat.reduceEqDiff, Nat.reduceLT, Nat.reduceLeDiff, Nat.reduceMul, Nat.reduceSub, t7], by simp only [go_sem, ↓reduceIte, Int.reduceEq, Nat.reduceBEq, Int.reduceBEq, Int.reduceBNe, Int.reduceLT, Int.reduceLE, Nat.reduceAdd, Nat.reducePow, Nat.reduceEqDiff, Nat.reduceLT, Nat.reduceLeDiff, Nat.reduceMul, Nat.reduceSub, t8], by simp only [go_sem, ↓reduceIte, Int.reduceEq, Nat.reduceBEq, Int.reduceBEq, Int.reduceBNe, Int.reduceLT, Int.reduceLE, Nat.reduceAdd, Nat.reducePow, Nat.reduceEqDiff, Nat.reduceLT, Nat.reduceLeDiff, Nat.reduceMul, Nat.reduceSub]⟩
        · rw [show g.rules.length - k = 0 by omega, foldN] at he3
          simp only [go_sem, ↓reduceIte, Int.reduceEq, Nat.reduceBEq, Int.reduceBEq, Int.reduceBNe, Int.reduceLT, Int.reduceLE, Nat.reduceAdd, Nat.reducePow, Nat.reduceEqDiff, Nat.reduceLT, Nat.reduceLeDiff, Nat.reduceMul, Nat.reduceSub, t5, t8, t9, dec_ge' hkl, q, wrap_succ' hil (show g.rules.length < 1000000000 by omega)]
          exact ih2 _ _ _ _ (by omega) ⟨i + 1, N, rfl, hil, rfl, q, ok, by rw [show g.rules.length - (i + 1) = d by omega, he3]; exact he2, by simp only [go_sem, ↓reduceIte, Int.reduceEq, Nat.reduceBEq, Int.reduceBEq, Int.reduceBNe, Int.reduceLT, Int.reduceLE, Nat.reduceAdd, Nat.reducePow, Nat.reduceEqDiff, Nat.reduceLT, Nat.reduceLeDiff, Nat.reduceMul, Nat.reduceSub, t5], by simp only [go_sem, ↓reduceIte, Int.reduceEq, Nat.reduceBEq, Int.reduceBEq, Int.reduceBNe, Int.reduceLT, Int.reduceLE, Nat.reduceAdd, Nat.reducePow, Nat.reduceEqDiff, Nat.reduceLT, Nat.reduceLeDiff, Nat.reduceMul, Nat.reduceSub, t7], by simp only [go_sem, ↓reduceIte, Int.reduceEq, Nat.reduceBEq, Int.reduceBEq, Int.reduceBNe, Int.reduceLT, Int.reduceLE, Nat.reduceAdd, Nat.reducePow, Nat.reduceEqDiff, Nat.reduceLT, Nat.reduceLeDiff, Nat.reduceMul, Nat.reduceSub]⟩
      · rw [show g.rules.length - i = 0 by omega, foldN] at he2
        simp only [go_sem, ↓reduceIte, Int.reduceEq, Nat.reduceBEq, Int.reduceBEq, Int.reduceBNe, Int.reduceLT, Int.reduceLE, Nat.reduceAdd, Nat.reducePow, Nat.reduceEqDiff, Nat.reduceLT, Nat.reduceLeDiff, Nat.reduceMul, Nat.reduceSub, t5, t7, t8, dec_ge' hil, q, wrap_succ' hlt (show g.rules.length < 1000000000 by omega)]
        exact ih _ _ _ _ (by omega) ⟨j + 1, M, rfl, hlt, rfl, q, ok, by rw [show g.rules.length - (j + 1) = c by omega, he2]; exact he, by simp only [go_sem, ↓reduceIte, Int.reduceEq, Nat.reduceBEq, Int.reduceBEq, Int.reduceBNe, Int.reduceLT, Int.reduceLE, Nat.reduceAdd, Nat.reducePow, Nat.reduceEqDiff, Nat.reduceLT, Nat.reduceLeDiff, Nat.reduceMul, Nat.reduceSub, t5], by simp only [go_sem, ↓reduceIte, Int.reduceEq, Nat.reduceBEq, Int.reduceBEq, Int.reduceBNe, Int.reduceLT, Int.reduceLE, Nat.reduceAdd, Nat.reducePow, Nat.reduceEqDiff, Nat.reduceLT, Nat.reduceLeDiff, Nat.reduceMul, Nat.reduceSub]⟩
    · rw [show g.rules.length - j = 0 by omega, foldN] at he
      subst he
      simp only [go_sem, ↓reduceIte, Int.reduceEq, Nat.reduceBEq, Int.reduceBEq, Int.reduceBNe, Int.reduceLT, Int.reduceLE, Nat.reduceAdd, Nat.reducePow, Nat.reduceEqDiff, Nat.reduceLT, Nat.reduceLeDiff, Nat.reduceMul, Nat.reduceSub, t5, t7, dec_ge' hlt, q]
      generalize closeL g.rules.length L0 = L at q ok
      refine Ev.loop_ind (fun m2 tm τ W => ∃ (i : Nat), m2 = g.rules.length - i ∧ i ≤ g.rules.length ∧ W = [] ∧ τ.get kr = .cells (natsA L) ∧ anyN (fun i => (gN L i).testBit i) (g.rules.length - i) i = anyN (fun i => (gN L i).testBit i) g.rules.length 0 ∧
          tm.at 5 = .row kr 0 g.rules.length 1 ∧ tm.at 10 = .d (.int .i64 i)) ?_ g.rules.length _ _ _ ⟨0, rfl, by omega, rfl, q, rfl, by simp only [go_sem, ↓reduceIte, Int.reduceEq, Nat.reduceBEq, Int.reduceBEq, Int.reduceBNe, Int.reduceLT, Int.reduceLE, Nat.reduceAdd, Nat.reducePow, Nat.reduceEqDiff, Nat.reduceLT, Nat.reduceLeDiff, Nat.reduceMul, Nat.reduceSub, t5], by simp only [go_sem, ↓reduceIte, Int.reduceEq, Nat.reduceBEq, Int.reduceBEq, Int.reduceBNe, Int.reduceLT, Int.reduceLE, Nat.reduceAdd, Nat.reducePow, Nat.reduceEqDiff, Nat.reduceLT, Nat.reduceLeDiff, Nat.reduceMul, Nat.reduceSub]; rfl⟩
      rintro m2 tm τ W ⟨i, rfl, hi, rfl, q, he, t5, t10⟩ ih
      by_cases hil : i < g.rules.length
      · obtain ⟨d, hd'⟩ : ∃ d, g.rules.length - i = d + 1 := ⟨g.rules.length - i - 1, by omega⟩
        rw [hd', anyN] at he
        have hii := indexR_nat (σ := τ) (k := kr) (off := 0) (s := 1) (cs := natsA L) (i := i) (len := g.rules.length) hil
        rw [show 0 + i * 1 = i by omega] at hii
        have gi := natsA_get (L := L) (i := i) (by rw [ok.1]; exact hil)
        obtain ⟨v, hv, u, hu, hb⟩ := bit_i64 (X := XX fz) (σ := τ) (t := 3) (t' := 3) (P := gN L i) (k := i) (b32 (ok.2 i)) (by omega)
        cases hbt : (gN L i).testBit i with
        | true =>
          rw [hbt] at hb he
          simp only [go_sem, ↓reduceIte, Int.reduceEq, Nat.reduceBEq, Int.reduceBEq, Int.reduceBNe, Int.reduceLT, Int.reduceLE, Nat.reduceAdd, Nat.reducePow, Nat.reduceEqDiff, Nat.reduceLT, Nat.reduceLeDiff, Nat.reduceMul, Nat.reduceSub, t5, t10, dec_lt' hil, q, hii, gi, hv, hu, hb, ← he, Bool.true_or]
        | false =>
          rw [hbt] at hb he
          simp only [go_sem, ↓reduceIte, Int.reduceEq, Nat.reduceBEq, Int.reduceBEq, Int.reduceBNe, Int.reduceLT, Int.reduceLE, Nat.reduceAdd, Nat.reducePow, Nat.reduceEqDiff, Nat.reduceLT, Nat.reduceLeDiff, Nat.reduceMul, Nat.reduceSub, t5, t10, dec_lt' hil, q, hii, gi, hv, hu, hb, wrap_succ' hil (show g.rules.length < 1000000000 by omega)]
          exact ih _ _ _ _ (by omega) ⟨i + 1, rfl, hil, rfl, q, by rw [show g.rules.length - (i + 1) = d by omega]; simpa using he, by simp only [go_sem, ↓reduceIte, Int.reduceEq, Nat.reduceBEq, Int.reduceBEq, Int.reduceBNe, Int.reduceLT, Int.reduceLE, Nat.reduceAdd, Nat.reducePow, Nat.reduceEqDiff, Nat.reduceLT, Nat.reduceLeDiff, Nat.reduceMul, Nat.reduceSub, t5], by simp only [go_sem, ↓reduceIte, Int.reduceEq, Nat.reduceBEq, Int.reduceBEq, Int.reduceBNe, Int.reduceLT, Int.reduceLE, Nat.reduceAdd, Nat.reducePow, Nat.reduceEqDiff, Nat.reduceLT, Nat.reduceLeDiff, Nat.reduceMul, Nat.reduceSub]⟩
      · rw [show g.rules.length - i = 0 by omega, anyN] at he
        simp only [go_sem, ↓reduceIte, Int.reduceEq, Nat.reduceBEq, Int.reduceBEq, Int.reduceBNe, Int.reduceLT, Int.reduceLE, Nat.reduceAdd, Nat.reducePow, Nat.reduceEqDiff, Nat.reduceLT, Nat.reduceLeDiff, Nat.reduceMul, Nat.reduceSub, t5, t10, dec_ge' hil, q, ← he]
  have hbody : Tryd.f76.body.getD .skip = .seq (Code.l (Tryd.f76.body.getD .skip)) (.seq (Code.l (Code.r (Tryd.f76.body.getD .skip))) (.seq (Code.l (Code.r (Code.r (Tryd.f76.body.getD .skip)))) (Code.r (Code.r (Code.r (Tryd.f76.body.getD .skip)))))) := rfl
  show Ev (XX fz) 76 81 none σ.n [.code (Tryd.f76.body.getD .skip)] _ _ _ _
  rw [hbody]
  generalize Code.r (Code.r (Code.r (Tryd.f76.body.getD .skip))) = B at rest
  simp only [Code.l, Code.r, Tryd.f76, Option.getD_some]
  simp only [go_sem, ↓reduceIte, Int.reduceEq, Nat.reduceBEq, Int.reduceBEq, Int.reduceBNe, Int.reduceLT, Int.reduceLE, Nat.reduceAdd, Nat.reducePow, Nat.reduceEqDiff, Nat.reduceLT, Nat.reduceLeDiff, Nat.reduceMul, Nat.reduceSub, Gr.a]
  refine Ev.loop_ind (fun m tm τ W => ∃ (i : Nat) (la : A) (bs : List Nat), m = g.rules.length - i ∧ i ≤ g.rules.length ∧ W = [] ∧ σ.n + 1 ≤ τ.n ∧ (∀ j, j < σ.n → τ.get j = σ.get j) ∧ τ.get σ.n = .cells g.c ∧ RowN 1 τ la (natsD ((g.bodies.take i).map (bgnE (qOf nl)))) bs ∧ (∀ k ∈ bs, σ.n + 1 ≤ k) ∧
      tm.at 1 = a ∧ tm.at 2 = .ptr σ.n 0 ∧ tm.at 5 = la ∧ tm.at 6 = .d (.int .i64 i)) ?_ g.rules.length _ _ _ ⟨0, .d (.slc true []), [], rfl, by omega, rfl, by simp [St.n_push], fun j hj => St.get_push_ne hj, St.get_push_eq, by simpa [natsD] using (RowN.nil (es := 1) (σ := σ.push (.cells g.c))), (by simp), by simp only [go_sem, ↓reduceIte, Int.reduceEq, Nat.reduceBEq, Int.reduceBEq, Int.reduceBNe, Int.reduceLT, Int.reduceLE, Nat.reduceAdd, Nat.reducePow, Nat.reduceEqDiff, Nat.reduceLT, Nat.reduceLeDiff, Nat.reduceMul, Nat.reduceSub], by simp only [go_sem, ↓reduceIte, Int.reduceEq, Nat.reduceBEq, Int.reduceBEq, Int.reduceBNe, Int.reduceLT, Int.reduceLE, Nat.reduceAdd, Nat.reducePow, Nat.reduceEqDiff, Nat.reduceLT, Nat.reduceLeDiff, Nat.reduceMul, Nat.reduceSub], by simp only [go_sem, ↓reduceIte, Int.reduceEq, Nat.reduceBEq, Int.reduceBEq, Int.reduceBNe, Int.reduceLT, Int.reduceLE, Nat.reduceAdd, Nat.reducePow, Nat.reduceEqDiff, Nat.reduceLT, Nat.reduceLeDiff, Nat.reduceMul, Nat.reduceSub], by simp only [go_sem, ↓reduceIte, Int.reduceEq, Nat.reduceBEq, Int.reduceBEq, Int.reduceBNe, Int.reduceLT, Int.reduceLE, Nat.reduceAdd, Nat.reducePow, Nat.reduceEqDiff, Nat.reduceLT, Nat.reduceLeDiff, Nat.reduceMul, Nat.reduceSub]; rfl⟩
  rintro m tm τ W ⟨i, la, bs, rfl, hi, rfl, hn, hold, g0, hR, hbs, t1, t2, t5, t6⟩ ih
  by_cases hil : i < g.rules.length
  · have hget : g.rules[i]? = some g.rules[i] := by simp [hil]
    have hmem : g.rules[i] ∈ g.rules := List.getElem_mem hil
    have hbm : g.rules[i].body ∈ g.bodies := List.mem_map.2 ⟨_, hmem, rfl⟩
    have hBl : BlAt τ a nl := ha.mono ⟨by omega, hold⟩
    simp only [go_sem, ↓reduceIte, Int.reduceEq, Nat.reduceBEq, Int.reduceBEq, Int.reduceBNe, Int.reduceLT, Int.reduceLE, Nat.reduceAdd, Nat.reducePow, Nat.reduceEqDiff, Nat.reduceLT, Nat.reduceLeDiff, Nat.reduceMul, Nat.reduceSub, t1, t2, t5, t6, dec_lt' hil, g0, Gr.index_rd hget]
    refine ⟨_, _, _, bgn_c h111 h109 nl g.rules[i].body _ _ (hg _ hmem) (by rw [hnl]; exact ho _ hbm) (by omega) hBl, ?_⟩
    have hR1 : RowN 1 (τ.push (.cells [.d (.int .i64 (bgnE (qOf nl) g.rules[i].body : Int))])) la (natsD ((g.bodies.take i).map (bgnE (qOf nl)))) bs := hR.stay (by simp only [St.n_push]; omega) fun k hk => St.get_push_ne (hR.1.lt hk)
    obtain ⟨a', τ', T, bs', happ, hR', hK, hc1, hc2⟩ := app_ex (b := 8) (x := [.int .i64 (bgnE (qOf nl) g.rules[i].body : Int)]) (j := τ.n) (es := 1) rfl (by omega) hR1 St.get_push_eq (by simp [natsD]; omega)
    have hT : low σ.n T = [] := low_all fun k hk => by
      rcases hK.w k hk with h | h
      · have := hbs k h; omega
      · simp only [St.n_push] at h; omega
    have hn' := hK.n
    simp only [St.n_push] at hn'
    simp only [go_sem, ↓reduceIte, Int.reduceEq, Nat.reduceBEq, Int.reduceBEq, Int.reduceBNe, Int.reduceLT, Int.reduceLE, Nat.reduceAdd, Nat.reducePow, Nat.reduceEqDiff, Nat.reduceLT, Nat.reduceLeDiff, Nat.reduceMul, Nat.reduceSub, t6, happ, hT, wrap_succ' hil (show g.rules.length < 1000000000 by omega)]
    have hkeep : ∀ j, j < σ.n + 1 → τ'.get j = τ.get j := fun j hj => by rw [hK.same j (by simp only [St.n_push]; omega) (fun h => by have := hbs _ h; omega), St.get_push_ne (by omega)]
    refine ih _ _ _ _ (by omega) ⟨i + 1, a', bs', rfl, hil, rfl, by omega, fun j hj => by rw [hkeep j (by omega)]; exact hold j hj, by rw [hkeep _ (by omega)]; exact g0, ?_, fun k hk => ?_, by simp only [go_sem, ↓reduceIte, Int.reduceEq, Nat.reduceBEq, Int.reduceBEq, Int.reduceBNe, Int.reduceLT, Int.reduceLE, Nat.reduceAdd, Nat.reducePow, Nat.reduceEqDiff, Nat.reduceLT, Nat.reduceLeDiff, Nat.reduceMul, Nat.reduceSub, t1], by simp only [go_sem, ↓reduceIte, Int.reduceEq, Nat.reduceBEq, Int.reduceBEq, Int.reduceBNe, Int.reduceLT, Int.reduceLE, Nat.reduceAdd, Nat.reducePow, Nat.reduceEqDiff, Nat.reduceLT, Nat.reduceLeDiff, Nat.reduceMul, Nat.reduceSub, t2], by simp only [go_sem, ↓reduceIte, Int.reduceEq, Nat.reduceBEq, Int.reduceBEq, Int.reduceBNe, Int.reduceLT, Int.reduceLE, Nat.reduceAdd, Nat.reducePow, Nat.reduceEqDiff, Nat.reduceLT, Nat.reduceLeDiff, Nat.reduceMul, Nat.reduceSub], by simp only [go_sem, ↓reduceIte, Int.reduceEq, Nat.reduceBEq, Int.reduceBEq, Int.reduceBNe, Int.reduceLT, Int.reduceLE, Nat.reduceAdd, Nat.reducePow, Nat.reduceEqDiff, Nat.reduceLT, Nat.reduceLeDiff, Nat.reduceMul, Nat.reduceSub]⟩
    · have hb : g.bodies.take (i + 1) = g.bodies.take i ++ [g.rules[i].body] := by
        rw [List.take_succ_eq_append_getElem (by omega)]; simp [Gr.bodies]
      rw [hb, List.map_append]
      have : natsD ((g.bodies.take i).map (bgnE (qOf nl)) ++ [g.rules[i].body].map (bgnE (qOf nl))) = natsD ((g.bodies.take i).map (bgnE (qOf nl))) ++ [[.int .i64 (bgnE (qOf nl) g.rules[i].body : Int)]] := by simp [natsD]
      rw [this]; exact hR'
    · rcases hK.o k hk with h | h
      · exact hbs k h
      · simp only [St.n_push] at h; omega
  · simp only [go_sem, ↓reduceIte, Int.reduceEq, Nat.reduceBEq, Int.reduceBEq, Int.reduceBNe, Int.reduceLT, Int.reduceLE, Nat.reduceAdd, Nat.reducePow, Nat.reduceEqDiff, Nat.reduceLT, Nat.reduceLeDiff, Nat.reduceMul, Nat.reduceSub, t1, t2, t5, t6, dec_ge' hil, g0]
    rw [List.take_of_length_le (by omega)] at hR
    rcases hR.1.2 with ⟨e, -, -⟩ | ⟨kr, e, hk, hlt, rfl⟩
    · have := congrArg List.length e; simp only [natsD, List.length_map, hbl, List.length_nil] at this; omega
    · have hk1 := hbs kr (List.mem_singleton.2 rfl)
      refine rest _ _ kr (by omega) (by rw [hk, natsA_flat]) ?_
      simp only [go_sem, ↓reduceIte, Int.reduceEq, Nat.reduceBEq, Int.reduceBEq, Int.reduceBNe, Int.reduceLT, Int.reduceLE, Nat.reduceAdd, Nat.reducePow, Nat.reduceEqDiff, Nat.reduceLT, Nat.reduceLeDiff, Nat.reduceMul, Nat.reduceSub, t5, e]
      simp [natsD, hbl]
end Go.Am
namespace Go.Am
open Go Go.Proofs
variable {fz : Nat → Md}
theorem rF_len (tok : Bool) (bs : List Ex) : ∀ (n : Nat) (out : List Bool), (rF tok bs n out).length = out.length
  | 0, _ => rfl
  | n + 1, out => by rw [rF, rF_len tok bs n, rPass_len]
theorem rndP_len (tok : Bool) (bs : List Ex) : (rndP tok bs).length = bs.length := by rw [rndP, rF_len]; simp
def badL (S : List Bool) (q : Int → Bool) : List Ex → Nat → Bool
  | [], _ => false
  | x :: l, i => (!(S.getD i false) || vainE q x) || badL S q l (i + 1)
def chk2R (g : Gr) : Int := if badL (rndP true g.bodies) (qOf (rndP false g.bodies)) g.bodies 0 = true then 200 else if leftR (qOf (rndP false g.bodies)) g.bodies = true then 201 else 0
def chkR (g : Gr) : Int := if limP g = true then 5 else if (((g.rules.length : Int) == 0) || decide (g.tokens < 1)) = true then 2 else if g.bodies.all (rigE g.tokens g.rules.length) = false then 2 else chk2R g
structure FzR (fz : Nat → Md) : Prop where
  h48 : fz 39 = .cut
  h88 : fz 74 = .ice
  h89 : fz 71 = .cut
  h90 : fz 72 = .cut
  h91 : fz 73 = .cut
  h92 : fz 75 = .cut
  h93 : fz 76 = .cut
  h109 : fz 96 = .cut
  h110 : fz 95 = .cut
  h111 : fz 97 = .cut
set_option maxHeartbeats 8000000 in
theorem chk4_r (hz : FzR fz) (g : Gr) (hg : SmallG g) (ho : ∀ y ∈ g.bodies, okE g.tokens g.rules.length y) (h32 : g.rules.length ≤ 32) (hpos : 0 < g.rules.length) (σ τ0 : St) (tm0 : Tm) (hτ0 : τ0 = σ.push (.cells g.c)) (t1 : tm0.at 1 = .ptr σ.n 0) :
    Ev (XX fz) 39 89 none σ.n [.code (Code.r (Code.r (Code.r (Code.r (Tryd.f39.body.getD .skip)))))] tm0 τ0 [] (RetQ (XX fz) [.tmp 2] fun a _ W1 => a = .d (.int .i64 (chk2R g)) ∧ W1 = []) := by
  have hbl : g.bodies.length = g.rules.length := by rw [Gr.bodies, List.length_map]
  have hc : ∀ r ∈ g.rules, callsIn g.rules.length r.body = true := fun r hr => (ho _ (List.mem_map.2 ⟨r, hr, rfl⟩)).calls
  simp only [Code.r, Tryd.f39, Option.getD_some]
  have g00 : τ0.get σ.n = .cells g.c := by rw [hτ0, St.get_push_eq]
  have n00 : τ0.n = σ.n + 1 := by rw [hτ0]; rfl
  have hmk := mksE_nat (σ := τ0) (kd := .bool) (s := 1) (b := 1) (n := g.rules.length) (z := [.d (.bool false)]) (zv := .d (.bool false)) ⟨rfl, by omega, by omega, by omega⟩
  simp only [go_sem, ↓reduceIte, Int.reduceEq, Nat.reduceBEq, Int.reduceBEq, Nat.reduceAdd, Nat.reduceEqDiff, Nat.reduceLT, Nat.reduceSub, t1, g00, hmk]
  rw [rep_bools, n00]
  refine Ev.loop_ind (fun m tm τ W => ∃ (j : Nat) (out : List Bool), m = g.rules.length - j ∧ j ≤ g.rules.length ∧ W = [] ∧ τ.n = σ.n + 2 ∧ τ.get σ.n = .cells g.c ∧ out.length = g.rules.length ∧ τ.get (σ.n + 1) = .cells (bA out) ∧ rF true g.bodies (g.rules.length - j) out = rndP true g.bodies ∧
      tm.at 1 = .ptr σ.n 0 ∧ tm.at 4 = .row (σ.n + 1) 0 g.rules.length 1 ∧ tm.at 5 = .d (.int .i64 j)) ?_ g.rules.length _ _ _ ⟨0, List.replicate g.rules.length false, rfl, by omega, rfl, by simp only [St.n_push]; omega, by rw [St.get_push_ne (by omega)]; exact g00, by simp, St.get_push_eq' n00.symm, by rw [Nat.sub_zero, rndP, hbl], by simp only [go_sem, ↓reduceIte, Int.reduceEq, Nat.reduceBEq, Int.reduceBEq, Nat.reduceAdd, Nat.reduceEqDiff, Nat.reduceLT, Nat.reduceSub, t1], by simp only [go_sem, ↓reduceIte, Int.reduceEq, Nat.reduceBEq, Int.reduceBEq, Nat.reduceAdd, Nat.reduceEqDiff, Nat.reduceLT, Nat.reduceSub], by simp only [go_sem, ↓reduceIte, Int.reduceEq, Nat.reduceBEq, Int.reduceBEq, Nat.reduceAdd, Nat.reduceEqDiff, Nat.reduceLT, Nat.reduceSub]; rfl⟩
  rintro m tm τ W ⟨j, out, rfl, hj, rfl, hn, g0, hol, g1, he, t1, t4, t5⟩ ih
  by_cases hlt : j < g.rules.length
  · simp only [go_sem, ↓reduceIte, Int.reduceEq, Nat.reduceBEq, Int.reduceBEq, Nat.reduceAdd, Nat.reduceEqDiff, Nat.reduceLT, Nat.reduceSub, t1, t4, t5, dec_lt' hlt, g0, g1]
    obtain ⟨c, hc'⟩ : ∃ c, g.rules.length - j = c + 1 := ⟨g.rules.length - j - 1, by omega⟩
    rw [hc', rF] at he
    refine Ev.loop_ind (fun m2 tm τ W => ∃ (i : Nat) (o : List Bool), m2 = g.rules.length - i ∧ i ≤ g.rules.length ∧ W = [] ∧ τ.n = σ.n + 2 ∧ τ.get σ.n = .cells g.c ∧ o.length = g.rules.length ∧ τ.get (σ.n + 1) = .cells (bA o) ∧ rPass true (g.bodies.drop i) i o = rPass true g.bodies 0 out ∧
        tm.at 1 = .ptr σ.n 0 ∧ tm.at 4 = .row (σ.n + 1) 0 g.rules.length 1 ∧ tm.at 5 = .d (.int .i64 j) ∧ tm.at 6 = .d (.int .i64 i)) ?_ g.rules.length _ _ _ ⟨0, out, rfl, by omega, rfl, hn, g0, hol, g1, rfl, by simp only [go_sem, ↓reduceIte, Int.reduceEq, Nat.reduceBEq, Int.reduceBEq, Nat.reduceAdd, Nat.reduceEqDiff, Nat.reduceLT, Nat.reduceSub, t1], by simp only [go_sem, ↓reduceIte, Int.reduceEq, Nat.reduceBEq, Int.reduceBEq, Nat.reduceAdd, Nat.reduceEqDiff, Nat.reduceLT, Nat.reduceSub, t4], by simp only [go_sem, ↓reduceIte, Int.reduceEq, Nat.reduceBEq, Int.reduceBEq, Nat.reduceAdd, Nat.reduceEqDiff, Nat.reduceLT, Nat.reduceSub, t5], by simp only [go_sem, ↓reduceIte, Int.reduceEq, Nat.reduceBEq, Int.reduceBEq, Nat.reduceAdd, Nat.reduceEqDiff, Nat.reduceLT, Nat.reduceSub]; rfl⟩
    rintro m2 tm2 τ2 W2 ⟨i, o, rfl, hi, rfl, hn2, q0, hol2, q1, he2, u1, u4, u5, u6⟩ ih2
    by_cases hil : i < g.rules.length
    · have hget : g.rules[i]? = some g.rules[i] := by simp [hil]
      have hmem : g.rules[i] ∈ g.rules := List.getElem_mem hil
      have hm1 : g.bodies.drop i = g.rules[i].body :: g.bodies.drop (i + 1) := by
        rw [List.drop_eq_getElem_cons (by rw [hbl]; exact hil)]; simp [Gr.bodies]
      rw [hm1, rPass] at he2
      simp only [go_sem, ↓reduceIte, Int.reduceEq, Nat.reduceBEq, Int.reduceBEq, Nat.reduceAdd, Nat.reduceEqDiff, Nat.reduceLT, Nat.reduceSub, u1, u4, u6, dec_lt' hil, q0, q1, Gr.index_rd hget]
      have hBl : BlAt τ2 (.row (σ.n + 1) 0 g.rules.length 1) o := .inr ⟨σ.n + 1, by rw [hol2], by omega, q1⟩
      refine ⟨_, _, _, something_c hz.h91 o g.rules[i].body _ _ (hg _ hmem) (by rw [hol2]; exact hc _ hmem) hBl, ?_⟩
      have hidx := indexR_nat (σ := τ2) (k := σ.n + 1) (off := 0) (s := 1) (cs := bA o) (i := i) (len := g.rules.length) hil
      have e0 : 0 + i * 1 = i := by omega
      rw [e0] at hidx
      have hst := storeC_b (l := o) (i := i) (b := canE true (qOf o) g.rules[i].body) (by omega)
      have lz : low σ.n [σ.n + 1] = [] := by rw [low_cons_ge (by omega)]; rfl
      simp only [go_sem, ↓reduceIte, Int.reduceEq, Nat.reduceBEq, Int.reduceBEq, Nat.reduceAdd, Nat.reduceEqDiff, Nat.reduceLT, Nat.reduceSub, u4, u6, q1, hidx, hst, lz, wrap_succ' hil (by omega)]
      exact ih2 _ _ _ _ (by omega) ⟨i + 1, o.set i (canE true (qOf o) g.rules[i].body), rfl, hil, rfl, by simp only [St.n_set]; exact hn2, by rw [St.get_set_ne (by omega)]; exact q0, by rw [List.length_set]; exact hol2, by rw [St.get_set_eq], he2, by simp only [go_sem, ↓reduceIte, Int.reduceEq, Nat.reduceBEq, Int.reduceBEq, Nat.reduceAdd, Nat.reduceEqDiff, Nat.reduceLT, Nat.reduceSub, u1], by simp only [go_sem, ↓reduceIte, Int.reduceEq, Nat.reduceBEq, Int.reduceBEq, Nat.reduceAdd, Nat.reduceEqDiff, Nat.reduceLT, Nat.reduceSub, u4], by simp only [go_sem, ↓reduceIte, Int.reduceEq, Nat.reduceBEq, Int.reduceBEq, Nat.reduceAdd, Nat.reduceEqDiff, Nat.reduceLT, Nat.reduceSub, u5], by simp only [go_sem, ↓reduceIte, Int.reduceEq, Nat.reduceBEq, Int.reduceBEq, Nat.reduceAdd, Nat.reduceEqDiff, Nat.reduceLT, Nat.reduceSub]⟩
    · simp only [go_sem, ↓reduceIte, Int.reduceEq, Nat.reduceBEq, Int.reduceBEq, Nat.reduceAdd, Nat.reduceEqDiff, Nat.reduceLT, Nat.reduceSub, u1, u4, u5, u6, dec_ge' hil, q1, wrap_succ' hlt (by omega)]
      rw [List.drop_eq_nil_of_le (by omega), rPass] at he2
      refine ih _ _ _ _ (by omega) ⟨j + 1, o, rfl, hlt, rfl, hn2, q0, hol2, q1, ?_, by simp only [go_sem, ↓reduceIte, Int.reduceEq, Nat.reduceBEq, Int.reduceBEq, Nat.reduceAdd, Nat.reduceEqDiff, Nat.reduceLT, Nat.reduceSub, u1], by simp only [go_sem, ↓reduceIte, Int.reduceEq, Nat.reduceBEq, Int.reduceBEq, Nat.reduceAdd, Nat.reduceEqDiff, Nat.reduceLT, Nat.reduceSub, u4], by simp only [go_sem, ↓reduceIte, Int.reduceEq, Nat.reduceBEq, Int.reduceBEq, Nat.reduceAdd, Nat.reduceEqDiff, Nat.reduceLT, Nat.reduceSub]⟩
      rw [show g.rules.length - (j + 1) = c by omega, he2]; exact he
  · rw [show g.rules.length - j = 0 by omega, rF] at he
    subst he
    simp only [go_sem, ↓reduceIte, Int.reduceEq, Nat.reduceBEq, Int.reduceBEq, Nat.reduceAdd, Nat.reduceEqDiff, Nat.reduceLT, Nat.reduceSub, t1, t4, t5, dec_ge' hlt, g0, g1]
    refine ⟨_, _, _, nullR_call hz.h88 hz.h109 g τ hg (by omega) hc, ?_⟩
    have hnl : (rndP false g.bodies).length = g.rules.length := by rw [rndP_len, hbl]
    have hBn : ∀ ρ : St, BlAt ρ (.d (.slc false (boolsD (rndP false g.bodies)))) (rndP false g.bodies) := fun ρ => .inl ⟨false, rfl⟩
    have hfin := left_c (fz := fz) hz.h93 hz.h111 hz.h109 (rndP false g.bodies) g τ (.d (.slc false (boolsD (rndP false g.bodies)))) hg ho hnl h32 hpos (hBn τ)
    unfold chk2R
    generalize hS : rndP true g.bodies = S at g1 hol
    generalize hN : rndP false g.bodies = N at hnl hBn hfin
    simp only [go_sem, ↓reduceIte, Int.reduceEq, Nat.reduceBEq, Int.reduceBEq, Nat.reduceAdd, Nat.reduceEqDiff, Nat.reduceLT, Nat.reduceSub]
    refine Ev.loop_ind (fun m2 tm ρ W => ∃ (i : Nat), m2 = g.rules.length - i ∧ i ≤ g.rules.length ∧ W = [] ∧ ρ = τ ∧ badL S (qOf N) (g.bodies.drop i) i = badL S (qOf N) g.bodies 0 ∧
        tm.at 1 = .ptr σ.n 0 ∧ tm.at 4 = .row (σ.n + 1) 0 g.rules.length 1 ∧ tm.at 7 = .d (.slc false (boolsD N)) ∧ tm.at 8 = .d (.int .i64 i)) ?_ g.rules.length _ _ _ ⟨0, rfl, by omega, rfl, rfl, rfl, by simp only [go_sem, ↓reduceIte, Int.reduceEq, Nat.reduceBEq, Int.reduceBEq, Nat.reduceAdd, Nat.reduceEqDiff, Nat.reduceLT, Nat.reduceSub, t1], by simp only [go_sem, ↓reduceIte, Int.reduceEq, Nat.reduceBEq, Int.reduceBEq, Nat.reduceAdd, Nat.reduceEqDiff, Nat.reduceLT, Nat.reduceSub, t4], by simp only [go_sem, ↓reduceIte, Int.reduceEq, Nat.reduceBEq, Int.reduceBEq, Nat.reduceAdd, Nat.reduceEqDiff, Nat.reduceLT, Nat.reduceSub], by simp only [go_sem, ↓reduceIte, Int.reduceEq, Nat.reduceBEq, Int.reduceBEq, Nat.reduceAdd, Nat.reduceEqDiff, Nat.reduceLT, Nat.reduceSub]; rfl⟩
    rintro m2 tm ρ W ⟨i, rfl, hi, rfl, rfl, he, u1, u4, u7, u8⟩ ih2
    by_cases hil : i < g.rules.length
    · have hget : g.rules[i]? = some g.rules[i] := by simp [hil]
      have hmem : g.rules[i] ∈ g.rules := List.getElem_mem hil
      have hbm : g.rules[i].body ∈ g.bodies := List.mem_map.2 ⟨_, hmem, rfl⟩
      have hm1 : g.bodies.drop i = g.rules[i].body :: g.bodies.drop (i + 1) := by
        rw [List.drop_eq_getElem_cons (by rw [hbl]; exact hil)]; simp [Gr.bodies]
      rw [hm1, badL] at he
      have hidx := indexR_nat (σ := ρ) (k := σ.n + 1) (off := 0) (s := 1) (cs := bA S) (i := i) (len := g.rules.length) hil
      have e0 : 0 + i * 1 = i := by omega
      rw [e0] at hidx
      have gi := bA_get (l := S) (i := i) (by omega)
      cases hs : S.getD i false with
      | false =>
        rw [hs] at gi he
        simp only [go_sem, ↓reduceIte, Int.reduceEq, Nat.reduceBEq, Int.reduceBEq, Nat.reduceAdd, Nat.reduceEqDiff, Nat.reduceLT, Nat.reduceSub, u1, u4, u7, u8, dec_lt' hil, g0, g1, hidx, gi, ← he, Bool.not_false, Bool.true_or]
      | true =>
        rw [hs] at gi he
        simp only [go_sem, ↓reduceIte, Int.reduceEq, Nat.reduceBEq, Int.reduceBEq, Nat.reduceAdd, Nat.reduceEqDiff, Nat.reduceLT, Nat.reduceSub, u1, u4, u7, u8, dec_lt' hil, g0, g1, hidx, gi, Gr.index_rd hget]
        refine ⟨_, _, _, empty_c hz.h92 hz.h109 N (t := g.tokens) g.rules[i].body _ _ (hg _ hmem) (by rw [hnl]; exact ho _ hbm) (hBn _), ?_⟩
        cases hv : vainE (qOf N) g.rules[i].body with
        | true =>
          rw [hv] at he
          simp only [go_sem, ↓reduceIte, Int.reduceEq, Nat.reduceBEq, Int.reduceBEq, Nat.reduceAdd, Nat.reduceEqDiff, Nat.reduceLT, Nat.reduceSub, ← he, Bool.not_true, Bool.false_or, Bool.true_or]
        | false =>
          rw [hv] at he
          simp only [go_sem, ↓reduceIte, Int.reduceEq, Nat.reduceBEq, Int.reduceBEq, Nat.reduceAdd, Nat.reduceEqDiff, Nat.reduceLT, Nat.reduceSub, u8, wrap_succ' hil (show g.rules.length < 1000000000 by omega)]
          exact ih2 _ _ _ _ (by omega) ⟨i + 1, rfl, hil, rfl, rfl, by simpa using he, by simp only [go_sem, ↓reduceIte, Int.reduceEq, Nat.reduceBEq, Int.reduceBEq, Nat.reduceAdd, Nat.reduceEqDiff, Nat.reduceLT, Nat.reduceSub, u1], by simp only [go_sem, ↓reduceIte, Int.reduceEq, Nat.reduceBEq, Int.reduceBEq, Nat.reduceAdd, Nat.reduceEqDiff, Nat.reduceLT, Nat.reduceSub, u4], by simp only [go_sem, ↓reduceIte, Int.reduceEq, Nat.reduceBEq, Int.reduceBEq, Nat.reduceAdd, Nat.reduceEqDiff, Nat.reduceLT, Nat.reduceSub, u7], by simp only [go_sem, ↓reduceIte, Int.reduceEq, Nat.reduceBEq, Int.reduceBEq, Nat.reduceAdd, Nat.reduceEqDiff, Nat.reduceLT, Nat.reduceSub]⟩
    · rw [List.drop_eq_nil_of_le (by omega), badL] at he
      rw [← he]
      simp only [go_sem, ↓reduceIte, Int.reduceEq, Nat.reduceBEq, Int.reduceBEq, Nat.reduceAdd, Nat.reduceEqDiff, Nat.reduceLT, Nat.reduceSub, u1, u4, u7, u8, dec_ge' hil, g0, g1]
      refine ⟨_, _, _, hfin, ?_⟩
      cases hlf : leftR (qOf N) g.bodies <;> simp only [go_sem, ↓reduceIte, Int.reduceEq, Nat.reduceBEq, Int.reduceBEq, Nat.reduceAdd, Nat.reduceEqDiff, Nat.reduceLT, Nat.reduceSub, hlf]
set_option maxHeartbeats 4000000 in
theorem chk_r (hz : FzR fz) (g : Gr) (hg : SmallG g) (hL : g.rules.length < 1000000000) (hok : limP g = false → ∀ y ∈ g.bodies, rigE g.tokens g.rules.length y = true → okE g.tokens g.rules.length y) (σ : St) : CallsTo (XX fz) (.func 39 []) [g.a] σ (.d (.int .i64 (chkR g))) σ [] := by
  refine CallsTo.cut0 hz.h48 fn39 (by simp) rfl ?_
  have hbl : g.bodies.length = g.rules.length := by rw [Gr.bodies, List.length_map]
  have rest := fun ho h32 hpos τ0 tm0 => chk4_r hz g hg ho h32 hpos σ τ0 tm0
  have hbody : Tryd.f39.body.getD .skip = .seq (Code.l (Tryd.f39.body.getD .skip)) (.seq (Code.l (Code.r (Tryd.f39.body.getD .skip))) (.seq (Code.l (Code.r (Code.r (Tryd.f39.body.getD .skip)))) (.seq (Code.l (Code.r (Code.r (Code.r (Tryd.f39.body.getD .skip))))) (Code.r (Code.r (Code.r (Code.r (Tryd.f39.body.getD .skip)))))))) := rfl
  show Ev (XX fz) 39 89 none σ.n [.code (Tryd.f39.body.getD .skip)] _ _ _ _
  rw [hbody]
  generalize Code.r (Code.r (Code.r (Code.r (Tryd.f39.body.getD .skip)))) = B at rest
  simp only [Code.l, Code.r, Tryd.f39, Option.getD_some]
  simp only [go_sem, ↓reduceIte, Int.reduceEq, Nat.reduceBEq, Int.reduceBEq, Nat.reduceAdd, Nat.reduceEqDiff, Nat.reduceLT, Nat.reduceSub, Gr.a]
  refine ⟨_, _, _, lim_call hz.h89 hz.h110 g _ hg hL, ?_⟩
  unfold chkR
  cases hlim : limP g with
  | true => simp only [go_sem, ↓reduceIte, Int.reduceEq, Nat.reduceBEq, Int.reduceBEq, Nat.reduceAdd, Nat.reduceEqDiff, Nat.reduceLT, Nat.reduceSub]
  | false =>
  simp only [go_sem, ↓reduceIte, Int.reduceEq, Nat.reduceBEq, Int.reduceBEq, Nat.reduceAdd, Nat.reduceEqDiff, Nat.reduceLT, Nat.reduceSub]
  cases h1 : ((g.rules.length : Int) == 0) with
  | true => simp only [go_sem, ↓reduceIte, Int.reduceEq, Nat.reduceBEq, Int.reduceBEq, Nat.reduceAdd, Nat.reduceEqDiff, Nat.reduceLT, Nat.reduceSub, h1, Bool.true_or]
  | false =>
  cases h2 : decide (g.tokens < 1) with
  | true => simp only [go_sem, ↓reduceIte, Int.reduceEq, Nat.reduceBEq, Int.reduceBEq, Nat.reduceAdd, Nat.reduceEqDiff, Nat.reduceLT, Nat.reduceSub, h1, h2, Bool.or_true]
  | false =>
  simp only [go_sem, ↓reduceIte, Int.reduceEq, Nat.reduceBEq, Int.reduceBEq, Nat.reduceAdd, Nat.reduceEqDiff, Nat.reduceLT, Nat.reduceSub, h1, h2, Bool.or_false]
  have hpos : 0 < g.rules.length := by simp at h1; exact List.length_pos_iff.2 h1
  have h32 : g.rules.length ≤ 32 := by
    unfold limP at hlim
    split at hlim
    · cases hlim
    · rename_i h; simp at h; omega
  refine Ev.loop_ind (fun k tm τ W => ∃ i : Nat, k = g.rules.length - i ∧ i ≤ g.rules.length ∧ W = [] ∧ τ = σ.push (.cells g.c) ∧ (g.bodies.take i).all (rigE g.tokens g.rules.length) = true ∧ tm.at 1 = .ptr σ.n 0 ∧ tm.at 3 = .d (.int .i64 i)) ?_ g.rules.length _ _ _ ⟨0, rfl, by omega, rfl, rfl, by simp, by simp only [go_sem, ↓reduceIte, Int.reduceEq, Nat.reduceBEq, Int.reduceBEq, Nat.reduceAdd, Nat.reduceEqDiff, Nat.reduceLT, Nat.reduceSub], by simp only [go_sem, ↓reduceIte, Int.reduceEq, Nat.reduceBEq, Int.reduceBEq, Nat.reduceAdd, Nat.reduceEqDiff, Nat.reduceLT, Nat.reduceSub]; rfl⟩
  rintro k tm τ W ⟨i, rfl, hi, rfl, rfl, he, t1, t3⟩ ih
  by_cases hil : i < g.rules.length
  · have hget : g.rules[i]? = some g.rules[i] := by simp [hil]
    have hmem : g.rules[i] ∈ g.rules := List.getElem_mem hil
    have hbm : g.rules[i].body ∈ g.bodies := List.mem_map.2 ⟨_, hmem, rfl⟩
    simp only [go_sem, ↓reduceIte, Int.reduceEq, Nat.reduceBEq, Int.reduceBEq, Nat.reduceAdd, Nat.reduceEqDiff, Nat.reduceLT, Nat.reduceSub, t1, t3, dec_lt' hil, Gr.index_rd hget]
    refine ⟨_, _, _, rig_call hz.h90 g g.rules[i].body _ (hg _ hmem), ?_⟩
    cases hr : rigE g.tokens g.rules.length g.rules[i].body with
    | false =>
      have : g.bodies.all (rigE g.tokens g.rules.length) = false := by
        rw [List.all_eq_false]; exact ⟨_, hbm, by rw [hr]; simp⟩
      simp only [go_sem, ↓reduceIte, Int.reduceEq, Nat.reduceBEq, Int.reduceBEq, Nat.reduceAdd, Nat.reduceEqDiff, Nat.reduceLT, Nat.reduceSub, this]
      rfl
    | true =>
      simp only [go_sem, ↓reduceIte, Int.reduceEq, Nat.reduceBEq, Int.reduceBEq, Nat.reduceAdd, Nat.reduceEqDiff, Nat.reduceLT, Nat.reduceSub]
      refine ⟨rfl, ?_⟩
      simp only [go_sem, ↓reduceIte, Int.reduceEq, Nat.reduceBEq, Int.reduceBEq, Nat.reduceAdd, Nat.reduceEqDiff, Nat.reduceLT, Nat.reduceSub, t3, wrap_succ' hil hL]
      refine ih _ _ _ _ (by omega) ⟨i + 1, rfl, hil, rfl, rfl, ?_, by simp only [go_sem, ↓reduceIte, Int.reduceEq, Nat.reduceBEq, Int.reduceBEq, Nat.reduceAdd, Nat.reduceEqDiff, Nat.reduceLT, Nat.reduceSub, t1], by simp only [go_sem, ↓reduceIte, Int.reduceEq, Nat.reduceBEq, Int.reduceBEq, Nat.reduceAdd, Nat.reduceEqDiff, Nat.reduceLT, Nat.reduceSub]⟩
      have hb : g.bodies.take (i + 1) = g.bodies.take i ++ [g.rules[i].body] := by
        rw [List.take_succ_eq_append_getElem (by omega)]; simp [Gr.bodies]
      rw [hb, List.all_append, he]; simp [hr]
  · rw [List.take_of_length_le (by omega)] at he
    simp only [go_sem, ↓reduceIte, Int.reduceEq, Nat.reduceBEq, Int.reduceBEq, Nat.reduceAdd, Nat.reduceEqDiff, Nat.reduceLT, Nat.reduceSub, t1, t3, dec_ge' hil, he]
    exact rest (fun y hy => hok hlim y hy (List.all_eq_true.1 he y hy)) h32 hpos _ _ rfl (by simp only [go_sem, ↓reduceIte, Int.reduceEq, Nat.reduceBEq, Int.reduceBEq, Nat.reduceAdd, Nat.reduceEqDiff, Nat.reduceLT, Nat.reduceSub, t1])
end Go.Am
namespace Go.Am
open Go Go.Proofs
variable {fz : Nat → Md}
mutual
def sameE : Ex → Ex → Bool
  | .mk k n _ l, .mk k' n' _ l' => !((k != k') || (n != n') || ((l.length : Int) != (l'.length : Int))) && sameEL l l'
def sameEL : List Ex → List Ex → Bool
  | [], [] => true
  | x :: l, y :: m => sameE x y && sameEL l m
  | _, _ => true
end
theorem sameE_eq (x y : Ex) : sameE x y = (!((x.kind != y.kind) || (x.num != y.num) || ((x.l.length : Int) != (y.l.length : Int))) && sameEL x.l y.l) := by cases x; cases y; rw [sameE]; rfl
set_option maxHeartbeats 4000000 in
theorem sameE_call (h66 : fz 44 = .cut) (x y : Ex) (σ : St) (hx : SmallE x) : CallsTo (XX fz) (.func 44 []) [x.a, y.a] σ (.d (.bool (sameE x y))) σ [] := by
  refine CallsTo.cut0 h66 fn44 (by simp) rfl ?_
  rw [sameE_eq]
  simp only [Tryd.f44, Option.getD_some]
  have hlen := hx.len
  cases c1 : (x.kind != y.kind) with
  | true => simp only [go_sem, ↓reduceIte, Int.reduceEq, Nat.reduceBEq, Int.reduceBEq, Nat.reduceAdd, Nat.reduceEqDiff, Nat.reduceLT, Nat.reduceSub, Ex.a, c1, Bool.true_or, Bool.not_true, Bool.false_and]
  | false =>
  cases c2 : (x.num != y.num) with
  | true => simp only [go_sem, ↓reduceIte, Int.reduceEq, Nat.reduceBEq, Int.reduceBEq, Nat.reduceAdd, Nat.reduceEqDiff, Nat.reduceLT, Nat.reduceSub, Ex.a, c1, c2, Bool.true_or, Bool.or_true, Bool.not_true, Bool.false_and]
  | false =>
  cases c3 : ((x.l.length : Int) != (y.l.length : Int)) with
  | true => simp only [go_sem, ↓reduceIte, Int.reduceEq, Nat.reduceBEq, Int.reduceBEq, Nat.reduceAdd, Nat.reduceEqDiff, Nat.reduceLT, Nat.reduceSub, Ex.a, c1, c2, c3, Bool.or_true, Bool.not_true, Bool.false_and]
  | false =>
  have hll : x.l.length = y.l.length := by simp at c3; omega
  simp only [go_sem, ↓reduceIte, Int.reduceEq, Nat.reduceBEq, Int.reduceBEq, Nat.reduceAdd, Nat.reduceEqDiff, Nat.reduceLT, Nat.reduceSub, Ex.a, c1, c2, c3, Bool.or_false, Bool.not_false, Bool.true_and]
  refine Ev.loop_ind (fun k tm τ W => ∃ i : Nat, k = x.l.length - i ∧ i ≤ x.l.length ∧ W = [] ∧ τ = (σ.push (.cells x.c)).push (.cells y.c) ∧ sameEL (x.l.drop i) (y.l.drop i) = sameEL x.l y.l ∧
      tm.at 2 = .ptr σ.n 0 ∧ tm.at 3 = .ptr (σ.n + 1) 0 ∧ tm.at 5 = .d (.int .i64 i)) ?_ x.l.length _ _ _ ⟨0, rfl, by omega, rfl, rfl, rfl, by simp only [go_sem, ↓reduceIte, Int.reduceEq, Nat.reduceBEq, Int.reduceBEq, Nat.reduceAdd, Nat.reduceEqDiff, Nat.reduceLT, Nat.reduceSub], by simp only [go_sem, ↓reduceIte, Int.reduceEq, Nat.reduceBEq, Int.reduceBEq, Nat.reduceAdd, Nat.reduceEqDiff, Nat.reduceLT, Nat.reduceSub], by simp only [go_sem, ↓reduceIte, Int.reduceEq, Nat.reduceBEq, Int.reduceBEq, Nat.reduceAdd, Nat.reduceEqDiff, Nat.reduceLT, Nat.reduceSub]; rfl⟩
  rintro k tm τ W ⟨i, rfl, hi, rfl, rfl, he, t2, t3, t5⟩ ih
  by_cases hl : i < x.l.length
  · have hl2 : i < y.l.length := by omega
    have hget : x.l[i]? = some x.l[i] := by simp [hl]
    have hget2 : y.l[i]? = some y.l[i] := by simp [hl2]
    have hmem : x.l[i] ∈ x.l := List.getElem_mem hl
    rw [List.drop_eq_getElem_cons hl, List.drop_eq_getElem_cons hl2, sameEL] at he
    simp only [go_sem, ↓reduceIte, Int.reduceEq, Nat.reduceBEq, Int.reduceBEq, Nat.reduceAdd, Nat.reduceEqDiff, Nat.reduceLT, Nat.reduceSub, t2, t3, t5, dec_lt' hl, Ex.index_ld hget, Ex.index_ld hget2]
    refine ⟨_, _, _, sameE_call h66 x.l[i] y.l[i] _ (hx.sub hmem), ?_⟩
    cases hs : sameE x.l[i] y.l[i] with
    | false =>
      rw [hs, Bool.false_and] at he
      simp only [go_sem, ↓reduceIte, Int.reduceEq, Nat.reduceBEq, Int.reduceBEq, Nat.reduceAdd, Nat.reduceEqDiff, Nat.reduceLT, Nat.reduceSub, ← he]
      rfl
    | true =>
      rw [hs, Bool.true_and] at he
      simp only [go_sem, ↓reduceIte, Int.reduceEq, Nat.reduceBEq, Int.reduceBEq, Nat.reduceAdd, Nat.reduceEqDiff, Nat.reduceLT, Nat.reduceSub]
      refine ⟨rfl, ?_⟩
      simp only [go_sem, ↓reduceIte, Int.reduceEq, Nat.reduceBEq, Int.reduceBEq, Nat.reduceAdd, Nat.reduceEqDiff, Nat.reduceLT, Nat.reduceSub, t5, wrap_succ' hl hlen]
      exact ih _ _ _ _ (by omega) ⟨i + 1, rfl, hl, rfl, rfl, he, by simp only [go_sem, ↓reduceIte, Int.reduceEq, Nat.reduceBEq, Int.reduceBEq, Nat.reduceAdd, Nat.reduceEqDiff, Nat.reduceLT, Nat.reduceSub, t2], by simp only [go_sem, ↓reduceIte, Int.reduceEq, Nat.reduceBEq, Int.reduceBEq, Nat.reduceAdd, Nat.reduceEqDiff, Nat.reduceLT, Nat.reduceSub, t3], by simp only [go_sem, ↓reduceIte, Int.reduceEq, Nat.reduceBEq, Int.reduceBEq, Nat.reduceAdd, Nat.reduceEqDiff, Nat.reduceLT, Nat.reduceSub]⟩
  · simp only [go_sem, ↓reduceIte, Int.reduceEq, Nat.reduceBEq, Int.reduceBEq, Nat.reduceAdd, Nat.reduceEqDiff, Nat.reduceLT, Nat.reduceSub, t2, t3, t5, dec_ge' hl]
    rw [List.drop_eq_nil_of_le (by omega), List.drop_eq_nil_of_le (by omega), sameEL] at he
    rw [← he]
termination_by x
decreasing_by exact Ex.sub_lt hmem
mutual
theorem sameE_cp : ∀ x : Ex, sameE x.cp x = true
  | .mk k n z l => by
    rw [Ex.cp, sameE, sameEL_cp l, cpL_map]; simp
theorem sameEL_cp : ∀ l : List Ex, sameEL (Ex.cpL l) l = true
  | [] => by rw [Ex.cpL, sameEL]
  | x :: l => by rw [Ex.cpL, sameEL, sameE_cp x, sameEL_cp l]; rfl
end
theorem Ru.c_name' (r : Ru) : r.c[0]? = some (.d (.str r.name)) := rfl
set_option maxHeartbeats 8000000 in
theorem sameG_call (h29 : fz 18 = .cut) (h66 : fz 44 = .cut) (g : Gr) (σ : St) (hg : SmallG g) (hL : g.rules.length < 1000000000) : CallsTo (XX fz) (.func 18 []) [g.cp.a, g.a] σ (.d (.bool true)) σ [] := by
  refine CallsTo.cut0 h29 fn18 (by simp) rfl ?_
  simp only [Tryd.f18, Option.getD_some]
  have hcl : g.cp.rules.length = g.rules.length := by simp [Gr.cp]
  have c1 : (g.cp.tokens != g.tokens) = false := by simp [Gr.cp]
  have c2 : ((g.cp.rules.length : Int) != (g.rules.length : Int)) = false := by simp [hcl]
  simp only [go_sem, ↓reduceIte, Int.reduceEq, Nat.reduceBEq, Int.reduceBEq, Nat.reduceAdd, Nat.reduceEqDiff, Nat.reduceLT, Nat.reduceSub, Gr.a, c1, c2]
  refine Ev.loop_ind (fun k tm τ W => ∃ i : Nat, k = g.rules.length - i ∧ i ≤ g.rules.length ∧ W = [] ∧ τ = (σ.push (.cells g.cp.c)).push (.cells g.c) ∧
      tm.at 2 = .ptr σ.n 0 ∧ tm.at 3 = .ptr (σ.n + 1) 0 ∧ tm.at 5 = .d (.int .i64 i)) ?_ g.rules.length _ _ _ ⟨0, rfl, by omega, rfl, rfl, by simp only [go_sem, ↓reduceIte, Int.reduceEq, Nat.reduceBEq, Int.reduceBEq, Nat.reduceAdd, Nat.reduceEqDiff, Nat.reduceLT, Nat.reduceSub], by simp only [go_sem, ↓reduceIte, Int.reduceEq, Nat.reduceBEq, Int.reduceBEq, Nat.reduceAdd, Nat.reduceEqDiff, Nat.reduceLT, Nat.reduceSub], by simp only [go_sem, ↓reduceIte, Int.reduceEq, Nat.reduceBEq, Int.reduceBEq, Nat.reduceAdd, Nat.reduceEqDiff, Nat.reduceLT, Nat.reduceSub]; rfl⟩
  rintro k tm τ W ⟨i, rfl, hi, rfl, rfl, t2, t3, t5⟩ ih
  by_cases hl : i < g.rules.length
  · have hget : g.rules[i]? = some g.rules[i] := by simp [hl]
    have hget2 : g.cp.rules[i]? = some (Ru.cp g.rules[i]) := by simp [Gr.cp, hl]
    have hmem : g.rules[i] ∈ g.rules := List.getElem_mem hl
    have hl2 : i < g.cp.rules.length := by omega
    have hnm : ((Ru.cp g.rules[i]).name.toList == g.rules[i].name.toList) = true := by simp [Ru.cp]
    have hdec : decide ((i : Int) < (g.cp.rules.length : Int)) = true := by simpa using hl2
    have hb : (Ru.cp g.rules[i]).body = g.rules[i].body.cp := rfl
    have hn : (Ru.cp g.rules[i]).name = g.rules[i].name := rfl
    have hnq : ∀ (ρ : St) (s : ByteArray), binA (XX fz) ρ .neq 9 (.d (.str s)) (.d (.str s)) = some (.d (.bool false)) := fun ρ s => by simp [binA]
    simp only [go_sem, ↓reduceIte, Int.reduceEq, Nat.reduceBEq, Int.reduceBEq, Nat.reduceAdd, Nat.reduceEqDiff, Nat.reduceLT, Nat.reduceSub, t2, t3, t5, hdec, Gr.index_rd hget, Gr.index_rd hget2, Ru.c_name', hn, hnq, hb]
    refine ⟨_, _, _, sameE_call h66 g.rules[i].body.cp g.rules[i].body _ (by have := hg _ hmem; unfold SmallE at this ⊢; rw [cp_sz]; exact this), ?_⟩
    rw [sameE_cp]
    simp only [go_sem, ↓reduceIte, Int.reduceEq, Nat.reduceBEq, Int.reduceBEq, Nat.reduceAdd, Nat.reduceEqDiff, Nat.reduceLT, Nat.reduceSub]
    refine ⟨rfl, ?_⟩
    simp only [go_sem, ↓reduceIte, Int.reduceEq, Nat.reduceBEq, Int.reduceBEq, Nat.reduceAdd, Nat.reduceEqDiff, Nat.reduceLT, Nat.reduceSub, t5, wrap_succ' hl hL]
    exact ih _ _ _ _ (by omega) ⟨i + 1, rfl, hl, rfl, rfl, by simp only [go_sem, ↓reduceIte, Int.reduceEq, Nat.reduceBEq, Int.reduceBEq, Nat.reduceAdd, Nat.reduceEqDiff, Nat.reduceLT, Nat.reduceSub, t2], by simp only [go_sem, ↓reduceIte, Int.reduceEq, Nat.reduceBEq, Int.reduceBEq, Nat.reduceAdd, Nat.reduceEqDiff, Nat.reduceLT, Nat.reduceSub, t3], by simp only [go_sem, ↓reduceIte, Int.reduceEq, Nat.reduceBEq, Int.reduceBEq, Nat.reduceAdd, Nat.reduceEqDiff, Nat.reduceLT, Nat.reduceSub]⟩
  · have hdec : decide ((i : Int) < (g.cp.rules.length : Int)) = false := by simp [hcl]; omega
    simp only [go_sem, ↓reduceIte, Int.reduceEq, Nat.reduceBEq, Int.reduceBEq, Nat.reduceAdd, Nat.reduceEqDiff, Nat.reduceLT, Nat.reduceSub, t2, t3, t5, hdec]
end Go.Am

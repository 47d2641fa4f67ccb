/- Part Y4 of a proof that runs a program's calls on a small machine whose values bear no addresses: no conditions. -/
import Derived.Test.YtbppacknigeiaaaDoorAmY3
set_option autoImplicit false
set_option linter.unusedSimpArgs false
set_option linter.unusedVariables false
set_option linter.unusedSectionVars false
namespace Go.Am
open Go Go.Proofs
variable {fz : Nat → Md}
def rPass (tok : Bool) : List Ex → Nat → List Bool → List Bool
  | [], _, out => out
  | x :: l, i, out => rPass tok l (i + 1) (out.set i (canE tok (qOf out) x))
def rF (tok : Bool) (bs : List Ex) : Nat → List Bool → List Bool
  | 0, out => out
  | n + 1, out => rF tok bs n (rPass tok bs 0 out)
def rndP (tok : Bool) (bs : List Ex) : List Bool := rF tok bs bs.length (List.replicate bs.length false)
theorem rPass_len (tok : Bool) : ∀ (l : List Ex) (i : Nat) (out : List Bool), (rPass tok l i out).length = out.length
  | [], _, _ => rfl
  | x :: l, i, out => by rw [rPass, rPass_len tok l]; simp
theorem bA_setB {l : List Bool} {i : Nat} {b : Bool} : (bA l).set i (.d (.bool b)) = bA (l.set i b) := by simp [bA, List.map_set]
theorem storeC_b {l : List Bool} {i : Nat} {b : Bool} (hi : i < l.length) : storeC 1 i [A.d (.bool b)] (bA l) = some (bA (l.set i b)) := by
  unfold storeC
  rw [if_pos ⟨rfl, by rw [bA_len]; simp; omega, rfl⟩, putAt_cons, putAt_nil, bA_setB]
set_option maxHeartbeats 4000000 in
theorem nullR_call (h88 : fz 74 = .ice) (h109 : fz 96 = .cut) (g : Gr) (σ : St) (hg : SmallG g) (hL : g.rules.length < 1000000) (hc : ∀ r ∈ g.rules, callsIn g.rules.length r.body = true) :
    CallsTo (XX fz) (.func 74 []) [g.a] σ (.d (.slc false (boolsD (rndP false g.bodies)))) σ [] := by
  refine CallsTo.ice0 h88 fn74 (by simp) ?_
  simp only [Tryd.f74, Option.getD_some]
  have hbl : g.bodies.length = g.rules.length := by rw [Gr.bodies, List.length_map]
  have hmk := mksE_nat (σ := σ.push (.cells g.c)) (kd := .bool) (s := 1) (b := 1) (n := g.rules.length) (z := [.d (.bool false)]) (zv := .d (.bool false)) ⟨rfl, by omega, by omega, by omega⟩
  simp only [go_sem, ↓reduceIte, Int.reduceEq, Nat.reduceBEq, Int.reduceBEq, Nat.reduceAdd, Nat.reduceEqDiff, Nat.reduceLT, Nat.reduceSub, Gr.a, hmk]
  rw [rep_bools]
  refine Ev.loop_ind (fun m tm τ W => ∃ (j : Nat) (out : List Bool), m = g.rules.length - j ∧ j ≤ g.rules.length ∧ W = [] ∧ τ.n = σ.n + 2 ∧ τ.get σ.n = .cells g.c ∧ out.length = g.rules.length ∧ τ.get (σ.n + 1) = .cells (bA out) ∧ rF false g.bodies (g.rules.length - j) out = rndP false g.bodies ∧
      tm.at 1 = .ptr σ.n 0 ∧ tm.at 3 = .row (σ.n + 1) 0 g.rules.length 1 ∧ tm.at 4 = .d (.int .i64 j)) ?_ g.rules.length _ _ _ ⟨0, List.replicate g.rules.length false, rfl, by omega, rfl, rfl, ?_, by simp, ?_, ?_, ?_, ?_, ?_⟩
  · rintro m tm τ W ⟨j, out, rfl, hj, rfl, hn, g0, hol, g1, he, t1, t3, t4⟩ ih
    by_cases hlt : j < g.rules.length
    · simp only [go_sem, ↓reduceIte, Int.reduceEq, Nat.reduceBEq, Int.reduceBEq, Nat.reduceAdd, Nat.reduceEqDiff, Nat.reduceLT, Nat.reduceSub, t1, t3, t4, dec_lt' hlt, g0, g1]
      obtain ⟨c, hc'⟩ : ∃ c, g.rules.length - j = c + 1 := ⟨g.rules.length - j - 1, by omega⟩
      rw [hc', rF] at he
      refine Ev.loop_ind (fun m2 tm τ W => ∃ (i : Nat) (o : List Bool), m2 = g.rules.length - i ∧ i ≤ g.rules.length ∧ W = [] ∧ τ.n = σ.n + 2 ∧ τ.get σ.n = .cells g.c ∧ o.length = g.rules.length ∧ τ.get (σ.n + 1) = .cells (bA o) ∧ rPass false (g.bodies.drop i) i o = rPass false g.bodies 0 out ∧
          tm.at 1 = .ptr σ.n 0 ∧ tm.at 3 = .row (σ.n + 1) 0 g.rules.length 1 ∧ tm.at 4 = .d (.int .i64 j) ∧ tm.at 5 = .d (.int .i64 i)) ?_ g.rules.length _ _ _ ⟨0, out, rfl, by omega, rfl, hn, g0, hol, g1, rfl, by simp only [go_sem, ↓reduceIte, Int.reduceEq, Nat.reduceBEq, Int.reduceBEq, Nat.reduceAdd, Nat.reduceEqDiff, Nat.reduceLT, Nat.reduceSub, t1], by simp only [go_sem, ↓reduceIte, Int.reduceEq, Nat.reduceBEq, Int.reduceBEq, Nat.reduceAdd, Nat.reduceEqDiff, Nat.reduceLT, Nat.reduceSub, t3], by simp only [go_sem, ↓reduceIte, Int.reduceEq, Nat.reduceBEq, Int.reduceBEq, Nat.reduceAdd, Nat.reduceEqDiff, Nat.reduceLT, Nat.reduceSub, t4], by simp only [go_sem, ↓reduceIte, Int.reduceEq, Nat.reduceBEq, Int.reduceBEq, Nat.reduceAdd, Nat.reduceEqDiff, Nat.reduceLT, Nat.reduceSub]; rfl⟩
      rintro m2 tm2 τ2 W2 ⟨i, o, rfl, hi, rfl, hn2, q0, hol2, q1, he2, u1, u3, u4, u5⟩ ih2
      by_cases hil : i < g.rules.length
      · have hget : g.rules[i]? = some g.rules[i] := by simp [hil]
        have hmem : g.rules[i] ∈ g.rules := List.getElem_mem hil
        have hm1 : g.bodies.drop i = g.rules[i].body :: g.bodies.drop (i + 1) := by
          rw [List.drop_eq_getElem_cons (by rw [hbl]; exact hil)]; simp [Gr.bodies]
        rw [hm1, rPass] at he2
        simp only [go_sem, ↓reduceIte, Int.reduceEq, Nat.reduceBEq, Int.reduceBEq, Nat.reduceAdd, Nat.reduceEqDiff, Nat.reduceLT, Nat.reduceSub, u1, u3, u5, dec_lt' hil, q0, q1, Gr.index_rd hget]
        have hBl : BlAt τ2 (.row (σ.n + 1) 0 g.rules.length 1) o := .inr ⟨σ.n + 1, by rw [hol2], by omega, q1⟩
        refine ⟨_, _, _, nothing_c h109 o g.rules[i].body _ _ (hg _ hmem) (by rw [hol2]; exact hc _ hmem) hBl, ?_⟩
        have hidx := indexR_nat (σ := τ2) (k := σ.n + 1) (off := 0) (s := 1) (cs := bA o) (i := i) (len := g.rules.length) hil
        have e0 : 0 + i * 1 = i := by omega
        rw [e0] at hidx
        have hst := storeC_b (l := o) (i := i) (b := canE false (qOf o) g.rules[i].body) (by omega)
        have lz : low σ.n [σ.n + 1] = [] := by rw [low_cons_ge (by omega)]; rfl
        simp only [go_sem, ↓reduceIte, Int.reduceEq, Nat.reduceBEq, Int.reduceBEq, Nat.reduceAdd, Nat.reduceEqDiff, Nat.reduceLT, Nat.reduceSub, u3, u5, q1, hidx, hst, lz, wrap_succ' hil (by omega)]
        exact ih2 _ _ _ _ (by omega) ⟨i + 1, o.set i (canE false (qOf o) g.rules[i].body), rfl, hil, rfl, by simp only [St.n_set]; exact hn2, by rw [St.get_set_ne (by omega)]; exact q0, by rw [List.length_set]; exact hol2, by rw [St.get_set_eq], he2, by simp only [go_sem, ↓reduceIte, Int.reduceEq, Nat.reduceBEq, Int.reduceBEq, Nat.reduceAdd, Nat.reduceEqDiff, Nat.reduceLT, Nat.reduceSub, u1], by simp only [go_sem, ↓reduceIte, Int.reduceEq, Nat.reduceBEq, Int.reduceBEq, Nat.reduceAdd, Nat.reduceEqDiff, Nat.reduceLT, Nat.reduceSub, u3], by simp only [go_sem, ↓reduceIte, Int.reduceEq, Nat.reduceBEq, Int.reduceBEq, Nat.reduceAdd, Nat.reduceEqDiff, Nat.reduceLT, Nat.reduceSub, u4], by simp only [go_sem, ↓reduceIte, Int.reduceEq, Nat.reduceBEq, Int.reduceBEq, Nat.reduceAdd, Nat.reduceEqDiff, Nat.reduceLT, Nat.reduceSub]⟩
      · simp only [go_sem, ↓reduceIte, Int.reduceEq, Nat.reduceBEq, Int.reduceBEq, Nat.reduceAdd, Nat.reduceEqDiff, Nat.reduceLT, Nat.reduceSub, u1, u3, u4, u5, dec_ge' hil, q1, wrap_succ' hlt (by omega)]
        rw [List.drop_eq_nil_of_le (by omega), rPass] at he2
        refine ih _ _ _ _ (by omega) ⟨j + 1, o, rfl, hlt, rfl, hn2, q0, hol2, q1, ?_, by simp only [go_sem, ↓reduceIte, Int.reduceEq, Nat.reduceBEq, Int.reduceBEq, Nat.reduceAdd, Nat.reduceEqDiff, Nat.reduceLT, Nat.reduceSub, u1], by simp only [go_sem, ↓reduceIte, Int.reduceEq, Nat.reduceBEq, Int.reduceBEq, Nat.reduceAdd, Nat.reduceEqDiff, Nat.reduceLT, Nat.reduceSub, u3], by simp only [go_sem, ↓reduceIte, Int.reduceEq, Nat.reduceBEq, Int.reduceBEq, Nat.reduceAdd, Nat.reduceEqDiff, Nat.reduceLT, Nat.reduceSub]⟩
        rw [show g.rules.length - (j + 1) = c by omega, he2]; exact he
    · simp only [go_sem, ↓reduceIte, Int.reduceEq, Nat.reduceBEq, Int.reduceBEq, Nat.reduceAdd, Nat.reduceEqDiff, Nat.reduceLT, Nat.reduceSub, t1, t3, t4, dec_ge' hlt, g0]
      rw [show g.rules.length - j = 0 by omega, rF] at he
      subst he
      have hfl : (boolsD (rndP false g.bodies)).length = g.rules.length := by rw [boolsD_len2]; exact hol
      have hf := freeze_row (σ := τ) (lo := σ.n) (n := fzDepth) (k := σ.n + 1) (len := g.rules.length) (es := 1) (cs := bA (rndP false g.bodies)) (ds := (boolsD (rndP false g.bodies)).flatMap id) (by unfold fzDepth; omega) g1 (by omega) (by rw [bA_len, hol]; omega)
        (by rw [List.take_of_length_le (by rw [bA_len, hol]; omega), bA_flat]; exact freezeL_map (by rw [flat_len (boolsD_1 _), hfl]; unfold fzDepth; omega))
      rw [show chunks 1 g.rules.length ((boolsD (rndP false g.bodies)).flatMap id) = boolsD (rndP false g.bodies) by rw [← hfl]; exact chunks_flat (boolsD_1 _)] at hf
      simp only [go_sem, ↓reduceIte, Int.reduceEq, Nat.reduceBEq, Int.reduceBEq, Nat.reduceAdd, Nat.reduceEqDiff, Nat.reduceLT, Nat.reduceSub, hf]
  · rw [St.get_push_ne (by simp [St.n_push]), St.get_push_eq]
  · exact St.get_push_eq' (by simp [St.n_push])
  · rw [Nat.sub_zero, rndP, hbl]
  all_goals first | rfl | (simp only [go_sem, ↓reduceIte, Int.reduceEq, Nat.reduceBEq, Int.reduceBEq, Nat.reduceAdd, Nat.reduceEqDiff, Nat.reduceLT, Nat.reduceSub]; done) | (simp only [go_sem, ↓reduceIte, Int.reduceEq, Nat.reduceBEq, Int.reduceBEq, Nat.reduceAdd, Nat.reduceEqDiff, Nat.reduceLT, Nat.reduceSub]; rfl)
end Go.Am
namespace Go.Am
open Go Go.Proofs
variable {fz : Nat → Md}
theorem okE.kind {t : Int} {r : Nat} {x : Ex} (h : okE t r x) : 0 ≤ x.kind ∧ x.kind ≤ 6 := by
  have hc := h.c
  by_cases e : 0 ≤ x.kind ∧ x.kind ≤ 6
  · exact e
  · have : rightN t r x.kind = none := by
      unfold rightN
      rw [if_neg (by omega), if_neg (by omega), if_neg (by omega), if_neg (by omega), if_neg (by omega), if_neg (by omega)]
    rw [this] at hc; cases hc
set_option maxHeartbeats 4000000 in
theorem empty_c (h92 : fz 75 = .cut) (h109 : fz 96 = .cut) (nl : List Bool) {t : Int} (x : Ex) (σ : St) (a : A) (hx : SmallE x) (ho : okE t nl.length x) (ha : BlAt σ a nl) :
    CallsTo (XX fz) (.func 75 []) [x.a, a] σ (.d (.bool (vainE (qOf nl) x))) σ [] := by
  refine CallsTo.cut0 h92 fn75 (by simp) rfl ?_
  rw [vainE_eq]
  simp only [Tryd.f75, Option.getD_some]
  have hlen := hx.len
  have hkd := ho.kind
  have loop : ∀ (tm : Tm), tm.at 1 = a → tm.at 2 = .ptr σ.n 0 →
      Ev (XX fz) 75 31 none σ.n [.code (Code.r (Code.r (Tryd.f75.body.getD .skip)))] tm (σ.push (.cells x.c)) [] (RetQ (XX fz) [.tmp 4] fun a _ W1 => a = .d (.bool (x.l.any (vainE (qOf nl)))) ∧ W1 = []) := by
    intro tm t1 t2
    simp only [Code.r, Tryd.f75, Option.getD_some]
    simp only [go_sem, ↓reduceIte, Int.reduceEq, Nat.reduceBEq, Int.reduceBEq, Nat.reduceAdd, Nat.reduceEqDiff, Nat.reduceLT, Nat.reduceSub]
    refine Ev.loop_ind (fun k tm τ W => ∃ i : Nat, k = x.l.length - i ∧ i ≤ x.l.length ∧ W = [] ∧ τ = σ.push (.cells x.c) ∧ ((x.l.drop i).any (vainE (qOf nl))) = (x.l.any (vainE (qOf nl))) ∧
        tm.at 1 = a ∧ tm.at 2 = .ptr σ.n 0 ∧ tm.at 5 = .d (.int .i64 i)) ?_ x.l.length _ _ _ ⟨0, rfl, by omega, rfl, rfl, rfl, by simp only [go_sem, ↓reduceIte, Int.reduceEq, Nat.reduceBEq, Int.reduceBEq, Nat.reduceAdd, Nat.reduceEqDiff, Nat.reduceLT, Nat.reduceSub, t1], by simp only [go_sem, ↓reduceIte, Int.reduceEq, Nat.reduceBEq, Int.reduceBEq, Nat.reduceAdd, Nat.reduceEqDiff, Nat.reduceLT, Nat.reduceSub, t2], by simp only [go_sem, ↓reduceIte, Int.reduceEq, Nat.reduceBEq, Int.reduceBEq, Nat.reduceAdd, Nat.reduceEqDiff, Nat.reduceLT, Nat.reduceSub]; rfl⟩
    rintro k tm τ W ⟨i, rfl, hi, rfl, rfl, he, t1, t2, t5⟩ ih
    by_cases hl : i < x.l.length
    · have hget : x.l[i]? = some x.l[i] := by simp [hl]
      have hmem : x.l[i] ∈ x.l := List.getElem_mem hl
      rw [List.drop_eq_getElem_cons hl, List.any_cons] at he
      simp only [go_sem, ↓reduceIte, Int.reduceEq, Nat.reduceBEq, Int.reduceBEq, Nat.reduceAdd, Nat.reduceEqDiff, Nat.reduceLT, Nat.reduceSub, t1, t2, t5, dec_lt' hl, Ex.index_ld hget]
      refine ⟨_, _, _, empty_c h92 h109 nl x.l[i] _ a (hx.sub hmem) (ho.sub hmem) ha.push, ?_⟩
      cases hc : vainE (qOf nl) x.l[i] with
      | true =>
        rw [hc] at he
        simp only [go_sem, ↓reduceIte, Int.reduceEq, Nat.reduceBEq, Int.reduceBEq, Nat.reduceAdd, Nat.reduceEqDiff, Nat.reduceLT, Nat.reduceSub, ← he, Bool.true_or]
      | false =>
        rw [hc] at he
        simp only [go_sem, ↓reduceIte, Int.reduceEq, Nat.reduceBEq, Int.reduceBEq, Nat.reduceAdd, Nat.reduceEqDiff, Nat.reduceLT, Nat.reduceSub, t5, wrap_succ' hl hlen]
        exact ih _ _ _ _ (by omega) ⟨i + 1, rfl, hl, rfl, rfl, by simpa using he, by simp only [go_sem, ↓reduceIte, Int.reduceEq, Nat.reduceBEq, Int.reduceBEq, Nat.reduceAdd, Nat.reduceEqDiff, Nat.reduceLT, Nat.reduceSub, t1], by simp only [go_sem, ↓reduceIte, Int.reduceEq, Nat.reduceBEq, Int.reduceBEq, Nat.reduceAdd, Nat.reduceEqDiff, Nat.reduceLT, Nat.reduceSub, t2], by simp only [go_sem, ↓reduceIte, Int.reduceEq, Nat.reduceBEq, Int.reduceBEq, Nat.reduceAdd, Nat.reduceEqDiff, Nat.reduceLT, Nat.reduceSub]⟩
    · simp only [go_sem, ↓reduceIte, Int.reduceEq, Nat.reduceBEq, Int.reduceBEq, Nat.reduceAdd, Nat.reduceEqDiff, Nat.reduceLT, Nat.reduceSub, t1, t2, t5, dec_ge' hl]
      rw [List.drop_eq_nil_of_le (by omega), List.any_nil] at he
      rw [← he]
  have hbody : Tryd.f75.body.getD .skip = .seq (Code.l (Tryd.f75.body.getD .skip)) (.seq (Code.l (Code.r (Tryd.f75.body.getD .skip))) (Code.r (Code.r (Tryd.f75.body.getD .skip)))) := rfl
  show Ev (XX fz) 75 31 none σ.n [.code (Tryd.f75.body.getD .skip)] _ _ _ _
  rw [hbody]
  generalize Code.r (Code.r (Tryd.f75.body.getD .skip)) = B at loop
  simp only [Code.l, Code.r, Tryd.f75, Option.getD_some]
  cases k5 : decide (x.kind ≥ 5) with
  | false =>
    have : ¬ (x.kind = 5 ∨ x.kind = 6) := by simp at k5; omega
    rw [decide_eq_false this, Bool.false_and, Bool.false_or]
    simp only [go_sem, ↓reduceIte, Int.reduceEq, Nat.reduceBEq, Int.reduceBEq, Nat.reduceAdd, Nat.reduceEqDiff, Nat.reduceLT, Nat.reduceSub, Ex.a, k5]
    exact loop _ (by simp only [go_sem, ↓reduceIte, Int.reduceEq, Nat.reduceBEq, Int.reduceBEq, Nat.reduceAdd, Nat.reduceEqDiff, Nat.reduceLT, Nat.reduceSub]) (by simp only [go_sem, ↓reduceIte, Int.reduceEq, Nat.reduceBEq, Int.reduceBEq, Nat.reduceAdd, Nat.reduceEqDiff, Nat.reduceLT, Nat.reduceSub])
  | true =>
    have hk : x.kind = 5 ∨ x.kind = 6 := by simp at k5; omega
    obtain ⟨y, hy⟩ := ho.star hk
    have hym : y ∈ x.l := by rw [hy]; simp
    have hidx : ∀ σ : St, indexK σ 3 x.ld (.d (.int .i64 0)) = .val (.d (.vptr y.cs 0)) σ [] [] := fun σ => Ex.index_ld (i := 0) (by rw [hy]; rfl)
    rw [decide_eq_true hk, Bool.true_and]
    have hh : headB (qOf nl) x.l = canE false (qOf nl) y := by rw [hy]; rfl
    rw [hh]
    simp only [go_sem, ↓reduceIte, Int.reduceEq, Nat.reduceBEq, Int.reduceBEq, Nat.reduceAdd, Nat.reduceEqDiff, Nat.reduceLT, Nat.reduceSub, Ex.a, k5, hidx]
    refine ⟨_, _, _, nothing_c h109 nl y _ a (hx.sub hym) (ho.sub hym).calls ha.push, ?_⟩
    cases hc : canE false (qOf nl) y with
    | true => simp only [go_sem, ↓reduceIte, Int.reduceEq, Nat.reduceBEq, Int.reduceBEq, Nat.reduceAdd, Nat.reduceEqDiff, Nat.reduceLT, Nat.reduceSub, Bool.true_or]
    | false =>
      rw [Bool.false_or]
      simp only [go_sem, ↓reduceIte, Int.reduceEq, Nat.reduceBEq, Int.reduceBEq, Nat.reduceAdd, Nat.reduceEqDiff, Nat.reduceLT, Nat.reduceSub]
      exact loop _ (by simp only [go_sem, ↓reduceIte, Int.reduceEq, Nat.reduceBEq, Int.reduceBEq, Nat.reduceAdd, Nat.reduceEqDiff, Nat.reduceLT, Nat.reduceSub]) (by simp only [go_sem, ↓reduceIte, Int.reduceEq, Nat.reduceBEq, Int.reduceBEq, Nat.reduceAdd, Nat.reduceEqDiff, Nat.reduceLT, Nat.reduceSub])
termination_by x
decreasing_by exact Ex.sub_lt hmem
section
variable (q : Int → Bool)
mutual
def bgnE : Ex → Nat
  | .mk k n _ l => if k = 2 then 2 ^ n.toNat else bgnL k l 0
def bgnL (k : Int) : List Ex → Nat → Nat
  | [], out => out
  | x :: l, out => if k = 3 ∧ canE false q x = false then out ||| bgnE x else bgnL k l (out ||| bgnE x)
end
theorem bgnE_eq (x : Ex) : bgnE q x = if x.kind = 2 then 2 ^ x.num.toNat else bgnL q x.kind x.l 0 := by cases x; rw [bgnE]; rfl
end
theorem bgnL_bit {q : Int → Bool} {k : Int} {j : Nat} : ∀ (l : List Ex) (out : Nat), (bgnL q k l out).testBit j = true ↔ out.testBit j = true ∨ ∃ pre y post, l = pre ++ y :: post ∧ (k = 3 → ∀ z ∈ pre, canE false q z = true) ∧ (bgnE q y).testBit j = true
  | [], out => by rw [bgnL]; simp
  | x :: l, out => by
    rw [bgnL]
    split
    · rename_i hk
      rw [bit_or]
      constructor
      · rintro (h | h)
        · exact .inl h
        · exact .inr ⟨[], x, l, rfl, by simp, h⟩
      · rintro (h | ⟨pre, y, post, e, hp, h⟩)
        · exact .inl h
        · cases pre with
          | nil => simp only [List.nil_append, List.cons.injEq] at e; obtain ⟨rfl, rfl⟩ := e; exact .inr h
          | cons z pre =>
            simp only [List.cons_append, List.cons.injEq] at e
            obtain ⟨rfl, rfl⟩ := e
            have := hp hk.1 x (by simp)
            rw [hk.2] at this; cases this
    · rename_i hk
      rw [bgnL_bit l, bit_or]
      constructor
      · rintro ((h | h) | ⟨pre, y, post, e, hp, h⟩)
        · exact .inl h
        · exact .inr ⟨[], x, l, rfl, by simp, h⟩
        · refine .inr ⟨x :: pre, y, post, by rw [e]; rfl, fun k3 z hz => ?_, h⟩
          rcases List.mem_cons.1 hz with rfl | hz
          · cases hc : canE false q z with
            | true => rfl
            | false => exact absurd ⟨k3, hc⟩ hk
          · exact hp k3 z hz
      · rintro (h | ⟨pre, y, post, e, hp, h⟩)
        · exact .inl (.inl h)
        · cases pre with
          | nil => simp only [List.nil_append, List.cons.injEq] at e; obtain ⟨rfl, rfl⟩ := e; exact .inl (.inr h)
          | cons z pre =>
            simp only [List.cons_append, List.cons.injEq] at e
            obtain ⟨rfl, rfl⟩ := e
            exact .inr ⟨pre, y, post, rfl, fun k3 z hz => hp k3 z (by simp [hz]), h⟩
theorem bgnE_beg {q : Int → Bool} {t : Int} {r : Nat} {j : Nat} : ∀ x : Ex, okE t r x → ((bgnE q x).testBit j = true ↔ Beg q x j) := fun x ho => by
  rw [bgnE_eq, beg_iff]
  split
  · rename_i k2
    have hl : x.l = [] := by
      have hc := ho.c
      rw [show rightN t r x.kind = some ((r : Int), 0, 0) by simp [rightN, k2]] at hc
      simp [rightC] at hc; exact hc.2
    rw [bit_pow]
    constructor
    · intro h; exact .inl ⟨k2, h⟩
    · rintro (h | ⟨pre, y, post, e, -⟩)
      · exact h.2
      · rw [hl] at e; simp at e
  · rename_i k2
    rw [bgnL_bit, Nat.zero_testBit]
    constructor
    · rintro (h | ⟨pre, y, post, e, hp, h⟩)
      · cases h
      · exact .inr ⟨pre, y, post, e, hp, (bgnE_beg y (ho.sub (by rw [e]; simp))).1 h⟩
    · rintro (h | ⟨pre, y, post, e, hp, h⟩)
      · exact absurd h.1 k2
      · exact .inr ⟨pre, y, post, e, hp, (bgnE_beg y (ho.sub (by rw [e]; simp))).2 h⟩
termination_by x => x
decreasing_by all_goals (apply Ex.sub_lt; rw [e]; simp)
theorem bgnE_lt {q : Int → Bool} {t : Int} {r : Nat} (x : Ex) (ho : okE t r x) : bgnE q x < 2 ^ r := by
  apply Nat.lt_pow_two_of_testBit
  intro i hi
  cases e : (bgnE q x).testBit i with
  | false => rfl
  | true => have := beg_lt ((bgnE_beg x ho).1 e) ho; omega
theorem or_i64 {P Q : Nat} (hP : P < 2 ^ 32) (hQ : Q < 2 ^ 32) : IntKind.i64.wrap ((BitVec.ofInt IntKind.i64.bits (P : Int) ||| BitVec.ofInt IntKind.i64.bits (Q : Int)).toNat : Int) = ((P ||| Q : Nat) : Int) := by
  have h1 : (BitVec.ofInt IntKind.i64.bits (P : Int) ||| BitVec.ofInt IntKind.i64.bits (Q : Int)).toNat = P ||| Q := by
    rw [BitVec.toNat_or, BitVec.toNat_ofInt, BitVec.toNat_ofInt]
    have a1 : ((P : Int) % ((2 ^ IntKind.i64.bits : Nat) : Int)).toNat = P := by
      rw [show (2 ^ IntKind.i64.bits : Nat) = 18446744073709551616 from rfl]; omega
    have a2 : ((Q : Int) % ((2 ^ IntKind.i64.bits : Nat) : Int)).toNat = Q := by
      rw [show (2 ^ IntKind.i64.bits : Nat) = 18446744073709551616 from rfl]; omega
    rw [a1, a2]
  have h2 : P ||| Q < 2 ^ 32 := Nat.or_lt_two_pow hP hQ
  rw [h1, wrap_small (by omega) (by omega)]
theorem bin_or64 {X : X} {σ : St} {t : Nat} {P Q : Nat} (hP : P < 2 ^ 32) (hQ : Q < 2 ^ 32) : binA X σ .or t (.d (.int .i64 (P : Int))) (.d (.int .i64 (Q : Int))) = some (.d (.int .i64 ((P ||| Q : Nat) : Int))) := by
  have := or_i64 hP hQ
  simp only [binA, intOp, if_true, Option.map_some, this]
set_option maxHeartbeats 4000000 in
theorem bgn_c (h111 : fz 97 = .cut) (h109 : fz 96 = .cut) (nl : List Bool) {t : Int} (x : Ex) (σ : St) (a : A) (hx : SmallE x) (ho : okE t nl.length x) (h32 : nl.length ≤ 32) (ha : BlAt σ a nl) :
    CallsTo (XX fz) (.func 97 []) [x.a, a] σ (.d (.int .i64 (bgnE (qOf nl) x : Int))) σ [] := by
  refine CallsTo.cut0 h111 fn97 (by simp) rfl ?_
  rw [bgnE_eq]
  simp only [Tryd.f97, Option.getD_some]
  have hlen := hx.len
  by_cases k2 : x.kind = 2
  · have e2 : (x.kind == 2) = true := by simpa using k2
    rw [if_pos k2]
    have hr := ho.call k2
    obtain ⟨n, hn⟩ := Int.eq_ofNat_of_zero_le hr.1
    have hlt : n < 32 := by omega
    have hp : (2 : Nat) ^ n < 2 ^ 32 := Nat.pow_lt_pow_right (by omega) hlt
    have key : ∀ p : Nat, p < 2 ^ 32 → IntKind.i64.wrap (p : Int) = (p : Int) := fun p h => wrap_small (by omega) (by omega)
    have hsh : IntKind.i64.wrap (1 * 2 ^ (min n 64)) = ((2 ^ n : Nat) : Int) := by
      rw [Nat.min_eq_left (by omega), Int.one_mul]
      have : (2 : Int) ^ n = ((2 ^ n : Nat) : Int) := by simp
      rw [this]; exact key _ hp
    simp only [go_sem, ↓reduceIte, Int.reduceEq, Nat.reduceBEq, Int.reduceBEq, Nat.reduceAdd, Nat.reduceEqDiff, Nat.reduceLT, Nat.reduceSub, Ex.a, e2, hn, hsh, Int.toNat_natCast]
  have e2 : (x.kind == 2) = false := by simpa using k2
  rw [if_neg k2]
  simp only [go_sem, ↓reduceIte, Int.reduceEq, Nat.reduceBEq, Int.reduceBEq, Nat.reduceAdd, Nat.reduceEqDiff, Nat.reduceLT, Nat.reduceSub, Ex.a, e2]
  have hbnd : ∀ y ∈ x.l, bgnE (qOf nl) y < 2 ^ 32 := fun y hy => Nat.lt_of_lt_of_le (bgnE_lt y (ho.sub hy)) (Nat.pow_le_pow_right (by omega) h32)
  refine Ev.loop_ind (fun k tm τ W => ∃ (i out : Nat), k = x.l.length - i ∧ i ≤ x.l.length ∧ W = [] ∧ τ = σ.push (.cells x.c) ∧ out < 2 ^ 32 ∧ bgnL (qOf nl) x.kind (x.l.drop i) out = bgnL (qOf nl) x.kind x.l 0 ∧
      tm.at 1 = a ∧ tm.at 2 = .ptr σ.n 0 ∧ tm.at 5 = .d (.int .i64 (out : Int)) ∧ tm.at 6 = .d (.int .i64 i)) ?_ x.l.length _ _ _ ⟨0, 0, rfl, by omega, rfl, rfl, by omega, rfl, ?_, ?_, ?_, ?_⟩
  · rintro k tm τ W ⟨i, out, rfl, hi, rfl, rfl, hob, he, t1, t2, t5, t6⟩ ih
    by_cases hl : i < x.l.length
    · have hget : x.l[i]? = some x.l[i] := by simp [hl]
      have hmem : x.l[i] ∈ x.l := List.getElem_mem hl
      rw [List.drop_eq_getElem_cons hl, bgnL] at he
      have hor := bin_or64 (X := XX fz) (σ := σ.push (.cells x.c)) (t := 3) hob (hbnd _ hmem)
      have hob2 : out ||| bgnE (qOf nl) x.l[i] < 2 ^ 32 := Nat.or_lt_two_pow hob (hbnd _ hmem)
      simp only [go_sem, ↓reduceIte, Int.reduceEq, Nat.reduceBEq, Int.reduceBEq, Nat.reduceAdd, Nat.reduceEqDiff, Nat.reduceLT, Nat.reduceSub, t1, t2, t5, t6, dec_lt' hl, Ex.index_ld hget]
      refine ⟨_, _, _, bgn_c h111 h109 nl x.l[i] _ a (hx.sub hmem) (ho.sub hmem) h32 ha.push, ?_⟩
      by_cases k3 : x.kind = 3
      · have e3 : (x.kind == 3) = true := by simpa using k3
        simp only [go_sem, ↓reduceIte, Int.reduceEq, Nat.reduceBEq, Int.reduceBEq, Nat.reduceAdd, Nat.reduceEqDiff, Nat.reduceLT, Nat.reduceSub, t1, t2, t6, hor, e3, Ex.index_ld hget]
        refine ⟨_, _, _, nothing_c h109 nl x.l[i] _ a (hx.sub hmem) (ho.sub hmem).calls ha.push, ?_⟩
        cases hc : canE false (qOf nl) x.l[i] with
        | false =>
          rw [if_pos ⟨k3, hc⟩] at he
          simp only [go_sem, ↓reduceIte, Int.reduceEq, Nat.reduceBEq, Int.reduceBEq, Nat.reduceAdd, Nat.reduceEqDiff, Nat.reduceLT, Nat.reduceSub, ← he]
        | true =>
          rw [if_neg (by rw [hc]; simp)] at he
          simp only [go_sem, ↓reduceIte, Int.reduceEq, Nat.reduceBEq, Int.reduceBEq, Nat.reduceAdd, Nat.reduceEqDiff, Nat.reduceLT, Nat.reduceSub, t6, wrap_succ' hl hlen]
          exact ih _ _ _ _ (by omega) ⟨i + 1, _, rfl, hl, rfl, rfl, hob2, he, by simp only [go_sem, ↓reduceIte, Int.reduceEq, Nat.reduceBEq, Int.reduceBEq, Nat.reduceAdd, Nat.reduceEqDiff, Nat.reduceLT, Nat.reduceSub, t1], by simp only [go_sem, ↓reduceIte, Int.reduceEq, Nat.reduceBEq, Int.reduceBEq, Nat.reduceAdd, Nat.reduceEqDiff, Nat.reduceLT, Nat.reduceSub, t2], by simp only [go_sem, ↓reduceIte, Int.reduceEq, Nat.reduceBEq, Int.reduceBEq, Nat.reduceAdd, Nat.reduceEqDiff, Nat.reduceLT, Nat.reduceSub], by simp only [go_sem, ↓reduceIte, Int.reduceEq, Nat.reduceBEq, Int.reduceBEq, Nat.reduceAdd, Nat.reduceEqDiff, Nat.reduceLT, Nat.reduceSub]⟩
      · have e3 : (x.kind == 3) = false := by simpa using k3
        rw [if_neg (fun h => k3 h.1)] at he
        simp only [go_sem, ↓reduceIte, Int.reduceEq, Nat.reduceBEq, Int.reduceBEq, Nat.reduceAdd, Nat.reduceEqDiff, Nat.reduceLT, Nat.reduceSub, t2, t6, hor, e3, wrap_succ' hl hlen]
        exact ih _ _ _ _ (by omega) ⟨i + 1, _, rfl, hl, rfl, rfl, hob2, he, by simp only [go_sem, ↓reduceIte, Int.reduceEq, Nat.reduceBEq, Int.reduceBEq, Nat.reduceAdd, Nat.reduceEqDiff, Nat.reduceLT, Nat.reduceSub, t1], by simp only [go_sem, ↓reduceIte, Int.reduceEq, Nat.reduceBEq, Int.reduceBEq, Nat.reduceAdd, Nat.reduceEqDiff, Nat.reduceLT, Nat.reduceSub, t2], by simp only [go_sem, ↓reduceIte, Int.reduceEq, Nat.reduceBEq, Int.reduceBEq, Nat.reduceAdd, Nat.reduceEqDiff, Nat.reduceLT, Nat.reduceSub], by simp only [go_sem, ↓reduceIte, Int.reduceEq, Nat.reduceBEq, Int.reduceBEq, Nat.reduceAdd, Nat.reduceEqDiff, Nat.reduceLT, Nat.reduceSub]⟩
    · simp only [go_sem, ↓reduceIte, Int.reduceEq, Nat.reduceBEq, Int.reduceBEq, Nat.reduceAdd, Nat.reduceEqDiff, Nat.reduceLT, Nat.reduceSub, t1, t2, t5, t6, dec_ge' hl]
      rw [List.drop_eq_nil_of_le (by omega), bgnL] at he
      rw [← he]
  all_goals first | rfl | (simp only [go_sem, ↓reduceIte, Int.reduceEq, Nat.reduceBEq, Int.reduceBEq, Nat.reduceAdd, Nat.reduceEqDiff, Nat.reduceLT, Nat.reduceSub]; done) | (simp only [go_sem, ↓reduceIte, Int.reduceEq, Nat.reduceBEq, Int.reduceBEq, Nat.reduceAdd, Nat.reduceEqDiff, Nat.reduceLT, Nat.reduceSub]; rfl)
termination_by x
decreasing_by all_goals exact Ex.sub_lt hmem
end Go.Am

/- Part Q4 of a proof that runs a program's calls on a small machine whose values bear no addresses: no conditions. -/
import Derived.Test.YtlcadkgpojjokaaAmQ3
set_option autoImplicit false
set_option linter.unusedSimpArgs false
set_option linter.unusedVariables false
set_option linter.unusedSectionVars false
namespace Go.Am
open Go Go.Proofs
variable {fz : Nat → Md}
structure SwEnv (bs : List Ex) (l : List Int) (T : Nat → Rl) (kc lo : Nat) (σ : St) (kp i : Nat) (τ : St) (W : List Nat) (tm : Tm) : Prop where
  fr : Fr bs l T kc lo σ τ W
  n : σ.n + 4 ≤ τ.n
  g6 : τ.get σ.n = .cells (plC 0)
  g9 : τ.get (σ.n + 2) = .cells (plC (2 ^ i))
  t0 : tm.at 0 = .ptr kc 0
  t1 : tm.at 1 = .ptr kp 0
  t2 : tm.at 2 = .d (.int .i64 (i : Int))
  t6 : tm.at 6 = .ptr σ.n 0
  t9 : tm.at 9 = .ptr (σ.n + 2) 0
  t10 : tm.at 10 = .ptr (σ.n + 3) 0
def SwOk (fz : Nat → Md) (bs : List Ex) (l : List Int) (T : Nat → Rl) (kc lo : Nat) (σ : St) (kp i : Nat) (x : Ex) : Prop :=
  ∀ (B : Code) (Q : Out → Prop), (∀ tm τ W P, SwEnv bs l T kc lo σ kp i τ W tm → IsEnd bs l x i P → τ.get (σ.n + 3) = .cells (plC P) → Ev (XX fz) 51 154 none σ.n [.code B] tm τ W Q) →
    ∀ tm τ W, SwEnv bs l T kc lo σ kp i τ W tm → τ.get (σ.n + 3) = .cells (plC 0) → Ev (XX fz) 51 154 none σ.n [.code (Code.l (Code.r (Code.r (Code.r (Code.r (Try.f51.body.getD .skip)))))), .code B] tm τ W Q
section
variable {bs : List Ex} {l : List Int} {T : Nat → Rl} {kc lo : Nat} {σ : St} {kp i : Nat} {x : Ex}
theorem IsEnd.none (h : ∀ j, ¬ Der bs l x i j) : IsEnd bs l x i 0 := fun j => by
  rw [Nat.zero_testBit]; exact ⟨fun e => absurd e (by simp), fun e => absurd e (h j)⟩
theorem der_1 (k : x.kind = 1) {j : Nat} : Der bs l x i j ↔ j = i + 1 ∧ l[i]? = some x.num := by
  constructor
  · intro h
    unfold Der at h
    cases h with
    | tok _ h => exact ⟨rfl, h⟩
    | seq h => exact absurd k h.1
    | _ => omega
  · rintro ⟨rfl, h⟩; exact .tok k h
theorem der_2 (k : x.kind = 2) {y : Ex} (hy : bs[x.num.toNat]? = some y) {j : Nat} : Der bs l x i j ↔ Der bs l y i j := by
  constructor
  · intro h
    unfold Der at h
    cases h with
    | call _ h1 h2 => rw [hy] at h1; cases h1; exact h2
    | seq h => exact absurd k h.2.1
    | _ => omega
  · exact fun h => .call k hy h
theorem der_4 (k : x.kind = 4) {j : Nat} : Der bs l x i j ↔ ∃ y ∈ x.l, Der bs l y i j := by
  constructor
  · intro h
    unfold Der at h
    cases h with
    | alt _ h1 h2 => exact ⟨_, h1, h2⟩
    | seq h => exact absurd k h.2.2.1
    | _ => omega
  · rintro ⟨y, h1, h2⟩; exact .alt k h1 h2
theorem der_6 (k : x.kind = 6) {y : Ex} (hy : x.l = [y]) {j : Nat} : Der bs l x i j ↔ j = i ∨ Der bs l y i j := by
  constructor
  · intro h
    unfold Der at h
    cases h with
    | opt0 _ => exact .inl rfl
    | opt1 _ h1 h2 => rw [hy] at h1; cases h1; exact .inr h2
    | seq h => exact absurd k h.2.2.2.2
    | _ => omega
  · rintro (rfl | h)
    · exact .opt0 k
    · exact .opt1 k hy h
theorem der_s (k : x.kind ≠ 1 ∧ x.kind ≠ 2 ∧ x.kind ≠ 4 ∧ x.kind ≠ 5 ∧ x.kind ≠ 6) {j : Nat} : Der bs l x i j ↔ DerL bs l x.l i j := by
  constructor
  · intro h
    unfold Der at h
    cases h with
    | seq _ h => exact h
    | tok h => exact absurd h k.1
    | call h => exact absurd h k.2.1
    | alt h => exact absurd h k.2.2.1
    | star0 h => exact absurd h k.2.2.2.1
    | star1 h => exact absurd h k.2.2.2.1
    | opt0 h => exact absurd h k.2.2.2.2
    | opt1 h => exact absurd h k.2.2.2.2
  · exact fun h => .seq k h
theorem bit_pow {a j : Nat} : (2 ^ a).testBit j = true ↔ j = a := by rw [Nat.testBit_two_pow]; simp; exact eq_comm
theorem sw_1 (h97 : fz 78 = .cut) (hp : T kp = .part x) (hi : i ≤ l.length) (hl : l.length ≤ 64) (hlo : lo ≤ σ.n) (k1 : x.kind = 1) : SwOk fz bs l T kc lo σ kp i x := by
  intro B Q rest tm τ W hE g10
  obtain ⟨hF, hn, g6, g9, t0, t1, t2, t6, t9, t10⟩ := id hE
  obtain ⟨own, km, hk, hkm, hown⟩ := hF.ch.parts.part kp x hp
  obtain ⟨tk, kb, hkc, hkb, htk, -⟩ := hF.ch.cell
  have htl := htk.len
  have hcell := htk.cell
  have hcells := htk.cells
  have e1 : (x.kind == 1) = true := by simpa using k1
  simp only [Try.f51, Option.getD_some, Code.r, Code.l]
  have tkl : [A.d (.int .i64 0)].length = 1 := rfl
  by_cases hlt : i < l.length
  · obtain ⟨p, R, hidx, hload⟩ := htk.sl.idx .i64 i [.int .i64 l[i]] (by simp [intsD, hlt])
    obtain ⟨R', hload⟩ := hload (.int .i64) 8 (some [A.d (D.int .i64 0)]) (A.d (D.int .i64 0))
    have hdec := dec_lt' hlt
    cases hq : (l[i] == x.num) with
    | true =>
      have hw : IntKind.i64.wrap ((i : Int) + 1) = ((i + 1 : Nat) : Int) := wrap_succ' hlt (by omega)
      simp only [go_sem, ↓reduceIte, Int.reduceEq, Nat.reduceBEq, Int.reduceBEq, Nat.reduceAdd, Nat.reduceEqDiff, Nat.reduceLT, Nat.reduceSub, Int.reduceToNat, Nat.mul_one, Nat.zero_mul, Nat.zero_add, Nat.add_zero, Nat.one_mul, t0, t1, t2, t10, hk, hkc, e1, htl, hdec, hidx, hload, hq, hw, List.map_cons, List.map_nil, List.getElem?_cons_zero]
      refine ⟨drawOk_quiet rfl, ?_⟩
      obtain ⟨S, hcall, hS⟩ := add_call (fz := fz) h97 (P := 0) (i := i + 1) (k := σ.n + 3) (by decide) (by omega) g10 (by omega)
      refine ⟨_, _, _, hcall, ?_⟩
      have lzS : low σ.n S = [] := low_all fun k hk => by rw [hS k hk]; omega
      rw [lzS, List.append_nil]
      refine rest _ _ _ (0 ||| 2 ^ (i + 1)) ⟨hF.set hlo (by omega), by simp only [St.n_set]; omega, by rw [St.get_set_ne (by omega)]; exact g6, by rw [St.get_set_ne (by omega)]; exact g9, by simp only [go_sem, ↓reduceIte, Int.reduceEq, Nat.reduceBEq, Int.reduceBEq, Nat.reduceAdd, Nat.reduceEqDiff, Nat.reduceLT, Nat.reduceSub, t0], by simp only [go_sem, ↓reduceIte, Int.reduceEq, Nat.reduceBEq, Int.reduceBEq, Nat.reduceAdd, Nat.reduceEqDiff, Nat.reduceLT, Nat.reduceSub, t1], by simp only [go_sem, ↓reduceIte, Int.reduceEq, Nat.reduceBEq, Int.reduceBEq, Nat.reduceAdd, Nat.reduceEqDiff, Nat.reduceLT, Nat.reduceSub, t2], by simp only [go_sem, ↓reduceIte, Int.reduceEq, Nat.reduceBEq, Int.reduceBEq, Nat.reduceAdd, Nat.reduceEqDiff, Nat.reduceLT, Nat.reduceSub, t6], by simp only [go_sem, ↓reduceIte, Int.reduceEq, Nat.reduceBEq, Int.reduceBEq, Nat.reduceAdd, Nat.reduceEqDiff, Nat.reduceLT, Nat.reduceSub, t9], by simp only [go_sem, ↓reduceIte, Int.reduceEq, Nat.reduceBEq, Int.reduceBEq, Nat.reduceAdd, Nat.reduceEqDiff, Nat.reduceLT, Nat.reduceSub, t10]⟩ ?_ (by rw [St.get_set_eq])
      intro j
      rw [Nat.zero_or, bit_pow, der_1 k1, List.getElem?_eq_getElem hlt]
      have : l[i] = x.num := by simpa using hq
      simp [this]
    | false =>
      simp only [go_sem, ↓reduceIte, Int.reduceEq, Nat.reduceBEq, Int.reduceBEq, Nat.reduceAdd, Nat.reduceEqDiff, Nat.reduceLT, Nat.reduceSub, Int.reduceToNat, Nat.mul_one, Nat.zero_mul, Nat.zero_add, Nat.add_zero, Nat.one_mul, t0, t1, t2, t10, hk, hkc, e1, htl, hdec, hidx, hload, hq, List.map_cons, List.map_nil, List.getElem?_cons_zero]
      refine ⟨drawOk_quiet rfl, ?_⟩
      refine rest _ _ _ 0 ⟨hF, hn, g6, g9, by simp only [go_sem, ↓reduceIte, Int.reduceEq, Nat.reduceBEq, Int.reduceBEq, Nat.reduceAdd, Nat.reduceEqDiff, Nat.reduceLT, Nat.reduceSub, t0], by simp only [go_sem, ↓reduceIte, Int.reduceEq, Nat.reduceBEq, Int.reduceBEq, Nat.reduceAdd, Nat.reduceEqDiff, Nat.reduceLT, Nat.reduceSub, t1], by simp only [go_sem, ↓reduceIte, Int.reduceEq, Nat.reduceBEq, Int.reduceBEq, Nat.reduceAdd, Nat.reduceEqDiff, Nat.reduceLT, Nat.reduceSub, t2], by simp only [go_sem, ↓reduceIte, Int.reduceEq, Nat.reduceBEq, Int.reduceBEq, Nat.reduceAdd, Nat.reduceEqDiff, Nat.reduceLT, Nat.reduceSub, t6], by simp only [go_sem, ↓reduceIte, Int.reduceEq, Nat.reduceBEq, Int.reduceBEq, Nat.reduceAdd, Nat.reduceEqDiff, Nat.reduceLT, Nat.reduceSub, t9], by simp only [go_sem, ↓reduceIte, Int.reduceEq, Nat.reduceBEq, Int.reduceBEq, Nat.reduceAdd, Nat.reduceEqDiff, Nat.reduceLT, Nat.reduceSub, t10]⟩ (IsEnd.none fun j h => ?_) g10
      rw [der_1 k1, List.getElem?_eq_getElem hlt] at h
      have : ¬ l[i] = x.num := by simpa using hq
      simp [this] at h
  · have hdec := dec_ge' hlt
    simp only [go_sem, ↓reduceIte, Int.reduceEq, Nat.reduceBEq, Int.reduceBEq, Nat.reduceAdd, Nat.reduceEqDiff, Nat.reduceLT, Nat.reduceSub, Int.reduceToNat, Nat.mul_one, Nat.zero_mul, Nat.zero_add, Nat.add_zero, Nat.one_mul, t0, t1, t2, t10, hk, hkc, e1, htl, hdec]
    refine ⟨drawOk_quiet rfl, ?_⟩
    refine rest _ _ _ 0 ⟨hF, hn, g6, g9, by simp only [go_sem, ↓reduceIte, Int.reduceEq, Nat.reduceBEq, Int.reduceBEq, Nat.reduceAdd, Nat.reduceEqDiff, Nat.reduceLT, Nat.reduceSub, t0], by simp only [go_sem, ↓reduceIte, Int.reduceEq, Nat.reduceBEq, Int.reduceBEq, Nat.reduceAdd, Nat.reduceEqDiff, Nat.reduceLT, Nat.reduceSub, t1], by simp only [go_sem, ↓reduceIte, Int.reduceEq, Nat.reduceBEq, Int.reduceBEq, Nat.reduceAdd, Nat.reduceEqDiff, Nat.reduceLT, Nat.reduceSub, t2], by simp only [go_sem, ↓reduceIte, Int.reduceEq, Nat.reduceBEq, Int.reduceBEq, Nat.reduceAdd, Nat.reduceEqDiff, Nat.reduceLT, Nat.reduceSub, t6], by simp only [go_sem, ↓reduceIte, Int.reduceEq, Nat.reduceBEq, Int.reduceBEq, Nat.reduceAdd, Nat.reduceEqDiff, Nat.reduceLT, Nat.reduceSub, t9], by simp only [go_sem, ↓reduceIte, Int.reduceEq, Nat.reduceBEq, Int.reduceBEq, Nat.reduceAdd, Nat.reduceEqDiff, Nat.reduceLT, Nat.reduceSub, t10]⟩ (IsEnd.none fun j h => ?_) g10
    rw [der_1 k1] at h
    have := (List.getElem?_eq_some_iff.1 h.2).1
    omega
theorem SwEnv.call {τ τ' : St} {W S : List Nat} {tm : Tm} (hE : SwEnv bs l T kc lo σ kp i τ W tm) (hlo : lo ≤ σ.n) (hFr : Fr bs l T kc lo τ τ' S) (hn' : τ'.n = τ.n) : SwEnv bs l T kc lo σ kp i τ' (W ++ low σ.n S) tm where
  fr := hE.fr.call hFr
  n := by rw [hn']; exact hE.n
  g6 := by have := hE.n; rw [hFr.keep (by omega) (by omega)]; exact hE.g6
  g9 := by have := hE.n; rw [hFr.keep (by omega) (by omega)]; exact hE.g9
  t0 := hE.t0
  t1 := hE.t1
  t2 := hE.t2
  t6 := hE.t6
  t9 := hE.t9
  t10 := hE.t10
theorem SwEnv.tmv {τ : St} {W : List Nat} {tm tm' : Tm} (hE : SwEnv bs l T kc lo σ kp i τ W tm) (h0 : tm'.at 0 = tm.at 0) (h1 : tm'.at 1 = tm.at 1) (h2 : tm'.at 2 = tm.at 2) (h6 : tm'.at 6 = tm.at 6) (h9 : tm'.at 9 = tm.at 9) (h10 : tm'.at 10 = tm.at 10) : SwEnv bs l T kc lo σ kp i τ W tm' :=
  ⟨hE.fr, hE.n, hE.g6, hE.g9, h0.trans hE.t0, h1.trans hE.t1, h2.trans hE.t2, h6.trans hE.t6, h9.trans hE.t9, h10.trans hE.t10⟩
theorem SwEnv.out {τ : St} {W : List Nat} {tm : Tm} {b : Blk} (hE : SwEnv bs l T kc lo σ kp i τ W tm) (hlo : lo ≤ σ.n) : SwEnv bs l T kc lo σ kp i (τ.set (σ.n + 3) b) W tm :=
  ⟨hE.fr.set hlo (by omega), by rw [St.n_set]; exact hE.n, by rw [St.get_set_ne (by omega)]; exact hE.g6, by rw [St.get_set_ne (by omega)]; exact hE.g9, hE.t0, hE.t1, hE.t2, hE.t6, hE.t9, hE.t10⟩
theorem Fr.meets {τ : St} {S : List Nat} (h : Fr bs l T kc lo σ τ S) {k : Nat} (hk : lo ≤ k) : Am.meets S [k] = false := by
  unfold Am.meets; rw [List.any_eq_false]; intro j hj
  have := (h.maps j hj).1; simp; omega
theorem meets_nil' (S : List Nat) : Am.meets S [] = false := by unfold Am.meets; simp
theorem sw_2 (hp : T kp = .part x) (hi : i ≤ l.length) (hlo : lo ≤ σ.n) (k2 : x.kind = 2) (n : Nat) (hnum : x.num = n) (y : Ex) (hy : bs[n]? = some y) (hS : EndSpec fz bs l T kc lo y i) : SwOk fz bs l T kc lo σ kp i x := by
  intro B Q rest tm τ W hE g10
  obtain ⟨hF, hn, g6, g9, t0, t1, t2, t6, t9, t10⟩ := id hE
  obtain ⟨own, km, hk, hkm, hown⟩ := hF.ch.parts.part kp x hp
  obtain ⟨tk, kb, hkc, hkb, htk, -⟩ := hF.ch.cell
  obtain ⟨cs, hcs, hcl, hch⟩ := hF.ch.parts.own kb bs hkb
  obtain ⟨kp', hc1, hc2⟩ := hch n y hy
  have hnl : n < bs.length := (List.getElem?_eq_some_iff.1 hy).1
  have e1 : (x.kind == 1) = false := by rw [k2]; rfl
  have e2 : (x.kind == 2) = true := by rw [k2]; rfl
  simp only [Try.f51, Option.getD_some, Code.r, Code.l]
  have hidx := fun ρ : St => indexR_nat (σ := ρ) (k := kb) (off := 0) (s := 1) (cs := cs) hnl
  have e0 : 0 + n * 1 = n := by omega
  simp only [e0] at hidx
  simp only [go_sem, ↓reduceIte, Int.reduceEq, Nat.reduceBEq, Int.reduceBEq, Nat.reduceAdd, Nat.reduceEqDiff, Nat.reduceLT, Nat.reduceSub, Int.reduceToNat, Nat.mul_one, Nat.zero_mul, Nat.zero_add, Nat.add_zero, Nat.one_mul, t0, t1, t2, t10, hk, hkc, e1, e2, hnum, hcs, hidx, hc1]
  obtain ⟨P, τ', S, hcall, hP, hFr, hn'⟩ := hS kp' τ hc2 hF.ch
  refine ⟨_, _, _, hcall, ?_⟩
  have g10' : τ'.get (σ.n + 3) = .cells (plC 0) := by rw [hFr.keep (by omega) (by omega)]; exact g10
  have lz3 : low σ.n [σ.n + 3] = [] := by rw [low_cons_ge (by omega)]; rfl
  simp only [go_sem, ↓reduceIte, Int.reduceEq, Nat.reduceBEq, Int.reduceBEq, Nat.reduceAdd, Nat.reduceEqDiff, Nat.reduceLT, Nat.reduceSub, Int.reduceToNat, Nat.mul_one, Nat.zero_mul, Nat.zero_add, Nat.add_zero, Nat.one_mul, plA, g10', lz3, List.append_nil]
  refine ⟨drawOk_rel [12, 13] [] rfl (by kernel_rfl) rfl (by simp), ?_⟩
  refine rest _ _ _ P (((hE.call hlo hFr hn').out hlo).tmv ?_ ?_ ?_ ?_ ?_ ?_) (fun j => ?_) (by rw [St.get_set_eq]; rfl)
  all_goals first | (simp only [go_sem, ↓reduceIte, Int.reduceEq, Nat.reduceBEq, Int.reduceBEq, Nat.reduceAdd, Nat.reduceEqDiff, Nat.reduceLT, Nat.reduceSub]; done) | skip
  rw [der_2 k2 (by rw [hnum]; exact hy)]
  exact hP j
theorem bit_or {P Q j : Nat} : (P ||| Q).testBit j = true ↔ P.testBit j = true ∨ Q.testBit j = true := by rw [Nat.testBit_or, Bool.or_eq_true]
theorem sw_6 (h98 : fz 79 = .cut) (hp : T kp = .part x) (hi : i ≤ l.length) (hl : l.length ≤ 64) (hlo : lo ≤ σ.n) (k6 : x.kind = 6) (y : Ex) (hy : x.l = [y]) (hS : EndSpec fz bs l T kc lo y i) : SwOk fz bs l T kc lo σ kp i x := by
  intro B Q rest tm τ W hE g10
  obtain ⟨hF, hn, g6, g9, t0, t1, t2, t6, t9, t10⟩ := id hE
  obtain ⟨own, km, hk, hkm, hown⟩ := hF.ch.parts.part kp x hp
  rcases hown with ⟨he, -⟩ | ⟨ko, rfl, hko⟩
  · rw [hy] at he; cases he
  obtain ⟨cs, hcs, hcl, hch⟩ := hF.ch.parts.own ko _ hko
  obtain ⟨kp', hc1, hc2⟩ := hch 0 y (by rw [hy]; rfl)
  have e1 : (x.kind == 1) = false := by rw [k6]; rfl
  have e2 : (x.kind == 2) = false := by rw [k6]; rfl
  have e4 : (x.kind == 4) = false := by rw [k6]; rfl
  have e6 : (x.kind == 6) = true := by rw [k6]; rfl
  have hxl : x.l.length = 1 := by rw [hy]; rfl
  simp only [Try.f51, Option.getD_some, Code.r, Code.l]
  have hidx := fun ρ : St => indexR_nat (σ := ρ) (k := ko) (off := 0) (s := 1) (cs := cs) (i := 0) (len := x.l.length) (by omega)
  have e0 : 0 + 0 * 1 = 0 := by omega
  simp only [e0, Int.ofNat_zero, Int.natCast_zero] at hidx
  simp only [go_sem, ↓reduceIte, Int.reduceEq, Nat.reduceBEq, Int.reduceBEq, Nat.reduceAdd, Nat.reduceEqDiff, Nat.reduceLT, Nat.reduceSub, Int.reduceToNat, Nat.mul_one, Nat.zero_mul, Nat.zero_add, Nat.add_zero, Nat.one_mul, t0, t1, t2, t9, t10, g9, hk, e1, e2, e4, e6, hcs, hidx, hc1]
  obtain ⟨P, τ', S, hcall, hP, hFr, hn'⟩ := hS kp' τ hc2 hF.ch
  refine ⟨_, _, _, hcall, ?_⟩
  have g10' : τ'.get (σ.n + 3) = .cells (plC 0) := by rw [hFr.keep (by omega) (by omega)]; exact g10
  have lz3 : low σ.n [σ.n + 3] = [] := by rw [low_cons_ge (by omega)]; rfl
  have hPl := hP.lt hi hl
  have hil : 2 ^ i < 2 ^ 128 := Nat.pow_lt_pow_right (by omega) (by omega)
  refine ⟨_, _, _, or_call h98 hil hPl, ?_⟩
  simp only [go_sem, ↓reduceIte, Int.reduceEq, Nat.reduceBEq, Int.reduceBEq, Nat.reduceAdd, Nat.reduceEqDiff, Nat.reduceLT, Nat.reduceSub, Int.reduceToNat, Nat.mul_one, Nat.zero_mul, Nat.zero_add, Nat.add_zero, Nat.one_mul, plA, g10', lz3, List.append_nil]
  refine ⟨drawOk_rel [9, 10, 11] [(9, 0)] rfl (by kernel_rfl) rfl (by simp [hFr.meets (show lo ≤ σ.n + 2 by omega), meets_nil']), ?_⟩
  have lzn : low σ.n [] = [] := rfl
  refine rest _ _ _ (2 ^ i ||| P) (((hE.call hlo hFr hn').out hlo).tmv ?_ ?_ ?_ ?_ ?_ ?_) (fun j => ?_) (by rw [St.get_set_eq]; rfl)
  all_goals first | (simp only [go_sem, ↓reduceIte, Int.reduceEq, Nat.reduceBEq, Int.reduceBEq, Nat.reduceAdd, Nat.reduceEqDiff, Nat.reduceLT, Nat.reduceSub]; done) | skip
  rw [der_6 k6 hy, bit_or, bit_pow, hP j]
def IsAny (bs : List Ex) (l : List Int) (xs : List Ex) (i P : Nat) : Prop := ∀ j, P.testBit j = true ↔ ∃ y ∈ xs, Der bs l y i j
theorem sw_4 (h98 : fz 79 = .cut) (hp : T kp = .part x) (hi : i ≤ l.length) (hl : l.length ≤ 64) (hlo : lo ≤ σ.n) (hx : SmallE x) (k4 : x.kind = 4) (hne : x.l ≠ []) (hS : ∀ y ∈ x.l, EndSpec fz bs l T kc lo y i) : SwOk fz bs l T kc lo σ kp i x := by
  intro B Q rest tm τ W hE g10
  obtain ⟨hF, hn, g6, g9, t0, t1, t2, t6, t9, t10⟩ := id hE
  obtain ⟨own, km, hk, hkm, hown⟩ := hF.ch.parts.part kp x hp
  have e1 : (x.kind == 1) = false := by rw [k4]; rfl
  have e2 : (x.kind == 2) = false := by rw [k4]; rfl
  have e4 : (x.kind == 4) = true := by rw [k4]; rfl
  have hlen := hx.len
  simp only [Try.f51, Option.getD_some, Code.r, Code.l]
  rcases hown with ⟨he, rfl⟩ | ⟨ko, rfl, hko⟩
  · exact absurd he hne
  · obtain ⟨cs0, hcs0, hcl0, hch0⟩ := hF.ch.parts.own ko _ hko
    simp only [go_sem, ↓reduceIte, Int.reduceEq, Nat.reduceBEq, Int.reduceBEq, Nat.reduceAdd, Nat.reduceEqDiff, Nat.reduceLT, Nat.reduceSub, Int.reduceToNat, Nat.mul_one, Nat.zero_mul, Nat.zero_add, Nat.add_zero, Nat.one_mul, t0, t1, t2, t10, hk, e1, e2, e4, hcs0]
    refine Ev.loop_ind (fun m tm τ W => ∃ (n P : Nat), m = x.l.length - n ∧ n ≤ x.l.length ∧ IsAny bs l (x.l.take n) i P ∧ SwEnv bs l T kc lo σ kp i τ W tm ∧ τ.get (σ.n + 3) = .cells (plC P) ∧
      tm.at 94 = .row ko 0 x.l.length 1 ∧ tm.at 95 = .d (.int .i64 x.l.length) ∧ tm.at 96 = .d (.int .i64 n)) ?_ x.l.length _ _ _
      ⟨0, 0, rfl, by omega, fun j => by simp, hE.tmv (by simp only [go_sem, ↓reduceIte, Int.reduceEq, Nat.reduceBEq, Int.reduceBEq, Nat.reduceAdd, Nat.reduceEqDiff, Nat.reduceLT, Nat.reduceSub]) (by simp only [go_sem, ↓reduceIte, Int.reduceEq, Nat.reduceBEq, Int.reduceBEq, Nat.reduceAdd, Nat.reduceEqDiff, Nat.reduceLT, Nat.reduceSub]) (by simp only [go_sem, ↓reduceIte, Int.reduceEq, Nat.reduceBEq, Int.reduceBEq, Nat.reduceAdd, Nat.reduceEqDiff, Nat.reduceLT, Nat.reduceSub]) (by simp only [go_sem, ↓reduceIte, Int.reduceEq, Nat.reduceBEq, Int.reduceBEq, Nat.reduceAdd, Nat.reduceEqDiff, Nat.reduceLT, Nat.reduceSub]) (by simp only [go_sem, ↓reduceIte, Int.reduceEq, Nat.reduceBEq, Int.reduceBEq, Nat.reduceAdd, Nat.reduceEqDiff, Nat.reduceLT, Nat.reduceSub]) (by simp only [go_sem, ↓reduceIte, Int.reduceEq, Nat.reduceBEq, Int.reduceBEq, Nat.reduceAdd, Nat.reduceEqDiff, Nat.reduceLT, Nat.reduceSub]), g10, by simp only [go_sem, ↓reduceIte, Int.reduceEq, Nat.reduceBEq, Int.reduceBEq, Nat.reduceAdd, Nat.reduceEqDiff, Nat.reduceLT, Nat.reduceSub], by simp only [go_sem, ↓reduceIte, Int.reduceEq, Nat.reduceBEq, Int.reduceBEq, Nat.reduceAdd, Nat.reduceEqDiff, Nat.reduceLT, Nat.reduceSub], by simp only [go_sem, ↓reduceIte, Int.reduceEq, Nat.reduceBEq, Int.reduceBEq, Nat.reduceAdd, Nat.reduceEqDiff, Nat.reduceLT, Nat.reduceSub]; rfl⟩
    clear hE hF hn g6 g9 t0 t1 t2 t6 t9 t10 g10 hk hcs0 hcl0 hch0 cs0
    rintro m tm τ W ⟨n, P, rfl, hnl, hP, hE, g10, t94, t95, t96⟩ ih
    obtain ⟨hF, hn, g6, g9, t0, t1, t2, t6, t9, t10⟩ := id hE
    by_cases hlt : n < x.l.length
    · obtain ⟨cs, hcs, hcl, hch⟩ := hF.ch.parts.own ko _ hko
      have hget : x.l[n]? = some x.l[n] := by simp [hlt]
      have hmem : x.l[n] ∈ x.l := List.getElem_mem hlt
      obtain ⟨kp', hc1, hc2⟩ := hch n _ hget
      have hidx := fun ρ : St => indexR_nat (σ := ρ) (k := ko) (off := 0) (s := 1) (cs := cs) hlt
      have e0 : 0 + n * 1 = n := by omega
      simp only [e0] at hidx
      simp only [go_sem, ↓reduceIte, Int.reduceEq, Nat.reduceBEq, Int.reduceBEq, Nat.reduceAdd, Nat.reduceEqDiff, Nat.reduceLT, Nat.reduceSub, Int.reduceToNat, Nat.mul_one, Nat.zero_mul, Nat.zero_add, Nat.add_zero, Nat.one_mul, t0, t1, t2, t9, t10, t94, t95, t96, dec_lt' hlt, hcs, hidx, hc1, g10]
      obtain ⟨P', τ', S, hcall, hP', hFr, hn'⟩ := hS _ hmem kp' τ hc2 hF.ch
      refine ⟨_, _, _, hcall, ?_⟩
      have g10' : τ'.get (σ.n + 3) = .cells (plC P) := by rw [hFr.keep (by omega) (by omega)]; exact g10
      have lz3 : low σ.n [σ.n + 3] = [] := by rw [low_cons_ge (by omega)]; rfl
      have hPl := hP'.lt hi hl
      have hPP : P < 2 ^ 128 := pow_lt hl fun j hj => by
        obtain ⟨y, -, hy⟩ := (hP j).1 hj
        exact hy.len hi
      refine ⟨_, _, _, or_call h98 hPP hPl, ?_⟩
      simp only [go_sem, ↓reduceIte, Int.reduceEq, Nat.reduceBEq, Int.reduceBEq, Nat.reduceAdd, Nat.reduceEqDiff, Nat.reduceLT, Nat.reduceSub, Int.reduceToNat, Nat.mul_one, Nat.zero_mul, Nat.zero_add, Nat.add_zero, Nat.one_mul, plA, g10', lz3, List.append_nil, t96, wrap_succ' hlt hlen]
      refine ⟨drawOk_rel [4, 5, 6] [(4, 0)] rfl (by kernel_rfl) rfl (by simp [hFr.meets (show lo ≤ σ.n + 3 by omega), meets_nil']), ?_⟩
      refine ih _ _ _ _ (by omega) ⟨n + 1, P ||| P', rfl, hlt, fun j => ?_, ((hE.call hlo hFr hn').out hlo).tmv ?_ ?_ ?_ ?_ ?_ ?_, by rw [St.get_set_eq]; rfl, ?_, ?_, ?_⟩
      all_goals first | (simp only [go_sem, ↓reduceIte, Int.reduceEq, Nat.reduceBEq, Int.reduceBEq, Nat.reduceAdd, Nat.reduceEqDiff, Nat.reduceLT, Nat.reduceSub]; done) | (simp only [go_sem, ↓reduceIte, Int.reduceEq, Nat.reduceBEq, Int.reduceBEq, Nat.reduceAdd, Nat.reduceEqDiff, Nat.reduceLT, Nat.reduceSub, t94, t95]; done) | skip
      rw [bit_or, hP j, hP' j, List.take_succ_eq_append_getElem hlt]
      constructor
      · rintro (⟨y, h1, h2⟩ | h)
        · exact ⟨y, List.mem_append.2 (.inl h1), h2⟩
        · exact ⟨_, List.mem_append.2 (.inr (by simp)), h⟩
      · rintro ⟨y, h1, h2⟩
        rcases List.mem_append.1 h1 with h1 | h1
        · exact .inl ⟨y, h1, h2⟩
        · simp at h1; subst h1; exact .inr h2
    · rw [List.take_of_length_le (by omega)] at hP
      simp only [go_sem, ↓reduceIte, Int.reduceEq, Nat.reduceBEq, Int.reduceBEq, Nat.reduceAdd, Nat.reduceEqDiff, Nat.reduceLT, Nat.reduceSub, Int.reduceToNat, Nat.mul_one, Nat.zero_mul, Nat.zero_add, Nat.add_zero, Nat.one_mul, t94, t95, t96, dec_ge' hlt]
      refine rest _ _ _ P (hE.tmv ?_ ?_ ?_ ?_ ?_ ?_) (fun j => ?_) g10
      all_goals first | (simp only [go_sem, ↓reduceIte, Int.reduceEq, Nat.reduceBEq, Int.reduceBEq, Nat.reduceAdd, Nat.reduceEqDiff, Nat.reduceLT, Nat.reduceSub]; done) | skip
      rw [der_4 k4]; exact hP j
theorem star_closed {y : Ex} (k : x.kind = 5) (hy : x.l = [y]) (S : Nat → Prop) (h0 : S i) (h1 : ∀ m j, S m → Der bs l y m j → S j) {j : Nat} (h : Der bs l x i j) : S j := by
  have : ∀ (w : Ex ⊕ List Ex) (a b : Nat), Dx bs l w a b → w = .inl x → a = i → S b := by
    intro w a b h
    induction h with
    | star0 _ => intro _ e; rw [e]; exact h0
    | star1 q1 q2 q3 q4 ih1 ih2 =>
      intro e1 e2
      cases e1
      rw [hy] at q2; cases q2
      exact h1 _ _ (ih1 rfl e2) q4
    | tok q => intro e; cases e; omega
    | call q => intro e; cases e; omega
    | alt q => intro e; cases e; omega
    | opt0 q => intro e; cases e; omega
    | opt1 q => intro e; cases e; omega
    | seq q => intro e; cases e; exact absurd k q.2.2.2.1
    | nil => intro e; cases e
    | cons _ _ => intro e; cases e
  exact this _ _ _ h rfl rfl
theorem sw_5 (h71 : fz 52 = .cut) (h98 : fz 79 = .cut) (hp : T kp = .part x) (hi : i ≤ l.length) (hl : l.length ≤ 64) (hlo : lo ≤ σ.n) (k5 : x.kind = 5) (y : Ex) (hy : x.l = [y]) (hS : ∀ n, i ≤ n → n ≤ l.length → EndSpec fz bs l T kc lo y n) : SwOk fz bs l T kc lo σ kp i x := by
  intro B Q rest tm τ W hE g10
  obtain ⟨hF, hn, g6, g9, t0, t1, t2, t6, t9, t10⟩ := id hE
  obtain ⟨own, km, hk, hkm, hown⟩ := hF.ch.parts.part kp x hp
  have e1 : (x.kind == 1) = false := by rw [k5]; rfl
  have e2 : (x.kind == 2) = false := by rw [k5]; rfl
  have e4 : (x.kind == 4) = false := by rw [k5]; rfl
  have e6 : (x.kind == 6) = false := by rw [k5]; rfl
  have e5 : (x.kind == 5) = true := by rw [k5]; rfl
  have lz3 : low σ.n [σ.n + 3] = [] := by rw [low_cons_ge (by omega)]; rfl
  have hxl : x.l.length = 1 := by rw [hy]; rfl
  simp only [Try.f51, Option.getD_some, Code.r, Code.l]
  rcases hown with ⟨he, -⟩ | ⟨ko, rfl, hko⟩
  · rw [hy] at he; cases he
  simp only [go_sem, ↓reduceIte, Int.reduceEq, Nat.reduceBEq, Int.reduceBEq, Nat.reduceAdd, Nat.reduceEqDiff, Nat.reduceLT, Nat.reduceSub, Int.reduceToNat, Nat.mul_one, Nat.zero_mul, Nat.zero_add, Nat.add_zero, Nat.one_mul, t0, t1, t2, t9, t10, hk, e1, e2, e4, e5, e6, g9, g10, lz3, List.append_nil]
  refine Ev.loop_ind (fun m tm τ W => ∃ (n P : Nat), m = l.length + 1 - n ∧ i ≤ n ∧ n ≤ l.length + 1 ∧ (∀ j, P.testBit j = true → Der bs l x i j) ∧ P.testBit i = true ∧ (∀ k, k < n → P.testBit k = true → ∀ j, Der bs l y k j → P.testBit j = true) ∧ SwEnv bs l T kc lo σ kp i τ W tm ∧ τ.get (σ.n + 3) = .cells (plC P) ∧
    tm.at 13 = .d (.int .i64 n)) ?_ (l.length + 1 - i) _ _ _
    ⟨i, 2 ^ i, rfl, Nat.le_refl _, by omega, fun j hj => by rw [bit_pow] at hj; subst hj; exact .star0 k5, by rw [bit_pow], fun k hk hb => by rw [bit_pow] at hb; omega, (hE.out hlo).tmv (by simp only [go_sem, ↓reduceIte, Int.reduceEq, Nat.reduceBEq, Int.reduceBEq, Nat.reduceAdd, Nat.reduceEqDiff, Nat.reduceLT, Nat.reduceSub]) (by simp only [go_sem, ↓reduceIte, Int.reduceEq, Nat.reduceBEq, Int.reduceBEq, Nat.reduceAdd, Nat.reduceEqDiff, Nat.reduceLT, Nat.reduceSub]) (by simp only [go_sem, ↓reduceIte, Int.reduceEq, Nat.reduceBEq, Int.reduceBEq, Nat.reduceAdd, Nat.reduceEqDiff, Nat.reduceLT, Nat.reduceSub]) (by simp only [go_sem, ↓reduceIte, Int.reduceEq, Nat.reduceBEq, Int.reduceBEq, Nat.reduceAdd, Nat.reduceEqDiff, Nat.reduceLT, Nat.reduceSub]) (by simp only [go_sem, ↓reduceIte, Int.reduceEq, Nat.reduceBEq, Int.reduceBEq, Nat.reduceAdd, Nat.reduceEqDiff, Nat.reduceLT, Nat.reduceSub]) (by simp only [go_sem, ↓reduceIte, Int.reduceEq, Nat.reduceBEq, Int.reduceBEq, Nat.reduceAdd, Nat.reduceEqDiff, Nat.reduceLT, Nat.reduceSub]), by rw [St.get_set_eq]; rfl, by simp only [go_sem, ↓reduceIte, Int.reduceEq, Nat.reduceBEq, Int.reduceBEq, Nat.reduceAdd, Nat.reduceEqDiff, Nat.reduceLT, Nat.reduceSub]⟩
  clear hE hF hn g6 g9 t0 t1 t2 t6 t9 t10 g10 hk
  rintro m tm τ W ⟨n, P, rfl, hin, hnl, hs, hs0, hsc, hE, g10, t13⟩ ih
  obtain ⟨hF, hn, g6, g9, t0, t1, t2, t6, t9, t10⟩ := id hE
  obtain ⟨own2, km2, hk, hkm2, hown2⟩ := hF.ch.parts.part kp x hp
  rcases hown2 with ⟨he, -⟩ | ⟨ko2, rfl, hko2⟩
  · rw [hy] at he; cases he
  obtain ⟨tk, kb, hkc, hkb, htk, -⟩ := hF.ch.cell
  obtain ⟨cs, hcs, hcl, hch⟩ := hF.ch.parts.own ko2 _ hko2
  obtain ⟨kp', hc1, hc2⟩ := hch 0 y (by rw [hy]; rfl)
  have htl := htk.len
  by_cases hlt : n ≤ l.length
  · have hdec : decide ((n : Int) ≤ (l.length : Int)) = true := by simpa using hlt
    have hPP : P < 2 ^ 128 := pow_lt hl fun j hj => (hs j hj).len hi
    have hw : IntKind.i64.wrap ((n : Int) + 1) = ((n + 1 : Nat) : Int) := by rw [wrap_small (by omega) (by omega)]; rfl
    simp only [go_sem, ↓reduceIte, Int.reduceEq, Nat.reduceBEq, Int.reduceBEq, Nat.reduceAdd, Nat.reduceEqDiff, Nat.reduceLT, Nat.reduceSub, Int.reduceToNat, Nat.mul_one, Nat.zero_mul, Nat.zero_add, Nat.add_zero, Nat.one_mul, t0, t1, t2, t10, t13, hkc, htl, hdec, g10]
    refine ⟨_, _, _, has_call (fz := fz) h71 hPP (by omega : n < 128), ?_⟩
    cases hb : P.testBit n with
    | false =>
      simp only [go_sem, ↓reduceIte, Int.reduceEq, Nat.reduceBEq, Int.reduceBEq, Nat.reduceAdd, Nat.reduceEqDiff, Nat.reduceLT, Nat.reduceSub, Int.reduceToNat, Nat.mul_one, Nat.zero_mul, Nat.zero_add, Nat.add_zero, Nat.one_mul, t13, hw]
      refine ih _ _ _ _ (by omega) ⟨n + 1, P, rfl, by omega, by omega, hs, hs0, fun k hk hbk j hj => ?_, hE.tmv ?_ ?_ ?_ ?_ ?_ ?_, g10, ?_⟩
      all_goals first | (simp only [go_sem, ↓reduceIte, Int.reduceEq, Nat.reduceBEq, Int.reduceBEq, Nat.reduceAdd, Nat.reduceEqDiff, Nat.reduceLT, Nat.reduceSub]; done) | skip
      by_cases e : k = n
      · subst e; rw [hb] at hbk; cases hbk
      · exact hsc k (by omega) hbk j hj
    | true =>
      have hidx := fun ρ : St => indexR_nat (σ := ρ) (k := ko2) (off := 0) (s := 1) (cs := cs) (i := 0) (len := x.l.length) (by omega)
      have e0 : 0 + 0 * 1 = 0 := by omega
      simp only [e0, Int.ofNat_zero, Int.natCast_zero] at hidx
      simp only [go_sem, ↓reduceIte, Int.reduceEq, Nat.reduceBEq, Int.reduceBEq, Nat.reduceAdd, Nat.reduceEqDiff, Nat.reduceLT, Nat.reduceSub, Int.reduceToNat, Nat.mul_one, Nat.zero_mul, Nat.zero_add, Nat.add_zero, Nat.one_mul, t0, t1, t10, t13, hk, g10, hcs, hidx, hc1]
      obtain ⟨P', τ', S, hcall, hP', hFr, hn'⟩ := hS n hin hlt kp' τ hc2 hF.ch
      refine ⟨_, _, _, hcall, ?_⟩
      have g10' : τ'.get (σ.n + 3) = .cells (plC P) := by rw [hFr.keep (by omega) (by omega)]; exact g10
      have hPl := hP'.lt hlt hl
      refine ⟨_, _, _, or_call h98 hPP hPl, ?_⟩
      simp only [go_sem, ↓reduceIte, Int.reduceEq, Nat.reduceBEq, Int.reduceBEq, Nat.reduceAdd, Nat.reduceEqDiff, Nat.reduceLT, Nat.reduceSub, Int.reduceToNat, Nat.mul_one, Nat.zero_mul, Nat.zero_add, Nat.add_zero, Nat.one_mul, plA, g10', lz3, List.append_nil, t13, hw]
      refine ⟨drawOk_rel [9, 10, 11] [(9, 0)] rfl (by kernel_rfl) rfl (by simp [hFr.meets (show lo ≤ σ.n + 3 by omega), meets_nil']), ?_⟩
      refine ih _ _ _ _ (by omega) ⟨n + 1, P ||| P', rfl, by omega, by omega, fun j hj => ?_, by rw [bit_or]; exact .inl hs0, fun k hk hbk j hj => ?_, ((hE.call hlo hFr hn').out hlo).tmv ?_ ?_ ?_ ?_ ?_ ?_, by rw [St.get_set_eq]; rfl, ?_⟩
      all_goals first | (simp only [go_sem, ↓reduceIte, Int.reduceEq, Nat.reduceBEq, Int.reduceBEq, Nat.reduceAdd, Nat.reduceEqDiff, Nat.reduceLT, Nat.reduceSub]; done) | skip
      · rw [bit_or] at hj
        rcases hj with hj | hj
        · exact hs j hj
        · exact .star1 k5 hy (hs n hb) ((hP' j).1 hj)
      · rw [bit_or] at hbk ⊢
        by_cases e : k = n
        · subst e; exact .inr ((hP' j).2 hj)
        · have : P.testBit k = true := by
            rcases hbk with h | h
            · exact h
            · have := ((hP' k).1 h).le; omega
          exact .inl (hsc k (by omega) this j hj)
  · have hdec : decide ((n : Int) ≤ (l.length : Int)) = false := by simp; omega
    simp only [go_sem, ↓reduceIte, Int.reduceEq, Nat.reduceBEq, Int.reduceBEq, Nat.reduceAdd, Nat.reduceEqDiff, Nat.reduceLT, Nat.reduceSub, Int.reduceToNat, Nat.mul_one, Nat.zero_mul, Nat.zero_add, Nat.add_zero, Nat.one_mul, t0, t13, hkc, htl, hdec]
    refine rest _ _ _ P (hE.tmv ?_ ?_ ?_ ?_ ?_ ?_) (fun j => ⟨hs j, fun h => ?_⟩) g10
    all_goals first | (simp only [go_sem, ↓reduceIte, Int.reduceEq, Nat.reduceBEq, Int.reduceBEq, Nat.reduceAdd, Nat.reduceEqDiff, Nat.reduceLT, Nat.reduceSub]; done) | skip
    exact star_closed k5 hy (fun j => P.testBit j = true) hs0 (fun m j hm hj => hsc m (by have := (hs m hm).len hi; omega) hm j hj) h
theorem from_call (h99 : fz 80 = .cut) (h71 : fz 52 = .cut) (h98 : fz 79 = .cut) (hl : l.length ≤ 64) {y : Ex} {kp : Nat} (hp : T kp = .part y) {P : Nat} (hPl : ∀ j, P.testBit j = true → j ≤ l.length) (hS : ∀ k, P.testBit k = true → EndSpec fz bs l T kc lo y k) (hC : Chart bs l T kc lo σ) :
    ∃ P' σ' W, CallsTo (XX fz) (.func 80 []) [.ptr kc 0, .ptr kp 0, plA P] σ (plA P') σ' W ∧ (∀ j, P'.testBit j = true ↔ ∃ k, P.testBit k = true ∧ Der bs l y k j) ∧ Fr bs l T kc lo σ σ' W ∧ σ'.n = σ.n := by
  have hlo := hC.n
  have key := CallsTo.cutE (X := XX fz) (f := 80) (cap := []) (args := [.ptr kc 0, .ptr kp 0, plA P]) (σ := σ) (P := fun a σ1 W1 => ∃ P', a = plA P' ∧ (∀ j, P'.testBit j = true ↔ ∃ k, P.testBit k = true ∧ Der bs l y k j) ∧ Fr bs l T kc lo σ σ1 W1) h99 fn80 (by simp) ?_
  · obtain ⟨a, σ', W', σ1, hcall, hM, hn, hlo', P', rfl, hE, hF⟩ := key
    exact ⟨P', σ', W', hcall, hE, ⟨hF.ch.same (by rw [hn]; exact hC.n) fun k hk => hlo' k (by omega), hM, hF.maps⟩, hn⟩
  · have hPP : P < 2 ^ 128 := pow_lt hl hPl
    have hu : ∀ {σ1 : St} {W1 : List Nat}, Fr bs l T kc lo σ σ1 W1 → ∀ k, k ∈ W1 → (σ1.get k).under σ.n = true := fun h k hk => by
      obtain ⟨y, hy⟩ := (h.maps k hk).2
      obtain ⟨M, q1, -⟩ := h.ch.parts.map k y hy
      rw [q1]; exact ME_under _ _
    obtain ⟨tk, kb, hkc, hkb, htk, -⟩ := hC.cell
    have mc : kc ≠ σ.n := by have := hC.lt; omega
    have mc1 : kc ≠ σ.n + 1 := by have := hC.lt; omega
    have htk2 : TokAt ((σ.push (.cells (plC P))).push (.cells (plC 0))) tk l := htk.stay (by simp only [St.n_push]; omega) fun k hk _ => by rw [St.get_push_ne (by simp only [St.n_push]; omega), St.get_push_ne hk]
    have htl := htk2.len
    have hw : IntKind.i64.wrap ((l.length : Int) + 1) = ((l.length + 1 : Nat) : Int) := by rw [wrap_small (by omega) (by omega)]; rfl
    have hz : [A.d (D.int IntKind.u64 0), A.d (D.int IntKind.u64 0)] = plC 0 := rfl
    simp only [Try.f80, Option.getD_some]
    simp only [go_sem, ↓reduceIte, Int.reduceEq, Nat.reduceBEq, Int.reduceBEq, Nat.reduceAdd, Nat.reduceEqDiff, Nat.reduceLT, Nat.reduceSub, Int.reduceToNat, Nat.mul_one, Nat.zero_mul, Nat.zero_add, Nat.add_zero, Nat.one_mul, plA, hkc, mc, mc1, hz, htl, hw]
    refine Ev.loop_ind (fun m tm τ W => ∃ (n Q : Nat), m = l.length + 1 - n ∧ n ≤ l.length + 1 ∧ (∀ j, Q.testBit j = true ↔ ∃ k, k < n ∧ P.testBit k = true ∧ Der bs l y k j) ∧ Fr bs l T kc lo σ τ W ∧ σ.n + 2 ≤ τ.n ∧ τ.get σ.n = .cells (plC P) ∧ τ.get (σ.n + 1) = .cells (plC Q) ∧
      tm.at 0 = .ptr kc 0 ∧ tm.at 1 = .ptr kp 0 ∧ tm.at 5 = .ptr σ.n 0 ∧ tm.at 6 = .ptr (σ.n + 1) 0 ∧ tm.at 13 = .d (.int .i64 ((l.length + 1 : Nat) : Int)) ∧ tm.at 14 = .d (.int .i64 n)) ?_ (l.length + 1) _ _ _
      ⟨0, 0, rfl, by omega, fun j => by simp, (Fr.init hC).push.push, by simp only [St.n_push]; omega, by rw [St.get_push_ne (by simp [St.n_push]), St.get_push_eq], St.get_push_eq' (by simp [St.n_push]), by simp only [go_sem, ↓reduceIte, Int.reduceEq, Nat.reduceBEq, Int.reduceBEq, Nat.reduceAdd, Nat.reduceEqDiff, Nat.reduceLT, Nat.reduceSub], by simp only [go_sem, ↓reduceIte, Int.reduceEq, Nat.reduceBEq, Int.reduceBEq, Nat.reduceAdd, Nat.reduceEqDiff, Nat.reduceLT, Nat.reduceSub], by simp only [go_sem, ↓reduceIte, Int.reduceEq, Nat.reduceBEq, Int.reduceBEq, Nat.reduceAdd, Nat.reduceEqDiff, Nat.reduceLT, Nat.reduceSub], by simp only [go_sem, ↓reduceIte, Int.reduceEq, Nat.reduceBEq, Int.reduceBEq, Nat.reduceAdd, Nat.reduceEqDiff, Nat.reduceLT, Nat.reduceSub], by simp only [go_sem, ↓reduceIte, Int.reduceEq, Nat.reduceBEq, Int.reduceBEq, Nat.reduceAdd, Nat.reduceEqDiff, Nat.reduceLT, Nat.reduceSub], by simp only [go_sem, ↓reduceIte, Int.reduceEq, Nat.reduceBEq, Int.reduceBEq, Nat.reduceAdd, Nat.reduceEqDiff, Nat.reduceLT, Nat.reduceSub]; rfl⟩
    clear htk2 htl
    rintro m tm τ W ⟨n, Q, rfl, hn, hQ, hF, hnn, g5, g6, t0, t1, t5, t6, t13, t14⟩ ih
    by_cases hlt : n < l.length + 1
    · have hw2 : IntKind.i64.wrap ((n : Int) + 1) = ((n + 1 : Nat) : Int) := by rw [wrap_small (by omega) (by omega)]; rfl
      have hdec := dec_lt' hlt
      have hQQ : Q < 2 ^ 128 := pow_lt hl fun j hj => by
        obtain ⟨k, q1, q2, q3⟩ := (hQ j).1 hj
        exact q3.len (by omega)
      simp only [go_sem, ↓reduceIte, Int.reduceEq, Nat.reduceBEq, Int.reduceBEq, Nat.reduceAdd, Nat.reduceEqDiff, Nat.reduceLT, Nat.reduceSub, Int.reduceToNat, Nat.mul_one, Nat.zero_mul, Nat.zero_add, Nat.add_zero, Nat.one_mul, t0, t1, t5, t6, t13, t14, hdec, g5]
      refine ⟨_, _, _, has_call (fz := fz) h71 hPP (by omega : n < 128), ?_⟩
      cases hb : P.testBit n with
      | false =>
        simp only [go_sem, ↓reduceIte, Int.reduceEq, Nat.reduceBEq, Int.reduceBEq, Nat.reduceAdd, Nat.reduceEqDiff, Nat.reduceLT, Nat.reduceSub, Int.reduceToNat, Nat.mul_one, Nat.zero_mul, Nat.zero_add, Nat.add_zero, Nat.one_mul, t14, hw2]
        refine ih _ _ _ _ (by omega) ⟨n + 1, Q, rfl, by omega, fun j => ?_, hF, hnn, g5, g6, ?_, ?_, ?_, ?_, ?_, ?_⟩
        all_goals first | (simp only [go_sem, ↓reduceIte, Int.reduceEq, Nat.reduceBEq, Int.reduceBEq, Nat.reduceAdd, Nat.reduceEqDiff, Nat.reduceLT, Nat.reduceSub]; done) | (simp only [go_sem, ↓reduceIte, Int.reduceEq, Nat.reduceBEq, Int.reduceBEq, Nat.reduceAdd, Nat.reduceEqDiff, Nat.reduceLT, Nat.reduceSub, t0]; done) | (simp only [go_sem, ↓reduceIte, Int.reduceEq, Nat.reduceBEq, Int.reduceBEq, Nat.reduceAdd, Nat.reduceEqDiff, Nat.reduceLT, Nat.reduceSub, t1]; done) | (simp only [go_sem, ↓reduceIte, Int.reduceEq, Nat.reduceBEq, Int.reduceBEq, Nat.reduceAdd, Nat.reduceEqDiff, Nat.reduceLT, Nat.reduceSub, t5]; done) | (simp only [go_sem, ↓reduceIte, Int.reduceEq, Nat.reduceBEq, Int.reduceBEq, Nat.reduceAdd, Nat.reduceEqDiff, Nat.reduceLT, Nat.reduceSub, t6]; done) | (simp only [go_sem, ↓reduceIte, Int.reduceEq, Nat.reduceBEq, Int.reduceBEq, Nat.reduceAdd, Nat.reduceEqDiff, Nat.reduceLT, Nat.reduceSub, t13]; done) | skip
        rw [hQ j]
        constructor
        · rintro ⟨k, q1, q2, q3⟩; exact ⟨k, by omega, q2, q3⟩
        · rintro ⟨k, q1, q2, q3⟩
          refine ⟨k, ?_, q2, q3⟩
          by_cases e : k = n
          · subst e; rw [hb] at q2; cases q2
          · omega
      | true =>
        simp only [go_sem, ↓reduceIte, Int.reduceEq, Nat.reduceBEq, Int.reduceBEq, Nat.reduceAdd, Nat.reduceEqDiff, Nat.reduceLT, Nat.reduceSub, Int.reduceToNat, Nat.mul_one, Nat.zero_mul, Nat.zero_add, Nat.add_zero, Nat.one_mul, t0, t1, t6, t14, g6]
        obtain ⟨P', τ', S, hcall, hP', hFr, hn'⟩ := hS n hb kp τ hp hF.ch
        refine ⟨_, _, _, hcall, ?_⟩
        have g6' : τ'.get (σ.n + 1) = .cells (plC Q) := by rw [hFr.keep (by omega) (by omega)]; exact g6
        have g5' : τ'.get σ.n = .cells (plC P) := by rw [hFr.keep (by omega) (by omega)]; exact g5
        have lz : low σ.n [σ.n + 1] = [] := by rw [low_cons_ge (by omega)]; rfl
        refine ⟨_, _, _, or_call h98 hQQ (hP'.lt (by omega) hl), ?_⟩
        simp only [go_sem, ↓reduceIte, Int.reduceEq, Nat.reduceBEq, Int.reduceBEq, Nat.reduceAdd, Nat.reduceEqDiff, Nat.reduceLT, Nat.reduceSub, Int.reduceToNat, Nat.mul_one, Nat.zero_mul, Nat.zero_add, Nat.add_zero, Nat.one_mul, plA, g6', lz, List.append_nil, t14, hw2]
        refine ⟨drawOk_rel [4, 5, 6] [(4, 0)] rfl (by kernel_rfl) rfl (by simp [hFr.meets (show lo ≤ σ.n + 1 by omega), meets_nil']), ?_⟩
        refine ih _ _ _ _ (by omega) ⟨n + 1, Q ||| P', rfl, by omega, fun j => ?_, (hF.call hFr).set hlo (by omega), by simp only [St.n_set]; omega, by rw [St.get_set_ne (by omega)]; exact g5', by rw [St.get_set_eq]; rfl, ?_, ?_, ?_, ?_, ?_, ?_⟩
        all_goals first | (simp only [go_sem, ↓reduceIte, Int.reduceEq, Nat.reduceBEq, Int.reduceBEq, Nat.reduceAdd, Nat.reduceEqDiff, Nat.reduceLT, Nat.reduceSub]; done) | (simp only [go_sem, ↓reduceIte, Int.reduceEq, Nat.reduceBEq, Int.reduceBEq, Nat.reduceAdd, Nat.reduceEqDiff, Nat.reduceLT, Nat.reduceSub, t0]; done) | (simp only [go_sem, ↓reduceIte, Int.reduceEq, Nat.reduceBEq, Int.reduceBEq, Nat.reduceAdd, Nat.reduceEqDiff, Nat.reduceLT, Nat.reduceSub, t1]; done) | (simp only [go_sem, ↓reduceIte, Int.reduceEq, Nat.reduceBEq, Int.reduceBEq, Nat.reduceAdd, Nat.reduceEqDiff, Nat.reduceLT, Nat.reduceSub, t5]; done) | (simp only [go_sem, ↓reduceIte, Int.reduceEq, Nat.reduceBEq, Int.reduceBEq, Nat.reduceAdd, Nat.reduceEqDiff, Nat.reduceLT, Nat.reduceSub, t6]; done) | (simp only [go_sem, ↓reduceIte, Int.reduceEq, Nat.reduceBEq, Int.reduceBEq, Nat.reduceAdd, Nat.reduceEqDiff, Nat.reduceLT, Nat.reduceSub, t13]; done) | skip
        rw [bit_or, hQ j, hP' j]
        constructor
        · rintro (⟨k, q1, q2, q3⟩ | h)
          · exact ⟨k, by omega, q2, q3⟩
          · exact ⟨n, by omega, hb, h⟩
        · rintro ⟨k, q1, q2, q3⟩
          by_cases e : k = n
          · subst e; exact .inr q3
          · exact .inl ⟨k, by omega, q2, q3⟩
    · have hdec := dec_ge' hlt
      have lz : low σ.n [σ.n + 1] = [] := by rw [low_cons_ge (by omega)]; rfl
      simp only [go_sem, ↓reduceIte, Int.reduceEq, Nat.reduceBEq, Int.reduceBEq, Nat.reduceAdd, Nat.reduceEqDiff, Nat.reduceLT, Nat.reduceSub, Int.reduceToNat, Nat.mul_one, Nat.zero_mul, Nat.zero_add, Nat.add_zero, Nat.one_mul, t6, t13, t14, hdec, g6, lz, List.append_nil]
      have hF2 := hF.set (k := σ.n + 1) (b := .cells (plC Q ++ List.drop 2 (plC Q))) hlo (by omega)
      refine ⟨rfl, hF2.mod, hu hF2, Q, rfl, fun j => ?_, hF2⟩
      rw [hQ j]
      constructor
      · rintro ⟨k, q1, q2, q3⟩; exact ⟨k, q2, q3⟩
      · rintro ⟨k, q2, q3⟩; exact ⟨k, by have := hPl k q2; omega, q2, q3⟩
theorem sw_s (h99 : fz 80 = .cut) (h71 : fz 52 = .cut) (h98 : fz 79 = .cut) (hp : T kp = .part x) (hi : i ≤ l.length) (hl : l.length ≤ 64) (hlo : lo ≤ σ.n) (hx : SmallE x) (ks : x.kind ≠ 1 ∧ x.kind ≠ 2 ∧ x.kind ≠ 4 ∧ x.kind ≠ 5 ∧ x.kind ≠ 6)
    (hS : ∀ (n : Nat) (h : n < x.l.length) (k : Nat), DerL bs l (x.l.take n) i k → EndSpec fz bs l T kc lo x.l[n] k) : SwOk fz bs l T kc lo σ kp i x := by
  intro B Q rest tm τ W hE g10
  obtain ⟨hF, hn, g6, g9, t0, t1, t2, t6, t9, t10⟩ := id hE
  obtain ⟨own, km, hk, hkm, hown⟩ := hF.ch.parts.part kp x hp
  have e1 : (x.kind == 1) = false := by simpa using ks.1
  have e2 : (x.kind == 2) = false := by simpa using ks.2.1
  have e4 : (x.kind == 4) = false := by simpa using ks.2.2.1
  have e5 : (x.kind == 5) = false := by simpa using ks.2.2.2.1
  have e6 : (x.kind == 6) = false := by simpa using ks.2.2.2.2
  have hlen := hx.len
  have lz3 : low σ.n [σ.n + 3] = [] := by rw [low_cons_ge (by omega)]; rfl
  have hkp : kp < σ.n := by have := hF.ch.plt kp (by rw [hp]; simp); omega
  have hne : kp ≠ σ.n + 3 := by omega
  have hsl : sliceLen (τ.set (σ.n + 3) (Blk.cells (plC (2 ^ i) ++ List.drop 2 (plC 0)))) own = some x.l.length := by
    rcases hown with ⟨he, rfl⟩ | ⟨ko, rfl, hko⟩
    · rw [he]; rfl
    · obtain ⟨cs, hcs, -⟩ := hF.ch.parts.own ko _ hko
      have := hF.ch.plt ko (by rw [hko]; simp)
      rw [sliceLen_row, St.get_set_ne (by omega), hcs]; rfl
  simp only [Try.f51, Option.getD_some, Code.r, Code.l]
  simp only [go_sem, ↓reduceIte, Int.reduceEq, Nat.reduceBEq, Int.reduceBEq, Nat.reduceAdd, Nat.reduceEqDiff, Nat.reduceLT, Nat.reduceSub, Int.reduceToNat, Nat.mul_one, Nat.zero_mul, Nat.zero_add, Nat.add_zero, Nat.one_mul, t0, t1, t2, t9, t10, hk, e1, e2, e4, e5, e6, g9, g10, lz3, List.append_nil, hne, hsl]
  refine Ev.loop_ind (fun m tm τ W => ∃ (n P : Nat), m = x.l.length - n ∧ n ≤ x.l.length ∧ IsEndL bs l (x.l.take n) i P ∧ SwEnv bs l T kc lo σ kp i τ W tm ∧ τ.get (σ.n + 3) = .cells (plC P) ∧
    tm.at 37 = own ∧ tm.at 38 = .d (.int .i64 x.l.length) ∧ tm.at 39 = .d (.int .i64 n)) ?_ x.l.length _ _ _
    ⟨0, 2 ^ i, rfl, by omega, fun j => ?_, (hE.out hlo).tmv (by simp only [go_sem, ↓reduceIte, Int.reduceEq, Nat.reduceBEq, Int.reduceBEq, Nat.reduceAdd, Nat.reduceEqDiff, Nat.reduceLT, Nat.reduceSub]) (by simp only [go_sem, ↓reduceIte, Int.reduceEq, Nat.reduceBEq, Int.reduceBEq, Nat.reduceAdd, Nat.reduceEqDiff, Nat.reduceLT, Nat.reduceSub]) (by simp only [go_sem, ↓reduceIte, Int.reduceEq, Nat.reduceBEq, Int.reduceBEq, Nat.reduceAdd, Nat.reduceEqDiff, Nat.reduceLT, Nat.reduceSub]) (by simp only [go_sem, ↓reduceIte, Int.reduceEq, Nat.reduceBEq, Int.reduceBEq, Nat.reduceAdd, Nat.reduceEqDiff, Nat.reduceLT, Nat.reduceSub]) (by simp only [go_sem, ↓reduceIte, Int.reduceEq, Nat.reduceBEq, Int.reduceBEq, Nat.reduceAdd, Nat.reduceEqDiff, Nat.reduceLT, Nat.reduceSub]) (by simp only [go_sem, ↓reduceIte, Int.reduceEq, Nat.reduceBEq, Int.reduceBEq, Nat.reduceAdd, Nat.reduceEqDiff, Nat.reduceLT, Nat.reduceSub]), by rw [St.get_set_eq]; rfl, by simp only [go_sem, ↓reduceIte, Int.reduceEq, Nat.reduceBEq, Int.reduceBEq, Nat.reduceAdd, Nat.reduceEqDiff, Nat.reduceLT, Nat.reduceSub], by simp only [go_sem, ↓reduceIte, Int.reduceEq, Nat.reduceBEq, Int.reduceBEq, Nat.reduceAdd, Nat.reduceEqDiff, Nat.reduceLT, Nat.reduceSub], by simp only [go_sem, ↓reduceIte, Int.reduceEq, Nat.reduceBEq, Int.reduceBEq, Nat.reduceAdd, Nat.reduceEqDiff, Nat.reduceLT, Nat.reduceSub]; rfl⟩
  · clear hE hF hn g6 g9 t0 t1 t2 t6 t9 t10 g10 hk hsl
    rintro m tm τ W ⟨n, P, rfl, hnl, hP, hE, g10, t37, t38, t39⟩ ih
    obtain ⟨hF, hn, g6, g9, t0, t1, t2, t6, t9, t10⟩ := id hE
    by_cases hlt : n < x.l.length
    · rcases hown with ⟨he, rfl⟩ | ⟨ko, rfl, hko⟩
      · rw [he] at hlt; simp at hlt
      obtain ⟨cs, hcs, hcl, hch⟩ := hF.ch.parts.own ko _ hko
      have hget : x.l[n]? = some x.l[n] := by simp [hlt]
      obtain ⟨kp', hc1, hc2⟩ := hch n _ hget
      have hidx := fun ρ : St => indexR_nat (σ := ρ) (k := ko) (off := 0) (s := 1) (cs := cs) hlt
      have e0 : 0 + n * 1 = n := by omega
      simp only [e0] at hidx
      simp only [go_sem, ↓reduceIte, Int.reduceEq, Nat.reduceBEq, Int.reduceBEq, Nat.reduceAdd, Nat.reduceEqDiff, Nat.reduceLT, Nat.reduceSub, Int.reduceToNat, Nat.mul_one, Nat.zero_mul, Nat.zero_add, Nat.add_zero, Nat.one_mul, t0, t1, t2, t9, t10, t37, t38, t39, dec_lt' hlt, hcs, hidx, hc1, g10]
      obtain ⟨P', τ', S, hcall, hP', hFr, hn'⟩ := from_call (σ := τ) h99 h71 h98 hl hc2 (P := P) (fun j hj => ((hP j).1 hj).len hi) (fun k hk => hS n hlt k ((hP k).1 hk)) hF.ch
      refine ⟨_, _, _, hcall, ?_⟩
      have g10' : τ'.get (σ.n + 3) = .cells (plC P) := by rw [hFr.keep (by omega) (by omega)]; exact g10
      simp only [go_sem, ↓reduceIte, Int.reduceEq, Nat.reduceBEq, Int.reduceBEq, Nat.reduceAdd, Nat.reduceEqDiff, Nat.reduceLT, Nat.reduceSub, Int.reduceToNat, Nat.mul_one, Nat.zero_mul, Nat.zero_add, Nat.add_zero, Nat.one_mul, plA, g10', lz3, List.append_nil, t39, wrap_succ' hlt hlen]
      refine ih _ _ _ _ (by omega) ⟨n + 1, P', rfl, hlt, fun j => ?_, ((hE.call hlo hFr hn').out hlo).tmv ?_ ?_ ?_ ?_ ?_ ?_, by rw [St.get_set_eq]; rfl, ?_, ?_, ?_⟩
      all_goals first | (simp only [go_sem, ↓reduceIte, Int.reduceEq, Nat.reduceBEq, Int.reduceBEq, Nat.reduceAdd, Nat.reduceEqDiff, Nat.reduceLT, Nat.reduceSub]; done) | (simp only [go_sem, ↓reduceIte, Int.reduceEq, Nat.reduceBEq, Int.reduceBEq, Nat.reduceAdd, Nat.reduceEqDiff, Nat.reduceLT, Nat.reduceSub, t37, t38]; done) | skip
      rw [hP' j, List.take_succ_eq_append_getElem hlt]
      constructor
      · rintro ⟨k, q1, q2⟩
        exact DerL.append ((hP k).1 q1) (DerL.one.2 q2)
      · intro h
        obtain ⟨k, q1, q2⟩ := DerL.split h
        exact ⟨k, (hP k).2 q1, DerL.one.1 q2⟩
    · rw [IsEndL, List.take_of_length_le (by omega)] at hP
      simp only [go_sem, ↓reduceIte, Int.reduceEq, Nat.reduceBEq, Int.reduceBEq, Nat.reduceAdd, Nat.reduceEqDiff, Nat.reduceLT, Nat.reduceSub, Int.reduceToNat, Nat.mul_one, Nat.zero_mul, Nat.zero_add, Nat.add_zero, Nat.one_mul, t37, t38, t39, dec_ge' hlt]
      refine rest _ _ _ P (hE.tmv ?_ ?_ ?_ ?_ ?_ ?_) (fun j => ?_) g10
      all_goals first | (simp only [go_sem, ↓reduceIte, Int.reduceEq, Nat.reduceBEq, Int.reduceBEq, Nat.reduceAdd, Nat.reduceEqDiff, Nat.reduceLT, Nat.reduceSub]; done) | skip
      rw [der_s ks]; exact hP j
  · rw [bit_pow, List.take_zero]
    constructor
    · rintro rfl; exact .nil
    · intro h; unfold DerL at h; cases h; rfl
end
set_option maxHeartbeats 4000000 in
theorem end_walk (h70 : fz 51 = .cut) (h97 : fz 78 = .cut) {bs : List Ex} {l : List Int} {T : Nat → Rl} {kc lo : Nat} {x : Ex} {i : Nat} (hi : i ≤ l.length) (hl : l.length ≤ 64) (hsw : ∀ (σ : St) (kp : Nat), T kp = .part x → lo ≤ σ.n → SwOk fz bs l T kc lo σ kp i x) :
    EndSpec fz bs l T kc lo x i := by
  intro kp σ hp hC
  refine end_fin h70 hC ?_
  have rest := fun tm τ W P P0 => end_tail (x := x) (bs := bs) (kc := kc) (l := l) (σ := σ) h70 hi hC.n hp tm τ W P P0
  have sw := hsw σ kp hp hC.n
  unfold SwOk at sw
  have hbody : Try.f51.body.getD .skip = .seq (Code.l (Try.f51.body.getD .skip)) (.seq (Code.l (Code.r (Try.f51.body.getD .skip))) (.seq (Code.l (Code.r (Code.r (Try.f51.body.getD .skip)))) (.seq (Code.l (Code.r (Code.r (Code.r (Try.f51.body.getD .skip))))) (.seq (Code.l (Code.r (Code.r (Code.r (Code.r (Try.f51.body.getD .skip)))))) (Code.r (Code.r (Code.r (Code.r (Code.r (Try.f51.body.getD .skip)))))))))) := rfl
  rw [hbody]
  generalize Code.r (Code.r (Code.r (Code.r (Code.r (Try.f51.body.getD .skip))))) = B at rest
  generalize Code.l (Code.r (Code.r (Code.r (Code.r (Try.f51.body.getD .skip))))) = SW at sw
  simp only [Code.l, Code.r, Try.f51, Option.getD_some]
  obtain ⟨own, km, hk, hkm, hown⟩ := hC.parts.part kp x hp
  obtain ⟨M, hM, hMf⟩ := hC.parts.map km x hkm
  have lkp := hC.plt kp (by rw [hp]; simp)
  have lkm := hC.plt km (by rw [hkm]; simp)
  have hlo := hC.n
  have m1 : kp ≠ σ.n := by omega
  have m2 : km ≠ σ.n := by omega
  rcases find_ME (fz := fz) (σ := σ.push (Blk.cells [A.d (D.int IntKind.u64 0), A.d (D.int IntKind.u64 0)])) (i := i) M 0 with ⟨n, P, h1, h2⟩ | h2
  · have hf := hMf _ (List.mem_of_getElem? h1)
    have hc : (plA P) = .agg (plC P) := rfl
    rw [hc] at h2
    have lz0 : low σ.n [σ.n] = [] := low_n0
    have lz1 : low σ.n [σ.n + 1] = [] := by rw [low_cons_ge (by omega)]; rfl
    simp only [go_sem, ↓reduceIte, Int.reduceEq, Nat.reduceBEq, Int.reduceBEq, Nat.reduceAdd, Nat.reduceEqDiff, Nat.reduceLT, Nat.reduceSub, Int.reduceToNat, Nat.mul_one, Nat.zero_mul, Nat.zero_add, Nat.add_zero, Nat.one_mul, hk, hM, m1, m2, h2, key_int, lz0, lz1]
    exact ⟨P, rfl, hf.2, ((((Fr.init hC).push).push).set hlo (by omega)).set hlo (Nat.le_refl _)⟩
  · have lz0 : low σ.n [σ.n] = [] := low_n0
    have lz1 : low σ.n [σ.n + 1] = [] := by rw [low_cons_ge (by omega)]; rfl
    simp only [go_sem, ↓reduceIte, Int.reduceEq, Nat.reduceBEq, Int.reduceBEq, Nat.reduceAdd, Nat.reduceEqDiff, Nat.reduceLT, Nat.reduceSub, Int.reduceToNat, Nat.mul_one, Nat.zero_mul, Nat.zero_add, Nat.add_zero, Nat.one_mul, hk, hM, m1, m2, h2, key_int, lz0, lz1]
    generalize hτ1 : ((((σ.push (Blk.cells [A.d (D.int IntKind.u64 0), A.d (D.int IntKind.u64 0)])).push (Blk.cells [A.d (D.int IntKind.u64 0), A.d (D.int IntKind.u64 0)])).set (σ.n + 1) (Blk.cells [A.d (D.int IntKind.u64 0), A.d (D.int IntKind.u64 0)])).push (Blk.cells [A.d (D.int IntKind.u64 0), A.d (D.int IntKind.u64 0)])).push (Blk.cells [A.d (D.int IntKind.u64 0), A.d (D.int IntKind.u64 0)]) = τ1
    have hF1 : Fr bs l T kc lo σ τ1 [] := by rw [← hτ1]; exact ((((Fr.init hC).push).push).set hlo (by omega)).push.push
    have hn1 : τ1.n = σ.n + 4 := by rw [← hτ1]; simp [St.n_set, St.n_push]
    have q0 : τ1.get σ.n = .cells (plC 0) := by rw [← hτ1]; simp only [go_sem, ↓reduceIte, Int.reduceEq, Nat.reduceBEq, Int.reduceBEq, Nat.reduceAdd, Nat.reduceEqDiff, Nat.reduceLT, Nat.reduceSub]; rfl
    have q2 : τ1.get (σ.n + 2) = .cells (plC 0) := by rw [← hτ1]; simp only [go_sem, ↓reduceIte, Int.reduceEq, Nat.reduceBEq, Int.reduceBEq, Nat.reduceAdd, Nat.reduceEqDiff, Nat.reduceLT, Nat.reduceSub]; rfl
    have q3 : τ1.get (σ.n + 3) = .cells (plC 0) := by rw [← hτ1]; simp only [go_sem, ↓reduceIte, Int.reduceEq, Nat.reduceBEq, Int.reduceBEq, Nat.reduceAdd, Nat.reduceEqDiff, Nat.reduceLT, Nat.reduceSub]; rfl
    obtain ⟨S, hcall, hS⟩ := add_call (fz := fz) h97 (P := 0) (i := i) (k := σ.n + 2) (by decide) (by omega) q2 (by omega)
    refine ⟨_, _, _, hcall, ?_⟩
    have lzS : low σ.n S = [] := low_all fun k hk => by rw [hS k hk]; omega
    rw [lzS]
    rw [Nat.zero_or]
    refine sw B _ (fun tm τ W P hE hP g10 => rest tm τ W P 0 hE.fr hE.n hP hE.g6 g10 hE.t1 hE.t2 hE.t6 hE.t10) _ _ _ ⟨hF1.set hlo (by omega), by rw [St.n_set]; omega, by rw [St.get_set_ne (by omega)]; exact q0, by rw [St.get_set_eq], ?_, ?_, ?_, ?_, ?_, ?_⟩ (by rw [St.get_set_ne (by omega)]; exact q3)
    all_goals (simp only [go_sem, ↓reduceIte, Int.reduceEq, Nat.reduceBEq, Int.reduceBEq, Nat.reduceAdd, Nat.reduceEqDiff, Nat.reduceLT, Nat.reduceSub]; done)
structure Ranked (bs : List Ex) (q : Int → Bool) (t : Int) (rk : Nat → Nat) (R : Nat) : Prop where
  ok : ∀ y ∈ bs, okE t bs.length y
  small : ∀ y ∈ bs, SmallE y
  cl : ∀ (n : Int) (y : Ex), 0 ≤ n → bs[n.toNat]? = some y → canE false q y = true → q n = true
  rank : ∀ n y, bs[n]? = some y → ∀ m, Beg q y m → rk m < rk n
  top : ∀ n, rk n < R
theorem end_spec (h70 : fz 51 = .cut) (h71 : fz 52 = .cut) (h97 : fz 78 = .cut) (h98 : fz 79 = .cut) (h99 : fz 80 = .cut) {bs : List Ex} {l : List Int} {T : Nat → Rl} {kc lo : Nat} {q : Int → Bool} {t : Int} {rk : Nat → Nat} {R : Nat} (hR : Ranked bs q t rk R) (hl : l.length ≤ 64)
    (x : Ex) (hx : SmallE x) (hok : okE t bs.length x) (r : Nat) (hr : ∀ n, Beg q x n → rk n < r) (i : Nat) (hi : i ≤ l.length) : EndSpec fz bs l T kc lo x i := by
  refine end_walk h70 h97 hi hl fun σ kp hp hlo => ?_
  by_cases k1 : x.kind = 1
  · exact sw_1 h97 hp hi hl hlo k1
  by_cases k2 : x.kind = 2
  · obtain ⟨n, hn⟩ := Int.eq_ofNat_of_zero_le (hok.call k2).1
    have hlt := (hok.call k2).2
    rw [hn] at hlt
    have hlt' : n < bs.length := by omega
    have hy : bs[n]? = some bs[n] := by simp [hlt']
    have hb : Beg q x n := by have := Beg.call (q := q) k2; rw [hn] at this; exact this
    have hlt2 : rk n < r := hr n hb
    exact sw_2 hp hi hlo k2 n hn bs[n] hy (end_spec h70 h71 h97 h98 h99 hR hl bs[n] (hR.small _ (List.getElem_mem hlt')) (hR.ok _ (List.getElem_mem hlt')) (rk n) (hR.rank n _ hy) i hi)
  by_cases k4 : x.kind = 4
  · have hne : x.l ≠ [] := by
      have := hok.c
      intro e
      rw [show rightN t bs.length x.kind = some (1, 1, 512) by simp [rightN, k4]] at this
      rw [e] at this
      simp [rightC] at this
    exact sw_4 h98 hp hi hl hlo hx k4 hne fun y hy => end_spec h70 h71 h97 h98 h99 hR hl y (hx.sub hy) (hok.sub hy) r (fun n hn => hr n (.sub (by omega) hy hn)) i hi
  by_cases k5 : x.kind = 5
  · obtain ⟨y, hy⟩ := hok.star (.inl k5)
    have hy' : y ∈ x.l := by rw [hy]; simp
    refine sw_5 h71 h98 hp hi hl hlo k5 y hy fun n hin hnl => ?_
    by_cases e : n = i
    · subst e; exact end_spec h70 h71 h97 h98 h99 hR hl y (hx.sub hy') (hok.sub hy') r (fun n hn => hr n (.sub (by omega) hy' hn)) n hi
    · have hlt : l.length - n < l.length - i := by omega
      exact end_spec h70 h71 h97 h98 h99 hR hl y (hx.sub hy') (hok.sub hy') R (fun n _ => hR.top n) n hnl
  by_cases k6 : x.kind = 6
  · obtain ⟨y, hy⟩ := hok.star (.inr k6)
    have hy' : y ∈ x.l := by rw [hy]; simp
    exact sw_6 h98 hp hi hl hlo k6 y hy (end_spec h70 h71 h97 h98 h99 hR hl y (hx.sub hy') (hok.sub hy') r (fun n hn => hr n (.sub (by omega) hy' hn)) i hi)
  · refine sw_s h99 h71 h98 hp hi hl hlo hx ⟨k1, k2, k4, k5, k6⟩ fun n hn k hk => ?_
    have hy' : x.l[n] ∈ x.l := List.getElem_mem hn
    by_cases e : k = i
    · subst e
      have hnull := Dx.null (q := q) (t := t) (r := bs.length) hR.cl hR.ok hk rfl
      dsimp only at hnull
      have hpre : ∀ z ∈ x.l.take n, canE false q z = true := hnull fun z hz => hok.sub (List.mem_of_mem_take hz)
      have hsplit : x.l = x.l.take n ++ x.l[n] :: x.l.drop (n + 1) := by
        rw [← List.drop_eq_getElem_cons hn, List.take_append_drop]
      exact end_spec h70 h71 h97 h98 h99 hR hl x.l[n] (hx.sub hy') (hok.sub hy') r (fun m hm => hr m (.seq hsplit hpre hm)) k hi
    · have hle := hk.le
      have hkl := hk.len hi
      have hlt : l.length - k < l.length - i := by omega
      exact end_spec h70 h71 h97 h98 h99 hR hl x.l[n] (hx.sub hy') (hok.sub hy') R (fun n _ => hR.top n) k hkl
termination_by (l.length - i, r, SizeOf.sizeOf x)
decreasing_by
  all_goals first | exact Prod.Lex.right _ (Prod.Lex.left _ _ hlt2) | exact Prod.Lex.left _ _ hlt | (subst e; exact Prod.Lex.right _ (Prod.Lex.right _ (Ex.sub_lt hy'))) | exact Prod.Lex.right _ (Prod.Lex.right _ (Ex.sub_lt hy')) | exact Prod.Lex.right _ (Prod.Lex.right _ (Ex.sub_lt hy)) | skip
end Go.Am
namespace Go.Am
open Go Go.Proofs
variable {fz : Nat → Md}
theorem pass_fix (tok : Bool) : ∀ (l : List Ex) (i : Nat) (out : List Bool) (more : Bool), (growPass tok l i out more).2 = false → more = false ∧ (growPass tok l i out more).1 = out ∧ ∀ k x, l[k]? = some x → canE tok (qOf out) x = true → out.getD (i + k) false = true
  | [], _, _, _ => fun h => ⟨h, rfl, by simp⟩
  | x :: l, i, out, more => by
    intro h
    rw [growPass] at h ⊢
    split at h
    · have := (pass_fix tok l (i + 1) (out.set i true) true h).1
      cases this
    · rename_i hc
      rw [if_neg hc]
      obtain ⟨h1, h2, h3⟩ := pass_fix tok l (i + 1) out more h
      refine ⟨h1, h2, fun k y hk hy => ?_⟩
      cases k with
      | zero =>
        simp at hk; subst hk
        have hy' : canE tok (fun n => out.getD n.toNat false) x = true := hy
        rw [hy', Bool.and_true] at hc
        simpa using hc
      | succ k =>
        have := h3 k y (by simpa using hk) hy
        rw [show i + (k + 1) = i + 1 + k by omega]; exact this
theorem growF_fix (tok : Bool) (l : List Ex) : ∀ (n : Nat) (out : List Bool), out.count false < n → l.length ≤ out.length → (growPass tok l 0 (growF tok l n out) false).2 = false
  | 0, out, h, _ => by omega
  | n + 1, out, h, hl => by
    rw [growF]
    have hc := pass_count tok l 0 out false (by omega)
    split
    · rename_i h2
      have := hc.2 rfl h2
      exact growF_fix tok l n _ (by omega) (by rw [pass_len]; exact hl)
    · rename_i h2
      have h2' : (growPass tok l 0 out false).2 = false := by simpa using h2
      rw [(pass_fix tok l 0 out false h2').2.1]; exact h2'
theorem growsP_fix (tok : Bool) (l : List Ex) : (growPass tok l 0 (growsP tok l) false).2 = false := by
  unfold growsP
  refine growF_fix tok l _ _ ?_ (by simp)
  have := List.count_le_length (a := false) (l := List.replicate l.length false)
  rw [List.length_replicate] at this; omega
theorem growsP_closed (tok : Bool) (l : List Ex) {n : Nat} {x : Ex} (hn : l[n]? = some x) (h : canE tok (qOf (growsP tok l)) x = true) : (growsP tok l).getD n false = true := by
  have := (pass_fix tok l 0 _ false (growsP_fix tok l)).2.2 n x hn h
  rwa [Nat.zero_add] at this
section
variable (bs : List Ex) (q : Int → Bool)
def ClosedB (S : Nat → Prop) : Prop := ∀ n y m, S n → bs[n]? = some y → Beg q y m → S m
structure DF (s s' : List Bool) (D : Nat → Prop) : Prop where
  len : s'.length = s.length
  mono : ∀ j, s.getD j false = true → s'.getD j false = true
  direct : ∀ n, D n → s'.getD n false = true
  clos : ∀ n y m, s'.getD n false = true → s.getD n false = false → bs[n]? = some y → Beg q y m → s'.getD m false = true
  min : ∀ S : Nat → Prop, (∀ n, D n → S n) → ClosedB bs q S → ∀ n, s'.getD n false = true → s.getD n false = true ∨ S n
def BegL (k : Int) (l : List Ex) (n : Nat) : Prop := ∃ pre y post, l = pre ++ y :: post ∧ (k = 3 → ∀ z ∈ pre, canE false q z = true) ∧ Beg q y n
end
section
variable {bs : List Ex} {q : Int → Bool}
theorem beg_iff {x : Ex} {n : Nat} : Beg q x n ↔ (x.kind = 2 ∧ n = x.num.toNat) ∨ BegL q x.kind x.l n := by
  constructor
  · intro h
    cases h with
    | call h => exact .inl ⟨h, rfl⟩
    | sub h1 h2 h3 =>
      obtain ⟨pre, post, e⟩ := List.append_of_mem h2
      exact .inr ⟨pre, _, post, e, fun e => absurd e h1, h3⟩
    | seq h1 h2 h3 => exact .inr ⟨_, _, _, h1, fun _ => h2, h3⟩
  · rintro (⟨h, rfl⟩ | ⟨pre, y, post, e, h, hb⟩)
    · exact .call h
    · by_cases k : x.kind = 3
      · exact .seq e (h k) hb
      · exact .sub k (by rw [e]; simp) hb
theorem DF.refl {s : List Bool} {D : Nat → Prop} (h : ∀ n, D n → s.getD n false = true) : DF bs q s s D :=
  ⟨rfl, fun _ h => h, h, (fun n y m h1 h2 _ _ => by rw [h1] at h2; cases h2), fun _ _ _ n h => Or.inl h⟩
theorem DF.comp {s s' s'' : List Bool} {D1 D2 D : Nat → Prop} (h1 : DF bs q s s' D1) (h2 : DF bs q s' s'' D2) (hD : ∀ n, D n ↔ D1 n ∨ D2 n) : DF bs q s s'' D where
  len := h2.len.trans h1.len
  mono j h := h2.mono j (h1.mono j h)
  direct n h := by
    rcases (hD n).1 h with h | h
    · exact h2.mono n (h1.direct n h)
    · exact h2.direct n h
  clos n y m a b c d := by
    cases e : s'.getD n false with
    | true => exact h2.mono m (h1.clos n y m e b c d)
    | false => exact h2.clos n y m a e c d
  min S hS hC n h := by
    rcases h2.min S (fun n h => hS n ((hD n).2 (.inr h))) hC n h with h | h
    · exact h1.min S (fun n h => hS n ((hD n).2 (.inl h))) hC n h
    · exact .inr h
theorem getD_set {s : List Bool} {n j : Nat} (hn : n < s.length) : (s.set n true).getD j false = if j = n then true else s.getD j false := by
  rw [List.getD_eq_getElem?_getD, List.getD_eq_getElem?_getD, List.getElem?_set]
  by_cases e : n = j
  · subst e; simp [hn]
  · rw [if_neg e, if_neg (fun h => e h.symm)]
theorem DF.step {s s' : List Bool} {n : Nat} {y : Ex} (hn : n < s.length) (hs : s.getD n false = false) (hy : bs[n]? = some y) (h : DF bs q (s.set n true) s' (Beg q y)) : DF bs q s s' (· = n) where
  len := by rw [h.len]; simp
  mono j hj := h.mono j (by rw [getD_set hn]; split <;> simp_all)
  direct j hj := by subst hj; exact h.mono _ (by rw [getD_set hn, if_pos rfl])
  clos j z m a b c d := by
    by_cases e : j = n
    · subst e; rw [hy] at c; cases c; exact h.direct m d
    · exact h.clos j z m a (by rw [getD_set hn, if_neg e]; exact b) c d
  min S hS hC j hj := by
    rcases h.min S (fun m hm => hC n y m (hS n rfl) hy hm) hC j hj with h | h
    · rw [getD_set hn] at h
      split at h
      · rename_i e; exact .inr (hS j e)
      · exact .inl h
    · exact .inr h
mutual
theorem firstE_df {t : Int} (hok : ∀ y ∈ bs, okE t bs.length y) (f : Nat) (go : Nat → List Bool → List Bool) (hgo : ∀ n y s, bs[n]? = some y → s.length = bs.length → s.count false < f → DF bs q s (go n s) (Beg q y)) (hles : ∀ n s, Les s (go n s)) :
    ∀ (x : Ex) (s : List Bool), okE t bs.length x → s.length = bs.length → s.count false ≤ f → DF bs q s (firstE go q x s) (Beg q x)
  | .mk k n z l, s, ho, hs, hf => by
    rw [firstE]
    have hsub : ∀ y ∈ l, okE t bs.length y := fun y hy => ho.sub (x := .mk k n z l) hy
    by_cases hc : k = 2 ∧ s.getD n.toNat false = false
    · rw [if_pos hc]
      obtain ⟨i, hi⟩ := Int.eq_ofNat_of_zero_le (ho.call (x := .mk k n z l) hc.1).1
      have hlt := (ho.call (x := .mk k n z l) hc.1).2
      simp only [Ex.num] at hi hlt
      subst hi
      have hlt' : i < bs.length := by omega
      have hs0 : s.getD i false = false := by simpa using hc.2
      have hcs := count_set (out := s) (i := i) (by omega) hs0
      have h1 := hgo i bs[i] (s.set i true) (by simp [hlt']) (by simpa using hs) (by omega)
      have h2 := h1.step (n := i) (by omega) hs0 (by simp [hlt'])
      have hl2 := hles i (s.set i true)
      have h3 := firstL_df hok f go hgo hles k l (go i (s.set i true)) hsub (by rw [hl2.1]; simpa using hs) (by have := hl2.2; omega)
      simp only [Int.toNat_natCast]
      refine h2.comp h3 fun m => ?_
      rw [beg_iff]
      simp only [Ex.kind, Ex.num, Ex.l, hc.1, true_and, Int.toNat_natCast]
    · rw [if_neg hc]
      have h3 := firstL_df hok f go hgo hles k l s hsub hs hf
      have h0 : DF bs q s s (fun m => k = 2 ∧ m = n.toNat) := DF.refl fun m hm => by
        rw [hm.2]
        cases e : s.getD n.toNat false with
        | true => rfl
        | false => exact absurd ⟨hm.1, e⟩ hc
      exact h0.comp h3 fun m => by rw [beg_iff]; rfl
theorem firstL_df {t : Int} (hok : ∀ y ∈ bs, okE t bs.length y) (f : Nat) (go : Nat → List Bool → List Bool) (hgo : ∀ n y s, bs[n]? = some y → s.length = bs.length → s.count false < f → DF bs q s (go n s) (Beg q y)) (hles : ∀ n s, Les s (go n s)) (k : Int) :
    ∀ (l : List Ex) (s : List Bool), (∀ y ∈ l, okE t bs.length y) → s.length = bs.length → s.count false ≤ f → DF bs q s (firstL go q k l s) (BegL q k l)
  | [], s, _, _, _ => by
    rw [firstL]
    exact DF.refl fun n h => by obtain ⟨pre, y, post, e, -⟩ := h; cases pre <;> cases e
  | y :: l, s, ho, hs, hf => by
    rw [firstL]
    have h1 := firstE_df hok f go hgo hles y s (ho y (by simp)) hs hf
    split
    · rename_i hc
      refine h1.comp (D2 := fun _ => False) (DF.refl fun _ h => h.elim) fun n => ?_
      simp only [or_false]
      constructor
      · rintro ⟨pre, z, post, e, hp, hb⟩
        cases pre with
        | nil => cases e; exact hb
        | cons a pre =>
          simp at e
          have := hp hc.1 a (by simp)
          rw [← e.1, hc.2] at this; cases this
      · intro h; exact ⟨[], y, l, rfl, by simp, h⟩
    · rename_i hc
      have hl1 := firstE_les hles (q := q) y s
      have h2 := firstL_df hok f go hgo hles k l (firstE go q y s) (fun z hz => ho z (by simp [hz])) (by rw [hl1.1]; exact hs) (by have := hl1.2; omega)
      refine h1.comp h2 fun n => ?_
      constructor
      · rintro ⟨pre, z, post, e, hp, hb⟩
        cases pre with
        | nil => cases e; exact .inl hb
        | cons a pre =>
          simp at e
          obtain ⟨rfl, rfl⟩ := e
          exact .inr ⟨pre, z, post, rfl, fun hk w hw => hp hk w (by simp [hw]), hb⟩
      · rintro (h | ⟨pre, z, post, rfl, hp, hb⟩)
        · exact ⟨[], y, l, rfl, by simp, h⟩
        · refine ⟨y :: pre, z, post, rfl, fun hk w hw => ?_, hb⟩
          rcases List.mem_cons.1 hw with rfl | hw
          · cases e : canE false q w with
            | true => rfl
            | false => exact absurd ⟨hk, e⟩ hc
          · exact hp hk w hw
end
theorem goF_df {t : Int} (hok : ∀ y ∈ bs, okE t bs.length y) : ∀ (f n : Nat) (y : Ex) (s : List Bool), bs[n]? = some y → s.length = bs.length → s.count false < f → DF bs q s (goF bs q f n s) (Beg q y)
  | 0, _, _, _, _, _, h => by omega
  | f + 1, n, y, s, hy, hs, h => by
    rw [goF, hy]; dsimp only
    exact firstE_df hok f (goF bs q f) (goF_df hok f) (goF_les bs q f) y s (hok y (List.mem_of_getElem? hy)) hs (by omega)
def begs (bs : List Ex) (q : Int → Bool) (x : Ex) : List Bool := firstE (goF bs q bs.length) q x (List.replicate bs.length false)
theorem begs_df {t : Int} (hok : ∀ y ∈ bs, okE t bs.length y) {x : Ex} (hx : okE t bs.length x) : DF bs q (List.replicate bs.length false) (begs bs q x) (Beg q x) := by
  refine firstE_df hok bs.length _ (goF_df hok _) (goF_les bs q _) x _ hx (by simp) ?_
  have := List.count_le_length (a := false) (l := List.replicate bs.length false)
  rw [List.length_replicate] at this; exact this
theorem rep_getD {m j : Nat} : (List.replicate m false).getD j false = false := by
  rw [List.getD_eq_getElem?_getD, List.getElem?_replicate]; split <;> rfl
theorem countT_lt : ∀ {s s' : List Bool} {m : Nat}, s'.length = s.length → (∀ j, s.getD j false = true → s'.getD j false = true) → s'.getD m false = true → s.getD m false = false → s.count true < s'.count true := by
  have hle : ∀ {s s' : List Bool}, s'.length = s.length → (∀ j, s.getD j false = true → s'.getD j false = true) → s.count true ≤ s'.count true := by
    intro s
    induction s with
    | nil => intro s' _ _; simp
    | cons b s ih =>
      intro s' hl h
      cases s' with
      | nil => simp at hl
      | cons b' s' =>
        have h0 := h 0
        have := ih (by simpa using hl) fun j hj => by simpa using h (j + 1) (by simpa using hj)
        cases b <;> cases b' <;> simp_all <;> omega
  intro s
  induction s with
  | nil => intro s' m hl _ h1; cases s' with | nil => simp at h1 | cons _ _ => simp at hl
  | cons b s ih =>
    intro s' m hl h h1 h2
    cases s' with
    | nil => simp at hl
    | cons b' s' =>
      have hl' : s'.length = s.length := by simpa using hl
      have ht : ∀ j, s.getD j false = true → s'.getD j false = true := fun j hj => by simpa using h (j + 1) (by simpa using hj)
      have h0 := h 0
      cases m with
      | zero =>
        simp at h1 h2; subst h1 h2
        have := hle hl' ht
        simp; omega
      | succ m =>
        have := ih hl' ht (by simpa using h1) (by simpa using h2)
        cases b <;> cases b' <;> simp_all <;> omega
theorem beg_lt {t : Int} {r : Nat} {x : Ex} {n : Nat} (h : Beg q x n) (ho : okE t r x) : n < r := by
  induction h with
  | call k => have := ho.call k; omega
  | sub _ hy _ ih => exact ih (ho.sub hy)
  | seq e _ _ ih => exact ih (ho.sub (by rw [e]; simp))
theorem leftL_iff {i : Nat} {l : List Ex} : leftL bs q i l = false ↔ ∀ k x, l[k]? = some x → (begs bs q x).getD (i + k) false = false := by
  induction l generalizing i with
  | nil => simp [leftL]
  | cons x l ih =>
    rw [leftL, Bool.or_eq_false_iff, ih]
    constructor
    · rintro ⟨h1, h2⟩ k y hk
      cases k with
      | zero => simp at hk; subst hk; exact h1
      | succ k => rw [show i + (k + 1) = i + 1 + k by omega]; exact h2 k y (by simpa using hk)
    · intro h
      refine ⟨h 0 x rfl, fun k y hk => ?_⟩
      rw [show i + 1 + k = i + (k + 1) by omega]
      exact h (k + 1) y (by simpa using hk)
def rkOf (bs : List Ex) (q : Int → Bool) (n : Nat) : Nat := match bs[n]? with
  | some y => (begs bs q y).count true
  | none => 0
theorem rank_of {t : Int} (hok : ∀ y ∈ bs, okE t bs.length y) (hl : leftL bs q 0 bs = false) {n : Nat} {y : Ex} (hy : bs[n]? = some y) {m : Nat} (hb : Beg q y m) : rkOf bs q m < rkOf bs q n := by
  have hoy := hok y (List.mem_of_getElem? hy)
  have hm := beg_lt hb hoy
  have hz : bs[m]? = some bs[m] := by simp [hm]
  have hoz := hok _ (List.getElem_mem hm)
  have d1 := begs_df (q := q) hok hoy
  have d2 := begs_df (q := q) hok hoz
  unfold rkOf
  rw [hy, hz]; dsimp only
  have hcl : ClosedB bs q fun k => (begs bs q y).getD k false = true := fun a b c h1 h2 h3 => d1.clos a b c h1 rep_getD h2 h3
  refine countT_lt (m := m) (by rw [d1.len, d2.len]) (fun j hj => ?_) (d1.direct m hb) ?_
  · rcases d2.min (fun k => (begs bs q y).getD k false = true) (fun k hk => hcl m _ k (d1.direct m hb) hz hk) hcl j hj with h | h
    · rw [rep_getD] at h; cases h
    · exact h
  · have := leftL_iff.1 hl m _ hz
    rwa [Nat.zero_add] at this
theorem ranked_of {t : Int} (hok : ∀ y ∈ bs, okE t bs.length y) (hs : ∀ y ∈ bs, SmallE y) (hl : leftL bs (qOf (growsP false bs)) 0 bs = false) : Ranked bs (qOf (growsP false bs)) t (rkOf bs (qOf (growsP false bs))) (bs.length + 1) where
  ok := hok
  small := hs
  cl n y h0 h1 h2 := growsP_closed false bs h1 h2
  rank n y hy m hb := rank_of hok hl hy hb
  top n := by
    unfold rkOf
    split
    · rename_i y hy
      have := List.count_le_length (a := true) (l := begs bs (qOf (growsP false bs)) y)
      rw [(begs_df (q := qOf (growsP false bs)) hok (hok y (List.mem_of_getElem? hy))).len, List.length_replicate] at this
      omega
    · omega
end
theorem Ranked.of_check {g : Gr} (hs : SmallG g) (h : checkP g = 0) : Ranked g.bodies (qOf g.null) g.tokens (rkOf g.bodies (qOf g.null)) (g.bodies.length + 1) ∧ 0 < g.rules.length ∧ g.rules.length ≤ 32 := by
  have hbl : g.bodies.length = g.rules.length := by rw [Gr.bodies, List.length_map]
  unfold checkP at h
  split at h
  · omega
  rename_i h1
  split at h
  · omega
  split at h
  · omega
  rename_i h3
  split at h
  · omega
  rename_i h4
  have h4' : g.bodies.all (rightE g.tokens g.rules.length) = true := by simpa using h4
  rw [List.all_eq_true] at h4'
  unfold check2P at h
  split at h
  · omega
  split at h
  · omega
  rename_i h6
  refine ⟨ranked_of (fun y hy => by rw [hbl]; exact h4' y hy) (fun y hy => ?_) (by have := h6; simp only [Bool.not_eq_true] at this; exact this), ?_, ?_⟩
  · obtain ⟨r, hr, rfl⟩ := List.mem_map.1 hy
    exact hs r hr
  · cases e : g.rules with
    | nil => simp [e] at h3
    | cons a r => simp
  · simp at h1; omega
end Go.Am
namespace Go.Am
open Go Go.Proofs
variable {fz : Nat → Md}
open Classical in
noncomputable def derB (bs : List Ex) (l : List Int) (x : Ex) (i j : Nat) : Bool := decide (Der bs l x i j)
theorem derB_iff {bs : List Ex} {l : List Int} {x : Ex} {i j : Nat} : derB bs l x i j = true ↔ Der bs l x i j := by unfold derB; simp
def derE (g : Gr) (rule : Int) (l : List Int) : Int :=
  if (checkP g != 0) = true then checkP g else if (decide (rule < 0) || decide (rule ≥ (g.rules.length : Int))) = true then 9 else if decide ((l.length : Int) > 64) = true then 5 else 0
noncomputable def derV (g : Gr) (rule : Int) (l : List Int) : Bool :=
  if (checkP g != 0) = true then false else if (decide (rule < 0) || decide (rule ≥ (g.rules.length : Int))) = true then false else if decide ((l.length : Int) > 64) = true then false else
  derB g.bodies l (g.bodies.getD rule.toNat (.mk 0 0 true [])) 0 l.length
structure Fz20 (fz : Nat → Md) : Prop where
  h31 : fz 17 = .cut
  h35 : fz 11 = .cut
  h69 : fz 50 = .keep
  h70 : fz 51 = .cut
  h71 : fz 52 = .cut
  h75 : fz 29 = .cut
  h76 : fz 30 = .cut
  h77 : fz 31 = .ice
  h78 : fz 32 = .cut
  h79 : fz 33 = .cut
  h80 : fz 34 = .cut
  h81 : fz 35 = .cut
  h82 : fz 36 = .cut
  h83 : fz 37 = .cut
  h84 : fz 38 = .cut
  h85 : fz 39 = .cut
  h86 : fz 40 = .cut
  h97 : fz 78 = .cut
  h98 : fz 79 = .cut
  h99 : fz 80 = .cut
  h102 : fz 66 = .cut
  h103 : fz 67 = .cut
  h104 : fz 68 = .cut
  h105 : fz 69 = .cut
  h106 : fz 70 = .cut
  h107 : fz 71 = .cut
  h108 : fz 72 = .cut
theorem check_c (hz : Fz20 fz) (g : Gr) (hg : SmallG g) (σ : St) : CallsTo (XX fz) (.func 11 []) [g.a] σ (.d (.int .i64 (checkP g))) σ [] :=
  check_call hz.h35 hz.h75 hz.h76 hz.h102 hz.h83 hz.h107 hz.h84 hz.h108 hz.h85 hz.h81 hz.h77 hz.h103 hz.h86 hz.h78 hz.h80 hz.h79 hz.h104 hz.h105 hz.h82 hz.h106 g hg σ
set_option maxHeartbeats 4000000 in
theorem derives_call (hz : Fz20 fz) (g : Gr) (hg : SmallG g) (rule : Int) (tk : A) (l : List Int) (hll : l.length < 1000000000) (σ : St) (htk : TokAt σ tk l) :
    CallsTo (XX fz) (.func 17 []) [g.a, .d (.int .i64 rule), tk] σ (.tup [.d (.bool (derV g rule l)), .d (.int .i64 (derE g rule l))]) σ [] := by
  refine CallsTo.cut0 hz.h31 fn17 (by simp) rfl ?_
  simp only [Try.f17, Option.getD_some]
  simp only [go_sem, ↓reduceIte, Int.reduceEq, Nat.reduceBEq, Int.reduceBEq, Int.reduceBNe, Int.reduceLT, Int.reduceLE, Nat.reduceAdd, Nat.reducePow, Nat.reduceEqDiff, Nat.reduceLT, Nat.reduceLeDiff, Nat.reduceMul, Nat.reduceSub, Int.reduceToNat, Nat.mul_one, Nat.zero_mul, Nat.zero_add, Nat.add_zero, Nat.one_mul, Gr.a]
  refine ⟨_, _, _, check_c hz g hg _, ?_⟩
  unfold derV derE
  cases hc : (checkP g != 0) with
  | true => simp only [go_sem, ↓reduceIte, Int.reduceEq, Nat.reduceBEq, Int.reduceBEq, Int.reduceBNe, Int.reduceLT, Int.reduceLE, Nat.reduceAdd, Nat.reducePow, Nat.reduceEqDiff, Nat.reduceLT, Nat.reduceLeDiff, Nat.reduceMul, Nat.reduceSub, Int.reduceToNat, Nat.mul_one, Nat.zero_mul, Nat.zero_add, Nat.add_zero, Nat.one_mul, hc]
  | false =>
    have hc0 : checkP g = 0 := by simpa using hc
    obtain ⟨hR, hpos, h32⟩ := Ranked.of_check hg hc0
    cases h0 : decide (rule < 0) with
    | true => simp only [go_sem, ↓reduceIte, Int.reduceEq, Nat.reduceBEq, Int.reduceBEq, Int.reduceBNe, Int.reduceLT, Int.reduceLE, Nat.reduceAdd, Nat.reducePow, Nat.reduceEqDiff, Nat.reduceLT, Nat.reduceLeDiff, Nat.reduceMul, Nat.reduceSub, Int.reduceToNat, Nat.mul_one, Nat.zero_mul, Nat.zero_add, Nat.add_zero, Nat.one_mul, hc, h0, Bool.true_or]
    | false =>
      cases h1 : decide (rule ≥ (g.rules.length : Int)) with
      | true => simp only [go_sem, ↓reduceIte, Int.reduceEq, Nat.reduceBEq, Int.reduceBEq, Int.reduceBNe, Int.reduceLT, Int.reduceLE, Nat.reduceAdd, Nat.reducePow, Nat.reduceEqDiff, Nat.reduceLT, Nat.reduceLeDiff, Nat.reduceMul, Nat.reduceSub, Int.reduceToNat, Nat.mul_one, Nat.zero_mul, Nat.zero_add, Nat.add_zero, Nat.one_mul, hc, h0, h1, Bool.or_true]
      | false =>
        have htl : sliceLen (σ.push (Blk.cells g.c)) tk = some l.length := (htk.stay (by simp only [St.n_push]; omega) fun k hk _ => St.get_push_ne hk).len
        cases h2 : decide ((l.length : Int) > 64) with
        | true => simp only [go_sem, ↓reduceIte, Int.reduceEq, Nat.reduceBEq, Int.reduceBEq, Int.reduceBNe, Int.reduceLT, Int.reduceLE, Nat.reduceAdd, Nat.reducePow, Nat.reduceEqDiff, Nat.reduceLT, Nat.reduceLeDiff, Nat.reduceMul, Nat.reduceSub, Int.reduceToNat, Nat.mul_one, Nat.zero_mul, Nat.zero_add, Nat.add_zero, Nat.one_mul, hc, h0, h1, h2, htl, Bool.or_false]
        | false =>
          have hcell := htk.cell
          have hcells := htk.cells
          simp only [go_sem, ↓reduceIte, Int.reduceEq, Nat.reduceBEq, Int.reduceBEq, Int.reduceBNe, Int.reduceLT, Int.reduceLE, Nat.reduceAdd, Nat.reducePow, Nat.reduceEqDiff, Nat.reduceLT, Nat.reduceLeDiff, Nat.reduceMul, Nat.reduceSub, Int.reduceToNat, Nat.mul_one, Nat.zero_mul, Nat.zero_add, Nat.add_zero, Nat.one_mul, hc, h0, h1, h2, htl, hcell, hcells, Bool.or_false]
          have h0' : 0 ≤ rule := by simpa using h0
          have h1' : rule < (g.rules.length : Int) := by simpa using h1
          have hl : l.length ≤ 64 := by simp at h2; omega
          obtain ⟨rn, rfl⟩ := Int.eq_ofNat_of_zero_le h0'
          have hrn : rn < g.rules.length := by omega
          have hbl : g.bodies.length = g.rules.length := by rw [Gr.bodies, List.length_map]
          refine Ev.loop_ind (fun m tm τ W => ∃ (i : Nat) (T1 : Nat → Rl) (own : A), m = g.rules.length - i ∧ i ≤ g.rules.length ∧ W = [] ∧ σ.n + 2 ≤ τ.n ∧ (∀ j, j < σ.n → τ.get j = σ.get j) ∧ (∀ j, j < σ.n + 2 → T1 j = .no) ∧ Parts (Fact g.bodies l) τ T1 ∧ OwnAt T1 (σ.n + 2) τ own (g.bodies.take i) ∧
            τ.get σ.n = .cells g.c ∧ τ.get (σ.n + 1) = .cells [tk, own] ∧ tm.at 1 = .d (.int .i64 (rn : Int)) ∧ tm.at 2 = tk ∧
            tm.at 9 = .ptr (σ.n + 1) 0 ∧ tm.at 35 = g.rd ∧ tm.at 36 = .d (.int .i64 g.rules.length) ∧ tm.at 37 = .d (.int .i64 i)) ?_ g.rules.length _ _ _
            ⟨0, fun _ => .no, .d (.slc true []), rfl, by omega, rfl, by simp only [St.n_push]; omega, fun j hj => by rw [St.get_push_ne (by simp only [St.n_push]; omega), St.get_push_ne hj], fun _ _ => rfl, ⟨(fun k hk => absurd rfl hk), (fun k x hk => by cases hk), (fun k x hk => by cases hk), (fun k x hk => by cases hk)⟩, .inl ⟨by simp, rfl⟩, by rw [St.get_push_ne (by simp [St.n_push]), St.get_push_eq], St.get_push_eq' (by simp [St.n_push]), by simp only [go_sem, ↓reduceIte, Int.reduceEq, Nat.reduceBEq, Int.reduceBEq, Int.reduceBNe, Int.reduceLT, Int.reduceLE, Nat.reduceAdd, Nat.reducePow, Nat.reduceEqDiff, Nat.reduceLT, Nat.reduceLeDiff, Nat.reduceMul, Nat.reduceSub], by simp only [go_sem, ↓reduceIte, Int.reduceEq, Nat.reduceBEq, Int.reduceBEq, Int.reduceBNe, Int.reduceLT, Int.reduceLE, Nat.reduceAdd, Nat.reducePow, Nat.reduceEqDiff, Nat.reduceLT, Nat.reduceLeDiff, Nat.reduceMul, Nat.reduceSub], by simp only [go_sem, ↓reduceIte, Int.reduceEq, Nat.reduceBEq, Int.reduceBEq, Int.reduceBNe, Int.reduceLT, Int.reduceLE, Nat.reduceAdd, Nat.reducePow, Nat.reduceEqDiff, Nat.reduceLT, Nat.reduceLeDiff, Nat.reduceMul, Nat.reduceSub], by simp only [go_sem, ↓reduceIte, Int.reduceEq, Nat.reduceBEq, Int.reduceBEq, Int.reduceBNe, Int.reduceLT, Int.reduceLE, Nat.reduceAdd, Nat.reducePow, Nat.reduceEqDiff, Nat.reduceLT, Nat.reduceLeDiff, Nat.reduceMul, Nat.reduceSub], by simp only [go_sem, ↓reduceIte, Int.reduceEq, Nat.reduceBEq, Int.reduceBEq, Int.reduceBNe, Int.reduceLT, Int.reduceLE, Nat.reduceAdd, Nat.reducePow, Nat.reduceEqDiff, Nat.reduceLT, Nat.reduceLeDiff, Nat.reduceMul, Nat.reduceSub], by simp only [go_sem, ↓reduceIte, Int.reduceEq, Nat.reduceBEq, Int.reduceBEq, Int.reduceBNe, Int.reduceLT, Int.reduceLE, Nat.reduceAdd, Nat.reducePow, Nat.reduceEqDiff, Nat.reduceLT, Nat.reduceLeDiff, Nat.reduceMul, Nat.reduceSub]; rfl⟩
          rintro m tm τ W ⟨i, T1, own, rfl, hi, rfl, hn, hg1, hT, hP1, hO, g0, g1, t1, t2, t9, t35, t36, t37⟩ ih
          have hno : ∀ k, T1 k ≠ .no → σ.n + 2 ≤ k := fun k hk => by
            by_cases e : k < σ.n + 2
            · exact absurd (hT k e) hk
            · omega
          by_cases hlt : i < g.rules.length
          · have hget : g.rules[i]? = some g.rules[i] := by simp [hlt]
            have hmem : g.rules[i] ∈ g.rules := List.getElem_mem hlt
            have n1 : σ.n + 1 ≠ τ.n := by omega
            have lz0 : low σ.n [τ.n] = [] := by rw [low_cons_ge (by omega)]; rfl
            simp only [go_sem, ↓reduceIte, Int.reduceEq, Nat.reduceBEq, Int.reduceBEq, Int.reduceBNe, Int.reduceLT, Int.reduceLE, Nat.reduceAdd, Nat.reducePow, Nat.reduceEqDiff, Nat.reduceLT, Nat.reduceLeDiff, Nat.reduceMul, Nat.reduceSub, Int.reduceToNat, Nat.mul_one, Nat.zero_mul, Nat.zero_add, Nat.add_zero, Nat.one_mul, t9, t35, t36, t37, dec_lt' hlt, Gr.index_rd hget, g1, n1, lz0]
            generalize hτ2 : (τ.push (Blk.cells [A.d (D.str { data := { toList := [] } }), A.d (D.int IntKind.i64 0), A.d (D.int IntKind.i64 0), A.d (D.slc true [])])).set τ.n (Blk.cells g.rules[i].c) = τ2
            have hn2 : τ2.n = τ.n + 1 := by rw [← hτ2]; simp [St.n_set, St.n_push]
            have hg2 : ∀ j, j < τ.n → τ2.get j = τ.get j := fun j hj => by rw [← hτ2, St.get_set_ne (by omega), St.get_push_ne hj]
            have hP2 : Parts (Fact g.bodies l) τ2 T1 := hP1.mono (by omega) fun k hk => hg2 k (hP1.lt k hk)
            obtain ⟨a, τ3, hcall, kp, T3, rfl, hn3, hg3, hP3, hk3, hT3⟩ := partOf_call hz.h69 (Fact g.bodies l) g.rules[i].body τ2 T1 (hg _ hmem) hP2
            refine ⟨_, _, _, hcall, ?_⟩
            have hO3 : OwnAt T3 (σ.n + 2) τ3 own (g.bodies.take i) := hO.stay (by omega) (fun k hk => by have := hO.refs k hk; rw [hg3 k (by omega), hg2 k (by omega)]) (fun k hk => hT3 k (by omega)) (fun k hk => hP1.lt k hk)
            have r0 := hO.refs
            have hO4 : OwnAt T3 (σ.n + 2) (τ3.push (Blk.cells [A.ptr kp 0])) own (g.bodies.take i) := hO3.stay (by simp only [St.n_push]; omega) (fun k hk => St.get_push_ne (by have := r0 k hk; omega)) (fun _ _ => rfl) (fun k hk => hP3.lt k hk)
            obtain ⟨own', τ5, R, happ, hO5, hn5, hg5, hRr⟩ := hO4.app (k' := τ3.n) (kp := kp) (y := g.rules[i].body) St.get_push_eq hk3 (by simp only [St.n_push]; omega) (hP3.no (by simp only [St.n_push]; omega)) (fun j hj => by have := r0 j hj; omega) (by rw [List.length_take]; omega)
            simp only [St.n_push] at hn5 hg5
            have hg25 : τ5.get (σ.n + 1) = .cells [tk, own] := by
              rw [hg5 _ (by omega) (fun h => by have := r0 _ h; omega), St.get_push_ne (by omega), hg3 _ (by omega), hg2 _ (by omega)]; exact g1
            have hcell' := hO5.cell
            have hcells' := hO5.cells
            have cp : (A.ptr kp 0).cells = some [A.ptr kp 0] := rfl
            simp only [go_sem, ↓reduceIte, Int.reduceEq, Nat.reduceBEq, Int.reduceBEq, Int.reduceBNe, Int.reduceLT, Int.reduceLE, Nat.reduceAdd, Nat.reducePow, Nat.reduceEqDiff, Nat.reduceLT, Nat.reduceLeDiff, Nat.reduceMul, Nat.reduceSub, Int.reduceToNat, Nat.mul_one, Nat.zero_mul, Nat.zero_add, Nat.add_zero, Nat.one_mul, cp, happ, hg25, hcell, hcell', hcells', t9]
            refine ⟨drawOk_rel [9, 12] [(9, 0)] rfl (by kernel_rfl) rfl (by simp [meets]), ?_⟩
            have lzR : low σ.n R = [] := low_all fun k hk => by have := r0 k (hRr k hk); omega
            have lz1 : low σ.n [σ.n + 1] = [] := by rw [low_cons_ge (by omega)]; rfl
            simp only [go_sem, ↓reduceIte, Int.reduceEq, Nat.reduceBEq, Int.reduceBEq, Int.reduceBNe, Int.reduceLT, Int.reduceLE, Nat.reduceAdd, Nat.reducePow, Nat.reduceEqDiff, Nat.reduceLT, Nat.reduceLeDiff, Nat.reduceMul, Nat.reduceSub, Int.reduceToNat, Nat.mul_one, Nat.zero_mul, Nat.zero_add, Nat.add_zero, Nat.one_mul, t37, wrap_succ' hlt (by omega), lzR, lz1]
            have hold : ∀ k, k < τ3.n → k ∉ own.refs → k ≠ σ.n + 1 → (τ5.set (σ.n + 1) (Blk.cells [tk, own'])).get k = τ3.get k := fun k h1 h2 h3 => by
              rw [St.get_set_ne h3, hg5 _ (by omega) h2, St.get_push_ne h1]
            have hnr : ∀ k, k < σ.n + 2 → k ∉ own.refs := fun k hk h => by have := r0 k h; omega
            refine ih _ _ _ _ (by omega) ⟨i + 1, T3, own', rfl, hlt, rfl, by simp only [St.n_set]; omega, fun j hj => ?_, fun j hj => ?_, ?_, ?_, ?_, ?_, by simp only [go_sem, ↓reduceIte, Int.reduceEq, Nat.reduceBEq, Int.reduceBEq, Int.reduceBNe, Int.reduceLT, Int.reduceLE, Nat.reduceAdd, Nat.reducePow, Nat.reduceEqDiff, Nat.reduceLT, Nat.reduceLeDiff, Nat.reduceMul, Nat.reduceSub, t1], by simp only [go_sem, ↓reduceIte, Int.reduceEq, Nat.reduceBEq, Int.reduceBEq, Int.reduceBNe, Int.reduceLT, Int.reduceLE, Nat.reduceAdd, Nat.reducePow, Nat.reduceEqDiff, Nat.reduceLT, Nat.reduceLeDiff, Nat.reduceMul, Nat.reduceSub, t2], by simp only [go_sem, ↓reduceIte, Int.reduceEq, Nat.reduceBEq, Int.reduceBEq, Int.reduceBNe, Int.reduceLT, Int.reduceLE, Nat.reduceAdd, Nat.reducePow, Nat.reduceEqDiff, Nat.reduceLT, Nat.reduceLeDiff, Nat.reduceMul, Nat.reduceSub, t9], by simp only [go_sem, ↓reduceIte, Int.reduceEq, Nat.reduceBEq, Int.reduceBEq, Int.reduceBNe, Int.reduceLT, Int.reduceLE, Nat.reduceAdd, Nat.reducePow, Nat.reduceEqDiff, Nat.reduceLT, Nat.reduceLeDiff, Nat.reduceMul, Nat.reduceSub, t35], by simp only [go_sem, ↓reduceIte, Int.reduceEq, Nat.reduceBEq, Int.reduceBEq, Int.reduceBNe, Int.reduceLT, Int.reduceLE, Nat.reduceAdd, Nat.reducePow, Nat.reduceEqDiff, Nat.reduceLT, Nat.reduceLeDiff, Nat.reduceMul, Nat.reduceSub, t36], by simp only [go_sem, ↓reduceIte, Int.reduceEq, Nat.reduceBEq, Int.reduceBEq, Int.reduceBNe, Int.reduceLT, Int.reduceLE, Nat.reduceAdd, Nat.reducePow, Nat.reduceEqDiff, Nat.reduceLT, Nat.reduceLeDiff, Nat.reduceMul, Nat.reduceSub]⟩
            · rw [hold j (by omega) (hnr j (by omega)) (by omega), hg3 j (by omega), hg2 j (by omega)]; exact hg1 j hj
            · rw [hT3 j (by omega)]; exact hT j hj
            · refine hP3.mono (by simp only [St.n_set]; omega) fun k hk => hold k (hP3.lt k hk) (fun h => ?_) (fun h => ?_)
              · have := r0 k h
                exact hk (by rw [hT3 k (by omega)]; exact this.2.2)
              · subst h
                exact hk (by rw [hT3 _ (by omega)]; exact hT _ (by omega))
            · have hlb : i < g.bodies.length := by omega
              have hbi : g.bodies[i] = g.rules[i].body := by simp [Gr.bodies]
              rw [List.take_succ_eq_append_getElem hlb, hbi]
              exact hO5.stay (by simp only [St.n_set]; omega) (fun k hk => by have := hO5.refs k hk; rw [St.get_set_ne (by omega)]) (fun _ _ => rfl) (fun k hk => by have := hP3.lt k hk; omega)
            · rw [hold _ (by omega) (hnr _ (by omega)) (by omega), hg3 _ (by omega), hg2 _ (by omega)]; exact g0
            · rw [St.get_set_eq]
          · rw [List.take_of_length_le (by omega)] at hO
            rcases hO with ⟨he, -⟩ | ⟨ko, cs, rfl, q1, q2, q3, q4, q5, q6, q7⟩
            · have : g.bodies.length = 0 := by rw [he]; rfl
              omega
            have hTo : ∀ k, T1 k ≠ .no → (if k = ko then Rl.own g.bodies else T1 k) = T1 k := fun k hk => by rw [if_neg (fun e => hk (by rw [e]; exact q3))]
            have htk1 : TokAt τ tk l := htk.stay (by omega) fun k hk _ => hg1 k hk
            have hC : Chart g.bodies l (fun k => if k = ko then Rl.own g.bodies else T1 k) (σ.n + 1) τ.n τ := by
              refine ⟨Nat.le_refl _, ⟨fun k hk => ?_, fun k y hk => ?_, fun k ys hk => ?_, fun k y hk => ?_⟩, fun k hk => ?_, ?_, by omega, tk, ko, g1, by simp, htk1, fun k hk => ?_⟩
              · split at hk
                · omega
                · exact hP1.lt k hk
              · split at hk
                · cases hk
                · obtain ⟨own, km, u1, u2, u3⟩ := hP1.part k y hk
                  refine ⟨own, km, u1, by (try dsimp only); rw [hTo km (by rw [u2]; simp)]; exact u2, u3.imp id ?_⟩
                  rintro ⟨ko', u4, u5⟩
                  exact ⟨ko', u4, by (try dsimp only); rw [hTo ko' (by rw [u5]; simp)]; exact u5⟩
              · split at hk
                · rename_i e; cases hk; subst e
                  refine ⟨cs, q4, q5, fun i y hi => ?_⟩
                  obtain ⟨kp, u4, u5⟩ := q7 i y hi
                  exact ⟨kp, u4, by (try dsimp only); rw [hTo kp (by rw [u5]; simp)]; exact u5⟩
                · obtain ⟨cs', u1, u2, u3⟩ := hP1.own k ys hk
                  refine ⟨cs', u1, u2, fun i y hi => ?_⟩
                  obtain ⟨kp, u4, u5⟩ := u3 i y hi
                  exact ⟨kp, u4, by (try dsimp only); rw [hTo kp (by rw [u5]; simp)]; exact u5⟩
              · split at hk
                · cases hk
                · exact hP1.map k y hk
              · split at hk
                · omega
                · exact hP1.lt k hk
              · rw [if_neg (by omega)]; exact hT _ (by omega)
              · rcases htk with ⟨z, rfl⟩ | ⟨k', rfl, v1, v2⟩
                · simp [A.refs] at hk
                · simp [A.refs] at hk; subst hk
                  exact ⟨by omega, by (try dsimp only); rw [if_neg (by omega)]; exact hT _ (by omega)⟩
            have hyb : g.bodies[rn]? = some g.bodies[rn] := by simp [hbl, hrn]
            obtain ⟨kp, u4, u5⟩ := q7 rn _ hyb
            have hEnd := end_spec (fz := fz) (T := fun k => if k = ko then Rl.own g.bodies else T1 k) (kc := σ.n + 1) (lo := τ.n) hz.h70 hz.h71 hz.h97 hz.h98 hz.h99 hR hl g.bodies[rn] (hR.small _ (List.getElem_mem _)) (hR.ok _ (List.getElem_mem _)) (g.bodies.length + 1) (fun n _ => hR.top n) 0 (by omega) kp τ (by (try dsimp only); rw [hTo kp (by rw [u5]; simp)]; exact u5) hC
            obtain ⟨P, τ', S, hcall, hPE, hFr, hn'⟩ := hEnd
            have hidx := fun ρ : St => indexR_nat (σ := ρ) (k := ko) (off := 0) (s := 1) (cs := cs) (i := rn) (len := g.bodies.length) (by omega)
            have e0 : 0 + rn * 1 = rn := by omega
            simp only [e0] at hidx
            simp only [go_sem, ↓reduceIte, Int.reduceEq, Nat.reduceBEq, Int.reduceBEq, Int.reduceBNe, Int.reduceLT, Int.reduceLE, Nat.reduceAdd, Nat.reducePow, Nat.reduceEqDiff, Nat.reduceLT, Nat.reduceLeDiff, Nat.reduceMul, Nat.reduceSub, Int.reduceToNat, Nat.mul_one, Nat.zero_mul, Nat.zero_add, Nat.add_zero, Nat.one_mul, t1, t2, t9, t35, t36, t37, dec_ge' hlt, g1, q4, hidx, u4]
            refine ⟨_, _, _, hcall, ?_⟩
            have lzS : low σ.n S = [] := low_all fun k hk => by
              obtain ⟨y, hy⟩ := (hFr.maps k hk).2
              (try dsimp only at hy)
              split at hy
              · cases hy
              · have := hno k (by rw [hy]; simp)
                omega
            have htl' : sliceLen τ' tk = some l.length := (hFr.ch.cell.elim fun _ h => by
              refine (htk.stay (by have := hFr.mod.n; omega) fun k hk _ => ?_).len
              rw [hFr.mod.same k (by omega) fun hS => ?_]
              · exact hg1 k hk
              · have : k ∈ low σ.n S := mem_low.2 ⟨hS, hk⟩
                rw [lzS] at this; cases this)
            simp only [go_sem, ↓reduceIte, Int.reduceEq, Nat.reduceBEq, Int.reduceBEq, Int.reduceBNe, Int.reduceLT, Int.reduceLE, Nat.reduceAdd, Nat.reducePow, Nat.reduceEqDiff, Nat.reduceLT, Nat.reduceLeDiff, Nat.reduceMul, Nat.reduceSub, Int.reduceToNat, Nat.mul_one, Nat.zero_mul, Nat.zero_add, Nat.add_zero, Nat.one_mul, t2, htl', lzS]
            refine ⟨_, _, _, has_call (fz := fz) hz.h71 (hPE.lt (by omega) hl) (by omega : l.length < 128), ?_⟩
            have hgd : g.bodies.getD rn (.mk 0 0 true []) = g.bodies[rn] := by rw [List.getD_eq_getElem?_getD, hyb]; rfl
            have hfin : P.testBit l.length = derB g.bodies l g.bodies[rn] 0 l.length := by
              rw [Bool.eq_iff_iff, derB_iff]; exact hPE _
            simp only [go_sem, ↓reduceIte, Int.reduceEq, Nat.reduceBEq, Int.reduceBEq, Int.reduceBNe, Int.reduceLT, Int.reduceLE, Nat.reduceAdd, Nat.reducePow, Nat.reduceEqDiff, Nat.reduceLT, Nat.reduceLeDiff, Nat.reduceMul, Nat.reduceSub, Int.reduceToNat, Nat.mul_one, Nat.zero_mul, Nat.zero_add, Nat.add_zero, Nat.one_mul, hfin, Int.toNat_natCast, hgd]
end Go.Am

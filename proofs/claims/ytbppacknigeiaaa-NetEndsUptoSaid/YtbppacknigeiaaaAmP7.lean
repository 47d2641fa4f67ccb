/- Part P7 of a proof that runs a program's calls on a small machine whose values bear no addresses: no conditions. -/
import Derived.Test.YtbppacknigeiaaaAmP6
import Derived.Test.YtbppacknigeiaaaAmF1
import Derived.Test.YtbppacknigeiaaaAmP5
import Derived.Test.YtbppacknigeiaaaAmM7
set_option autoImplicit false
set_option linter.unusedSimpArgs false
set_option linter.unusedVariables false
set_option linter.unusedSectionVars false
namespace Go.Am
open Go Go.Proofs
def ownW (X : Nx) (e : Eg) : OL := if (ownP X e).2 = true then some (ownP X e).1 else none
theorem le_better {K : KT} {s : Nat} {a : List Int} (h : better K s a = false) : leO (kF K s) (some a) := by
  unfold better at h
  cases e : kF K s with
  | none => rw [e] at h; cases h
  | some o => rw [e] at h; exact h
theorem better_le {K : KT} {s : Nat} {a : List Int} (h : better K s a = true) : leO (some a) (kF K s) := by
  unfold better at h
  cases e : kF K s with
  | none => trivial
  | some o => rw [e] at h; exact Ge.of_not h
section
variable {X : Nx} {N : Nv} {ru : Int}
theorem cat_own {e : Eg} {K : KT} {rest : List Int} (h : kF K e.to = some rest) (c : ¬ ((ownP X e).2 = false ∨ (ownP X e).1.length + rest.length > 256)) : cat (ownW X e) (kF K e.to) = some ((ownP X e).1 ++ rest) := by
  have h1 : (ownP X e).2 = true := by
    cases hq : (ownP X e).2 with
    | true => rfl
    | false => exact absurd (.inl hq) c
  unfold ownW; rw [if_pos h1, h]; unfold cat; dsimp only; rw [if_neg (fun h => c (.inr h))]
theorem cat_own_none {e : Eg} {K : KT} (c : kF K e.to = none ∨ ∃ rest, kF K e.to = some rest ∧ ((ownP X e).2 = false ∨ (ownP X e).1.length + rest.length > 256)) : cat (ownW X e) (kF K e.to) = none := by
  rcases c with c | ⟨rest, c, d⟩
  · rw [c]; cases ownW X e <;> rfl
  · rw [c]
    unfold ownW
    rcases d with d | d
    · rw [d]; rfl
    · split
      · unfold cat; dsimp only; rw [if_pos d]
      · rfl
theorem nsE_pres {s : Nat} (Q : KT → Prop) : ∀ (l : List Eg) (K : KT) (m : Bool), (∀ e ∈ l, ∀ K a, Q K → cat (ownW X e) (kF K e.to) = some a → better K s a = true → Q (K.set s (some a))) → Q K → Q (nsE X s l K m).1
  | [], K, m, _, h => h
  | e :: r, K, m, hs, h => by
    have hs' : ∀ e ∈ r, ∀ K a, Q K → cat (ownW X e) (kF K e.to) = some a → better K s a = true → Q (K.set s (some a)) := fun e he => hs e (by simp [he])
    rw [nsE]
    cases hk : kF K e.to with
    | none => exact nsE_pres Q r K m hs' h
    | some rest =>
      dsimp only
      split
      · exact nsE_pres Q r K m hs' h
      · rename_i c
        split
        · rename_i hb
          exact nsE_pres Q r _ true hs' (hs e (by simp) K _ h (cat_own hk c) hb)
        · exact nsE_pres Q r K m hs' h
theorem nsP_pres (Q : KT → Prop) : ∀ (l : List (List Eg)) (s : Nat) (K : KT) (m : Bool), (∀ (i : Nat) (row : List Eg), l[i]? = some row → N.rule (s + i) = ru → ∀ e ∈ row, ∀ K a, Q K → cat (ownW X e) (kF K e.to) = some a → better K (s + i) a = true → Q (K.set (s + i) (some a))) → Q K → Q (nsP X N ru l s K m).1
  | [], s, K, m, _, h => h
  | row :: r, s, K, m, hs, h => by
    have hs' : ∀ (i : Nat) (row : List Eg), r[i]? = some row → N.rule (s + 1 + i) = ru → ∀ e ∈ row, ∀ K a, Q K → cat (ownW X e) (kF K e.to) = some a → better K (s + 1 + i) a = true → Q (K.set (s + 1 + i) (some a)) := fun i row hi => by
      have := hs (i + 1) row (by simpa using hi)
      rwa [show s + (i + 1) = s + 1 + i by omega] at this
    rw [nsP]
    split
    · rename_i hr
      exact nsP_pres Q r (s + 1) _ _ hs' (nsE_pres Q row K m (hs 0 row rfl hr) h)
    · exact nsP_pres Q r (s + 1) K m hs' h
theorem nsF_pres (Q : KT → Prop) (hs : ∀ (i : Nat) (row : List Eg), N.es[i]? = some row → N.rule i = ru → ∀ e ∈ row, ∀ K a, Q K → cat (ownW X e) (kF K e.to) = some a → better K i a = true → Q (K.set i (some a))) : ∀ (n : Nat) (K : KT), Q K → Q (nsF X N ru n K)
  | 0, K, h => h
  | n + 1, K, h => by
    have := nsP_pres (X := X) (N := N) (ru := ru) Q N.es 0 K false (fun i row hi hr e he K a => by rw [Nat.zero_add] at hr ⊢; exact hs i row hi hr e he K a) h
    rw [nsF]
    split
    · exact nsF_pres Q hs n _ this
    · exact this
theorem nsE_fix {s : Nat} : ∀ (l : List Eg) (K : KT) (m : Bool), (nsE X s l K m).2 = false → m = false ∧ (nsE X s l K m).1 = K ∧ ∀ e ∈ l, leO (kF K s) (cat (ownW X e) (kF K e.to))
  | [], K, m, h => ⟨h, rfl, fun e he => by cases he⟩
  | e :: r, K, m, h => by
    rw [nsE] at h ⊢
    cases hk : kF K e.to with
    | none =>
      rw [hk] at h
      dsimp only at h ⊢
      obtain ⟨h1, h2, h3⟩ := nsE_fix r K m h
      refine ⟨h1, h2, fun e' he => ?_⟩
      rcases List.mem_cons.1 he with rfl | he
      · rw [cat_own_none (.inl hk)]; trivial
      · exact h3 e' he
    | some rest =>
      rw [hk] at h
      dsimp only at h ⊢
      by_cases c : (ownP X e).2 = false ∨ (ownP X e).1.length + rest.length > 256
      · rw [if_pos c] at h ⊢
        obtain ⟨h1, h2, h3⟩ := nsE_fix r K m h
        refine ⟨h1, h2, fun e' he => ?_⟩
        rcases List.mem_cons.1 he with rfl | he
        · rw [cat_own_none (.inr ⟨rest, hk, c⟩)]; trivial
        · exact h3 e' he
      · rw [if_neg c] at h ⊢
        by_cases hb : better K s ((ownP X e).1 ++ rest) = true
        · rw [if_pos hb] at h
          have := (nsE_fix r _ true h).1; cases this
        · rw [if_neg hb] at h ⊢
          obtain ⟨h1, h2, h3⟩ := nsE_fix r K m h
          refine ⟨h1, h2, fun e' he => ?_⟩
          rcases List.mem_cons.1 he with rfl | he
          · rw [cat_own hk c]; exact le_better (by simpa using hb)
          · exact h3 e' he
theorem nsP_fix : ∀ (l : List (List Eg)) (s : Nat) (K : KT) (m : Bool), (nsP X N ru l s K m).2 = false → m = false ∧ (nsP X N ru l s K m).1 = K ∧ ∀ (i : Nat) (row : List Eg), l[i]? = some row → N.rule (s + i) = ru → ∀ e ∈ row, leO (kF K (s + i)) (cat (ownW X e) (kF K e.to))
  | [], s, K, m, h => ⟨h, rfl, fun i row hi => by simp at hi⟩
  | row :: r, s, K, m, h => by
    rw [nsP] at h ⊢
    by_cases hr : N.rule s = ru
    · rw [if_pos hr] at h ⊢
      obtain ⟨h1, h2, h3⟩ := nsP_fix r (s + 1) _ _ h
      obtain ⟨g1, g2, g3⟩ := nsE_fix row K m h1
      refine ⟨g1, by rw [h2, g2], fun i row' hi hr' e he => ?_⟩
      cases i with
      | zero => simp at hi; subst hi; exact g3 e he
      | succ i =>
        have := h3 i row' (by simpa using hi) (by rw [show s + 1 + i = s + (i + 1) by omega]; exact hr') e he
        rw [g2, show s + 1 + i = s + (i + 1) by omega] at this; exact this
    · rw [if_neg hr] at h ⊢
      obtain ⟨h1, h2, h3⟩ := nsP_fix r (s + 1) K m h
      refine ⟨h1, h2, fun i row' hi hr' e he => ?_⟩
      cases i with
      | zero => exact absurd hr' hr
      | succ i =>
        have := h3 i row' (by simpa using hi) (by rw [show s + 1 + i = s + (i + 1) by omega]; exact hr') e he
        rw [show s + 1 + i = s + (i + 1) by omega] at this; exact this
theorem nsF_fix (ho : OwS X N) : ∀ (n : Nat) (K : KT), SmK K → N.es.length ≤ K.length → meas K < n → SmK (nsF X N ru n K) ∧ (nsF X N ru n K).length = K.length ∧ ∀ (i : Nat) (row : List Eg), N.es[i]? = some row → N.rule i = ru → ∀ e ∈ row, leO (kF (nsF X N ru n K) i) (cat (ownW X e) (kF (nsF X N ru n K) e.to))
  | 0, K, _, _, h => by omega
  | n + 1, K, hK, hl, hm => by
    obtain ⟨p1, p2, p3, p4⟩ := nsP_ok (X := X) (N := N) (ru := ru) N.es 0 K false ho (by omega) hK
    rw [nsF]
    by_cases h : (nsP X N ru N.es 0 K false).2 = true
    · rw [if_pos h]
      have := p4 rfl h
      obtain ⟨a1, a2, a3⟩ := nsF_fix ho n _ p1 (by omega) (by omega)
      exact ⟨a1, by omega, a3⟩
    · rw [if_neg h]
      obtain ⟨-, h2, h3⟩ := nsP_fix (X := X) (N := N) (ru := ru) N.es 0 K false (by simpa using h)
      rw [h2]
      exact ⟨hK, rfl, fun i row hi hr e he => by have := h3 i row hi (by rw [Nat.zero_add]; exact hr) e he; rwa [Nat.zero_add] at this⟩
/-- what Short ends with -/
theorem nsEnd_ok (ho : OwS X N) {lf : Nat} (hl : lf < N.es.length) :
    SmK (nsEnd X N ru lf) ∧ (∀ (i : Nat) (row : List Eg), N.es[i]? = some row → N.rule i = ru → ∀ e ∈ row, leO (kF (nsEnd X N ru lf) i) (cat (ownW X e) (kF (nsEnd X N ru lf) e.to))) ∧
      leO (kF (nsEnd X N ru lf) lf) (some []) ∧
      ∀ V : Nat → OL, leO (V lf) (some []) → (∀ (i : Nat) (row : List Eg), N.es[i]? = some row → N.rule i = ru → ∀ e ∈ row, leO (V i) (cat (ownW X e) (V e.to))) → ∀ s, leO (V s) (kF (nsEnd X N ru lf) s) := by
  have h0 := nsK0_Sm hl
  have hl0 : (nsK0 N lf).length = N.es.length := by simp [nsK0, K0]
  have hk0 : ∀ n, kF (nsK0 N lf) n = if n = lf then some [] else none := fun n => by
    rw [nsK0, kF_set (by simp [K0]; exact hl), K0_get]
  obtain ⟨a1, a2, a3⟩ := nsF_fix (ru := ru) ho (meas (nsK0 N lf) + 1) (nsK0 N lf) h0 (by omega) (by omega)
  refine ⟨a1, a3, ?_, fun V hV hE s => ?_⟩
  · have := nsF_pres (X := X) (N := N) (ru := ru) (fun K => K.length = N.es.length ∧ leO (kF K lf) (some [])) (fun i row hi hr e he K a hQ hc hb => ⟨by rw [List.length_set]; exact hQ.1, by
      rw [kF_set (by rw [hQ.1]; exact (List.getElem?_eq_some_iff.1 hi).1)]
      split
      · rename_i e; subst e; exact (better_le hb).trans hQ.2
      · exact hQ.2⟩) (meas (nsK0 N lf) + 1) (nsK0 N lf) ⟨hl0, by rw [hk0, if_pos rfl]; exact leO.refl _⟩
    exact this.2
  · have := nsF_pres (X := X) (N := N) (ru := ru) (fun K => K.length = N.es.length ∧ ∀ n, leO (V n) (kF K n)) (fun i row hi hr e he K a hQ hc hb => ⟨by rw [List.length_set]; exact hQ.1, fun n => by
      rw [kF_set (by rw [hQ.1]; exact (List.getElem?_eq_some_iff.1 hi).1)]
      split
      · rename_i e'; subst e'
        rw [← hc]
        exact (hE n row hi hr e he).trans (cat_mono (leO.refl _) (hQ.2 _))
      · exact hQ.2 n⟩) (meas (nsK0 N lf) + 1) (nsK0 N lf) ⟨hl0, fun n => by
        rw [hk0]
        split
        · rename_i e; subst e; exact hV
        · trivial⟩
    exact this.2 s
end
/-! rules' shortest stay as they are -/
theorem shPass_inv {bs : List Ex} : ∀ (l : List Ex) (i : Nat) (K : KT) (more : Bool), (∀ k x, l[k]? = some x → bs[i + k]? = some x) → K.length = bs.length → (∀ n y, bs[n]? = some y → leO (shortE (kF K) y) (kF K n)) →
    (shPass l i K more).1.length = bs.length ∧ ∀ n y, bs[n]? = some y → leO (shortE (kF (shPass l i K more).1) y) (kF (shPass l i K more).1 n)
  | [], i, K, more, _, hl, h => ⟨hl, h⟩
  | x :: l, i, K, more, hx, hl, h => by
    have hx' : ∀ k y, l[k]? = some y → bs[i + 1 + k]? = some y := fun k y hk => by
      have := hx (k + 1) y (by simpa using hk)
      rwa [show i + (k + 1) = i + 1 + k by omega] at this
    have hbi : bs[i]? = some x := hx 0 x rfl
    rw [shPass]
    cases hs : shortE (kF K) x with
    | none => exact shPass_inv l (i + 1) K more hx' hl h
    | some s =>
      dsimp only
      split
      · rename_i hb
        have hil : i < K.length := by rw [hl]; exact (List.getElem?_eq_some_iff.1 hbi).1
        have hle : ∀ n, leO (kF (K.set i (some s)) n) (kF K n) := fun n => by
          rw [kF_set hil]
          split
          · rename_i e; subst e; exact better_le hb
          · exact leO.refl _
        refine shPass_inv l (i + 1) _ true hx' (by rw [List.length_set]; exact hl) fun n y hy => ?_
        have hm := shortE_mono hle y
        rw [kF_set hil]
        split
        · rename_i e; subst e
          rw [hbi] at hy; cases hy
          rw [hs] at hm; exact hm
        · exact hm.trans (h n y hy)
      · exact shPass_inv l (i + 1) K more hx' hl h
theorem shF_inv {bs : List Ex} : ∀ (n : Nat) (K : KT), K.length = bs.length → (∀ n y, bs[n]? = some y → leO (shortE (kF K) y) (kF K n)) → ∀ m y, bs[m]? = some y → leO (shortE (kF (shF bs n K)) y) (kF (shF bs n K) m)
  | 0, K, _, h => h
  | n + 1, K, hl, h => by
    obtain ⟨a, b⟩ := shPass_inv (bs := bs) bs 0 K false (fun k x hk => by rw [Nat.zero_add]; exact hk) hl h
    rw [shF]
    split
    · exact shF_inv n _ a b
    · exact b
theorem shEnd_fix {bs : List Ex} {t : Int} (hok : ∀ y ∈ bs, okE t bs.length y) (ht : t ≤ 64) {n : Nat} {y : Ex} (hy : bs[n]? = some y) : kF (shEnd bs) n = shortE (kF (shEnd bs)) y := by
  obtain ⟨h1, h2⟩ := shEnd_ok hok ht
  refine leO.anti ?_ ?_
  · cases hs : shortE (kF (shEnd bs)) y with
    | none => trivial
    | some s =>
      obtain ⟨o, e1, e2⟩ := h2 n y hy s hs
      rw [e1]; exact e2
  · exact shF_inv _ _ (by simp [K0]) (fun m z hz => by rw [K0_get]; trivial) n y hy
end Go.Am
namespace Go.Am
open Go Go.Proofs
def bringP (i n : Int) : Int := if n ≤ 0 then 0 else if i.tmod n < 0 then IntKind.i64.wrap (i.tmod n + n) else i.tmod n
theorem bring_call {fz : Nat → Md} (h26 : fz 18 = .cut) (i n : Int) (σ : St) : CallsTo (XX fz) (.func 18 []) [.d (.int .i64 i), .d (.int .i64 n)] σ (.d (.int .i64 (bringP i n))) σ [] := by
  refine CallsTo.cut0 h26 fn18 (by simp) rfl ?_
  simp only [Try.f18, Option.getD_some]
  unfold bringP
  simp only [go_sem, ↓reduceIte, Int.reduceEq, Nat.reduceBEq, Int.reduceBEq, Int.reduceBNe, Int.reduceLT, Int.reduceLE, Nat.reduceAdd, Nat.reducePow, Nat.reduceEqDiff, Nat.reduceLT, Nat.reduceLeDiff, Nat.reduceMul, Nat.reduceSub]
  by_cases h : n ≤ 0
  · have h1 : decide (n ≤ 0) = true := by simpa using h
    simp only [go_sem, ↓reduceIte, Int.reduceEq, Nat.reduceBEq, Int.reduceBEq, Int.reduceBNe, Int.reduceLT, Int.reduceLE, Nat.reduceAdd, Nat.reducePow, Nat.reduceEqDiff, Nat.reduceLT, Nat.reduceLeDiff, Nat.reduceMul, Nat.reduceSub, h1, h]
  · have h1 : decide (n ≤ 0) = false := by simpa using h
    simp only [go_sem, ↓reduceIte, Int.reduceEq, Nat.reduceBEq, Int.reduceBEq, Int.reduceBNe, Int.reduceLT, Int.reduceLE, Nat.reduceAdd, Nat.reducePow, Nat.reduceEqDiff, Nat.reduceLT, Nat.reduceLeDiff, Nat.reduceMul, Nat.reduceSub, h1, h, bin_rem (show n ≠ 0 by omega)]
    by_cases h2 : i.tmod n < 0
    · have h3 : decide (i.tmod n < 0) = true := by simpa using h2
      simp only [go_sem, ↓reduceIte, Int.reduceEq, Nat.reduceBEq, Int.reduceBEq, Int.reduceBNe, Int.reduceLT, Int.reduceLE, Nat.reduceAdd, Nat.reducePow, Nat.reduceEqDiff, Nat.reduceLT, Nat.reduceLeDiff, Nat.reduceMul, Nat.reduceSub, h3, h2]
    · have h3 : decide (i.tmod n < 0) = false := by simpa using h2
      simp only [go_sem, ↓reduceIte, Int.reduceEq, Nat.reduceBEq, Int.reduceBEq, Int.reduceBNe, Int.reduceLT, Int.reduceLE, Nat.reduceAdd, Nat.reducePow, Nat.reduceEqDiff, Nat.reduceLT, Nat.reduceLeDiff, Nat.reduceMul, Nat.reduceSub, h3, h2]
theorem bring_lt {i n : Int} (h : 0 < n) (hn : n < 1000000000) : 0 ≤ bringP i n ∧ bringP i n < n := by
  unfold bringP
  rw [if_neg (by omega)]
  have h1 := Int.tmod_lt_of_pos i h
  have h2 : -n < i.tmod n := by
    have := Int.lt_tmod_of_pos i h; omega
  split
  · rw [wrap_small (by omega) (by omega)]; omega
  · omega

end Go.Am
namespace Go.Am
open Go Go.Proofs
variable {fz : Nat → Md}
theorem caOf_get {g : Gr} {i n : Nat} (h : n < i) : (caOf g i).getD n [] = (kF (shEnd g.bodies) n).getD [] := by simp [caOf, List.getD_eq_getElem?_getD, h]
theorem lgOf_get {g : Gr} {i n : Nat} (h : n < i) : (lgOf g i).getD n false = (kF (shEnd g.bodies) n).isNone := by simp [lgOf, List.getD_eq_getElem?_getD, h]
theorem newX_own {g : Gr} (h : GOk g) {row : List Eg} (hr : row ∈ (newN g).N.es) {e : Eg} (he : e ∈ row) : ownW (newX g) e = edW (kF (shEnd g.bodies)) e := by
  obtain ⟨a1, a2, a3, -, a5, -⟩ := (newN_sound h).ed row hr e he
  unfold ownW ownP edW
  by_cases k1 : e.kind = 1
  · rw [if_pos k1, if_pos k1]; rfl
  · rw [if_neg k1, if_neg k1]
    by_cases k2 : e.kind = 2
    · rw [if_pos k2, if_pos k2]
      have hlt : e.num.toNat < g.rules.length := by have := a5 k2; omega
      dsimp only
      rw [show (newX g).ca = caOf g g.rules.length from rfl, show (newX g).lg = lgOf g g.rules.length from rfl, caOf_get hlt, lgOf_get hlt]
      cases kF (shEnd g.bodies) e.num.toNat <;> rfl
    · rw [if_neg k2, if_neg k2]; rfl
theorem newX_small {g : Gr} (h : GOk g) {row : List Eg} (hr : row ∈ (newN g).N.es) {e : Eg} (he : e ∈ row) : small64 (ownP (newX g) e).1 ∧ (ownP (newX g) e).1.length ≤ 256 := by
  obtain ⟨a1, a2, a3, -, a5, a6⟩ := (newN_sound h).ed row hr e he
  have ht := h.tok
  unfold ownP
  by_cases k1 : e.kind = 1
  · rw [if_pos k1]
    refine ⟨fun a ha => ?_, by simp⟩
    simp at ha; subst ha
    have := a6 k1; omega
  · rw [if_neg k1]
    by_cases k2 : e.kind = 2
    · rw [if_pos k2]
      have hlt : e.num.toNat < g.rules.length := by have := a5 k2; omega
      dsimp only
      rw [show (newX g).ca = caOf g g.rules.length from rfl, caOf_get hlt]
      cases hk : kF (shEnd g.bodies) e.num.toNat with
      | none => exact ⟨(fun a ha => by cases ha), by simp⟩
      | some s =>
        obtain ⟨b1, b2, -⟩ := (shEnd_ok h.ok ht).1.ok _ _ hk
        exact ⟨b1, b2⟩
    · rw [if_neg k2]; exact ⟨(fun a ha => by cases ha), by simp⟩
theorem newX_ShE {g : Gr} (h : GOk g) : ShE (newN g).N (newX g) where
  rl := (newN_W h).rl
  ne := newN_ne h
  ow row hr e he _ := (newX_small h hr he).1
  ed row hr e he := by
    obtain ⟨a1, a2, a3, -, a5, -⟩ := (newN_sound h).ed row hr e he
    refine ⟨⟨a1, a2⟩, a3, fun k2 => ?_, (newX_small h hr he).2⟩
    have := a5 k2
    simp [newX, caOf, lgOf]; omega
/-- the shortest ends of a rule's begin and of its end -/
theorem newX_short {g : Gr} (h : GOk g) {k a b : Nat} (hk : k < g.rules.length) (ha : (newX g).en.getD k 0 = (a : Int)) (hb : (newX g).lv.getD k 0 = (b : Int)) :
    kF (nsEnd (newX g) (newN g).N k b) a = kF (shEnd g.bodies) k ∧ kF (nsEnd (newX g) (newN g).N k b) b = some [] := by
  have w := newN_W h
  have hbl : g.bodies.length = g.rules.length := by rw [Gr.bodies, List.length_map]
  obtain ⟨y, hy⟩ : ∃ y, g.bodies[k]? = some y := ⟨g.bodies[k]'(by omega), by simp [hbl, hk]⟩
  have hC : ∀ n, Bd (kF (shEnd g.bodies) n) := fun n x hx => ((shEnd_ok h.ok h.tok).1.ok n x hx).2.1
  have v := newN_V hC h
  obtain ⟨s, s1, s2, -, -⟩ := w.lve k hk
  have hbs : b < (newN g).N.es.length := by
    have h3 : (newN g).lv.getD k 0 = (b : Int) := hb
    omega
  obtain ⟨e1, e2, e3, e4⟩ := nsEnd_ok (X := newX g) (N := (newN g).N) (ru := (k : Int)) (newX_ShE h).ow hbs
  have eb : kF (nsEnd (newX g) (newN g).N k b) b = some [] := leO.anti e3 (nil_le _)
  refine ⟨leO.anti ?_ ?_, eb⟩
  · have := v.A k y hk hy (kF (nsEnd (newX g) (newN g).N k b)) (fun s x hx => (e1 s x hx).2) (fun s r hs hr e he => by
      have := e2 s r hs hr e he
      rw [newX_own h (List.mem_of_getElem? hs) he] at this; exact this) a b ha hb
    rw [eb, cat_nil' (shortE_bd hC y), ← shEnd_fix h.ok h.tok hy] at this
    exact this
  · obtain ⟨V, v1, v2, v3⟩ := v.B
    obtain ⟨q1, q2⟩ := v2 k y hk hy a b ha hb
    have := e4 V (by rw [q2]; exact leO.refl _) (fun i row hi _ e he => by
      rw [newX_own h (List.mem_of_getElem? hi) he]; exact v3 i row hi e he) a
    rw [q1, ← shEnd_fix h.ok h.tok hy] at this
    exact this
set_option maxHeartbeats 2000000 in
theorem eqints_c (h15 : fz 15 = .cut) (l : List Int) (hl : l.length < 1000000) (σ : St) : CallsTo (XX fz) (.func 15 []) [.d (slD l), .d (slD l)] σ (.d (.bool true)) σ [] := by
  refine CallsTo.cut0 h15 fn15 (by simp) rfl ?_
  simp only [Try.f15, Option.getD_some]
  have e1 : ((l.length : Int) != (l.length : Int)) = false := by simp
  simp only [go_sem, ↓reduceIte, Int.reduceEq, Nat.reduceBEq, Int.reduceBEq, Int.reduceBNe, Int.reduceLT, Int.reduceLE, Nat.reduceAdd, Nat.reducePow, Nat.reduceEqDiff, Nat.reduceLT, Nat.reduceLeDiff, Nat.reduceMul, Nat.reduceSub, len_sl, e1]
  refine Ev.loop_ind (fun k tm τ W => ∃ i : Nat, k = l.length - i ∧ i ≤ l.length ∧ W = [] ∧ τ = σ ∧ tm.at 0 = .d (slD l) ∧ tm.at 1 = .d (slD l) ∧ tm.at 5 = .d (.int .i64 i)) ?_ l.length _ _ _ ⟨0, rfl, by omega, rfl, rfl, ?_, ?_, ?_⟩
  · rintro k tm τ W ⟨i, rfl, hi, rfl, rfl, t0, t1, t5⟩ ih
    by_cases hl2 : i < l.length
    · have e2 : (l.getD i 0 != l.getD i 0) = false := by simp
      simp only [go_sem, ↓reduceIte, Int.reduceEq, Nat.reduceBEq, Int.reduceBEq, Int.reduceBNe, Int.reduceLT, Int.reduceLE, Nat.reduceAdd, Nat.reducePow, Nat.reduceEqDiff, Nat.reduceLT, Nat.reduceLeDiff, Nat.reduceMul, Nat.reduceSub, t0, t1, t5, len_sl, dec_lt' hl2, index_sl hl2, e2, wrap_succ' hl2 (show l.length < 1000000000 by omega)]
      refine ⟨drawOk_rel [] [] rfl (by kernel_rfl) rfl (by simp), ?_⟩
      exact ih _ _ _ _ (by omega) ⟨i + 1, rfl, hl2, rfl, rfl, by simp only [go_sem, ↓reduceIte, Int.reduceEq, Nat.reduceBEq, Int.reduceBEq, Int.reduceBNe, Int.reduceLT, Int.reduceLE, Nat.reduceAdd, Nat.reducePow, Nat.reduceEqDiff, Nat.reduceLT, Nat.reduceLeDiff, Nat.reduceMul, Nat.reduceSub, t0], by simp only [go_sem, ↓reduceIte, Int.reduceEq, Nat.reduceBEq, Int.reduceBEq, Int.reduceBNe, Int.reduceLT, Int.reduceLE, Nat.reduceAdd, Nat.reducePow, Nat.reduceEqDiff, Nat.reduceLT, Nat.reduceLeDiff, Nat.reduceMul, Nat.reduceSub, t1], by simp only [go_sem, ↓reduceIte, Int.reduceEq, Nat.reduceBEq, Int.reduceBEq, Int.reduceBNe, Int.reduceLT, Int.reduceLE, Nat.reduceAdd, Nat.reducePow, Nat.reduceEqDiff, Nat.reduceLT, Nat.reduceLeDiff, Nat.reduceMul, Nat.reduceSub]⟩
    · simp only [go_sem, ↓reduceIte, Int.reduceEq, Nat.reduceBEq, Int.reduceBEq, Int.reduceBNe, Int.reduceLT, Int.reduceLE, Nat.reduceAdd, Nat.reducePow, Nat.reduceEqDiff, Nat.reduceLT, Nat.reduceLeDiff, Nat.reduceMul, Nat.reduceSub, t0, t1, t5, len_sl, dec_ge' hl2]
  all_goals first | rfl | (simp only [go_sem, ↓reduceIte, Int.reduceEq, Nat.reduceBEq, Int.reduceBEq, Int.reduceBNe, Int.reduceLT, Int.reduceLE, Nat.reduceAdd, Nat.reducePow, Nat.reduceEqDiff, Nat.reduceLT, Nat.reduceLeDiff, Nat.reduceMul, Nat.reduceSub]; done) | (simp only [go_sem, ↓reduceIte, Int.reduceEq, Nat.reduceBEq, Int.reduceBEq, Int.reduceBNe, Int.reduceLT, Int.reduceLE, Nat.reduceAdd, Nat.reducePow, Nat.reduceEqDiff, Nat.reduceLT, Nat.reduceLeDiff, Nat.reduceMul, Nat.reduceSub]; rfl)
theorem nshort_S {g : Gr} (h : GOk g) (σ : St) {k b st : Nat} (hk : k < g.rules.length) (hst : st < (newN g).N.es.length) (hr : (newN g).N.rule st = (k : Int)) (hb : (newX g).lv.getD k 0 = (b : Int)) :
    CallsTo (XX mdS) (.func 13 []) [netP (newN g).N (newX g), .d (.int .i64 (st : Int))] σ (.tup [.d (nshV (newX g) (newN g).N k b st).1, .d (.int .i64 (nshV (newX g) (newN g).N k b st).2)]) σ [] := by
  have w := newN_W h
  obtain ⟨s, s1, s2, -, -⟩ := w.lve k hk
  have h3 : (newN g).lv.getD k 0 = (b : Int) := hb
  exact nshort_c rfl rfl rfl rfl rfl rfl rfl rfl rfl rfl (newN_fits h) (by omega) (newX_ShE h) st k b hst hr (by have : (newX g).lv.length = g.rules.length := w.lvl; omega) hb (by omega) σ
end Go.Am
namespace Go.Am
open Go Go.Proofs
set_option maxHeartbeats 8000000 in
theorem ends_call (g : Gr) (hg : SmallG g) (hL : g.rules.length < 1000000000) (rule : Int) : ∃ σ' T, CallsTo (XX mdS) (.func 4 []) [g.a, .d (.int .i64 rule)] St.empty (.d (.bool true)) σ' T := by
  refine ⟨St.empty, [], CallsTo.cut0 rfl fn4 (by simp) rfl ?_⟩
  simp only [Try.f4, Option.getD_some]
  simp only [go_sem, ↓reduceIte, Int.reduceEq, Nat.reduceBEq, Int.reduceBEq, Int.reduceBNe, Int.reduceLT, Int.reduceLE, Nat.reduceAdd, Nat.reducePow, Nat.reduceEqDiff, Nat.reduceLT, Nat.reduceLeDiff, Nat.reduceMul, Nat.reduceSub, Gr.a]
  refine ⟨_, _, _, works_S _, ?_⟩
  simp only [go_sem, ↓reduceIte, Int.reduceEq, Nat.reduceBEq, Int.reduceBEq, Int.reduceBNe, Int.reduceLT, Int.reduceLE, Nat.reduceAdd, Nat.reducePow, Nat.reduceEqDiff, Nat.reduceLT, Nat.reduceLeDiff, Nat.reduceMul, Nat.reduceSub]
  refine ⟨_, _, _, deep_S g _ hg hL, ?_⟩
  cases hd : deepG g with
  | true => simp only [go_sem, ↓reduceIte, Int.reduceEq, Nat.reduceBEq, Int.reduceBEq, Int.reduceBNe, Int.reduceLT, Int.reduceLE, Nat.reduceAdd, Nat.reducePow, Nat.reduceEqDiff, Nat.reduceLT, Nat.reduceLeDiff, Nat.reduceMul, Nat.reduceSub]
  | false =>
  simp only [go_sem, ↓reduceIte, Int.reduceEq, Nat.reduceBEq, Int.reduceBEq, Int.reduceBNe, Int.reduceLT, Int.reduceLE, Nat.reduceAdd, Nat.reducePow, Nat.reduceEqDiff, Nat.reduceLT, Nat.reduceLeDiff, Nat.reduceMul, Nat.reduceSub]
  refine ⟨_, _, _, new_S g _ hg, ?_⟩
  unfold newV
  cases hc : (checkP g != 0) with
  | true =>
    simp only [go_sem, ↓reduceIte, Int.reduceEq, Nat.reduceBEq, Int.reduceBEq, Int.reduceBNe, Int.reduceLT, Int.reduceLE, Nat.reduceAdd, Nat.reducePow, Nat.reduceEqDiff, Nat.reduceLT, Nat.reduceLeDiff, Nat.reduceMul, Nat.reduceSub, hc, eq_nptr2, OpR.of]
  | false =>
  have h := GOk.of (show checkP g = 0 by simpa using hc)
  have w := newN_W h
  have hF := newN_fits h
  have hel := hF.e
  have hpos := h.pos
  have hle := h.le
  simp only [go_sem, ↓reduceIte, Int.reduceEq, Nat.reduceBEq, Int.reduceBEq, Int.reduceBNe, Int.reduceLT, Int.reduceLE, Nat.reduceAdd, Nat.reducePow, Nat.reduceEqDiff, Nat.reduceLT, Nat.reduceLeDiff, Nat.reduceMul, Nat.reduceSub]
  refine ⟨_, _, _, net_S h _, ?_⟩
  simp only [go_sem, ↓reduceIte, Int.reduceEq, Nat.reduceBEq, Int.reduceBEq, Int.reduceBNe, Int.reduceLT, Int.reduceLE, Nat.reduceAdd, Nat.reducePow, Nat.reduceEqDiff, Nat.reduceLT, Nat.reduceLeDiff, Nat.reduceMul, Nat.reduceSub, netA, netC3]
  refine ⟨_, _, _, sound_S h _, ?_⟩
  simp only [go_sem, ↓reduceIte, Int.reduceEq, Nat.reduceBEq, Int.reduceBEq, Int.reduceBNe, Int.reduceLT, Int.reduceLE, Nat.reduceAdd, Nat.reducePow, Nat.reduceEqDiff, Nat.reduceLT, Nat.reduceLeDiff, Nat.reduceMul, Nat.reduceSub]
  refine ⟨_, _, _, bring_call rfl rule _ _, ?_⟩
  obtain ⟨b1, b2⟩ := bring_lt (i := rule) (n := (g.rules.length : Int)) (by omega) (by omega)
  obtain ⟨k, hk⟩ := Int.eq_ofNat_of_zero_le b1
  have hlt : k < g.rules.length := by omega
  obtain ⟨a, a1, a2, a3⟩ := w.ene k hlt
  obtain ⟨b, c1, c2, c3, -⟩ := w.lve k hlt
  have ha : (newX g).en.getD k 0 = (a : Int) := a2
  have hb : (newX g).lv.getD k 0 = (b : Int) := c2
  have henl : (newX g).en.length = g.rules.length := w.enl
  have hlvl : (newX g).lv.length = g.rules.length := w.lvl
  have i1 := fun σ : St => index_sl (σ := σ) (kd := .i64) (l := (newX g).en) (i := k) (by omega)
  have i2 := fun σ : St => index_sl (σ := σ) (kd := .i64) (l := (newX g).lv) (i := k) (by omega)
  rw [ha] at i1
  rw [hb] at i2
  obtain ⟨E1, E2⟩ := newX_short h hlt ha hb
  have S1 := fun σ : St => nshort_S h σ hlt c1 c3 hb
  have S2 := fun σ : St => nshort_S h σ hlt a1 a3 hb
  have v1 : nshV (newX g) (newN g).N k b b = (slD [], 0) := by unfold nshV; rw [E2]
  have hr1 : decide ((k : Int) < 0) = false := by simp
  have hr2 : decide ((k : Int) ≥ (g.rules.length : Int)) = false := by simpa using hlt
  have v2 : nshV (newX g) (newN g).N k b a = shortV g (k : Int) := by
    unfold nshV shortV
    rw [E1, if_neg (by rw [hc]; simp), hr1, hr2, if_neg (by simp), Int.toNat_natCast]
    cases kF (shEnd g.bodies) k <;> rfl
  simp only [v1] at S1
  simp only [v2] at S2
  have hsl : ∃ l : List Int, (shortV g (k : Int)).1 = slD l ∧ l.length < 1000000 := by
    unfold shortV
    rw [if_neg (by rw [hc]; simp), hr1, hr2, if_neg (by simp), Int.toNat_natCast]
    cases hq : kF (shEnd g.bodies) k with
    | none => exact ⟨[], rfl, by simp⟩
    | some s => exact ⟨s, rfl, by have := ((shEnd_ok h.ok h.tok).1.ok k s hq).2.1; omega⟩
  obtain ⟨l, hl1, hl2⟩ := hsl
  simp only [netP] at S1 S2
  simp only [go_sem, ↓reduceIte, Int.reduceEq, Nat.reduceBEq, Int.reduceBEq, Int.reduceBNe, Int.reduceLT, Int.reduceLE, Nat.reduceAdd, Nat.reducePow, Nat.reduceEqDiff, Nat.reduceLT, Nat.reduceLeDiff, Nat.reduceMul, Nat.reduceSub, hk, i1, i2]
  refine ⟨_, _, _, S1 _, ?_⟩
  simp only [go_sem, ↓reduceIte, Int.reduceEq, Nat.reduceBEq, Int.reduceBEq, Int.reduceBNe, Int.reduceLT, Int.reduceLE, Nat.reduceAdd, Nat.reducePow, Nat.reduceEqDiff, Nat.reduceLT, Nat.reduceLeDiff, Nat.reduceMul, Nat.reduceSub, i1, i2, hk]
  refine ⟨_, _, _, S2 _, ?_⟩
  simp only [go_sem, ↓reduceIte, Int.reduceEq, Nat.reduceBEq, Int.reduceBEq, Int.reduceBNe, Int.reduceLT, Int.reduceLE, Nat.reduceAdd, Nat.reducePow, Nat.reduceEqDiff, Nat.reduceLT, Nat.reduceLeDiff, Nat.reduceMul, Nat.reduceSub]
  refine ⟨_, _, _, short_S g _ (k : Int) hg, ?_⟩
  have h0 : (((0 : Nat) : Int) == 0) = true := rfl
  have h1 : ((shortV g (k : Int)).2 == (shortV g (k : Int)).2) = true := by simp
  simp only [go_sem, ↓reduceIte, Int.reduceEq, Nat.reduceBEq, Int.reduceBEq, Int.reduceBNe, Int.reduceLT, Int.reduceLE, Nat.reduceAdd, Nat.reducePow, Nat.reduceEqDiff, Nat.reduceLT, Nat.reduceLeDiff, Nat.reduceMul, Nat.reduceSub, hl1, len_sl, List.length_nil, h0]
  refine ⟨_, _, _, eqints_c rfl l hl2 _, ?_⟩
  simp only [go_sem, ↓reduceIte, Int.reduceEq, Nat.reduceBEq, Int.reduceBEq, Int.reduceBNe, Int.reduceLT, Int.reduceLE, Nat.reduceAdd, Nat.reducePow, Nat.reduceEqDiff, Nat.reduceLT, Nat.reduceLeDiff, Nat.reduceMul, Nat.reduceSub, h1]
  done
end Go.Am

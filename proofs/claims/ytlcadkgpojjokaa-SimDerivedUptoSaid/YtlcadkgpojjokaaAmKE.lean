/- Part KE of a proof that runs a program's calls on a small machine whose values bear no addresses: no conditions. -/
import Derived.Test.YtlcadkgpojjokaaAmK9
import Derived.Test.YtlcadkgpojjokaaAmKD
import Derived.Test.YtlcadkgpojjokaaAmKC
set_option autoImplicit false
set_option linter.unusedSimpArgs false
set_option linter.unusedVariables false
set_option linter.unusedSectionVars false
namespace Go.Am
open Go Go.Proofs
section
variable {l : List Int} {N : Nv} {X : Nx}
theorem Gw.le {s i k : Nat} {B : List Nat} (h : Gw l N X s B i k) : i ≤ k := by
  induction h with
  | here => exact Nat.le_refl _
  | tok _ _ _ _ _ ih => omega
  | free _ _ _ _ ih => exact ih
  | call _ _ _ _ ih => exact ih
  | leave _ _ ih => exact ih
theorem Gw.len {s i k : Nat} {B : List Nat} (h : Gw l N X s B i k) : i ≤ l.length → k ≤ l.length := by
  induction h with
  | here => exact id
  | tok _ _ _ ht _ ih => intro _; exact ih (List.getElem?_eq_some_iff.1 ht).1
  | free _ _ _ _ ih => exact ih
  | call _ _ _ _ ih => exact ih
  | leave _ _ ih => exact ih
def IsG (l : List Int) (N : Nv) (X : Nx) (a : Nat) (B : List Nat) (m : Nat) : Prop := Gw l N X a B 0 m ∧ ∀ k, Gw l N X a B 0 k → k ≤ m
theorem IsFar.g {R : Nat} (hN : NetG N X R) {a m : Nat} {B : List Nat} (ha : a < N.es.length) (hB : ∀ b ∈ B, b < N.es.length) (h : IsFar l N X a B m) : IsG l N X a B m :=
  ⟨Gw.of hN ha hB h.1, fun k hk => h.2 k (hk.to hN)⟩
end
end Go.Am
namespace Go.Am
open Go Go.Proofs
end Go.Am
namespace Go.Am
open Go Go.Proofs
section
variable {l : List Int} {N : Nv} {X : Nx}
def rnW (l : List Int) (N : Nv) (X : Nx) : Walk Nat where
  st k n a b := if k = 0 then b = a else if k = 1 then l[a]? = some n ∧ b = a + 1 else Rn l N X (X.ent n.toNat) a (X.lve n.toNat) b
  ck _ _ _ := True
theorem stpr0 {F T : Nat → Prop} {n : Int} : stp (rnW l N X) 0 n F T ↔ ∀ i, F i → T i :=
  ⟨fun h i hi => (h i hi).2 i rfl, fun h i hi => ⟨trivial, fun j hj => by have : j = i := hj; subst this; exact h j hi⟩⟩
def DMot (t : Int) (R : Nat) (l : List Int) (N : Nv) (X : Nx) : Ex ⊕ List Ex → Nat → Nat → Prop
  | .inl x, i, j => okE t R x → ∀ F T, QE (rnW l N X) x F T → F i → T j
  | .inr ls, i, j => (∀ y ∈ ls, okE t R y) → ∀ F T, QS (rnW l N X) ls F T → F i → T j
theorem QA_mem {α : Type} {K : Walk α} {F T : α → Prop} : ∀ {ls : List Ex} {y : Ex}, y ∈ ls → QA K ls F T → ∃ M, stp K 0 0 F M ∧ QE K y M T
  | [], y, h, _ => by cases h
  | x :: ls, y, h, hq => by
    rw [QA] at hq
    rcases List.mem_cons.1 h with rfl | h
    · exact hq.1
    · exact QA_mem h hq.2
theorem dx_rn {bs : List Ex} {t : Int} (hok : ∀ y ∈ bs, okE t bs.length y) (hnet : ∀ (n : Nat) (y : Ex), bs[n]? = some y → ∀ i, QE (rnW l N X) y (fun p => Rn l N X (X.ent n) i (X.ent n) p) (fun p => Rn l N X (X.ent n) i (X.lve n) p))
    {w : Ex ⊕ List Ex} {i j : Nat} (h : Dx bs l w i j) : DMot t bs.length l N X w i j := by
  induction h with
  | tok h1 h2 =>
    intro ho F T hq hi
    rw [QE_eq, if_pos h1] at hq
    exact (hq _ hi).2 _ ⟨h2, rfl⟩
  | @call x y i j h1 h2 h3 ih =>
    intro ho F T hq hi
    rw [QE_eq, if_neg (by omega), if_pos h1] at hq
    refine (hq _ hi).2 _ ?_
    exact ih (hok y (List.mem_of_getElem? h2)) _ _ (hnet _ y h2 i) (.refl _ _)
  | @alt x y i j h1 h2 h3 ih =>
    intro ho F T hq hi
    rw [QE_eq, if_neg (by omega), if_neg (by omega), if_neg (by omega), if_pos h1] at hq
    obtain ⟨M, m1, m2⟩ := QA_mem h2 hq
    exact ih (ho.sub h2) _ _ m2 (stpr0.1 m1 _ hi)
  | opt0 h1 =>
    intro ho F T hq hi
    rw [QE_eq, if_neg (by omega), if_neg (by omega), if_neg (by omega), if_neg (by omega), if_neg (by omega), if_pos h1] at hq
    exact stpr0.1 hq.2 _ hi
  | @opt1 x y i j h1 h2 h3 ih =>
    intro ho F T hq hi
    rw [QE_eq, if_neg (by omega), if_neg (by omega), if_neg (by omega), if_neg (by omega), if_neg (by omega), if_pos h1, h2] at hq
    obtain ⟨M, m1, m2⟩ := hq.1
    exact ih (ho.sub (by rw [h2]; simp)) _ _ m2 (stpr0.1 m1 _ hi)
  | star0 h1 =>
    intro ho F T hq hi
    rw [QE_eq, if_neg (by omega), if_neg (by omega), if_neg (by omega), if_neg (by omega), if_pos h1] at hq
    obtain ⟨M, m1, m2, m3⟩ := hq
    exact stpr0.1 m3 _ (stpr0.1 m1 _ hi)
  | @star1 x y i k j h1 h2 h3 h4 ih1 ih2 =>
    intro ho F T hq hi
    rw [QE_eq, if_neg (by omega), if_neg (by omega), if_neg (by omega), if_neg (by omega), if_pos h1] at hq
    obtain ⟨M, m1, m2, m3⟩ := hq
    have hk : M k := ih1 ho M M (by
      rw [QE_eq, if_neg (by omega), if_neg (by omega), if_neg (by omega), if_neg (by omega), if_pos h1]
      exact ⟨M, stpr0.2 fun _ h => h, m2, stpr0.2 fun _ h => h⟩) (stpr0.1 m1 _ hi)
    rw [h2] at m2
    obtain ⟨M2, n1, n2⟩ := m2
    exact stpr0.1 m3 _ (ih2 (ho.sub (by rw [h2]; simp)) _ _ n2 (stpr0.1 n1 _ hk))
  | @seq x i j h1 h2 ih =>
    intro ho F T hq hi
    obtain ⟨a1, a2, a4, a5, a6⟩ := h1
    rw [QE_eq, if_neg a1, if_neg a2] at hq
    by_cases a3 : x.kind = 3
    · rw [if_pos a3] at hq
      exact ih (fun y hy => ho.sub hy) _ _ hq hi
    · have k0 := ho.kind0 a1 a2 a3 a4 a5 a6
      have hl : x.l = [] := by
        have := ho.c
        simp [rightN, k0, rightC] at this
        first | exact this.2 | exact this.1.2 | exact List.length_eq_zero_iff.1 (by omega)
      rw [if_neg a3, if_neg a4, if_neg a5, if_neg a6] at hq
      rw [hl] at h2
      cases h2
      exact stpr0.1 hq _ hi
  | nil =>
    intro _ F T hq hi
    rw [QS] at hq
    exact stpr0.1 hq _ hi
  | @cons y r i k j h1 h2 ih1 ih2 =>
    intro ho F T hq hi
    cases r with
    | nil =>
      rw [QS_one] at hq
      cases h2
      exact ih1 (ho y (by simp)) _ _ hq hi
    | cons z r =>
      rw [QS_cons2] at hq
      obtain ⟨M, m1, m2⟩ := hq
      exact ih2 (fun z hz => ho z (by simp [hz])) _ _ m2 (ih1 (ho y (by simp)) _ _ m1 hi)
end
theorem newF_en : ∀ (bs : List Ex) (i : Nat) (S : Ns), 0 < S.en.length → (newF bs i S).en.getD 0 0 = S.en.getD 0 0
  | [], _, _, _ => rfl
  | b :: bs, i, S, h => by
    rw [newF, newF_en bs (i + 1) _ (by simp)]
    cases hs : S.en with
    | nil => rw [hs] at h; simp at h
    | cons x l => rfl
theorem newN_en0 {g : Gr} (h : GOk g) : (newX g).ent 0 = 0 := by
  have hp := h.pos
  have hbl : g.bodies.length = g.rules.length := by rw [Gr.bodies, List.length_map]
  show ((newF g.bodies 0 ⟨⟨[], []⟩, [], []⟩).en.getD 0 0).toNat = 0
  cases hb : g.bodies with
  | nil => rw [hb] at hbl; simp at hbl; omega
  | cons b bs =>
    rw [newF, newF_en _ _ _ (by simp)]; rfl
theorem der_rn {g : Gr} (h : GOk g) {l : List Int} {n : Nat} {y : Ex} (hn : n < g.rules.length) (hy : g.bodies[n]? = some y) {i j : Nat} (hd : Der g.bodies l y i j) : Rn l (newN g).N (newX g) ((newX g).ent n) i ((newX g).lve n) j := by
  have hN := newN_G h
  have w := newN_K (K := rnW l (newN g).N (newX g)) h
  have hnet : ∀ (n : Nat) (y : Ex), g.bodies[n]? = some y → ∀ i, QE (rnW l (newN g).N (newX g)) y (fun p => Rn l (newN g).N (newX g) ((newX g).ent n) i ((newX g).ent n) p) (fun p => Rn l (newN g).N (newX g) ((newX g).ent n) i ((newX g).lve n) p) := by
    intro n y hy i
    have hn : n < g.rules.length := by
      have := (List.getElem?_eq_some_iff.1 hy).1
      rw [Gr.bodies, List.length_map] at this; exact this
    refine w.A n y hn hy (fun s p => Rn l (newN g).N (newX g) ((newX g).ent n) i s p) (fun s r hs _ e he p hp => ⟨trivial, fun q hq => ?_⟩) _ _ (hN.en n hn).2.1 (hN.lv n hn).2.1
    obtain ⟨k1, k2, k3, k4, k5, k6⟩ := hN.ed s r hs e he
    have hq : (if e.kind = 0 then q = p else if e.kind = 1 then l[p]? = some e.num ∧ q = p + 1 else Rn l (newN g).N (newX g) ((newX g).ent e.num.toNat) p ((newX g).lve e.num.toNat) q) := hq
    by_cases e0 : e.kind = 0
    · rw [if_pos e0] at hq; subst hq; exact .free hp hs he e0
    rw [if_neg e0] at hq
    by_cases e1 : e.kind = 1
    · rw [if_pos e1] at hq; obtain ⟨h1, rfl⟩ := hq; exact .tok hp hs he e1 h1
    · rw [if_neg e1] at hq; exact .call hp hs he (by omega) hq
  exact dx_rn h.ok hnet hd (h.ok y (List.mem_of_getElem? hy)) _ _ (hnet n y hy i) (.refl _ _)
theorem der_far {g : Gr} (h : GOk g) {l : List Int} (hd : derV g 0 l = true) {m : Nat} (hf : IsG l (newN g).N (newX g) 0 [] m) : m = l.length := by
  have hp := h.pos
  have hbl : g.bodies.length = g.rules.length := by rw [Gr.bodies, List.length_map]
  have hN := newN_G h
  unfold derV at hd
  split at hd
  · cases hd
  split at hd
  · cases hd
  split at hd
  · cases hd
  rw [derB_iff] at hd
  have hy : g.bodies[0]? = some (g.bodies.getD (0 : Int).toNat (.mk 0 0 true [])) := by
    show g.bodies[0]? = some (g.bodies.getD 0 (.mk 0 0 true []))
    rw [List.getD_eq_getElem?_getD, List.getElem?_eq_getElem (by omega)]; rfl
  have hr := der_rn h hp hy hd
  rw [newN_en0 h] at hr
  have := hf.2 _ (Gw.of hN (by have := (hN.en 0 hp).1; omega) (fun b hb => by cases hb) (PgB.of (.here hr)))
  have := hf.1.len (Nat.zero_le _)
  omega
end Go.Am
namespace Go.Am
open Go Go.Proofs
noncomputable def F31n : List A → Option A
  | [a, .d (.int .i64 rule), .d (.slc _ ts)] => match decG a, decI ts with
    | some g, some l => if l.length < 1000000000 then some (.tup [.d (.bool (derV g rule l)), .d (.int .i64 (derE g rule l))]) else none
    | _, _ => none
  | _ => none
theorem F31n_at {g : Gr} (h : SmallG g) (rule : Int) (z : Bool) (l : List Int) (hl : l.length < 1000000000) : F31n [g.a, .d (.int .i64 rule), .d (.slc z (intsD l))] = some (.tup [.d (.bool (derV g rule l)), .d (.int .i64 (derE g rule l))]) := by
  have h1 := derives_call fz20B g h rule _ l hl St.empty (.inl ⟨z, rfl⟩)
  have h2 := derives_call fz20B g.strip (Gr.strip_small h) rule _ l hl St.empty (.inl ⟨z, rfl⟩)
  rw [Gr.strip_a] at h2
  have := CallsTo.det h1 h2
  simp only [F31n, decG_a h, decI_ints, if_pos hl]
  rw [this]
theorem ora31n : OraS Try.prog 17 F31n := by
  refine oraS_of (fz := mdB) noOra mixedT fun args r h => ?_
  unfold F31n at h
  split at h
  · rename_i a rule z ts
    split at h
    · rename_i g l hg hl
      split at h
      · rename_i hll
        cases h
        obtain ⟨rfl, hs⟩ := decG_sound hg
        obtain rfl := decI_sound hl
        exact ⟨rfl, _, _, derives_call fz20B g hs rule _ l hll St.empty (.inl ⟨z, rfl⟩)⟩
      · cases h
    · cases h
  · cases h
noncomputable def mdV : Nat → Md := fun f => match f with
  | 8 => .ora F8 | 11 => .ora F35 | 17 => .ora F31n
  | 10 | 14 | 16 | 20 | 21 | 46 | 62 | 64 | 65 | 83 | 73 => .ice
  | 60 | 61 | 81 | 82 | 76 | 85 => .keep
  | _ => .cut
theorem oraMV : ∀ f F, oraOf (mdV f) = some F → OraS Try.prog f F := by
  intro f F h
  unfold mdV at h
  split at h <;> cases h
  · exact ora8
  · exact ora35
  · exact ora31n
theorem check_V (g : Gr) (σ : St) (h : SmallG g) : CallsTo (XX mdV) (.func 11 []) [g.a] σ (.d (.int .i64 (checkP g))) σ [] := CallsTo.ora (F := F35) rfl fn11 rfl (F35_at h) rfl
theorem eq_snV {σ : St} : binA (XX mdV) σ .eql 28 (.d .nptr) (.d .nptr) = some (.d (.bool true)) := by
  unfold binA eqT; simp only [ti28]; rfl
set_option maxHeartbeats 16000000 in
theorem derived_call (g : Gr) (hg : SmallG g) (hL : g.rules.length < 1000000000) (z : Bool) (l0 : List Int) (hl0 : l0.length < 1000000000) : ∃ σ' T, CallsTo (XX mdV) (.func 6 []) [g.a, .d (.slc z (intsD l0))] St.empty (.d (.bool true)) σ' T := by
  refine ⟨St.empty, [], CallsTo.cut0 rfl fn6 (by simp) rfl ?_⟩
  simp only [Try.f6, Option.getD_some]
  simp only [go_sem, ↓reduceIte, Int.reduceEq, Nat.reduceBEq, Int.reduceBEq, Int.reduceBNe, Int.reduceLT, Int.reduceLE, Nat.reduceAdd, Nat.reducePow, Nat.reduceEqDiff, Nat.reduceLT, Nat.reduceLeDiff, Nat.reduceMul, Nat.reduceSub, Gr.a]
  refine ⟨_, _, _, CallsTo.ora (F := F8) rfl fn8 rfl rfl rfl, ?_⟩
  simp only [go_sem, ↓reduceIte, Int.reduceEq, Nat.reduceBEq, Int.reduceBEq, Int.reduceBNe, Int.reduceLT, Int.reduceLE, Nat.reduceAdd, Nat.reducePow, Nat.reduceEqDiff, Nat.reduceLT, Nat.reduceLeDiff, Nat.reduceMul, Nat.reduceSub]
  refine ⟨_, _, _, deepG_call rfl rfl g _ hg hL, ?_⟩
  cases hd : deepG g with
  | true => simp only [go_sem, ↓reduceIte, Int.reduceEq, Nat.reduceBEq, Int.reduceBEq, Int.reduceBNe, Int.reduceLT, Int.reduceLE, Nat.reduceAdd, Nat.reducePow, Nat.reduceEqDiff, Nat.reduceLT, Nat.reduceLeDiff, Nat.reduceMul, Nat.reduceSub]
  | false =>
  have hmin : min l0.length 30 ≤ l0.length := Nat.min_le_left _ _
  have hm30 : min l0.length 30 ≤ 30 := Nat.min_le_right _ _
  have hmn : minmax false [.d (.int .i64 (l0.length : Int)), .d (.int .i64 30)] = some (.d (.int .i64 ((min l0.length 30 : Nat) : Int))) := minA (b := 30)
  have hl1 : (l0.take (min l0.length 30)).length = min l0.length 30 := by rw [List.length_take]; omega
  simp only [go_sem, ↓reduceIte, Int.reduceEq, Nat.reduceBEq, Int.reduceBEq, Int.reduceBNe, Int.reduceLT, Int.reduceLE, Nat.reduceAdd, Nat.reducePow, Nat.reduceEqDiff, Nat.reduceLT, Nat.reduceLeDiff, Nat.reduceMul, Nat.reduceSub, hmn, hmin]
  generalize hl : l0.take (min l0.length 30) = l at *
  have hl30 : l.length ≤ 30 := by omega
  have hnew : ∀ (σ : St), CallsTo (XX mdV) (.func 16 []) [g.a] σ (.tup [.d (simV g).1, .d (.int .i64 (simV g).2)]) σ [] := fun σ =>
    simnew_c (fun g σ h => new_any check_V rfl rfl rfl rfl rfl rfl rfl rfl rfl rfl rfl rfl g σ h) rfl rfl rfl rfl rfl rfl rfl g hg σ
  refine ⟨_, _, _, hnew _, ?_⟩
  by_cases hc : checkP g = 0
  · have c0 : ((0 : Int) != 0) = false := rfl
    have h := GOk.of hc
    have hrule : (newN g).N.rule 0 = 0 := by have := ((newN_G h).en 0 h.pos).2.2; rw [newN_en0 h] at this; exact this
    have hs := spok0 hc hrule
    obtain ⟨v1, v2⟩ := viable_c (fz := mdV) (zt := z) (l := l) rfl rfl rfl rfl rfl rfl rfl rfl rfl rfl rfl rfl hg hc (by omega) hs (kr := (St.empty.push (.cells g.c)).n) (kM := (St.empty.push (.cells g.c)).n) (σ := St.empty.push (.cells g.c)) (.inl ⟨true, rfl⟩)
    have hG := v1.g (newN_G h) hs.st hs.bs
    have hfl := hG.1.len (Nat.zero_le _)
    have hE : derE g 0 l = 0 := by
      have hp := h.pos
      unfold derE
      rw [if_neg (by rw [hc]; simp), if_neg (by intro hh; rw [Bool.or_eq_true, decide_eq_true_eq, decide_eq_true_eq] at hh; omega), if_neg (by intro hh; rw [decide_eq_true_eq] at hh; omega)]
    rw [simV_ok hc]
    simp only [go_sem, ↓reduceIte, Int.reduceEq, Nat.reduceBEq, Int.reduceBEq, Int.reduceBNe, Int.reduceLT, Int.reduceLE, Nat.reduceAdd, Nat.reducePow, Nat.reduceEqDiff, Nat.reduceLT, Nat.reduceLeDiff, Nat.reduceMul, Nat.reduceSub, c0]
    refine ⟨_, _, _, CallsTo.ora (F := F31n) rfl fn17 rfl (F31n_at hg 0 z l (by omega)) rfl, ?_⟩
    simp only [go_sem, ↓reduceIte, Int.reduceEq, Nat.reduceBEq, Int.reduceBEq, Int.reduceBNe, Int.reduceLT, Int.reduceLE, Nat.reduceAdd, Nat.reducePow, Nat.reduceEqDiff, Nat.reduceLT, Nat.reduceLeDiff, Nat.reduceMul, Nat.reduceSub, hE]
    refine ⟨_, _, _, v2, ?_⟩
    have e0 : ((0 : Int) == 0) = true := rfl
    have e1 : decide (((farV l (newN g).N (newX g) 0 [] : Nat) : Int) ≥ 0) = true := by simp
    have e2 : decide (((farV l (newN g).N (newX g) 0 [] : Nat) : Int) ≤ (l.length : Int)) = true := by simpa using hfl
    cases hdv : derV g 0 l with
    | false => simp only [go_sem, ↓reduceIte, Int.reduceEq, Nat.reduceBEq, Int.reduceBEq, Int.reduceBNe, Int.reduceLT, Int.reduceLE, Nat.reduceAdd, Nat.reducePow, Nat.reduceEqDiff, Nat.reduceLT, Nat.reduceLeDiff, Nat.reduceMul, Nat.reduceSub, viaV, e0, e1, e2, hdv]
    | true =>
      have e3 := der_far h hdv hG
      rw [e3] at e1 e2
      have e4 : ((l.length : Int) == (l.length : Int)) = true := by simp
      simp only [go_sem, ↓reduceIte, Int.reduceEq, Nat.reduceBEq, Int.reduceBEq, Int.reduceBNe, Int.reduceLT, Int.reduceLE, Nat.reduceAdd, Nat.reducePow, Nat.reduceEqDiff, Nat.reduceLT, Nat.reduceLeDiff, Nat.reduceMul, Nat.reduceSub, viaV, e0, e1, e2, e3, e4, hdv]
      done
  · have c1 : (checkP g != 0) = true := by simpa using hc
    have c2 : (checkP g == checkP g) = true := by simp
    rw [simV_no hc]
    simp only [go_sem, ↓reduceIte, Int.reduceEq, Nat.reduceBEq, Int.reduceBEq, Int.reduceBNe, Int.reduceLT, Int.reduceLE, Nat.reduceAdd, Nat.reducePow, Nat.reduceEqDiff, Nat.reduceLT, Nat.reduceLeDiff, Nat.reduceMul, Nat.reduceSub, c1, eq_snV]
    refine ⟨_, _, _, check_V g _ hg, ?_⟩
    simp only [go_sem, ↓reduceIte, Int.reduceEq, Nat.reduceBEq, Int.reduceBEq, Int.reduceBNe, Int.reduceLT, Int.reduceLE, Nat.reduceAdd, Nat.reducePow, Nat.reduceEqDiff, Nat.reduceLT, Nat.reduceLeDiff, Nat.reduceMul, Nat.reduceSub, c2]
    done
end Go.Am

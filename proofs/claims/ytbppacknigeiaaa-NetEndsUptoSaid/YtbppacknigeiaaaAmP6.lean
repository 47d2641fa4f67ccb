/- Part P6 of a proof that runs a program's calls on a small machine whose values bear no addresses: no conditions. -/
import Derived.Test.YtbppacknigeiaaaAmP1
import Derived.Test.YtbppacknigeiaaaAmM6
set_option autoImplicit false
set_option linter.unusedSimpArgs false
set_option linter.unusedVariables false
set_option linter.unusedSectionVars false
namespace Go.Am
open Go Go.Proofs
abbrev OL := Option (List Int)
/-- no more -/
def leO (a b : OL) : Prop := match b with
  | none => True
  | some y => match a with
    | none => False
    | some x => Ge y x
/-- one behind the other, if that is not too long -/
def cat (a b : OL) : OL := match a, b with
  | some x, some y => if x.length + y.length > 256 then none else some (x ++ y)
  | _, _ => none
def Bd (v : OL) : Prop := ∀ x, v = some x → x.length ≤ 256
theorem leO.refl (a : OL) : leO a a := by cases a with
  | none => trivial
  | some x => exact Ge.refl x
theorem leO.none (a : OL) : leO a none := trivial
theorem leO.trans {a b c : OL} (h : leO a b) (k : leO b c) : leO a c := by
  cases c with
  | none => trivial
  | some z =>
    cases b with
    | none => exact k.elim
    | some y => cases a with
      | none => exact h.elim
      | some x => exact Ge.trans k h
theorem cat_mono {a a' b b' : OL} (h : leO a a') (k : leO b b') : leO (cat a b) (cat a' b') := by
  cases a' with
  | none => exact trivial
  | some x' => cases b' with
    | none => exact trivial
    | some y' => cases a with
      | none => exact h.elim
      | some x => cases b with
        | none => exact k.elim
        | some y =>
          unfold cat
          dsimp only
          have h1 : x.length ≤ x'.length := Ge.len h
          have h2 : y.length ≤ y'.length := Ge.len k
          by_cases c : x'.length + y'.length > 256
          · rw [if_pos c]; trivial
          · rw [if_neg c, if_neg (by omega)]; exact Ge.app h k
theorem cat_assoc (a b c : OL) : cat (cat a b) c = cat a (cat b c) := by
  cases a with
  | none => cases b <;> cases c <;> rfl
  | some x => cases b with
    | none => cases c <;> rfl
    | some y => cases c with
      | none =>
        have h1 : cat (some y) (none : OL) = none := rfl
        rw [h1]
        cases h2 : cat (some x) (some y) <;> rfl
      | some z =>
        unfold cat
        dsimp only
        by_cases c1 : x.length + y.length > 256
        · rw [if_pos c1]
          by_cases c2 : y.length + z.length > 256
          · rw [if_pos c2]
          · rw [if_neg c2]; dsimp only; rw [if_pos (by rw [List.length_append]; omega)]
        · rw [if_neg c1]
          dsimp only
          by_cases c2 : y.length + z.length > 256
          · rw [if_pos c2, if_pos (by rw [List.length_append]; omega)]
          · rw [if_neg c2]
            dsimp only
            rw [List.length_append, List.length_append, List.append_assoc]
            by_cases c3 : x.length + (y.length + z.length) > 256
            · rw [if_pos c3, if_pos (by omega)]
            · rw [if_neg c3, if_neg (by omega)]
theorem cat_bd (a b : OL) : Bd (cat a b) := by
  intro x h
  unfold cat at h
  split at h
  · split at h
    · cases h
    · cases h; rw [List.length_append]; omega
  · cases h
theorem cat_nil {v : OL} (h : Bd v) : cat (some []) v = v := by
  cases v with
  | none => rfl
  | some x => unfold cat; dsimp only; rw [if_neg (by have := h x rfl; simp; omega)]; rfl
theorem cat_nil' {v : OL} (h : Bd v) : cat v (some []) = v := by
  cases v with
  | none => rfl
  | some x => unfold cat; dsimp only; rw [if_neg (by have := h x rfl; simp; omega), List.append_nil]
theorem le_cat (a v : OL) : leO v (cat a v) := by
  cases a with
  | none => exact trivial
  | some x => cases v with
    | none => exact trivial
    | some y =>
      unfold cat; dsimp only
      split
      · trivial
      · exact Ge.app (Ge.nil x) (Ge.refl y)
theorem nil_le (v : OL) : leO (some []) v := by
  cases v with
  | none => trivial
  | some x => exact Ge.nil x
theorem bd_nil : Bd (some []) := fun x h => by cases h; simp
theorem lex_anti : ∀ {a b : List Int}, a.length = b.length → lexLt a b = false → lexLt b a = false → a = b
  | [], [], _, _, _ => rfl
  | x :: a, y :: b, h, h1, h2 => by
    rw [lexLt] at h1 h2
    split at h1
    · cases h1
    rename_i n1
    rw [if_neg n1] at h2
    split at h2
    · cases h2
    rename_i n2
    try rw [if_neg n2] at h1
    try rw [if_neg n1] at h2
    rw [lex_anti (by simpa using h) h1 h2, show x = y by omega]
  | [], _ :: _, h, _, _ => by cases h
  | _ :: _, [], h, _, _ => by cases h
theorem leO.anti {a b : OL} (h : leO a b) (k : leO b a) : a = b := by
  cases a with
  | none => cases b with
    | none => rfl
    | some y => exact h.elim
  | some x => cases b with
    | none => exact k.elim
    | some y =>
      have h1 := Ge.len (a := y) (b := x) h
      have h2 := Ge.len (a := x) (b := y) k
      have h : lessP y x = false := h
      have k : lessP x y = false := k
      unfold lessP at h k
      rw [if_pos (by omega)] at h k
      rw [lex_anti (by omega) k h]
/-! the shortest of a sequence -/
def shS (F : Nat → OL) : List Ex → OL
  | [] => some []
  | x :: l => cat (shortE F x) (shS F l)
theorem shS_bd (F : Nat → OL) : ∀ l, Bd (shS F l)
  | [] => bd_nil
  | _ :: _ => cat_bd _ _
theorem shortS_cat (F : Nat → OL) : ∀ (l : List Ex) (out : List Int), out.length ≤ 256 → shortS F l out = cat (some out) (shS F l)
  | [], out, h => by rw [shortS, shS, cat_nil' (fun x e => by cases e; exact h)]
  | x :: l, out, h => by
    rw [shortS, shS, ← cat_assoc]
    cases hx : shortE F x with
    | none => rfl
    | some s =>
      dsimp only
      by_cases c : out.length + s.length > 256
      · have : cat (some out) (some s) = none := by unfold cat; dsimp only; rw [if_pos c]
        rw [if_pos c, this]; rfl
      · have : cat (some out) (some s) = some (out ++ s) := by unfold cat; dsimp only; rw [if_neg c]
        rw [if_neg c, this]
        exact shortS_cat F l _ (by rw [List.length_append]; omega)
theorem shortS_nil (F : Nat → OL) (l : List Ex) : shortS F l [] = shS F l := by rw [shortS_cat F l [] (by simp), cat_nil (shS_bd F l)]
/-- more that is known makes it no longer -/
theorem shortE_mono {F G : Nat → OL} (h : ∀ n, leO (F n) (G n)) : ∀ x : Ex, leO (shortE F x) (shortE G x) := fun x => by
  have hsub : ∀ y ∈ x.l, leO (shortE F y) (shortE G y) := fun y hy => shortE_mono h y
  rw [shortE_eq, shortE_eq]
  split
  · exact leO.refl _
  split
  · exact h _
  split
  · rw [shortS_nil, shortS_nil]
    have : ∀ l : List Ex, (∀ y ∈ l, leO (shortE F y) (shortE G y)) → leO (shS F l) (shS G l) := by
      intro l
      induction l with
      | nil => intro _; exact leO.refl _
      | cons y l ih => intro hl; exact cat_mono (hl y (by simp)) (ih fun z hz => hl z (by simp [hz]))
    exact this _ hsub
  split
  · cases hG : shortA G x.l none with
    | none => trivial
    | some s =>
      rcases shortA_mem G x.l none s hG with e | ⟨y, hy, e⟩
      · cases e
      · have h1 := hsub y hy
        rw [e] at h1
        cases hF : shortE F y with
        | none => rw [hF] at h1; exact h1.elim
        | some u =>
          rw [hF] at h1
          obtain ⟨v, hv, hv2⟩ := (shortA_best F x.l none).2 y hy u hF
          rw [hv]
          exact Ge.trans h1 hv2
  · exact leO.refl _
termination_by x => x
decreasing_by exact Ex.sub_lt hy
end Go.Am
namespace Go.Am
open Go Go.Proofs
/-- values along edges -/
def EdO (W : Eg → OL) (V : Nat → OL) (v : OL) (e : Eg) : Prop := leO v (cat (W e) (V e.to))
/-- of a fragment: its begin is no more than what it asks, and can be as much -/
structure FragW (W : Eg → OL) (N : Nv) (f t : Nat) (N' : Nv) (o : List Eg) (S : OL) : Prop where
  A : ∀ V : Nat → OL, (∀ s, Bd (V s)) → (∀ e ∈ o, EdO W V (V f) e) → (∀ (s : Nat) (r : List Eg), N.es.length ≤ s → N'.es[s]? = some r → ∀ e ∈ r, EdO W V (V s) e) → leO (V f) (cat S (V t))
  B : ∀ V0 : Nat → OL, (∀ s, Bd (V0 s)) → ∃ V : Nat → OL, (∀ s, Bd (V s)) ∧ (∀ s, s < N.es.length → V s = V0 s) ∧ (∀ e ∈ o, EdO W V (cat S (V t)) e) ∧ ∀ (s : Nat) (r : List Eg), N.es.length ≤ s → N'.es[s]? = some r → ∀ e ∈ r, EdO W V (V s) e
/-- the same, of a begin that is just so much -/
structure FragC (W : Eg → OL) (N : Nv) (f t : Nat) (N' : Nv) (o : List Eg) (S : OL) : Prop where
  A : ∀ V : Nat → OL, (∀ s, Bd (V s)) → (∀ e ∈ o, EdO W V (V f) e) → (∀ (s : Nat) (r : List Eg), N.es.length ≤ s → N'.es[s]? = some r → ∀ e ∈ r, EdO W V (V s) e) → leO (V f) (cat S (V t))
  B : ∀ V0 : Nat → OL, (∀ s, Bd (V0 s)) → V0 f = cat S (V0 t) → ∃ V : Nat → OL, (∀ s, Bd (V s)) ∧ (∀ s, s < N.es.length → V s = V0 s) ∧ (∀ e ∈ o, EdO W V (cat S (V t)) e) ∧ ∀ (s : Nat) (r : List Eg), N.es.length ≤ s → N'.es[s]? = some r → ∀ e ∈ r, EdO W V (V s) e
theorem FragW.c {W : Eg → OL} {N N' : Nv} {f t : Nat} {o : List Eg} {S : OL} (h : FragW W N f t N' o S) : FragC W N f t N' o S := ⟨h.A, fun V0 h1 _ => h.B V0 h1⟩
section
variable {W : Eg → OL} {G : Eg → Prop} {N N1 N2 : Nv} {f t : Nat} {o o1 o2 : List Eg} {S S1 S2 : OL} {P P1 P2 : (Nat → Int) → Prop}
theorem EdO.le {V : Nat → OL} {v v' : OL} {e : Eg} (h : EdO W V v e) (hv : leO v' v) : EdO W V v' e := hv.trans h
theorem EdO.congr {V V' : Nat → OL} {v : OL} {e : Eg} (h : EdO W V v e) (he : V' e.to = V e.to) : EdO W V' v e := by unfold EdO; rw [he]; exact h
theorem FragW.eq (h : FragW W N f t N1 o S) (hs : S1 = S) : FragW W N f t N1 o S1 := by rw [hs]; exact h
theorem fw_edge {k n : Int} : FragW W N f t (N.edge f k n t) [⟨k, n, t⟩] (W ⟨k, n, t⟩) where
  A V _ h _ := h _ (by simp)
  B V0 h := ⟨V0, h, fun _ _ => rfl, fun e he => by simp at he; subst he; exact leO.refl _, fun s r h1 h2 => by
    have := (List.getElem?_eq_some_iff.1 h2).1; rw [Nv.es_edge] at this; omega⟩
/-- side by side -/
theorem fw_parA {t1 t2 : Nat} (h1 : Frag G N f t1 N1 o1 P1) (h2 : Frag G N1 f t2 N2 o2 P2) (w1 : FragW W N f t1 N1 o1 S1) (w2 : FragW W N1 f t2 N2 o2 S2) (V : Nat → OL) (hB : ∀ s, Bd (V s)) (ho : ∀ e ∈ o1 ++ o2, EdO W V (V f) e)
    (hn : ∀ (s : Nat) (r : List Eg), N.es.length ≤ s → N2.es[s]? = some r → ∀ e ∈ r, EdO W V (V s) e) : leO (V f) (cat S1 (V t1)) ∧ leO (V f) (cat S2 (V t2)) := by
  have hl := h1.len
  have hf := h1.fl
  refine ⟨w1.A V hB (fun e he => ho e (by simp [he])) fun s r hs hr => ?_, w2.A V hB (fun e he => ho e (by simp [he])) fun s r hs hr => hn s r (by omega) hr⟩
  have hsl := (List.getElem?_eq_some_iff.1 hr).1
  exact hn s r hs (by rw [h2.old s hsl (by omega)]; exact hr)
theorem fw_parB {t1 t2 : Nat} (h1 : Frag G N f t1 N1 o1 P1) (h2 : Frag G N1 f t2 N2 o2 P2) (w1 : FragW W N f t1 N1 o1 S1) (w2 : FragW W N1 f t2 N2 o2 S2) (V0 : Nat → OL) (hB : ∀ s, Bd (V0 s)) (ht2 : t2 < N.es.length) :
    ∃ V : Nat → OL, (∀ s, Bd (V s)) ∧ (∀ s, s < N.es.length → V s = V0 s) ∧ (∀ e ∈ o1, EdO W V (cat S1 (V t1)) e) ∧ (∀ e ∈ o2, EdO W V (cat S2 (V t2)) e) ∧ ∀ (s : Nat) (r : List Eg), N.es.length ≤ s → N2.es[s]? = some r → ∀ e ∈ r, EdO W V (V s) e := by
  have hl := h1.len
  have hf := h1.fl
  have ht1 := h1.tl
  obtain ⟨V1, a1, a2, a3, a4⟩ := w1.B V0 hB
  obtain ⟨V2, b1, b2, b3, b4⟩ := w2.B V1 a1
  have tgt : ∀ e : Eg, (e.to = t1 ∨ e.to = f ∨ (N.es.length ≤ e.to ∧ e.to < N1.es.length)) → V2 e.to = V1 e.to := fun e g => b2 _ (by rcases g with g | g | g <;> omega)
  refine ⟨V2, b1, fun s hs => (b2 s (by omega)).trans (a2 s hs), fun e he => ?_, b3, fun s r hs hr e he => ?_⟩
  · rw [b2 t1 (by omega)]
    exact (a3 e he).congr (tgt e (h1.og e he).2)
  · rcases Nat.lt_or_ge s N1.es.length with h | h
    · obtain ⟨r', r1, r2, r3, r4⟩ := h1.new s hs h
      rw [h2.old s h (by omega), r1] at hr
      cases hr
      rw [b2 s h]
      exact (a4 s _ hs r1 e he).congr (tgt e (r4 e he).2)
    · exact b4 s r h hr e he
def updO (V : Nat → OL) (s : Nat) (v : OL) : Nat → OL := fun j => if j = s then v else V j
/-- one behind the other -/
theorem fw_seq (h1 : Frag G (N.fresh (N.rule f)) f N.es.length N1 o1 P1) (h2 : Frag G N1 N.es.length t N2 o2 P2) (w1 : FragW W (N.fresh (N.rule f)) f N.es.length N1 o1 S1) (w2 : FragC W N1 N.es.length t N2 o2 S2)
    (hf : f < N.es.length) (ht : t < N.es.length) : FragW W N f t N2 o1 (cat S1 S2) := by
  have l0 := Nv.es_fresh N (N.rule f)
  have l1 := h1.len
  have gnew : (N.fresh (N.rule f)).es[N.es.length]? = some [] := by simp [Nv.fresh]
  have gs1 : N1.es[N.es.length]? = some [] := by rw [h1.old _ (by omega) (by omega)]; exact gnew
  have gs2 : N2.es[N.es.length]? = some o2 := by rw [h2.out _ gs1]; rfl
  constructor
  · intro V hB ho hn
    have q1 := w1.A V hB ho fun s r hs hr => by
      have hsl := (List.getElem?_eq_some_iff.1 hr).1
      exact hn s r (by omega) (by rw [h2.old s hsl (by omega)]; exact hr)
    have q2 := w2.A V hB (fun e he => hn _ _ (Nat.le_refl _) gs2 e he) fun s r hs hr => hn s r (by omega) hr
    rw [cat_assoc]
    exact q1.trans (cat_mono (leO.refl _) q2)
  · intro V0 hB
    have hB' : ∀ s, Bd (updO V0 N.es.length (cat S2 (V0 t)) s) := fun s => by unfold updO; split; exact cat_bd _ _; exact hB s
    obtain ⟨V1, a1, a2, a3, a4⟩ := w1.B _ hB'
    obtain ⟨V2, b1, b2, b3, b4⟩ := w2.B V1 a1 (by
      rw [a2 N.es.length (by omega), a2 t (by omega)]; unfold updO; rw [if_pos rfl, if_neg (by omega)])
    have u1 : ∀ s, s < N.es.length → V2 s = V0 s := fun s hs => by rw [b2 s (by omega), a2 s (by omega)]; exact if_neg (by omega)
    have u2 : V2 N.es.length = cat S2 (V0 t) := by rw [b2 _ (by omega), a2 _ (by omega)]; exact if_pos rfl
    have tgt : ∀ e : Eg, (e.to = N.es.length ∨ e.to = f ∨ ((N.fresh (N.rule f)).es.length ≤ e.to ∧ e.to < N1.es.length)) → V2 e.to = V1 e.to := fun e g => b2 _ (by rcases g with g | g | g <;> omega)
    refine ⟨V2, b1, u1, fun e he => ?_, fun s r hs hr e he => ?_⟩
    · have := (a3 e he).congr (tgt e (h1.og e he).2)
      rw [← b2 _ (by omega), u2] at this
      rw [cat_assoc, u1 t ht]; exact this
    · rcases Nat.lt_or_ge s N1.es.length with h | h
      · by_cases hsn : s = N.es.length
        · subst hsn
          rw [gs2] at hr
          cases hr
          have := b3 e he
          rw [u1 t ht] at this
          rw [u2]; exact this
        · obtain ⟨r', r1, r2, r3, r4⟩ := h1.new s (by omega) h
          rw [h2.old s h hsn, r1] at hr
          cases hr
          rw [b2 s h]
          exact (a4 s _ (by omega) r1 e he).congr (tgt e (r4 e he).2)
      · exact b4 s r h hr e he
/-- two ways, of which one or the other is taken -/
theorem fw_min (h1 : Frag G N f t N1 o1 P1) (h2 : Frag G N1 f t N2 o2 P2) (w1 : FragW W N f t N1 o1 S1) (w2 : FragW W N1 f t N2 o2 S2) (l1 : leO S S1) (l2 : leO S S2) (hS : S = S1 ∨ S = S2) : FragW W N f t N2 (o1 ++ o2) S where
  A V hB ho hn := by
    obtain ⟨q1, q2⟩ := fw_parA h1 h2 w1 w2 V hB ho hn
    rcases hS with e | e <;> rw [e] <;> assumption
  B V0 hB := by
    obtain ⟨V, b1, b2, b3, b4, b5⟩ := fw_parB h1 h2 w1 w2 V0 hB h1.tl
    refine ⟨V, b1, b2, fun e he => ?_, b5⟩
    rcases List.mem_append.1 he with he | he
    · exact (b3 e he).le (cat_mono l1 (leO.refl _))
    · exact (b4 e he).le (cat_mono l2 (leO.refl _))
/-- round and round, and on by nothing -/
theorem fw_loop (h1 : Frag G N f f N1 o1 P1) (h2 : Frag G N1 f t N2 o2 P2) (w1 : FragW W N f f N1 o1 S1) (w2 : FragW W N1 f t N2 o2 (some [])) (ht : t < N.es.length) : FragC W N f t N2 (o1 ++ o2) (some []) where
  A V hB ho hn := (fw_parA h1 h2 w1 w2 V hB ho hn).2
  B V0 hB hf := by
    obtain ⟨V, b1, b2, b3, b4, b5⟩ := fw_parB h1 h2 w1 w2 V0 hB ht
    refine ⟨V, b1, b2, fun e he => ?_, b5⟩
    rcases List.mem_append.1 he with he | he
    · refine (b3 e he).le ?_
      rw [cat_nil (b1 t), b2 t ht, b2 f h1.fl, hf, cat_nil (hB t)]
      exact le_cat _ _
    · exact b4 e he
end
end Go.Am
namespace Go.Am
open Go Go.Proofs
/-- what an edge takes, as a value -/
def edW (C : Nat → OL) (e : Eg) : OL := if e.kind = 1 then some [e.num] else if e.kind = 2 then C e.num.toNat else some []
section
variable {tk : Int} {r : Nat} {C : Nat → OL}
theorem edW_free (t : Nat) : edW C ⟨0, 0, t⟩ = some [] := rfl
def LV (tk : Int) (r : Nat) (C : Nat → OL) (y : Ex) : Prop := ∀ (N : Nv) (f t : Nat), f < N.es.length → t < N.es.length → N.rs.length = N.es.length →
  ∃ o P, Frag (GoodE tk r) N f t (layE y f t N) o P ∧ GoodO o ∧ FragW (edW C) N f t (layE y f t N) o (shortE C y)
theorem shortE_bd (hC : ∀ n, Bd (C n)) : ∀ x : Ex, Bd (shortE C x) := fun x => by
  rw [shortE_eq]
  split
  · intro s e; cases e; simp
  split
  · exact hC _
  split
  · rw [shortS_nil]; exact shS_bd C _
  split
  · intro s e
    rcases shortA_mem C x.l none s e with h | ⟨y, hy, h⟩
    · cases h
    · exact shortE_bd hC y s h
  · exact bd_nil
termination_by x => x
decreasing_by exact Ex.sub_lt hy
theorem layW_fv {y : Ex} (h : LV tk r C y) (hC : ∀ n, Bd (C n)) (N : Nv) (f t : Nat) (hf : f < N.es.length) (ht : t < N.es.length) (hr : N.rs.length = N.es.length) :
    ∃ P, Frag (GoodE tk r) N f t (layW y f t N) [⟨0, 0, N.es.length⟩] P ∧ FragW (edW C) N f t (layW y f t N) [⟨0, 0, N.es.length⟩] (shortE C y) := by
  have l0 := Nv.es_fresh N (N.rule f)
  have lr : (N.fresh (N.rule f)).rs.length = (N.fresh (N.rule f)).es.length := by simp [Nv.fresh, hr]
  have h1 := frag_edge (G := GoodE tk r) (N := N.fresh (N.rule f)) (f := f) (t := N.es.length) (k := 0) (n := 0) (by omega) (by omega) lr (goodE_free _ _ _)
  have v1 : FragW (edW C) (N.fresh (N.rule f)) f N.es.length ((N.fresh (N.rule f)).edge f 0 0 N.es.length) [⟨0, 0, N.es.length⟩] (edW C ⟨0, 0, N.es.length⟩) := fw_edge
  have l1 := Nv.es_edge (N.fresh (N.rule f)) f 0 0 N.es.length
  obtain ⟨o, P, h2, ⟨h3, h4⟩, v2⟩ := h ((N.fresh (N.rule f)).edge f 0 0 N.es.length) N.es.length t (by omega) (by omega) h1.rl'
  refine ⟨_, frag_seq h1 h2 hr hf ht h3 h4, (fw_seq h1 h2 v1 v2.c hf ht).eq ?_⟩
  rw [edW_free, cat_nil (shortE_bd hC y)]
theorem layS_fv (hC : ∀ n, Bd (C n)) : ∀ (l : List Ex), (∀ y ∈ l, LV tk r C y) → l ≠ [] → ∀ (N : Nv) (f t : Nat), f < N.es.length → t < N.es.length → N.rs.length = N.es.length →
    ∃ o P, Frag (GoodE tk r) N f t (layS l f t N) o P ∧ GoodO o ∧ FragW (edW C) N f t (layS l f t N) o (shS C l)
  | [], _, h, _, _, _, _, _, _ => absurd rfl h
  | [x], hl, _, N, f, t, hf, ht, hr => by
    obtain ⟨o, P, h1, h2, v⟩ := hl x (by simp) N f t hf ht hr
    rw [layS_one]
    refine ⟨o, P, h1, h2, v.eq ?_⟩
    rw [shS, shS, cat_nil' (shortE_bd hC x)]
  | x :: y :: l, hl, _, N, f, t, hf, ht, hr => by
    rw [layS_cons2]
    have l0 := Nv.es_fresh N (N.rule f)
    have lr : (N.fresh (N.rule f)).rs.length = (N.fresh (N.rule f)).es.length := by simp [Nv.fresh, hr]
    obtain ⟨o1, P1, h1, h2, v1⟩ := hl x (by simp) (N.fresh (N.rule f)) f N.es.length (by omega) (by omega) lr
    have l1 := h1.len
    obtain ⟨o2, P2, g1, ⟨g2, g2'⟩, v2⟩ := layS_fv hC (y :: l) (fun z hz => hl z (by simp [hz])) (by simp) (layE x f N.es.length (N.fresh (N.rule f))) N.es.length t (by omega) (by omega) h1.rl'
    exact ⟨o1, _, frag_seq h1 g1 hr hf ht g2 g2', h2, (fw_seq h1 g1 v1 v2.c hf ht).eq (by rw [shS])⟩
/-- the best of some -/
def bestO (a b : OL) : OL := match a, b with
  | none, b => b
  | a, none => a
  | some x, some y => if lessP y x = true then some y else some x
theorem bestO_l (a b : OL) : leO (bestO a b) a := by
  cases a with
  | none => trivial
  | some x => cases b with
    | none => exact leO.refl _
    | some y =>
      unfold bestO; dsimp only
      split
      · rename_i h; exact Ge.of_not h
      · exact leO.refl _
theorem bestO_r (a b : OL) : leO (bestO a b) b := by
  cases b with
  | none => trivial
  | some y => cases a with
    | none => exact leO.refl _
    | some x =>
      unfold bestO; dsimp only
      split
      · exact leO.refl _
      · rename_i h; show lessP y x = false; simpa using h
theorem bestO_or (a b : OL) : bestO a b = a ∨ bestO a b = b := by
  cases a with
  | none => right; cases b <;> rfl
  | some x => cases b with
    | none => left; rfl
    | some y =>
      unfold bestO; dsimp only
      split
      · right; rfl
      · left; rfl
def shA (C : Nat → OL) : List Ex → OL
  | [] => none
  | x :: l => bestO (shortE C x) (shA C l)
theorem shA_best (C : Nat → OL) : ∀ (l : List Ex), (∀ y ∈ l, leO (shA C l) (shortE C y)) ∧ (shA C l = none ∨ ∃ y ∈ l, shA C l = shortE C y)
  | [] => ⟨(fun y hy => by cases hy), .inl rfl⟩
  | x :: l => by
    obtain ⟨h1, h2⟩ := shA_best C l
    rw [shA]
    refine ⟨fun y hy => ?_, ?_⟩
    · rcases List.mem_cons.1 hy with rfl | hy
      · exact bestO_l _ _
      · exact (bestO_r _ _).trans (h1 y hy)
    · rcases bestO_or (shortE C x) (shA C l) with e | e
      · exact .inr ⟨x, by simp, e⟩
      · rw [e]
        exact h2.imp id fun ⟨y, hy, h⟩ => ⟨y, by simp [hy], h⟩
theorem shortA_eq (C : Nat → OL) (l : List Ex) : shortA C l none = shA C l := by
  obtain ⟨h1, h2⟩ := shA_best C l
  refine leO.anti ?_ ?_
  · rcases h2 with e | ⟨y, hy, e⟩
    · rw [e]; trivial
    · rw [e]
      cases hs : shortE C y with
      | none => trivial
      | some s =>
        obtain ⟨u, q1, q2⟩ := (shortA_best C l none).2 y hy s hs
        rw [q1]; exact q2
  · cases hs : shortA C l none with
    | none => trivial
    | some s =>
      rcases shortA_mem C l none s hs with e | ⟨y, hy, e⟩
      · cases e
      · have := h1 y hy
        rw [e] at this; exact this
theorem layA_fv (hC : ∀ n, Bd (C n)) : ∀ (l : List Ex), (∀ y ∈ l, LV tk r C y) → l ≠ [] → ∀ (N : Nv) (f t : Nat), f < N.es.length → t < N.es.length → N.rs.length = N.es.length →
    ∃ o P, Frag (GoodE tk r) N f t (layA l f t N) o P ∧ o ≠ [] ∧ (∀ e ∈ o, e.kind = 0) ∧ FragW (edW C) N f t (layA l f t N) o (shA C l)
  | [], _, h, _, _, _, _, _, _ => absurd rfl h
  | [x], hl, _, N, f, t, hf, ht, hr => by
    obtain ⟨P, h1, v1⟩ := layW_fv (hl x (by simp)) hC N f t hf ht hr
    rw [layA_cons, layA]
    refine ⟨_, P, h1, by simp, by simp, v1.eq ?_⟩
    rw [shA, shA]; cases shortE C x <;> rfl
  | x :: y :: l, hl, _, N, f, t, hf, ht, hr => by
    rw [layA_cons]
    obtain ⟨P1, h1, v1⟩ := layW_fv (hl x (by simp)) hC N f t hf ht hr
    have l1 := h1.len
    obtain ⟨o2, P2, g1, g2, g3, v2⟩ := layA_fv hC (y :: l) (fun z hz => hl z (by simp [hz])) (by simp) (layW x f t N) f t (by omega) (by omega) h1.rl'
    refine ⟨_, _, frag_par h1 g1 (.inl rfl) (.inl rfl) ht, by simp, fun e he => ?_, fw_min h1 g1 v1 v2 (by rw [shA]; exact bestO_l _ _) (by rw [shA]; exact bestO_r _ _) (by rw [shA]; exact bestO_or _ _)⟩
    rcases List.mem_append.1 he with he | he
    · simp at he; subst he; rfl
    · exact g3 e he
theorem layE_fv (hC : ∀ n, Bd (C n)) : ∀ (x : Ex), okE tk r x → LV tk r C x := fun x ho N f t hf ht hr => by
  have hsub : ∀ y ∈ x.l, LV tk r C y := fun y hy => layE_fv hC y (ho.sub hy)
  rw [layE_eq]
  have hsh := shortE_eq C x
  split
  · rename_i k1
    rw [if_pos k1] at hsh
    exact ⟨_, _, frag_edge hf ht hr ⟨by show (0 : Int) ≤ 1; decide, by show (1 : Int) ≤ 2; decide, (ho.tok k1).1, (fun h => by cases h), (fun _ => (ho.tok k1).2)⟩, ⟨by simp, .inl rfl⟩, fw_edge.eq hsh⟩
  rename_i k1
  rw [if_neg k1] at hsh
  split
  · rename_i k2
    rw [if_pos k2] at hsh
    exact ⟨_, _, frag_edge hf ht hr ⟨by show (0 : Int) ≤ 2; decide, by show (2 : Int) ≤ 2; decide, (ho.call k2).1, (fun _ => (ho.call k2).2), (fun h => by cases h)⟩, ⟨by simp, .inl rfl⟩, fw_edge.eq hsh⟩
  rename_i k2
  rw [if_neg k2] at hsh
  split
  · rename_i k3
    rw [if_pos k3, shortS_nil] at hsh
    by_cases h0 : x.l = []
    · rw [h0, layS]
      rw [h0, shS] at hsh
      exact ⟨_, _, frag_edge hf ht hr (goodE_free _ _ _), ⟨by simp, .inl rfl⟩, fw_edge.eq hsh⟩
    · obtain ⟨o, P, h1, h2, v⟩ := layS_fv hC x.l hsub h0 N f t hf ht hr
      exact ⟨o, P, h1, h2, v.eq hsh⟩
  rename_i k3
  rw [if_neg k3] at hsh
  split
  · rename_i k4
    rw [if_pos k4, shortA_eq] at hsh
    obtain ⟨o, P, h1, h2, h3, v⟩ := layA_fv hC x.l hsub (ho.alt k4) N f t hf ht hr
    exact ⟨o, P, h1, ⟨h2, .inr h3⟩, v.eq hsh⟩
  rename_i k4
  rw [if_neg k4] at hsh
  split
  · rename_i k5
    obtain ⟨z, hz⟩ := ho.star (.inl k5)
    have hLz := hsub z (by rw [hz]; simp)
    have l0 := Nv.es_fresh N (N.rule f)
    have lr : (N.fresh (N.rule f)).rs.length = (N.fresh (N.rule f)).es.length := by simp [Nv.fresh, hr]
    have h1 := frag_edge (G := GoodE tk r) (N := N.fresh (N.rule f)) (f := f) (t := N.es.length) (k := 0) (n := 0) (by omega) (by omega) lr (goodE_free _ _ _)
    have v1 : FragW (edW C) (N.fresh (N.rule f)) f N.es.length ((N.fresh (N.rule f)).edge f 0 0 N.es.length) [⟨0, 0, N.es.length⟩] (some []) := fw_edge.eq rfl
    have l1 := Nv.es_edge (N.fresh (N.rule f)) f 0 0 N.es.length
    have hr1 := h1.rl'
    generalize hN1 : (N.fresh (N.rule f)).edge f 0 0 N.es.length = N1 at h1 v1 l1 hr1
    obtain ⟨P2, h2, v2⟩ := layW_fv hLz hC N1 N.es.length N.es.length (by omega) (by omega) hr1
    have l2 := h2.len
    have h3 := frag_edge (G := GoodE tk r) (N := layW z N.es.length N.es.length N1) (f := N.es.length) (t := t) (k := 0) (n := 0) (by omega) (by omega) h2.rl' (goodE_free _ _ _)
    have v3 : FragW (edW C) (layW z N.es.length N.es.length N1) N.es.length t ((layW z N.es.length N.es.length N1).edge N.es.length 0 0 t) [⟨0, 0, t⟩] (some []) := fw_edge.eq rfl
    have h4 := frag_par (t := t) h2 h3 (.inr rfl) (.inl rfl) (by omega)
    have v4 := fw_loop h2 h3 v2 v3 (by omega)
    rw [hz, layH_cons]
    refine ⟨_, _, frag_seq h1 h4 hr hf ht (by simp) (.inr (by simp)), ⟨by simp, .inl rfl⟩, (fw_seq h1 h4 v1 v4 hf ht).eq ?_⟩
    rw [hsh, cat_nil bd_nil]
  rename_i k5
  split
  · rename_i k6
    obtain ⟨z, hz⟩ := ho.star (.inr k6)
    have hLz := hsub z (by rw [hz]; simp)
    obtain ⟨P2, h2, v2⟩ := layW_fv hLz hC N f t hf ht hr
    have l2 := h2.len
    have h3 := frag_edge (G := GoodE tk r) (N := layW z f t N) (f := f) (t := t) (k := 0) (n := 0) (by omega) (by omega) h2.rl' (goodE_free _ _ _)
    have v3 : FragW (edW C) (layW z f t N) f t ((layW z f t N).edge f 0 0 t) [⟨0, 0, t⟩] (some []) := fw_edge.eq rfl
    have h4 := frag_par (t := t) h2 h3 (.inl rfl) (.inl rfl) ht
    rw [hz, layH_cons]
    exact ⟨_, _, h4, ⟨by simp, .inr (by simp)⟩, fw_min h2 h3 v2 v3 (by rw [hsh]; exact nil_le _) (by rw [hsh]; exact leO.refl _) (.inr hsh)⟩
  · exact ⟨_, _, frag_edge hf ht hr (goodE_free _ _ _), ⟨by simp, .inl rfl⟩, fw_edge.eq hsh⟩
termination_by x => x
decreasing_by exact Ex.sub_lt hy
end
end Go.Am
namespace Go.Am
open Go Go.Proofs
/-- of a network of the first rules: what Short can tell of it -/
structure NetV (g : Gr) (C : Nat → OL) (i : Nat) (S : Ns) : Prop where
  A : ∀ (k : Nat) (y : Ex), k < i → g.bodies[k]? = some y → ∀ V : Nat → OL, (∀ s, Bd (V s)) → (∀ (s : Nat) (r : List Eg), S.N.es[s]? = some r → S.N.rule s = (k : Int) → ∀ e ∈ r, EdO (edW C) V (V s) e) →
    ∀ a b : Nat, S.en.getD k 0 = (a : Int) → S.lv.getD k 0 = (b : Int) → leO (V a) (cat (shortE C y) (V b))
  B : ∃ V : Nat → OL, (∀ s, Bd (V s)) ∧ (∀ (k : Nat) (y : Ex), k < i → g.bodies[k]? = some y → ∀ a b : Nat, S.en.getD k 0 = (a : Int) → S.lv.getD k 0 = (b : Int) → V a = shortE C y ∧ V b = some []) ∧
    ∀ (s : Nat) (r : List Eg), S.N.es[s]? = some r → ∀ e ∈ r, EdO (edW C) V (V s) e
theorem NetV.step {g : Gr} {C : Nat → OL} (hC : ∀ n, Bd (C n)) {i : Nat} {S : Ns} (h : NetW g i S) (hV : NetV g C i S) {b : Ex} (hb : g.bodies[i]? = some b) (ho : okE g.tokens g.bodies.length b) :
    NetV g C (i + 1) ⟨layE b S.N.es.length (S.N.es.length + 1) ((S.N.fresh i).fresh i), S.en ++ [(S.N.es.length : Int)], S.lv ++ [((S.N.es.length + 1 : Nat) : Int)]⟩ := by
  obtain ⟨N, en, lv⟩ := S
  obtain ⟨rl, enl, lvl, rr, ene, lve, row, -⟩ := h
  obtain ⟨hA, V0, v1, v2, v3⟩ := hV
  dsimp only at *
  have l1 : ((N.fresh (i : Int)).fresh (i : Int)).es.length = N.es.length + 2 := by rw [Nv.es_fresh, Nv.es_fresh]
  have hN1 : ((N.fresh (i : Int)).fresh (i : Int)).rs = N.rs ++ [(i : Int), (i : Int)] := by simp [Nv.fresh]
  have hE1 : ((N.fresh (i : Int)).fresh (i : Int)).es = N.es ++ [[], []] := by simp [Nv.fresh]
  obtain ⟨o, P, F, -, w⟩ := layE_fv (tk := g.tokens) (r := g.bodies.length) hC b ho ((N.fresh (i : Int)).fresh (i : Int)) N.es.length (N.es.length + 1) (by omega) (by omega) (by rw [hN1, hE1]; simp [rl])
  generalize layE b N.es.length (N.es.length + 1) ((N.fresh (i : Int)).fresh (i : Int)) = N' at F w
  have fl := F.len
  rw [l1] at fl
  have r1 : ∀ s, s < N.es.length → ((N.fresh (i : Int)).fresh (i : Int)).rule s = N.rule s := fun s hs => by
    unfold Nv.rule; rw [hN1, List.getD_eq_getElem?_getD, List.getElem?_append_left (by omega), ← List.getD_eq_getElem?_getD]
  have r2 : ∀ s, N.es.length ≤ s → s < N.es.length + 2 → ((N.fresh (i : Int)).fresh (i : Int)).rule s = (i : Int) := fun s h1 h2 => by
    unfold Nv.rule; rw [hN1, List.getD_eq_getElem?_getD, List.getElem?_append_right (by omega), rl]
    rcases (show s - N.es.length = 0 ∨ s - N.es.length = 1 by omega) with e | e <;> rw [e] <;> rfl
  have R1 : ∀ s, s < N.es.length + 2 → N'.rule s = ((N.fresh (i : Int)).fresh (i : Int)).rule s := fun s hs => by
    unfold Nv.rule; rw [F.rs, List.getD_eq_getElem?_getD, List.getElem?_append_left (by rw [F.rl, l1]; omega), ← List.getD_eq_getElem?_getD]
  have Rold : ∀ s, s < N.es.length → N'.rule s = N.rule s := fun s hs => (R1 s (by omega)).trans (r1 s hs)
  have Rnew : ∀ s, N.es.length ≤ s → s < N'.es.length → N'.rule s = (i : Int) := fun s h1 h2 => by
    rcases Nat.lt_or_ge s (N.es.length + 2) with h3 | h3
    · rw [R1 s h3, r2 s h1 h3]
    · unfold Nv.rule
      rw [F.rs, List.getD_eq_getElem?_getD, List.getElem?_append_right (by rw [F.rl, l1]; exact h3), List.getElem?_replicate, F.rl, l1, if_pos (by omega), r2 _ (Nat.le_refl _) (by omega)]; rfl
  have Eold : ∀ s, s < N.es.length → N'.es[s]? = N.es[s]? := fun s hs => by rw [F.old s (by omega) (by omega), hE1, List.getElem?_append_left hs]
  have Ea : N'.es[N.es.length]? = some o := by rw [F.out [] (by rw [hE1]; simp)]; rfl
  have Eb : N'.es[N.es.length + 1]? = some [] := by
    rw [F.old _ (by omega) (by omega), hE1, List.getElem?_append_right (by omega), show N.es.length + 1 - N.es.length = 1 by omega]; rfl
  have ga : ∀ a : Nat, (en ++ [(N.es.length : Int)]).getD i 0 = (a : Int) → a = N.es.length := fun a h => by rw [← enl, getD_end] at h; omega
  have gb : ∀ b : Nat, (lv ++ [((N.es.length + 1 : Nat) : Int)]).getD i 0 = (b : Int) → b = N.es.length + 1 := fun b h => by rw [← lvl, getD_end] at h; omega
  constructor
  · intro k y hk hy V hB hr a b' ha hb'
    dsimp only at hr ha hb'
    rcases Nat.lt_or_ge k i with h | h
    · rw [getD_app (by omega)] at ha hb'
      refine hA k y h hy V hB (fun s r hs hrs e he => ?_) a b' ha hb'
      have hsl := (List.getElem?_eq_some_iff.1 hs).1
      exact hr s r (by rw [Eold s hsl]; exact hs) (by rw [Rold s hsl]; exact hrs) e he
    · obtain rfl : k = i := by omega
      rw [hb] at hy; cases hy
      obtain rfl := ga a ha
      obtain rfl := gb b' hb'
      exact w.A V hB (fun e he => hr _ _ Ea (Rnew _ (Nat.le_refl _) (by omega)) e he) fun s r hs hrs e he => hr s r hrs (Rnew s (by omega) (List.getElem?_eq_some_iff.1 hrs).1) e he
  · have hB0 : ∀ s, Bd ((fun s => if s < N.es.length then V0 s else if s = N.es.length then shortE C b else some []) s) := fun s => by
      dsimp only
      split
      · exact v1 s
      split
      · exact shortE_bd hC b
      · exact bd_nil
    obtain ⟨V, b1, b2, b3, b4⟩ := w.B _ hB0
    have u1 : ∀ s, s < N.es.length → V s = V0 s := fun s hs => by rw [b2 s (by omega)]; exact if_pos hs
    have u2 : V N.es.length = shortE C b := by rw [b2 _ (by omega), if_neg (by omega), if_pos rfl]
    have u3 : V (N.es.length + 1) = some [] := by rw [b2 _ (by omega), if_neg (by omega), if_neg (by omega)]
    refine ⟨V, b1, fun k y hk hy a b' ha hb' => ?_, fun s r hs e he => ?_⟩
    · dsimp only at ha hb'
      rcases Nat.lt_or_ge k i with h | h
      · rw [getD_app (by omega)] at ha hb'
        obtain ⟨q1, q2⟩ := v2 k y h hy a b' ha hb'
        obtain ⟨s1, c1, c2, -⟩ := ene k h
        obtain ⟨s2, d1, d2, -⟩ := lve k h
        rw [u1 a (by omega), u1 b' (by omega)]
        exact ⟨q1, q2⟩
      · obtain rfl : k = i := by omega
        rw [hb] at hy; cases hy
        obtain rfl := ga a ha
        obtain rfl := gb b' hb'
        exact ⟨u2, u3⟩
    · dsimp only at hs
      have hsl := (List.getElem?_eq_some_iff.1 hs).1
      rcases Nat.lt_or_ge s N.es.length with h | h
      · rw [Eold s h] at hs
        rw [u1 s h]
        exact (v3 s r hs e he).congr (u1 _ ((row s r hs).2.2 e he).2.1)
      · rcases Nat.lt_or_ge s (N.es.length + 2) with h3 | h3
        · rcases (show s = N.es.length ∨ s = N.es.length + 1 by omega) with rfl | rfl
          · rw [Ea] at hs
            cases hs
            have := b3 e he
            rw [u3, cat_nil' (shortE_bd hC b)] at this
            rw [u2]; exact this
          · rw [Eb] at hs
            cases hs; cases he
        · exact b4 s r (by omega) hs e he
theorem newF_V {g : Gr} {C : Nat → OL} (hC : ∀ n, Bd (C n)) : ∀ (bs : List Ex) (i : Nat) (S : Ns), NetW g i S → NetV g C i S → (∀ k y, bs[k]? = some y → g.bodies[i + k]? = some y) → (∀ y ∈ bs, okE g.tokens g.bodies.length y) → (∀ y ∈ bs, vainE (qOf g.null) y = false) → NetV g C (i + bs.length) (newF bs i S)
  | [], i, S, _, h, _, _, _ => h
  | b :: bs, i, S, h, hV, hk, h1, h2 => by
    rw [newF, List.length_cons, show i + (bs.length + 1) = i + 1 + bs.length by omega]
    exact newF_V hC bs (i + 1) _ (h.step (h1 b (by simp)) (h2 b (by simp))) (hV.step hC h (hk 0 b rfl) (h1 b (by simp))) (fun k y hy => by
      have := hk (k + 1) y (by simpa using hy)
      rwa [show i + (k + 1) = i + 1 + k by omega] at this) (fun y hy => h1 y (by simp [hy])) (fun y hy => h2 y (by simp [hy]))
theorem newN_V {g : Gr} {C : Nat → OL} (hC : ∀ n, Bd (C n)) (h : GOk g) : NetV g C g.rules.length (newN g) := by
  have := newF_V (g := g) hC g.bodies 0 ⟨⟨[], []⟩, [], []⟩ ⟨rfl, rfl, rfl, (fun s hs => by simp at hs), (fun k hk => by omega), (fun k hk => by omega), (fun s r hs => by simp at hs), fun _ => 0, fun s r hs => by simp at hs⟩
    ⟨(fun k y hk => by omega), fun _ => none, (fun s x h => by cases h), (fun k y hk => by omega), fun s r hs => by simp at hs⟩ (fun k y hy => by rw [Nat.zero_add]; exact hy) h.ok h.vain
  rw [Nat.zero_add, Gr.bodies, List.length_map] at this
  exact this
end Go.Am

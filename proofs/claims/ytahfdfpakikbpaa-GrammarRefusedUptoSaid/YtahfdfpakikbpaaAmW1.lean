/- Part W1 of a proof that runs a program's calls on a small machine whose values bear no addresses: no conditions. -/
import Derived.Test.YtahfdfpakikbpaaAmV4
set_option autoImplicit false
set_option linter.unusedSimpArgs false
set_option linter.unusedVariables false
set_option linter.unusedSectionVars false
namespace Go.Am
open Go Go.Proofs

theorem any_congrM {α : Type} {l : List α} {p q : α → Bool} (h : ∀ x ∈ l, p x = q x) : l.any p = l.any q := by
  induction l with
  | nil => rfl
  | cons a l ih => rw [List.any_cons, List.any_cons, h a (by simp), ih fun x hx => h x (by simp [hx])]
theorem canE_cp (tok : Bool) (q : Int → Bool) : ∀ x : Ex, canE tok q x.cp = canE tok q x := fun x => by
  rw [canE_eq, canE_eq, cp_kind, cp_num, cp_l]
  have h1 : (x.l.map Ex.cp).any (canE tok q) = x.l.any (canE tok q) := by
    rw [List.any_map]; exact any_congrM fun y hy => canE_cp tok q y
  have h2 : ((x.l.map Ex.cp).any fun y => !canE tok q y) = x.l.any fun y => !canE tok q y := by
    rw [List.any_map]; exact any_congrM fun y hy => by simp only [Function.comp, canE_cp tok q y]
  rw [h1, h2]
termination_by x => x
decreasing_by all_goals exact Ex.sub_lt hy
/-- more of rules, more of parts -/
theorem canE_mono {tok : Bool} {q q' : Int → Bool} {t : Int} {r : Nat} (hq : ∀ m : Int, 0 ≤ m → m < r → q m = true → q' m = true) : ∀ x : Ex, okE t r x → canE tok q x = true → canE tok q' x = true := fun x ho h => by
  rw [canE_eq] at h ⊢
  split
  · rename_i k; rw [if_pos k] at h; exact h
  rename_i k1; rw [if_neg k1] at h
  split
  · rename_i k; rw [if_pos k] at h; exact hq _ (ho.call k).1 (ho.call k).2 h
  rename_i k2; rw [if_neg k2] at h
  split
  · rename_i k
    rw [if_pos k] at h
    obtain ⟨y, hy, hc⟩ := List.any_eq_true.1 h
    exact List.any_eq_true.2 ⟨y, hy, canE_mono hq y (ho.sub hy) hc⟩
  rename_i k4; rw [if_neg k4] at h
  split
  · rename_i k
    rw [if_pos k] at h
    rw [Bool.not_eq_true', List.any_eq_false] at h ⊢
    intro y hy
    have := h y hy
    simp only [Bool.not_eq_true, Bool.not_eq_false'] at this ⊢
    exact canE_mono hq y (ho.sub hy) this
  · rfl
termination_by x => x
decreasing_by all_goals exact Ex.sub_lt hy
theorem canE_congr {tok : Bool} {q q' : Int → Bool} {t : Int} {r : Nat} (hq : ∀ m : Int, 0 ≤ m → m < r → q m = q' m) {x : Ex} (ho : okE t r x) : canE tok q x = canE tok q' x := by
  rw [Bool.eq_iff_iff]
  exact ⟨canE_mono (fun m h1 h2 h => by rw [← hq m h1 h2]; exact h) x ho, canE_mono (fun m h1 h2 h => by rw [hq m h1 h2]; exact h) x ho⟩
theorem vainE_cp {q q' : Int → Bool} {t : Int} {r : Nat} (hq : ∀ m : Int, 0 ≤ m → m < r → q m = q' m) : ∀ x : Ex, okE t r x → vainE q x.cp = vainE q' x := fun x ho => by
  rw [vainE_eq, vainE_eq, cp_kind, cp_l]
  have h1 : (x.l.map Ex.cp).any (vainE q) = x.l.any (vainE q') := by
    rw [List.any_map]; exact any_congrM fun y hy => vainE_cp hq y (ho.sub hy)
  have h2 : headB q (x.l.map Ex.cp) = headB q' x.l := by
    have hs : ∀ y ∈ x.l, okE t r y := fun y hy => ho.sub hy
    revert hs
    cases x.l with
    | nil => intro _; rfl
    | cons y l => intro hs; rw [List.map_cons, headB, headB, canE_cp]; exact canE_congr hq (hs y (by simp))
  rw [h1, h2]
termination_by x => x
decreasing_by all_goals exact Ex.sub_lt hy
theorem okE_cp {t : Int} {r r' : Nat} (hr : r ≤ r') : ∀ x : Ex, okE t r x → okE t r' x.cp := fun x ho => by
  unfold okE
  rw [rightE_eq, cp_kind, cp_num, cp_l, List.length_map, Bool.and_eq_true]
  refine ⟨?_, ?_⟩
  · have hc := ho.c
    by_cases k2 : x.kind = 2
    · rw [show rightN t r x.kind = some ((r : Int), 0, 0) by simp [rightN, k2]] at hc
      rw [show rightN t r' x.kind = some ((r' : Int), 0, 0) by simp [rightN, k2]]
      simp [rightC] at hc ⊢; exact ⟨by omega, hc.2⟩
    · rw [show rightN t r' x.kind = rightN t r x.kind by simp [rightN, k2]]; exact hc
  · rw [Bool.not_eq_true', List.any_eq_false]
    intro z hz
    obtain ⟨y, hy, rfl⟩ := List.mem_map.1 hz
    have := okE_cp hr y (ho.sub hy)
    unfold okE at this
    rw [this]; simp
termination_by x => x
decreasing_by all_goals exact Ex.sub_lt hy

section
variable {g : Gr} {nm : ByteArray} {x : Ex}
theorem getD_some {s : List Bool} {n : Nat} (h : s.getD n false = true) : n < s.length := by
  rw [List.getD_eq_getElem?_getD] at h
  cases e : s[n]? with
  | none => rw [e] at h; cases h
  | some b => exact (List.getElem?_eq_some_iff.1 e).1
/-- what old rules can be, they can be with a rule more -/
theorem grows_ext (hk : ChkOk g) {tok : Bool} {n : Nat} (h : (growsP tok g.bodies).getD n false = true) : (growsP tok (g.ext nm x).bodies).getD n false = true := by
  have key : ∀ n, (growsP tok g.bodies).getD n false = true → (growsP tok (g.ext nm x).bodies).getD n false = true := by
    refine growsP_inv (tok := tok) (l := g.bodies) (P := fun out => ∀ n, out.getD n false = true → (growsP tok (g.ext nm x).bodies).getD n false = true) (fun n hn => by rw [rep_getD] at hn; cases hn) fun out k y hy hlt hp hc n hn => ?_
    rw [getD_set hlt] at hn
    split at hn
    · rename_i e; subst e
      have hkl : n < g.rules.length := by rw [← bodies_len]; exact (List.getElem?_eq_some_iff.1 hy).1
      obtain ⟨y', h1, h2, h3⟩ := ext_at (g := g) (nm := nm) (x := x) hkl
      rw [hy] at h1; cases h1
      refine growsP_closed tok _ h3 ?_
      rw [canE_cp]
      exact canE_mono (t := g.tokens) (r := g.rules.length) (q := qOf out) (fun m _ _ hm => hp m.toNat hm) y (hk.ok y h2) hc
    · exact hp n hn
  exact key n h
/-- and no more -/
theorem grows_ext' (hk : ChkOk g) {tok : Bool} {n : Nat} (hn : n < g.rules.length) (h : (growsP tok (g.ext nm x).bodies).getD n false = true) : (growsP tok g.bodies).getD n false = true := by
  have key : ∀ n, n < g.rules.length → (growsP tok (g.ext nm x).bodies).getD n false = true → (growsP tok g.bodies).getD n false = true := by
    refine growsP_inv (tok := tok) (l := (g.ext nm x).bodies) (P := fun out => ∀ n, n < g.rules.length → out.getD n false = true → (growsP tok g.bodies).getD n false = true) (fun n _ hn => by rw [rep_getD] at hn; cases hn) fun out k y hy hlt hp hc n hnl hn => ?_
    rw [getD_set hlt] at hn
    split at hn
    · rename_i e; subst e
      obtain ⟨y', h1, h2, h3⟩ := ext_at (g := g) (nm := nm) (x := x) hnl
      rw [hy] at h3; cases h3
      rw [canE_cp] at hc
      exact growsP_closed tok _ h1 (canE_mono (t := g.tokens) (r := g.rules.length) (q := qOf out) (fun m m1 m2 hm => hp m.toNat (by omega) hm) y' (hk.ok y' h2) hc)
    · exact hp n hnl hn
  exact key n hn h
theorem grows_eq (hk : ChkOk g) {tok : Bool} {m : Int} (h0 : 0 ≤ m) (h1 : m < g.rules.length) : qOf (growsP tok (g.ext nm x).bodies) m = qOf (growsP tok g.bodies) m := by
  unfold qOf
  rw [Bool.eq_iff_iff]
  exact ⟨grows_ext' hk (by omega), grows_ext hk⟩
/-- a rule that can be nothing at all -/
theorem some_not (h : ∀ out : List Bool, out.getD g.rules.length false = false → canE true (qOf out) x = false) : (growsP true (g.ext nm x).bodies).getD g.rules.length false = false := by
  refine growsP_inv (tok := true) (l := (g.ext nm x).bodies) (P := fun out => out.getD g.rules.length false = false) rep_getD fun out k y hy hlt hp hc => ?_
  rw [getD_set hlt]
  split
  · rename_i e; subst e
    rw [ext_last] at hy; cases hy
    rw [h out hp] at hc; cases hc
  · exact hp
/-- where a check of a grammar with a rule more ends -/
theorem chk_ext (hk : ChkOk g) (h32 : g.rules.length < 32) (hx : okE g.tokens (g.rules.length + 1) x) : checkP (g.ext nm x) = 5 ∨ checkP (g.ext nm x) = check2P (g.ext nm x) := by
  have ht : (g.ext nm x).tokens = g.tokens := rfl
  have ht1 := hk.tok1
  have ht2 := hk.tok
  unfold checkP
  rw [ext_len, ht, if_neg (by simp; omega)]
  by_cases hs : sizesL (g.ext nm x).bodies 512 < 0
  · rw [if_pos hs]; exact .inl rfl
  · right
    rw [if_neg hs, if_neg (by simp; omega), if_neg]
    rw [Bool.not_eq_false, List.all_eq_true]
    intro y hy
    rw [ext_bodies] at hy
    rcases List.mem_append.1 hy with hy | hy
    · obtain ⟨z, hz, rfl⟩ := List.mem_map.1 hy
      exact okE_cp (by omega) z (hk.ok z hz)
    · simp at hy; subst hy; exact hx
theorem chk2_some (h : (growsP true (g.ext nm x).bodies).getD g.rules.length false = false) : check2P (g.ext nm x) = 200 := by
  unfold check2P
  rw [if_pos]
  rw [Bool.or_eq_true]; left
  rw [List.any_eq_true]
  have hl : g.rules.length < (growsP true (g.ext nm x).bodies).length := by rw [growsP_len, ext_bodies]; simp [bodies_len]
  refine ⟨false, ?_, rfl⟩
  have : (growsP true (g.ext nm x).bodies)[g.rules.length] = false := by simpa [hl] using h
  rw [← this]; exact List.getElem_mem _
theorem chk2_vain (h : vainE (qOf (g.ext nm x).null) x = true) : check2P (g.ext nm x) = 200 := by
  unfold check2P
  rw [if_pos]
  rw [Bool.or_eq_true]; right
  exact List.any_eq_true.2 ⟨⟨nm, x⟩, by simp [Gr.ext], h⟩
end
def ref1 (n a : Int) : Ex := .mk 4 0 false [.mk 3 0 false [exC n, exC a], exC a]
def ref2 : Ex := .mk 5 0 false [.mk 3 0 false [.mk 6 0 false [.mk 3 0 false [exT 0]]]]
def ref3 (n : Int) : Ex := .mk 3 0 false [exT 0, exC n]
theorem refused_law {g : Gr} {nm : ByteArray} (hk : ChkOk g) (h32 : g.rules.length < 32) {a : Nat} (ha : a < g.rules.length) :
    (checkP (g.ext nm (exC g.rules.length)) = 5 ∨ checkP (g.ext nm (exC g.rules.length)) = 200) ∧ (checkP (g.ext nm (ref1 g.rules.length a)) = 5 ∨ checkP (g.ext nm (ref1 g.rules.length a)) = 201) ∧
    (checkP (g.ext nm ref2) = 5 ∨ checkP (g.ext nm ref2) = 200) ∧ (checkP (g.ext nm (ref3 g.rules.length)) = 5 ∨ checkP (g.ext nm (ref3 g.rules.length)) = 200) := by
  have ht1 := hk.tok1
  refine ⟨?_, ?_, ?_, ?_⟩
  · refine (chk_ext hk h32 ?_).imp id fun h => h.trans (chk2_some (some_not fun out ho => ?_))
    · unfold okE exC; simp [rightE, rightL, rightN, rightC]; omega
    · unfold exC; simp [canE, qOf]; exact ho
  · refine (chk_ext hk h32 ?_).imp id fun h => h.trans ?_
    · unfold okE ref1 exC; simp [rightE, rightL, rightN, rightC]; omega
    · have hGn : ∀ m : Int, 0 ≤ m → m < g.rules.length → qOf (g.ext nm (ref1 g.rules.length a)).null m = qOf g.null m := fun m h0 h1 => grows_eq hk h0 h1
      have hsome : ∀ i, i < g.rules.length → (g.ext nm (ref1 g.rules.length a)).some.getD i false = true := fun i hi => by
        refine grows_ext hk ?_
        have hl : i < (growsP true g.bodies).length := by rw [growsP_len, bodies_len]; exact hi
        have := hk.some _ (List.getElem_mem (l := g.some) hl)
        rw [List.getD_eq_getElem?_getD, List.getElem?_eq_getElem hl]; exact this
      have hlast : (g.ext nm (ref1 g.rules.length a)).some.getD g.rules.length false = true := by
        refine growsP_closed true _ ext_last ?_
        have := hsome a ha
        unfold ref1 exC
        simp [canE, canAny, canAll, qOf]; right; exact this
      have hxl : (g.ext nm (ref1 g.rules.length a)).some.length = g.rules.length + 1 := by rw [Gr.some, growsP_len, ext_bodies]; simp [bodies_len]
      unfold check2P
      rw [if_neg, if_pos]
      · rw [← Bool.not_eq_false]
        intro hleft
        have hb := (leftL_iff (i := 0)).1 hleft _ _ ext_last
        rw [Nat.zero_add] at hb
        have hok : ∀ y ∈ (g.ext nm (ref1 g.rules.length a)).bodies, okE g.tokens (g.ext nm (ref1 g.rules.length a)).bodies.length y := fun y hy => by
          rw [bodies_len, ext_len]
          rw [ext_bodies] at hy
          rcases List.mem_append.1 hy with hy | hy
          · obtain ⟨z, hz, rfl⟩ := List.mem_map.1 hy
            exact okE_cp (by omega) z (hk.ok z hz)
          · simp at hy; subst hy
            unfold okE ref1 exC; simp [rightE, rightL, rightN, rightC]; omega
        have hd := (begs_df (q := qOf (g.ext nm (ref1 g.rules.length a)).null) hok (hok _ (List.mem_of_getElem? ext_last))).direct g.rules.length ?_
        · rw [hb] at hd; cases hd
        · refine .sub (y := .mk 3 0 false [exC g.rules.length, exC a]) (by simp [ref1, Ex.kind]) (by simp [ref1, Ex.l]) ?_
          refine .seq (y := exC g.rules.length) (pre := []) (post := [exC a]) rfl (by simp) ?_
          have := Beg.call (q := qOf (g.ext nm (ref1 g.rules.length a)).null) (x := exC g.rules.length) rfl
          simpa [exC, Ex.num] using this
      · rw [Bool.or_eq_true, not_or]
        refine ⟨fun he => ?_, fun he => ?_⟩
        · obtain ⟨b, hb, e⟩ := List.any_eq_true.1 he
          have e : b = false := by simpa using e
          subst e
          obtain ⟨i, hi, hi2⟩ := List.getElem_of_mem hb
          have : (g.ext nm (ref1 g.rules.length a)).some.getD i false = true := by
            by_cases h : i < g.rules.length
            · exact hsome i h
            · obtain rfl : i = g.rules.length := by omega
              exact hlast
          rw [List.getD_eq_getElem?_getD, List.getElem?_eq_getElem hi, hi2] at this
          cases this
        · obtain ⟨r, hr, e⟩ := List.any_eq_true.1 he
          rcases List.mem_append.1 (show r ∈ g.rules.map Ru.cp ++ [⟨nm, ref1 g.rules.length a⟩] from hr) with hr | hr
          · obtain ⟨r', h1, rfl⟩ := List.mem_map.1 hr
            have hm : r'.body ∈ g.bodies := List.mem_map.2 ⟨r', h1, rfl⟩
            have := vainE_cp (r := g.rules.length) hGn r'.body (hk.ok _ hm)
            rw [hk.vain _ hm] at this
            rw [show (Ru.cp r').body = r'.body.cp from rfl, this] at e; cases e
          · simp at hr; subst hr
            unfold ref1 exC at e
            simp [vainE, vainL] at e
  · refine (chk_ext hk h32 ?_).imp id fun h => h.trans (chk2_vain ?_)
    · unfold okE ref2 exT; simp [rightE, rightL, rightN, rightC]; omega
    · unfold ref2 exT; simp [vainE, vainL, headB, canE, canAll]
  · refine (chk_ext hk h32 ?_).imp id fun h => h.trans (chk2_some (some_not fun out ho => ?_))
    · unfold okE ref3 exC exT; simp [rightE, rightL, rightN, rightC]; omega
    · unfold ref3 exC exT; simp [canE, canAll, qOf]; exact ho
end Go.Am
namespace Go.Am
open Go Go.Proofs
/-- a copy with a rule more, in memory -/
theorem lent_of {g : Gr} {nm : ByteArray} {x : Ex} {N k : Nat} {c : List A} {σ ρ : St} (hL : g.rules.length < 2000000) (hN : N ≤ 1000) (hx : Frz N σ c x) (hE : Ext σ ρ) (hk : ρ.get k = .cells (((rowR (g.rules.map Ru.cp)).flatMap id).map A.d ++ (.d (.str nm) :: c))) (hlt : k < ρ.n) :
    LentG ρ [.d (.int .i64 g.tokens), .row k 0 ((rowR (g.rules.map Ru.cp)).length + 1) 4] (g.ext nm x) := by
  refine ⟨⟨_, _, rfl, hlt⟩, fun υ hυ => ?_⟩
  have h4 : ∀ y ∈ rowR (g.rules.map Ru.cp), y.length = 4 := fun y hy => by obtain ⟨z, -, rfl⟩ := List.mem_map.1 hy; exact z.cs_len
  have hcl : (((rowR (g.rules.map Ru.cp)).flatMap id).map A.d).length = (rowR (g.rules.map Ru.cp)).length * 4 := by rw [List.length_map, flat_len h4]
  have hf1 : freezeL υ 0 (fzDepth - 3) ((((rowR (g.rules.map Ru.cp)).flatMap id).map A.d) ++ (.d (.str nm) :: c)) = some ((rowR (g.rules.map Ru.cp)).flatMap id ++ (.str nm :: x.cs)) := by
    refine freezeL_append (by rw [hcl, rowR_len, List.length_map]; unfold fzDepth; omega) (freezeL_map (by rw [flat_len h4, rowR_len, List.length_map]; unfold fzDepth; omega)) ?_
    rw [hcl, rowR_len, List.length_map, freezeL_cons (by unfold fzDepth; omega), freeze_d, hx.frz (hE.trans hυ) (by unfold fzDepth; omega)]; rfl
  have hf2 : freeze υ 0 (fzDepth - 2) (.row k 0 ((rowR (g.rules.map Ru.cp)).length + 1) 4) = some (.slc false (chunks 4 ((rowR (g.rules.map Ru.cp)).length + 1) ((rowR (g.rules.map Ru.cp)).flatMap id ++ (.str nm :: x.cs)))) := by
    refine freeze_row (by unfold fzDepth; omega) ((hυ.g _ hlt).trans hk) (Nat.zero_le _) (by rw [List.length_append, hcl, List.length_cons, hx.len]; omega) ?_
    rw [List.take_of_length_le (by rw [List.length_append, hcl, List.length_cons, hx.len]; omega)]
    exact hf1
  have hch : chunks 4 ((rowR (g.rules.map Ru.cp)).length + 1) ((rowR (g.rules.map Ru.cp)).flatMap id ++ (.str nm :: x.cs)) = rowR (g.rules.map Ru.cp ++ [⟨nm, x⟩]) := by
    have e1 : (rowR (g.rules.map Ru.cp)).flatMap id ++ (.str nm :: x.cs) = (rowR (g.rules.map Ru.cp ++ [⟨nm, x⟩])).flatMap id := by
      simp [rowR, Ru.cs, List.flatMap_append]
    have e2 : (rowR (g.rules.map Ru.cp)).length + 1 = (rowR (g.rules.map Ru.cp ++ [⟨nm, x⟩])).length := by simp [rowR]
    rw [e1, e2]
    exact chunks_flat fun y hy => by obtain ⟨z, -, rfl⟩ := List.mem_map.1 hy; exact z.cs_len
  rw [hch] at hf2
  rw [freezeW, freezeL_cons (by unfold fzDepth; omega), freeze_d, freezeL_cons (by unfold fzDepth; omega), show fzDepth - 1 - 1 = fzDepth - 2 by omega, hf2, freezeL_nil]
  simp [Gr.a, Gr.c, Gr.rd, Gr.ext, rowR]
def emptyB : ByteArray := ⟨⟨[]⟩⟩
set_option maxHeartbeats 8000000 in
theorem ref_rest {g : Gr} (hg : SmallG g) (hL : g.rules.length < 2000000) {lo N : Nat} {c : List A} {x : Ex} {τ : St} {tm : Tm} {want : Int} (hn : lo + 1 < τ.n) (g0 : τ.get lo = .cells g.c) (g1 : τ.get (lo + 1) = .cells c) (hx : Frz N τ c x) (hN : N ≤ 1000) (hs : SmallE x)
    (t3 : tm.at 3 = .ptr lo 0) (t9 : tm.at 9 = .ptr (lo + 1) 0) (t10 : tm.at 10 = .d (.int .i64 want)) (hw : checkP (g.ext emptyB x) = 5 ∨ checkP (g.ext emptyB x) = want) :
    Ev (XX mdL) 9 80 none lo [.code (Code.rn 8 (Try.f9.body.getD .skip))] tm τ [] QT := by
  simp only [Code.rn, Code.r, Try.f9, Option.getD_some, QT]
  obtain ⟨L, rfl, hL1, hL2, hL3, hL4⟩ := id hx.form
  simp only [go_sem, ↓reduceIte, Int.reduceEq, Nat.reduceBEq, Option.some.injEq, Bool.true_eq_false, Bool.false_eq_true, Int.reduceBEq, Int.reduceBNe, Int.reduceLT, Int.reduceLE, Nat.add_assoc, Nat.reduceAdd, Nat.reducePow, Nat.zero_le, Nat.reduceEqDiff, Nat.reduceLT, Nat.reduceLeDiff, Nat.reduceMul, Nat.reduceSub, Nat.add_left_cancel_iff, Nat.lt_irrefl, Nat.le_refl, Nat.add_eq_left, Nat.left_eq_add, beq_self_eq_true, Int.reduceToNat, Nat.mul_one, Nat.zero_mul, Nat.zero_add, Nat.add_zero, Nat.one_mul, t3, g0]
  obtain ⟨a, σ1, hc1, a', bs, rfl, hR, hbs, hE⟩ := cpK_call (fz := mdL) rfl rfl g τ hg (by omega)
  refine ⟨_, _, _, hc1, ?_⟩
  have hn1 := hE.n
  have hcell := hR.1.cell
  have hcells := hR.1.cells
  have q1 : σ1.get (lo + 1) = .cells [.d (.int .i64 x.kind), .d (.int .i64 x.num), L] := (hE.g _ (by omega)).trans g1
  have ne1 : lo + 1 ≠ σ1.n := by omega
  have ne2 : lo + 1 < σ1.n := by omega
  have lz1 : low lo [σ1.n] = [] := by rw [low_cons_ge (by omega)]; rfl
  simp only [go_sem, ↓reduceIte, Int.reduceEq, Nat.reduceBEq, Option.some.injEq, Bool.true_eq_false, Bool.false_eq_true, Int.reduceBEq, Int.reduceBNe, Int.reduceLT, Int.reduceLE, Nat.add_assoc, Nat.reduceAdd, Nat.reducePow, Nat.zero_le, Nat.reduceEqDiff, Nat.reduceLT, Nat.reduceLeDiff, Nat.reduceMul, Nat.reduceSub, Nat.add_left_cancel_iff, Nat.lt_irrefl, Nat.le_refl, Nat.add_eq_left, Nat.left_eq_add, beq_self_eq_true, Int.reduceToNat, Nat.mul_one, Nat.zero_mul, Nat.zero_add, Nat.add_zero, Nat.one_mul, hcell, hcells, q1, ne1, ne2, hL1, hL2, t9, lz1]
  generalize hτ : (σ1.push (.cells [.d (.int .i64 0), .d (.slc true [])])).set σ1.n (.cells [.d (.int .i64 g.tokens), a']) = τ1
  have hτn : τ1.n = σ1.n + 1 := by rw [← hτ]; simp [St.n_set, St.n_push]
  have hτg : ∀ j, j < σ1.n → τ1.get j = σ1.get j := fun j hj => by rw [← hτ, St.get_set_ne (by omega), St.get_push_ne hj]
  have hτo : τ1.get σ1.n = .cells [.d (.int .i64 g.tokens), a'] := by rw [← hτ, St.get_set_eq]
  have hR2 : RowN 4 (τ1.push (.cells [.d (.str emptyB), .d (.int .i64 x.kind), .d (.int .i64 x.num), L])) a' (rowR (g.rules.map Ru.cp)) bs := hR.stay (by simp only [St.n_push]; omega) fun k hk => by
    have := hR.1.lt hk
    rw [St.get_push_ne (by omega), hτg k this]
  obtain ⟨τ3, T, happ, hn3, hg3, ho3, hT⟩ := app_row (b := 56) (j := σ1.n + 1) (c := [.d (.str emptyB), .d (.int .i64 x.kind), .d (.int .i64 x.num), L]) (by omega) hR2 (St.get_push_eq' (by omega)) rfl (by rw [List.all_cons, List.all_cons, List.all_cons, List.all_cons, List.all_nil, hL1]; rfl) (by rw [rowR_len, List.length_map]; omega)
  simp only [St.n_push, hτn] at happ hn3 hg3 ho3
  have hlt : ∀ k ∈ bs, k < σ1.n := fun k hk => hR.1.lt hk
  have h3 : ∀ j, j < τ.n → τ3.get j = τ.get j := fun j hj => by
    rw [ho3 j (by omega) (fun h => by have := hbs j h; omega), St.get_push_ne (by omega), hτg j (by omega), hE.g j hj]
  have gout : τ3.get σ1.n = .cells [.d (.int .i64 g.tokens), a'] := by
    rw [ho3 _ (by omega) (fun h => by have := hlt _ h; omega), St.get_push_ne (by omega)]; exact hτo
  have lzT : low lo T = [] := low_all fun k hk => by have := hbs k (hT k hk); omega
  have rc : (A.row (σ1.n + 2) 0 ((rowR (g.rules.map Ru.cp)).length + 1) 4).cells = some [A.row (σ1.n + 2) 0 ((rowR (g.rules.map Ru.cp)).length + 1) 4] := rfl
  have rcc : (A.row (σ1.n + 2) 0 ((rowR (g.rules.map Ru.cp)).length + 1) 4).isCell = true := rfl
  simp only [emptyB] at happ
  simp only [go_sem, ↓reduceIte, Int.reduceEq, Nat.reduceBEq, Option.some.injEq, Bool.true_eq_false, Bool.false_eq_true, Int.reduceBEq, Int.reduceBNe, Int.reduceLT, Int.reduceLE, Nat.add_assoc, Nat.reduceAdd, Nat.reducePow, Nat.zero_le, Nat.reduceEqDiff, Nat.reduceLT, Nat.reduceLeDiff, Nat.reduceMul, Nat.reduceSub, Nat.add_left_cancel_iff, Nat.lt_irrefl, Nat.le_refl, Nat.add_eq_left, Nat.left_eq_add, beq_self_eq_true, Int.reduceToNat, Nat.mul_one, Nat.zero_mul, Nat.zero_add, Nat.add_zero, Nat.one_mul, happ, gout, rc, rcc, lzT, lz1]
  have hLt := lent_of (nm := emptyB) (ρ := τ3.set σ1.n (.cells [.d (.int .i64 g.tokens), .row (σ1.n + 2) 0 ((rowR (g.rules.map Ru.cp)).length + 1) 4])) (k := σ1.n + 2) hL hN hx ⟨by simp only [St.n_set]; omega, fun j hj => by rw [St.get_set_ne (by omega)]; exact h3 j hj⟩ (by rw [St.get_set_ne (by omega)]; exact hg3) (by simp only [St.n_set]; omega)
  refine ⟨_, _, _, check_lent hLt (Gr.ext_small hg hs), ?_⟩
  by_cases he : checkP (g.ext emptyB x) = want
  · have e1 : (want == want) = true := by simp
    simp only [go_sem, ↓reduceIte, Int.reduceEq, Nat.reduceBEq, Option.some.injEq, Bool.true_eq_false, Bool.false_eq_true, Int.reduceBEq, Int.reduceBNe, Int.reduceLT, Int.reduceLE, Nat.add_assoc, Nat.reduceAdd, Nat.reducePow, Nat.zero_le, Nat.reduceEqDiff, Nat.reduceLT, Nat.reduceLeDiff, Nat.reduceMul, Nat.reduceSub, Nat.add_left_cancel_iff, Nat.lt_irrefl, Nat.le_refl, Nat.add_eq_left, Nat.left_eq_add, beq_self_eq_true, Int.reduceToNat, Nat.mul_one, Nat.zero_mul, Nat.zero_add, Nat.add_zero, Nat.one_mul, he, t10, e1]
  · have e1 : (checkP (g.ext emptyB x) == want) = false := by simpa using he
    have e5 : (checkP (g.ext emptyB x) == 5) = true := by simpa using hw.resolve_right he
    simp only [go_sem, ↓reduceIte, Int.reduceEq, Nat.reduceBEq, Option.some.injEq, Bool.true_eq_false, Bool.false_eq_true, Int.reduceBEq, Int.reduceBNe, Int.reduceLT, Int.reduceLE, Nat.add_assoc, Nat.reduceAdd, Nat.reducePow, Nat.zero_le, Nat.reduceEqDiff, Nat.reduceLT, Nat.reduceLeDiff, Nat.reduceMul, Nat.reduceSub, Nat.add_left_cancel_iff, Nat.lt_irrefl, Nat.le_refl, Nat.add_eq_left, Nat.left_eq_add, beq_self_eq_true, Int.reduceToNat, Nat.mul_one, Nat.zero_mul, Nat.zero_add, Nat.add_zero, Nat.one_mul, t10, e1, e5]

variable {fz : Nat → Md}
set_option maxHeartbeats 1000000 in
theorem c40x (h40 : fz 40 = .keep) (h37 : fz 37 = .cut) {k m : Nat} {σ : St} (hk : k < σ.n) :
    ∃ σ', CallsTo (XX fz) (.func 40 []) [.row k 0 m 3] σ (.agg [.d (.int .i64 6), .d (.int .i64 0), .row (σ.n + 1) 0 1 3]) σ' [] ∧ Ext σ σ' ∧ σ'.n = σ.n + 2 ∧ σ'.get (σ.n + 1) = .cells [.d (.int .i64 3), .d (.int .i64 0), .row k 0 m 3] := by
  have key := CallsTo.keepP (X := XX fz) (f := 40) (cap := []) (args := [.row k 0 m 3]) (σ := σ) (P := fun r σ' => r = .agg [.d (.int .i64 6), .d (.int .i64 0), .row (σ.n + 1) 0 1 3] ∧ Ext σ σ' ∧ σ'.n = σ.n + 2 ∧ σ'.get (σ.n + 1) = .cells [.d (.int .i64 3), .d (.int .i64 0), .row k 0 m 3]) h40 fn40 (by simp) ?_
  · obtain ⟨r, σ', hc, rfl, h1, h2⟩ := key
    exact ⟨σ', hc, h1, h2⟩
  simp only [Try.f40, Option.getD_some]
  simp only [go_sem, ↓reduceIte, Int.reduceEq, Nat.reduceBEq, Option.some.injEq, Bool.true_eq_false, Bool.false_eq_true, Int.reduceBEq, Int.reduceBNe, Int.reduceLT, Int.reduceLE, Nat.add_assoc, Nat.reduceAdd, Nat.reducePow, Nat.zero_le, Nat.reduceEqDiff, Nat.reduceLT, Nat.reduceLeDiff, Nat.reduceMul, Nat.reduceSub, Nat.add_left_cancel_iff, Nat.lt_irrefl, Nat.le_refl, Nat.add_eq_left, Nat.left_eq_add, beq_self_eq_true]
  refine ⟨_, _, _, c37 h37 (by simp only [St.n_push]; omega), ?_⟩
  have hc : ∀ k m, (A.row k 0 m 3).isCell = true := fun _ _ => rfl
  have hcs : ∀ k m, (A.row k 0 m 3).cells = some [A.row k 0 m 3] := fun _ _ => rfl
  simp only [go_sem, ↓reduceIte, Int.reduceEq, Nat.reduceBEq, Option.some.injEq, Bool.true_eq_false, Bool.false_eq_true, Int.reduceBEq, Int.reduceBNe, Int.reduceLT, Int.reduceLE, Nat.add_assoc, Nat.reduceAdd, Nat.reducePow, Nat.zero_le, Nat.reduceEqDiff, Nat.reduceLT, Nat.reduceLeDiff, Nat.reduceMul, Nat.reduceSub, Nat.add_left_cancel_iff, Nat.lt_irrefl, Nat.le_refl, Nat.add_eq_left, Nat.left_eq_add, beq_self_eq_true, hc, hcs]
  exact (((Ext.refl σ).push).push).set (Nat.le_refl _)
set_option maxHeartbeats 1000000 in
theorem c41x (h40 : fz 41 = .keep) (h37 : fz 37 = .cut) {k m : Nat} {σ : St} (hk : k < σ.n) :
    ∃ σ', CallsTo (XX fz) (.func 41 []) [.row k 0 m 3] σ (.agg [.d (.int .i64 5), .d (.int .i64 0), .row (σ.n + 1) 0 1 3]) σ' [] ∧ Ext σ σ' ∧ σ'.n = σ.n + 2 ∧ σ'.get (σ.n + 1) = .cells [.d (.int .i64 3), .d (.int .i64 0), .row k 0 m 3] := by
  have key := CallsTo.keepP (X := XX fz) (f := 41) (cap := []) (args := [.row k 0 m 3]) (σ := σ) (P := fun r σ' => r = .agg [.d (.int .i64 5), .d (.int .i64 0), .row (σ.n + 1) 0 1 3] ∧ Ext σ σ' ∧ σ'.n = σ.n + 2 ∧ σ'.get (σ.n + 1) = .cells [.d (.int .i64 3), .d (.int .i64 0), .row k 0 m 3]) h40 fn41 (by simp) ?_
  · obtain ⟨r, σ', hc, rfl, h1, h2⟩ := key
    exact ⟨σ', hc, h1, h2⟩
  simp only [Try.f41, Option.getD_some]
  simp only [go_sem, ↓reduceIte, Int.reduceEq, Nat.reduceBEq, Option.some.injEq, Bool.true_eq_false, Bool.false_eq_true, Int.reduceBEq, Int.reduceBNe, Int.reduceLT, Int.reduceLE, Nat.add_assoc, Nat.reduceAdd, Nat.reducePow, Nat.zero_le, Nat.reduceEqDiff, Nat.reduceLT, Nat.reduceLeDiff, Nat.reduceMul, Nat.reduceSub, Nat.add_left_cancel_iff, Nat.lt_irrefl, Nat.le_refl, Nat.add_eq_left, Nat.left_eq_add, beq_self_eq_true]
  refine ⟨_, _, _, c37 h37 (by simp only [St.n_push]; omega), ?_⟩
  have hc : ∀ k m, (A.row k 0 m 3).isCell = true := fun _ _ => rfl
  have hcs : ∀ k m, (A.row k 0 m 3).cells = some [A.row k 0 m 3] := fun _ _ => rfl
  simp only [go_sem, ↓reduceIte, Int.reduceEq, Nat.reduceBEq, Option.some.injEq, Bool.true_eq_false, Bool.false_eq_true, Int.reduceBEq, Int.reduceBNe, Int.reduceLT, Int.reduceLE, Nat.add_assoc, Nat.reduceAdd, Nat.reducePow, Nat.zero_le, Nat.reduceEqDiff, Nat.reduceLT, Nat.reduceLeDiff, Nat.reduceMul, Nat.reduceSub, Nat.add_left_cancel_iff, Nat.lt_irrefl, Nat.le_refl, Nat.add_eq_left, Nat.left_eq_add, beq_self_eq_true, hc, hcs]
  exact (((Ext.refl σ).push).push).set (Nat.le_refl _)
theorem bring4 (how : Int) : bringP how 4 = 0 ∨ bringP how 4 = 1 ∨ bringP how 4 = 2 ∨ bringP how 4 = 3 := by
  have := bring_lt (i := how) (n := 4) (by omega) (by omega); omega
set_option maxHeartbeats 8000000 in
theorem refused_call (g : Gr) (hg : SmallG g) (hL : g.rules.length < 2000000) (how rule : Int) (σ : St) :
    CallsTo (XX mdL) (.func 9 []) [g.a, .d (.int .i64 how), .d (.int .i64 rule)] σ (.d (.bool true)) σ [] := by
  refine CallsTo.cut0 rfl fn9 (by simp) rfl ?_
  have rest : ∀ {N : Nat} {c : List A} {x : Ex} {τ : St} {tm : Tm} {want : Int} (hn : σ.n + 1 < τ.n) (g0 : τ.get σ.n = .cells g.c) (g1 : τ.get (σ.n + 1) = .cells c) (hx : Frz N τ c x) (hN : N ≤ 1000) (hs : SmallE x)
    (t3 : tm.at 3 = .ptr σ.n 0) (t9 : tm.at 9 = .ptr (σ.n + 1) 0) (t10 : tm.at 10 = .d (.int .i64 want)) (hw : checkP (g.ext emptyB x) = 5 ∨ checkP (g.ext emptyB x) = want),
    Ev (XX mdL) 9 80 none σ.n [.code (Code.rn 8 (Try.f9.body.getD .skip))] tm τ [] QT := fun a0 a1 a2 a3 a4 a5 a6 a7 a8 a9 => ref_rest hg hL a0 a1 a2 a3 a4 a5 a6 a7 a8 a9
  have hbody : Try.f9.body.getD .skip = .seq (Code.l (Try.f9.body.getD .skip)) (.seq (Code.l (Code.rn 1 (Try.f9.body.getD .skip))) (.seq (Code.l (Code.rn 2 (Try.f9.body.getD .skip))) (.seq (Code.l (Code.rn 3 (Try.f9.body.getD .skip))) (.seq (Code.l (Code.rn 4 (Try.f9.body.getD .skip))) (.seq (Code.l (Code.rn 5 (Try.f9.body.getD .skip))) (.seq (Code.l (Code.rn 6 (Try.f9.body.getD .skip))) (.seq (Code.l (Code.rn 7 (Try.f9.body.getD .skip))) (Code.rn 8 (Try.f9.body.getD .skip))))))))) := rfl
  rw [hbody]
  generalize Code.rn 8 (Try.f9.body.getD .skip) = B at rest
  simp only [Code.rn, Code.r, Code.l, Try.f9, Option.getD_some, QT] at rest ⊢
  simp only [go_sem, ↓reduceIte, Int.reduceEq, Nat.reduceBEq, Option.some.injEq, Bool.true_eq_false, Bool.false_eq_true, Int.reduceBEq, Int.reduceBNe, Int.reduceLT, Int.reduceLE, Nat.add_assoc, Nat.reduceAdd, Nat.reducePow, Nat.zero_le, Nat.reduceEqDiff, Nat.reduceLT, Nat.reduceLeDiff, Nat.reduceMul, Nat.reduceSub, Nat.add_left_cancel_iff, Nat.lt_irrefl, Nat.le_refl, Nat.add_eq_left, Nat.left_eq_add, beq_self_eq_true, Int.reduceToNat, Nat.mul_one, Nat.zero_mul, Nat.zero_add, Nat.add_zero, Nat.one_mul, Gr.a]
  refine ⟨_, _, _, works_L _, ?_⟩
  simp only [go_sem, ↓reduceIte, Int.reduceEq, Nat.reduceBEq, Option.some.injEq, Bool.true_eq_false, Bool.false_eq_true, Int.reduceBEq, Int.reduceBNe, Int.reduceLT, Int.reduceLE, Nat.add_assoc, Nat.reduceAdd, Nat.reducePow, Nat.zero_le, Nat.reduceEqDiff, Nat.reduceLT, Nat.reduceLeDiff, Nat.reduceMul, Nat.reduceSub, Nat.add_left_cancel_iff, Nat.lt_irrefl, Nat.le_refl, Nat.add_eq_left, Nat.left_eq_add, beq_self_eq_true, Int.reduceToNat, Nat.mul_one, Nat.zero_mul, Nat.zero_add, Nat.add_zero, Nat.one_mul]
  refine ⟨_, _, _, deep_L g _ hg (by omega), ?_⟩
  cases hd : deepG g with
  | true => simp only [go_sem, ↓reduceIte, Int.reduceEq, Nat.reduceBEq, Option.some.injEq, Bool.true_eq_false, Bool.false_eq_true, Int.reduceBEq, Int.reduceBNe, Int.reduceLT, Int.reduceLE, Nat.add_assoc, Nat.reduceAdd, Nat.reducePow, Nat.zero_le, Nat.reduceEqDiff, Nat.reduceLT, Nat.reduceLeDiff, Nat.reduceMul, Nat.reduceSub, Nat.add_left_cancel_iff, Nat.lt_irrefl, Nat.le_refl, Nat.add_eq_left, Nat.left_eq_add, beq_self_eq_true, Int.reduceToNat, Nat.mul_one, Nat.zero_mul, Nat.zero_add, Nat.add_zero, Nat.one_mul]
  | false =>
  simp only [go_sem, ↓reduceIte, Int.reduceEq, Nat.reduceBEq, Option.some.injEq, Bool.true_eq_false, Bool.false_eq_true, Int.reduceBEq, Int.reduceBNe, Int.reduceLT, Int.reduceLE, Nat.add_assoc, Nat.reduceAdd, Nat.reducePow, Nat.zero_le, Nat.reduceEqDiff, Nat.reduceLT, Nat.reduceLeDiff, Nat.reduceMul, Nat.reduceSub, Nat.add_left_cancel_iff, Nat.lt_irrefl, Nat.le_refl, Nat.add_eq_left, Nat.left_eq_add, beq_self_eq_true, Int.reduceToNat, Nat.mul_one, Nat.zero_mul, Nat.zero_add, Nat.add_zero, Nat.one_mul]
  refine ⟨_, _, _, check_L hg _, ?_⟩
  cases hc : (checkP g != 0) with
  | true => simp only [go_sem, ↓reduceIte, Int.reduceEq, Nat.reduceBEq, Option.some.injEq, Bool.true_eq_false, Bool.false_eq_true, Int.reduceBEq, Int.reduceBNe, Int.reduceLT, Int.reduceLE, Nat.add_assoc, Nat.reduceAdd, Nat.reducePow, Nat.zero_le, Nat.reduceEqDiff, Nat.reduceLT, Nat.reduceLeDiff, Nat.reduceMul, Nat.reduceSub, Nat.add_left_cancel_iff, Nat.lt_irrefl, Nat.le_refl, Nat.add_eq_left, Nat.left_eq_add, beq_self_eq_true, Int.reduceToNat, Nat.mul_one, Nat.zero_mul, Nat.zero_add, Nat.add_zero, Nat.one_mul, hc]
  | false =>
  have hc' : checkP g = 0 := by simpa using hc
  have hk := chk_iff.1 hc'
  have hpos := hk.pos
  cases h32 : decide ((g.rules.length : Int) ≥ 32) with
  | true => simp only [go_sem, ↓reduceIte, Int.reduceEq, Nat.reduceBEq, Option.some.injEq, Bool.true_eq_false, Bool.false_eq_true, Int.reduceBEq, Int.reduceBNe, Int.reduceLT, Int.reduceLE, Nat.add_assoc, Nat.reduceAdd, Nat.reducePow, Nat.zero_le, Nat.reduceEqDiff, Nat.reduceLT, Nat.reduceLeDiff, Nat.reduceMul, Nat.reduceSub, Nat.add_left_cancel_iff, Nat.lt_irrefl, Nat.le_refl, Nat.add_eq_left, Nat.left_eq_add, beq_self_eq_true, Int.reduceToNat, Nat.mul_one, Nat.zero_mul, Nat.zero_add, Nat.add_zero, Nat.one_mul, hc, h32]
  | false =>
  have h32' : g.rules.length < 32 := by simp at h32; omega
  simp only [go_sem, ↓reduceIte, Int.reduceEq, Nat.reduceBEq, Option.some.injEq, Bool.true_eq_false, Bool.false_eq_true, Int.reduceBEq, Int.reduceBNe, Int.reduceLT, Int.reduceLE, Nat.add_assoc, Nat.reduceAdd, Nat.reducePow, Nat.zero_le, Nat.reduceEqDiff, Nat.reduceLT, Nat.reduceLeDiff, Nat.reduceMul, Nat.reduceSub, Nat.add_left_cancel_iff, Nat.lt_irrefl, Nat.le_refl, Nat.add_eq_left, Nat.left_eq_add, beq_self_eq_true, Int.reduceToNat, Nat.mul_one, Nat.zero_mul, Nat.zero_add, Nat.add_zero, Nat.one_mul, hc, h32]
  refine ⟨_, _, _, bring_call rfl rule _ _, ?_⟩
  obtain ⟨b1, b2⟩ := bring_lt (i := rule) (n := (g.rules.length : Int)) (by omega) (by omega)
  obtain ⟨a, ha⟩ := Int.eq_ofNat_of_zero_le b1
  have ha' : a < g.rules.length := by omega
  obtain ⟨l0, l1, l2, l3⟩ := refused_law (nm := emptyB) hk h32' ha'
  simp only [go_sem, ↓reduceIte, Int.reduceEq, Nat.reduceBEq, Option.some.injEq, Bool.true_eq_false, Bool.false_eq_true, Int.reduceBEq, Int.reduceBNe, Int.reduceLT, Int.reduceLE, Nat.add_assoc, Nat.reduceAdd, Nat.reducePow, Nat.zero_le, Nat.reduceEqDiff, Nat.reduceLT, Nat.reduceLeDiff, Nat.reduceMul, Nat.reduceSub, Nat.add_left_cancel_iff, Nat.lt_irrefl, Nat.le_refl, Nat.add_eq_left, Nat.left_eq_add, beq_self_eq_true, Int.reduceToNat, Nat.mul_one, Nat.zero_mul, Nat.zero_add, Nat.add_zero, Nat.one_mul, ha]
  refine ⟨_, _, _, c38 rfl _ _, ?_⟩
  simp only [go_sem, ↓reduceIte, Int.reduceEq, Nat.reduceBEq, Option.some.injEq, Bool.true_eq_false, Bool.false_eq_true, Int.reduceBEq, Int.reduceBNe, Int.reduceLT, Int.reduceLE, Nat.add_assoc, Nat.reduceAdd, Nat.reducePow, Nat.zero_le, Nat.reduceEqDiff, Nat.reduceLT, Nat.reduceLeDiff, Nat.reduceMul, Nat.reduceSub, Nat.add_left_cancel_iff, Nat.lt_irrefl, Nat.le_refl, Nat.add_eq_left, Nat.left_eq_add, beq_self_eq_true, Int.reduceToNat, Nat.mul_one, Nat.zero_mul, Nat.zero_add, Nat.add_zero, Nat.one_mul, exC_c]
  refine ⟨_, _, _, bring_call rfl how 4 _, ?_⟩
  have ec : ∀ n : Int, ([A.d (D.int IntKind.i64 2), A.d (D.int IntKind.i64 n), A.d (D.slc true [])] : List A) = (exC n).c := fun _ => rfl
  have hs0 : ∀ n : Int, SmallE (exC n) := fun n => by unfold SmallE exC; simp [Ex.sz]
  generalize hσ2 : ((σ.push (Blk.cells g.c)).push (Blk.cells [A.d (D.int IntKind.i64 0), A.d (D.int IntKind.i64 0), A.d (D.slc true [])])).set (σ.n + 1) (Blk.cells [A.d (D.int IntKind.i64 2), A.d (D.int IntKind.i64 (g.rules.length : Int)), A.d (D.slc true [])]) = σ2
  have n2 : σ2.n = σ.n + 2 := by rw [← hσ2]; rfl
  have g0 : σ2.get σ.n = .cells g.c := by rw [← hσ2, St.get_set_ne (by omega), St.get_push_ne (by simp [St.n_push]), St.get_push_eq]
  have g1 : σ2.get (σ.n + 1) = .cells (exC g.rules.length).c := by rw [← hσ2, St.get_set_eq]; rfl
  have lzA : low σ.n [σ.n + 1] = [] := by rw [low_cons_ge (by omega)]; rfl
  rcases bring4 how with h | h | h | h
  · simp only [go_sem, ↓reduceIte, Int.reduceEq, Nat.reduceBEq, Option.some.injEq, Bool.true_eq_false, Bool.false_eq_true, Int.reduceBEq, Int.reduceBNe, Int.reduceLT, Int.reduceLE, Nat.add_assoc, Nat.reduceAdd, Nat.reducePow, Nat.zero_le, Nat.reduceEqDiff, Nat.reduceLT, Nat.reduceLeDiff, Nat.reduceMul, Nat.reduceSub, Nat.add_left_cancel_iff, Nat.lt_irrefl, Nat.le_refl, Nat.add_eq_left, Nat.left_eq_add, beq_self_eq_true, Int.reduceToNat, Nat.mul_one, Nat.zero_mul, Nat.zero_add, Nat.add_zero, Nat.one_mul, h, lzA]
    exact rest (by omega) g0 g1 (Frz.data _ _) (by omega) (hs0 _) (by simp only [go_sem, ↓reduceIte, Int.reduceEq, Nat.reduceBEq, Option.some.injEq, Bool.true_eq_false, Bool.false_eq_true, Int.reduceBEq, Int.reduceBNe, Int.reduceLT, Int.reduceLE, Nat.add_assoc, Nat.reduceAdd, Nat.reducePow, Nat.zero_le, Nat.reduceEqDiff, Nat.reduceLT, Nat.reduceLeDiff, Nat.reduceMul, Nat.reduceSub, Nat.add_left_cancel_iff, Nat.lt_irrefl, Nat.le_refl, Nat.add_eq_left, Nat.left_eq_add, beq_self_eq_true, Int.reduceToNat, Nat.mul_one, Nat.zero_mul, Nat.zero_add, Nat.add_zero, Nat.one_mul]) (by simp only [go_sem, ↓reduceIte, Int.reduceEq, Nat.reduceBEq, Option.some.injEq, Bool.true_eq_false, Bool.false_eq_true, Int.reduceBEq, Int.reduceBNe, Int.reduceLT, Int.reduceLE, Nat.add_assoc, Nat.reduceAdd, Nat.reducePow, Nat.zero_le, Nat.reduceEqDiff, Nat.reduceLT, Nat.reduceLeDiff, Nat.reduceMul, Nat.reduceSub, Nat.add_left_cancel_iff, Nat.lt_irrefl, Nat.le_refl, Nat.add_eq_left, Nat.left_eq_add, beq_self_eq_true, Int.reduceToNat, Nat.mul_one, Nat.zero_mul, Nat.zero_add, Nat.add_zero, Nat.one_mul]) (by simp only [go_sem, ↓reduceIte, Int.reduceEq, Nat.reduceBEq, Option.some.injEq, Bool.true_eq_false, Bool.false_eq_true, Int.reduceBEq, Int.reduceBNe, Int.reduceLT, Int.reduceLE, Nat.add_assoc, Nat.reduceAdd, Nat.reducePow, Nat.zero_le, Nat.reduceEqDiff, Nat.reduceLT, Nat.reduceLeDiff, Nat.reduceMul, Nat.reduceSub, Nat.add_left_cancel_iff, Nat.lt_irrefl, Nat.le_refl, Nat.add_eq_left, Nat.left_eq_add, beq_self_eq_true, Int.reduceToNat, Nat.mul_one, Nat.zero_mul, Nat.zero_add, Nat.add_zero, Nat.one_mul]) l0
  · simp only [go_sem, ↓reduceIte, Int.reduceEq, Nat.reduceBEq, Option.some.injEq, Bool.true_eq_false, Bool.false_eq_true, Int.reduceBEq, Int.reduceBNe, Int.reduceLT, Int.reduceLE, Nat.add_assoc, Nat.reduceAdd, Nat.reducePow, Nat.zero_le, Nat.reduceEqDiff, Nat.reduceLT, Nat.reduceLeDiff, Nat.reduceMul, Nat.reduceSub, Nat.add_left_cancel_iff, Nat.lt_irrefl, Nat.le_refl, Nat.add_eq_left, Nat.left_eq_add, beq_self_eq_true, Int.reduceToNat, Nat.mul_one, Nat.zero_mul, Nat.zero_add, Nat.add_zero, Nat.one_mul, h, lzA]
    refine ⟨_, _, _, c38 rfl _ _, ?_⟩
    refine ⟨_, _, _, c38 rfl _ _, ?_⟩
    simp only [go_sem, ↓reduceIte, Int.reduceEq, Nat.reduceBEq, Option.some.injEq, Bool.true_eq_false, Bool.false_eq_true, Int.reduceBEq, Int.reduceBNe, Int.reduceLT, Int.reduceLE, Nat.add_assoc, Nat.reduceAdd, Nat.reducePow, Nat.zero_le, Nat.reduceEqDiff, Nat.reduceLT, Nat.reduceLeDiff, Nat.reduceMul, Nat.reduceSub, Nat.add_left_cancel_iff, Nat.lt_irrefl, Nat.le_refl, Nat.add_eq_left, Nat.left_eq_add, beq_self_eq_true, Int.reduceToNat, Nat.mul_one, Nat.zero_mul, Nat.zero_add, Nat.add_zero, Nat.one_mul, exC_c]
    refine ⟨_, _, _, c37 rfl (by simp only [St.n_push]; omega), ?_⟩
    refine ⟨_, _, _, c38 rfl _ _, ?_⟩
    have hc1 : ∀ k m, (A.row k 0 m 3).isCell = true := fun _ _ => rfl
    have hcs : ∀ k m, (A.row k 0 m 3).cells = some [A.row k 0 m 3] := fun _ _ => rfl
    simp only [go_sem, ↓reduceIte, Int.reduceEq, Nat.reduceBEq, Option.some.injEq, Bool.true_eq_false, Bool.false_eq_true, Int.reduceBEq, Int.reduceBNe, Int.reduceLT, Int.reduceLE, Nat.add_assoc, Nat.reduceAdd, Nat.reducePow, Nat.zero_le, Nat.reduceEqDiff, Nat.reduceLT, Nat.reduceLeDiff, Nat.reduceMul, Nat.reduceSub, Nat.add_left_cancel_iff, Nat.lt_irrefl, Nat.le_refl, Nat.add_eq_left, Nat.left_eq_add, beq_self_eq_true, Int.reduceToNat, Nat.mul_one, Nat.zero_mul, Nat.zero_add, Nat.add_zero, Nat.one_mul, exC_c, hc1, hcs]
    generalize hσ4 : (σ2.push (Blk.cells [A.d (D.int IntKind.i64 2), A.d (D.int IntKind.i64 (g.rules.length : Int)), A.d (D.slc true []), A.d (D.int IntKind.i64 2), A.d (D.int IntKind.i64 (a : Int)), A.d (D.slc true [])])).push (Blk.cells [A.d (D.int IntKind.i64 3), A.d (D.int IntKind.i64 0), A.row σ2.n 0 2 3, A.d (D.int IntKind.i64 2), A.d (D.int IntKind.i64 (a : Int)), A.d (D.slc true [])]) = σ4
    have n4 : σ4.n = σ2.n + 2 := by rw [← hσ4]; rfl
    have hE4 : Ext σ2 σ4 := by rw [← hσ4]; exact ((Ext.refl σ2).push).push
    have r1 : σ4.get σ2.n = .cells [A.d (D.int IntKind.i64 2), A.d (D.int IntKind.i64 (g.rules.length : Int)), A.d (D.slc true []), A.d (D.int IntKind.i64 2), A.d (D.int IntKind.i64 (a : Int)), A.d (D.slc true [])] := by rw [← hσ4, St.get_push_ne (by simp [St.n_push]), St.get_push_eq]
    have r2 : σ4.get (σ2.n + 1) = .cells [A.d (D.int IntKind.i64 3), A.d (D.int IntKind.i64 0), A.row σ2.n 0 2 3, A.d (D.int IntKind.i64 2), A.d (D.int IntKind.i64 (a : Int)), A.d (D.slc true [])] := by rw [← hσ4]; exact St.get_push_eq' (by simp [St.n_push])
    have hF : ∀ ρ : St, ρ.get σ2.n = σ4.get σ2.n → ρ.get (σ2.n + 1) = σ4.get (σ2.n + 1) → σ2.n + 1 < ρ.n → Frz 20 ρ [.d (.int .i64 4), .d (.int .i64 0), .row (σ2.n + 1) 0 2 3] (ref1 g.rules.length a) := fun ρ p1 p2 p3 => by
      have hF1 : Frz 10 ρ [.d (.int .i64 3), .d (.int .i64 0), .row σ2.n 0 2 3] (.mk 3 0 false [exC g.rules.length, exC a]) := Frz.row (N := 0) (css := [(exC g.rules.length).c, (exC a).c]) (xs := [exC g.rules.length, exC a]) (p1.trans r1) (by omega) rfl fun i c x hc hx => by
        match i, hc, hx with
        | 0, hc, hx => cases hc; cases hx; exact Frz.data _ _
        | 1, hc, hx => cases hc; cases hx; exact Frz.data _ _
        | i + 2, hc, _ => simp at hc
      exact Frz.row (N := 10) (css := [[.d (.int .i64 3), .d (.int .i64 0), .row σ2.n 0 2 3], (exC a).c]) (xs := [.mk 3 0 false [exC g.rules.length, exC a], exC a]) (p2.trans r2) (by omega) rfl fun i c x hc hx => by
        match i, hc, hx with
        | 0, hc, hx => cases hc; cases hx; exact hF1
        | 1, hc, hx => cases hc; cases hx; exact (Frz.data _ _).up (by omega)
        | i + 2, hc, _ => simp at hc
    refine ⟨_, _, _, c39 rfl (by omega), ?_⟩
    have g1' : σ4.get (σ.n + 1) = .cells (exC g.rules.length).c := (hE4.g _ (by omega)).trans g1
    have g0' : σ4.get σ.n = .cells g.c := (hE4.g _ (by omega)).trans g0
    simp only [go_sem, ↓reduceIte, Int.reduceEq, Nat.reduceBEq, Option.some.injEq, Bool.true_eq_false, Bool.false_eq_true, Int.reduceBEq, Int.reduceBNe, Int.reduceLT, Int.reduceLE, Nat.add_assoc, Nat.reduceAdd, Nat.reducePow, Nat.zero_le, Nat.reduceEqDiff, Nat.reduceLT, Nat.reduceLeDiff, Nat.reduceMul, Nat.reduceSub, Nat.add_left_cancel_iff, Nat.lt_irrefl, Nat.le_refl, Nat.add_eq_left, Nat.left_eq_add, beq_self_eq_true, Int.reduceToNat, Nat.mul_one, Nat.zero_mul, Nat.zero_add, Nat.add_zero, Nat.one_mul, g1', exC_c, hc1, hcs, lzA]
    exact rest (by simp only [St.n_set]; omega) (by rw [St.get_set_ne (by omega)]; exact g0') St.get_set_eq (hF _ (St.get_set_ne (by omega)) (St.get_set_ne (by omega)) (by simp only [St.n_set]; omega)) (by omega) (by unfold SmallE ref1 exC; simp [Ex.sz]) (by simp only [go_sem, ↓reduceIte, Int.reduceEq, Nat.reduceBEq, Option.some.injEq, Bool.true_eq_false, Bool.false_eq_true, Int.reduceBEq, Int.reduceBNe, Int.reduceLT, Int.reduceLE, Nat.add_assoc, Nat.reduceAdd, Nat.reducePow, Nat.zero_le, Nat.reduceEqDiff, Nat.reduceLT, Nat.reduceLeDiff, Nat.reduceMul, Nat.reduceSub, Nat.add_left_cancel_iff, Nat.lt_irrefl, Nat.le_refl, Nat.add_eq_left, Nat.left_eq_add, beq_self_eq_true, Int.reduceToNat, Nat.mul_one, Nat.zero_mul, Nat.zero_add, Nat.add_zero, Nat.one_mul]) (by simp only [go_sem, ↓reduceIte, Int.reduceEq, Nat.reduceBEq, Option.some.injEq, Bool.true_eq_false, Bool.false_eq_true, Int.reduceBEq, Int.reduceBNe, Int.reduceLT, Int.reduceLE, Nat.add_assoc, Nat.reduceAdd, Nat.reducePow, Nat.zero_le, Nat.reduceEqDiff, Nat.reduceLT, Nat.reduceLeDiff, Nat.reduceMul, Nat.reduceSub, Nat.add_left_cancel_iff, Nat.lt_irrefl, Nat.le_refl, Nat.add_eq_left, Nat.left_eq_add, beq_self_eq_true, Int.reduceToNat, Nat.mul_one, Nat.zero_mul, Nat.zero_add, Nat.add_zero, Nat.one_mul]) (by simp only [go_sem, ↓reduceIte, Int.reduceEq, Nat.reduceBEq, Option.some.injEq, Bool.true_eq_false, Bool.false_eq_true, Int.reduceBEq, Int.reduceBNe, Int.reduceLT, Int.reduceLE, Nat.add_assoc, Nat.reduceAdd, Nat.reducePow, Nat.zero_le, Nat.reduceEqDiff, Nat.reduceLT, Nat.reduceLeDiff, Nat.reduceMul, Nat.reduceSub, Nat.add_left_cancel_iff, Nat.lt_irrefl, Nat.le_refl, Nat.add_eq_left, Nat.left_eq_add, beq_self_eq_true, Int.reduceToNat, Nat.mul_one, Nat.zero_mul, Nat.zero_add, Nat.add_zero, Nat.one_mul]) l1
  · simp only [go_sem, ↓reduceIte, Int.reduceEq, Nat.reduceBEq, Option.some.injEq, Bool.true_eq_false, Bool.false_eq_true, Int.reduceBEq, Int.reduceBNe, Int.reduceLT, Int.reduceLE, Nat.add_assoc, Nat.reduceAdd, Nat.reducePow, Nat.zero_le, Nat.reduceEqDiff, Nat.reduceLT, Nat.reduceLeDiff, Nat.reduceMul, Nat.reduceSub, Nat.add_left_cancel_iff, Nat.lt_irrefl, Nat.le_refl, Nat.add_eq_left, Nat.left_eq_add, beq_self_eq_true, Int.reduceToNat, Nat.mul_one, Nat.zero_mul, Nat.zero_add, Nat.add_zero, Nat.one_mul, h, lzA]
    refine ⟨_, _, _, c42 rfl _ _, ?_⟩
    have exT_c : ∀ n, (exT n).c = [.d (.int .i64 1), .d (.int .i64 n), .d (.slc true [])] := fun _ => rfl
    simp only [go_sem, ↓reduceIte, Int.reduceEq, Nat.reduceBEq, Option.some.injEq, Bool.true_eq_false, Bool.false_eq_true, Int.reduceBEq, Int.reduceBNe, Int.reduceLT, Int.reduceLE, Nat.add_assoc, Nat.reduceAdd, Nat.reducePow, Nat.zero_le, Nat.reduceEqDiff, Nat.reduceLT, Nat.reduceLeDiff, Nat.reduceMul, Nat.reduceSub, Nat.add_left_cancel_iff, Nat.lt_irrefl, Nat.le_refl, Nat.add_eq_left, Nat.left_eq_add, beq_self_eq_true, Int.reduceToNat, Nat.mul_one, Nat.zero_mul, Nat.zero_add, Nat.add_zero, Nat.one_mul, exT_c]
    have hk : (σ2.push (Blk.cells [A.d (D.int IntKind.i64 1), A.d (D.int IntKind.i64 0), A.d (D.slc true [])])).get σ2.n = .cells [A.d (D.int IntKind.i64 1), A.d (D.int IntKind.i64 0), A.d (D.slc true [])] := St.get_push_eq
    have hc1 : ∀ k m, (A.row k 0 m 3).isCell = true := fun _ _ => rfl
    have hcs : ∀ k m, (A.row k 0 m 3).cells = some [A.row k 0 m 3] := fun _ _ => rfl
    obtain ⟨σ5, hc5, hE5, n5, r5⟩ := c40x (fz := mdL) (k := σ2.n) (m := 1) (σ := σ2.push (Blk.cells [A.d (D.int IntKind.i64 1), A.d (D.int IntKind.i64 0), A.d (D.slc true [])])) rfl rfl (by simp [St.n_push])
    refine ⟨_, _, _, hc5, ?_⟩
    simp only [St.n_push] at n5 r5
    simp only [go_sem, ↓reduceIte, Int.reduceEq, Nat.reduceBEq, Option.some.injEq, Bool.true_eq_false, Bool.false_eq_true, Int.reduceBEq, Int.reduceBNe, Int.reduceLT, Int.reduceLE, Nat.add_assoc, Nat.reduceAdd, Nat.reducePow, Nat.zero_le, Nat.reduceEqDiff, Nat.reduceLT, Nat.reduceLeDiff, Nat.reduceMul, Nat.reduceSub, Nat.add_left_cancel_iff, Nat.lt_irrefl, Nat.le_refl, Nat.add_eq_left, Nat.left_eq_add, beq_self_eq_true, Int.reduceToNat, Nat.mul_one, Nat.zero_mul, Nat.zero_add, Nat.add_zero, Nat.one_mul, hc1, hcs]
    obtain ⟨σ7, hc7, hE7, n7, r7⟩ := c41x (fz := mdL) (k := σ5.n) (m := 1) (σ := σ5.push (Blk.cells [.d (.int .i64 6), .d (.int .i64 0), .row (σ2.n + 1 + 1) 0 1 3])) rfl rfl (by simp [St.n_push])
    refine ⟨_, _, _, hc7, ?_⟩
    simp only [St.n_push] at n7 r7
    have old7 : ∀ j, j < σ5.n → σ7.get j = σ5.get j := fun j hj => by rw [hE7.g j (by simp only [St.n_push]; omega), St.get_push_ne hj]
    have old5 : ∀ j, j < σ2.n + 1 → σ5.get j = (σ2.push (Blk.cells [A.d (D.int IntKind.i64 1), A.d (D.int IntKind.i64 0), A.d (D.slc true [])])).get j := fun j hj => hE5.g j (by simp only [St.n_push]; omega)
    have p1 : σ7.get σ2.n = .cells [A.d (D.int IntKind.i64 1), A.d (D.int IntKind.i64 0), A.d (D.slc true [])] := by rw [old7 _ (by omega), old5 _ (by omega)]; exact hk
    have p2 : σ7.get (σ2.n + 2) = .cells [.d (.int .i64 3), .d (.int .i64 0), .row σ2.n 0 1 3] := by rw [old7 _ (by omega)]; exact r5
    have p3 : σ7.get σ5.n = .cells [.d (.int .i64 6), .d (.int .i64 0), .row (σ2.n + 2) 0 1 3] := by rw [hE7.g _ (by simp [St.n_push]), St.get_push_eq]
    have p4 : σ7.get (σ5.n + 2) = .cells [.d (.int .i64 3), .d (.int .i64 0), .row σ5.n 0 1 3] := r7
    have g1' : σ7.get (σ.n + 1) = .cells (exC g.rules.length).c := by rw [old7 _ (by omega), old5 _ (by omega), St.get_push_ne (by omega)]; exact g1
    have g0' : σ7.get σ.n = .cells g.c := by rw [old7 _ (by omega), old5 _ (by omega), St.get_push_ne (by omega)]; exact g0
    have one : ∀ {N k : Nat} {ρ : St} {c : List A} {x : Ex} {kd : Int}, ρ.get k = .cells c → k < ρ.n → Frz N ρ c x → Frz (N + 7) ρ [.d (.int .i64 kd), .d (.int .i64 0), .row k 0 1 3] (.mk kd 0 false [x]) := fun {N k ρ c x kd} h1 h2 h3 =>
      Frz.row (N := N) (css := [c]) (xs := [x]) (by rw [h1]; simp) h2 rfl fun i c' x' hc hx => by
        match i, hc, hx with
        | 0, hc, hx => cases hc; cases hx; exact h3
        | i + 1, hc, _ => simp at hc
    have hF : ∀ ρ : St, σ7.n ≤ ρ.n → (∀ j, j ≠ σ.n + 1 → ρ.get j = σ7.get j) → Frz 28 ρ [.d (.int .i64 5), .d (.int .i64 0), .row (σ5.n + 2) 0 1 3] ref2 := fun ρ e1 e2 => by
      have f1 := one (kd := 3) ((e2 _ (by omega)).trans p1) (by omega) (Frz.data (exT 0) ρ)
      have f2 := one (kd := 6) ((e2 _ (by omega)).trans p2) (by omega) f1
      have f3 := one (kd := 3) ((e2 _ (by omega)).trans p3) (by omega) f2
      exact one (kd := 5) ((e2 _ (by omega)).trans p4) (by omega) f3
    simp only [go_sem, ↓reduceIte, Int.reduceEq, Nat.reduceBEq, Option.some.injEq, Bool.true_eq_false, Bool.false_eq_true, Int.reduceBEq, Int.reduceBNe, Int.reduceLT, Int.reduceLE, Nat.add_assoc, Nat.reduceAdd, Nat.reducePow, Nat.zero_le, Nat.reduceEqDiff, Nat.reduceLT, Nat.reduceLeDiff, Nat.reduceMul, Nat.reduceSub, Nat.add_left_cancel_iff, Nat.lt_irrefl, Nat.le_refl, Nat.add_eq_left, Nat.left_eq_add, beq_self_eq_true, Int.reduceToNat, Nat.mul_one, Nat.zero_mul, Nat.zero_add, Nat.add_zero, Nat.one_mul, g1', exC_c, hc1, hcs, lzA]
    exact rest (by simp only [St.n_set]; omega) (by rw [St.get_set_ne (by omega)]; exact g0') St.get_set_eq (hF _ (by simp only [St.n_set]; omega) fun j hj => St.get_set_ne hj) (by omega) (by unfold SmallE ref2 exT; simp [Ex.sz]) (by simp only [go_sem, ↓reduceIte, Int.reduceEq, Nat.reduceBEq, Option.some.injEq, Bool.true_eq_false, Bool.false_eq_true, Int.reduceBEq, Int.reduceBNe, Int.reduceLT, Int.reduceLE, Nat.add_assoc, Nat.reduceAdd, Nat.reducePow, Nat.zero_le, Nat.reduceEqDiff, Nat.reduceLT, Nat.reduceLeDiff, Nat.reduceMul, Nat.reduceSub, Nat.add_left_cancel_iff, Nat.lt_irrefl, Nat.le_refl, Nat.add_eq_left, Nat.left_eq_add, beq_self_eq_true, Int.reduceToNat, Nat.mul_one, Nat.zero_mul, Nat.zero_add, Nat.add_zero, Nat.one_mul]) (by simp only [go_sem, ↓reduceIte, Int.reduceEq, Nat.reduceBEq, Option.some.injEq, Bool.true_eq_false, Bool.false_eq_true, Int.reduceBEq, Int.reduceBNe, Int.reduceLT, Int.reduceLE, Nat.add_assoc, Nat.reduceAdd, Nat.reducePow, Nat.zero_le, Nat.reduceEqDiff, Nat.reduceLT, Nat.reduceLeDiff, Nat.reduceMul, Nat.reduceSub, Nat.add_left_cancel_iff, Nat.lt_irrefl, Nat.le_refl, Nat.add_eq_left, Nat.left_eq_add, beq_self_eq_true, Int.reduceToNat, Nat.mul_one, Nat.zero_mul, Nat.zero_add, Nat.add_zero, Nat.one_mul]) (by simp only [go_sem, ↓reduceIte, Int.reduceEq, Nat.reduceBEq, Option.some.injEq, Bool.true_eq_false, Bool.false_eq_true, Int.reduceBEq, Int.reduceBNe, Int.reduceLT, Int.reduceLE, Nat.add_assoc, Nat.reduceAdd, Nat.reducePow, Nat.zero_le, Nat.reduceEqDiff, Nat.reduceLT, Nat.reduceLeDiff, Nat.reduceMul, Nat.reduceSub, Nat.add_left_cancel_iff, Nat.lt_irrefl, Nat.le_refl, Nat.add_eq_left, Nat.left_eq_add, beq_self_eq_true, Int.reduceToNat, Nat.mul_one, Nat.zero_mul, Nat.zero_add, Nat.add_zero, Nat.one_mul]) l2
  · simp only [go_sem, ↓reduceIte, Int.reduceEq, Nat.reduceBEq, Option.some.injEq, Bool.true_eq_false, Bool.false_eq_true, Int.reduceBEq, Int.reduceBNe, Int.reduceLT, Int.reduceLE, Nat.add_assoc, Nat.reduceAdd, Nat.reducePow, Nat.zero_le, Nat.reduceEqDiff, Nat.reduceLT, Nat.reduceLeDiff, Nat.reduceMul, Nat.reduceSub, Nat.add_left_cancel_iff, Nat.lt_irrefl, Nat.le_refl, Nat.add_eq_left, Nat.left_eq_add, beq_self_eq_true, Int.reduceToNat, Nat.mul_one, Nat.zero_mul, Nat.zero_add, Nat.add_zero, Nat.one_mul, h, lzA]
    refine ⟨_, _, _, c42 rfl _ _, ?_⟩
    refine ⟨_, _, _, c38 rfl _ _, ?_⟩
    have exT_c : ∀ n, (exT n).c = [.d (.int .i64 1), .d (.int .i64 n), .d (.slc true [])] := fun _ => rfl
    have hc1 : ∀ k m, (A.row k 0 m 3).isCell = true := fun _ _ => rfl
    have hcs : ∀ k m, (A.row k 0 m 3).cells = some [A.row k 0 m 3] := fun _ _ => rfl
    simp only [go_sem, ↓reduceIte, Int.reduceEq, Nat.reduceBEq, Option.some.injEq, Bool.true_eq_false, Bool.false_eq_true, Int.reduceBEq, Int.reduceBNe, Int.reduceLT, Int.reduceLE, Nat.add_assoc, Nat.reduceAdd, Nat.reducePow, Nat.zero_le, Nat.reduceEqDiff, Nat.reduceLT, Nat.reduceLeDiff, Nat.reduceMul, Nat.reduceSub, Nat.add_left_cancel_iff, Nat.lt_irrefl, Nat.le_refl, Nat.add_eq_left, Nat.left_eq_add, beq_self_eq_true, Int.reduceToNat, Nat.mul_one, Nat.zero_mul, Nat.zero_add, Nat.add_zero, Nat.one_mul, exC_c, exT_c]
    refine ⟨_, _, _, c37 rfl (by simp only [St.n_push]; omega), ?_⟩
    have g1' : (σ2.push (Blk.cells [A.d (D.int IntKind.i64 1), A.d (D.int IntKind.i64 0), A.d (D.slc true []), A.d (D.int IntKind.i64 2), A.d (D.int IntKind.i64 (g.rules.length : Int)), A.d (D.slc true [])])).get (σ.n + 1) = .cells (exC g.rules.length).c := by rw [St.get_push_ne (by omega)]; exact g1
    simp only [go_sem, ↓reduceIte, Int.reduceEq, Nat.reduceBEq, Option.some.injEq, Bool.true_eq_false, Bool.false_eq_true, Int.reduceBEq, Int.reduceBNe, Int.reduceLT, Int.reduceLE, Nat.add_assoc, Nat.reduceAdd, Nat.reducePow, Nat.zero_le, Nat.reduceEqDiff, Nat.reduceLT, Nat.reduceLeDiff, Nat.reduceMul, Nat.reduceSub, Nat.add_left_cancel_iff, Nat.lt_irrefl, Nat.le_refl, Nat.add_eq_left, Nat.left_eq_add, beq_self_eq_true, Int.reduceToNat, Nat.mul_one, Nat.zero_mul, Nat.zero_add, Nat.add_zero, Nat.one_mul, g1', exC_c, hc1, hcs, lzA]
    refine rest (N := 10) (x := ref3 g.rules.length) (by simp only [St.n_set, St.n_push]; omega) (by rw [St.get_set_ne (by omega), St.get_push_ne (by omega)]; exact g0) St.get_set_eq ?_ (by omega) (by unfold SmallE ref3 exC exT; simp [Ex.sz]) (by simp only [go_sem, ↓reduceIte, Int.reduceEq, Nat.reduceBEq, Option.some.injEq, Bool.true_eq_false, Bool.false_eq_true, Int.reduceBEq, Int.reduceBNe, Int.reduceLT, Int.reduceLE, Nat.add_assoc, Nat.reduceAdd, Nat.reducePow, Nat.zero_le, Nat.reduceEqDiff, Nat.reduceLT, Nat.reduceLeDiff, Nat.reduceMul, Nat.reduceSub, Nat.add_left_cancel_iff, Nat.lt_irrefl, Nat.le_refl, Nat.add_eq_left, Nat.left_eq_add, beq_self_eq_true, Int.reduceToNat, Nat.mul_one, Nat.zero_mul, Nat.zero_add, Nat.add_zero, Nat.one_mul]) (by simp only [go_sem, ↓reduceIte, Int.reduceEq, Nat.reduceBEq, Option.some.injEq, Bool.true_eq_false, Bool.false_eq_true, Int.reduceBEq, Int.reduceBNe, Int.reduceLT, Int.reduceLE, Nat.add_assoc, Nat.reduceAdd, Nat.reducePow, Nat.zero_le, Nat.reduceEqDiff, Nat.reduceLT, Nat.reduceLeDiff, Nat.reduceMul, Nat.reduceSub, Nat.add_left_cancel_iff, Nat.lt_irrefl, Nat.le_refl, Nat.add_eq_left, Nat.left_eq_add, beq_self_eq_true, Int.reduceToNat, Nat.mul_one, Nat.zero_mul, Nat.zero_add, Nat.add_zero, Nat.one_mul]) (by simp only [go_sem, ↓reduceIte, Int.reduceEq, Nat.reduceBEq, Option.some.injEq, Bool.true_eq_false, Bool.false_eq_true, Int.reduceBEq, Int.reduceBNe, Int.reduceLT, Int.reduceLE, Nat.add_assoc, Nat.reduceAdd, Nat.reducePow, Nat.zero_le, Nat.reduceEqDiff, Nat.reduceLT, Nat.reduceLeDiff, Nat.reduceMul, Nat.reduceSub, Nat.add_left_cancel_iff, Nat.lt_irrefl, Nat.le_refl, Nat.add_eq_left, Nat.left_eq_add, beq_self_eq_true, Int.reduceToNat, Nat.mul_one, Nat.zero_mul, Nat.zero_add, Nat.add_zero, Nat.one_mul]) l3
    refine Frz.row (N := 0) (css := [(exT 0).c, (exC g.rules.length).c]) (xs := [exT 0, exC g.rules.length]) (by rw [St.get_set_ne (by omega), St.get_push_eq]; rfl) (by simp only [St.n_set, St.n_push]; omega) rfl fun i c x hc hx => ?_
    match i, hc, hx with
    | 0, hc, hx => cases hc; cases hx; exact Frz.data _ _
    | 1, hc, hx => cases hc; cases hx; exact Frz.data _ _
    | i + 2, hc, _ => simp at hc
end Go.Am

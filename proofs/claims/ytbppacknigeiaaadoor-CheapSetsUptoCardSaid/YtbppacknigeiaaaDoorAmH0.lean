/- Part H0 of a proof that runs a program's calls on a small machine whose values bear no addresses: no conditions. -/
import Derived.Test.YtbppacknigeiaaaDoorAmT2
import Derived.Laws.Bits64b
set_option autoImplicit false
set_option linter.unusedSimpArgs false
set_option linter.unusedVariables false
set_option linter.unusedSectionVars false
namespace Go.Am
open Go Go.Proofs
mutual
def dOkE : Ex → Nat → Bool
  | .mk _ _ _ l, d => match d with
    | 0 => false
    | d + 1 => dOkL l d
def dOkL : List Ex → Nat → Bool
  | [], _ => true
  | x :: l, d => dOkE x d && dOkL l d
end
def szL (l : List Ex) : Nat := (l.map Ex.sz).sum
theorem szL_cons (x : Ex) (l : List Ex) : szL (x :: l) = x.sz + szL l := by simp [szL]
theorem sz_mk (k n : Int) (z : Bool) (l : List Ex) : (Ex.mk k n z l).sz = 1 + szL l := by rw [Ex.sz]; rfl
theorem wrapS {n : Int} (h1 : -1000000 ≤ n) (h2 : n ≤ 1000000) : IntKind.i64.wrap n = n := wrap_small (by omega) (by omega)
mutual
theorem sizeE_is : ∀ (x : Ex) (deep left : Nat), 1 ≤ deep → deep ≤ 33 → left ≤ 512 → sizeE x deep left = if dOkE x (33 - deep) = true ∧ x.sz ≤ left then ((left - x.sz : Nat) : Int) else -1
  | .mk k n z l, deep, left, h1, h2, h3 => by
    rw [sizeE, sz_mk, wrapS (by omega) (by omega)]
    by_cases hd : deep = 33
    · subst hd
      rw [if_pos (Or.inl (by omega)), if_neg]
      rintro ⟨h, -⟩
      rw [show 33 - 33 = 0 from rfl, dOkE] at h; cases h
    · obtain ⟨e, he⟩ : ∃ e, 33 - deep = e + 1 := ⟨33 - deep - 1, by omega⟩
      by_cases hl : left = 0
      · subst hl
        rw [if_pos (Or.inr (by omega)), if_neg (by omega)]
      · rw [if_neg (by omega), wrapS (by omega) (by omega), he, dOkE]
        have h4 : ((deep : Int) + 1) = ((deep + 1 : Nat) : Int) := rfl
        have h5 : ((left : Int) - 1) = ((left - 1 : Nat) : Int) := by omega
        rw [h4, h5, sizeEL_is l (deep + 1) (left - 1) (by omega) (by omega) (by omega), show 33 - (deep + 1) = e by omega]
        by_cases c : dOkL l e = true ∧ szL l ≤ left - 1
        · rw [if_pos c, if_pos ⟨c.1, by omega⟩]; congr 1; omega
        · rw [if_neg c, if_neg (fun h => c ⟨h.1, by omega⟩)]
theorem sizeEL_is : ∀ (l : List Ex) (deep left : Nat), 1 ≤ deep → deep ≤ 33 → left ≤ 512 → sizeEL l deep left = if dOkL l (33 - deep) = true ∧ szL l ≤ left then ((left - szL l : Nat) : Int) else -1
  | [], deep, left, _, _, _ => by rw [sizeEL, dOkL, if_pos ⟨rfl, by simp [szL]⟩]; simp [szL]
  | x :: l, deep, left, h1, h2, h3 => by
    rw [sizeEL, sizeE_is x deep left h1 h2 h3, dOkL, szL_cons]
    by_cases c : dOkE x (33 - deep) = true ∧ x.sz ≤ left
    · rw [if_pos c, if_neg (by omega), sizeEL_is l deep (left - x.sz) h1 h2 (by omega)]
      by_cases c2 : dOkL l (33 - deep) = true ∧ szL l ≤ left - x.sz
      · rw [if_pos c2, if_pos ⟨by rw [c.1, c2.1]; rfl, by omega⟩]; congr 1; omega
      · rw [if_neg c2, if_neg]
        rintro ⟨h, h'⟩
        rw [Bool.and_eq_true] at h
        exact c2 ⟨h.2, by omega⟩
    · rw [if_neg c, if_pos (by omega), if_neg]
      rintro ⟨h, h'⟩
      rw [Bool.and_eq_true] at h
      exact c ⟨h.1, by omega⟩
end
theorem sizesL_is : ∀ (l : List Ex) (left : Nat), left ≤ 512 → (sizesL l left < 0 ↔ ¬ (dOkL l 32 = true ∧ szL l ≤ left))
  | [], left, _ => by rw [sizesL, dOkL]; simp [szL]
  | x :: l, left, h => by
    rw [sizesL, show (1 : Int) = ((1 : Nat) : Int) from rfl, sizeE_is x 1 left (by omega) (by omega) h, dOkL, szL_cons]
    by_cases c : dOkE x (33 - 1) = true ∧ x.sz ≤ left
    · rw [if_pos c, if_neg (by omega), sizesL_is l (left - x.sz) (by omega)]
      have c1 : dOkE x 32 = true := c.1
      rw [c1, Bool.true_and]
      constructor
      · rintro h ⟨a, b⟩; exact h ⟨a, by omega⟩
      · rintro h ⟨a, b⟩; exact h ⟨a, by omega⟩
    · rw [if_neg c, if_pos (by omega)]
      refine ⟨fun _ ⟨a, b⟩ => c ⟨by rw [Bool.and_eq_true] at a; exact a.1, by omega⟩, fun _ => by omega⟩
theorem szL_mem : ∀ {l : List Ex} {y : Ex}, y ∈ l → y.sz ≤ szL l
  | x :: l, y, h => by
    rw [szL_cons]
    rcases List.mem_cons.1 h with rfl | h
    · omega
    · have := szL_mem h; omega
structure GOk (g : Gr) : Prop where
  ok : ∀ y ∈ g.bodies, okE g.tokens g.bodies.length y
  pos : 0 < g.rules.length
  le : g.rules.length ≤ 32
  tok : g.tokens ≤ 64
  sz : szL g.bodies ≤ 512
  vain : ∀ y ∈ g.bodies, vainE (qOf g.null) y = false
theorem GOk.of {g : Gr} (h : checkP g = 0) : GOk g := by
  have hbl : g.bodies.length = g.rules.length := by rw [Gr.bodies, List.length_map]
  unfold checkP at h
  split at h
  · omega
  rename_i h1
  split at h
  · omega
  rename_i h2
  split at h
  · omega
  rename_i h3
  split at h
  · omega
  rename_i h4
  have h4' : g.bodies.all (rightE g.tokens g.rules.length) = true := by simpa using h4
  rw [List.all_eq_true] at h4'
  unfold check2P at h
  split at h
  · omega
  rename_i h5
  have h7 : ∀ r ∈ g.rules, vainE (qOf g.null) r.body = false := by
    intro r hr
    cases e : vainE (qOf g.null) r.body with
    | false => rfl
    | true => exact absurd (by rw [Bool.or_eq_true]; exact .inr (List.any_eq_true.2 ⟨r, hr, e⟩)) h5
  have h8 : ¬ ¬ (dOkL g.bodies 32 = true ∧ szL g.bodies ≤ 512) := fun h => h2 ((sizesL_is g.bodies 512 (by omega)).2 h)
  refine ⟨fun y hy => by rw [hbl]; exact h4' y hy, ?_, by simp at h1; omega, by simp at h1; omega, ?_, fun y hy => ?_⟩
  · cases e : g.rules with
    | nil => simp [e] at h3
    | cons a r => simp
  · exact (Classical.not_not.1 h8).2
  · obtain ⟨r, hr, rfl⟩ := List.mem_map.1 hy
    exact h7 r hr
theorem okE.tok {t : Int} {r : Nat} {x : Ex} (h : okE t r x) (k : x.kind = 1) : 0 ≤ x.num ∧ x.num < t := by
  have := h.c
  simp [rightN, k, rightC] at this; omega
theorem okE.alt {t : Int} {r : Nat} {x : Ex} (h : okE t r x) (k : x.kind = 4) : x.l ≠ [] := by
  have := h.c
  intro h0
  simp [rightN, k, rightC, h0] at this
theorem okE.kind0 {t : Int} {r : Nat} {x : Ex} (h : okE t r x) (k1 : ¬x.kind = 1) (k2 : ¬x.kind = 2) (k3 : ¬x.kind = 3) (k4 : ¬x.kind = 4) (k5 : ¬x.kind = 5) (k6 : ¬x.kind = 6) : x.kind = 0 := by
  have := h.c
  by_cases k0 : x.kind = 0
  · exact k0
  · unfold rightN at this
    rw [if_neg k0, if_neg k1, if_neg k2, if_neg k4, if_neg k3, if_neg (by omega)] at this
    cases this
end Go.Am
namespace Go.Am
open Go Go.Proofs
variable {fz : Nat → Md}
def ub (n : Nat) : D := .int .u64 (n : Int)
def ubA (l : List Nat) : List A := l.map fun n => A.d (ub n)
theorem ubA_len (l : List Nat) : (ubA l).length = l.length := by simp [ubA]
theorem ubA_get {l : List Nat} {i : Nat} (h : i < l.length) : (ubA l)[i]? = some (.d (.int .u64 ((l.getD i 0 : Nat) : Int))) := by simp [ubA, h, ub]
theorem ubA_set {l : List Nat} {i n : Nat} : (ubA l).set i (.d (.int .u64 (n : Int))) = ubA (l.set i n) := by simp [ubA, List.map_set, ub]
theorem or_u {a b : Nat} (ha : a < 2 ^ 64) (hb : b < 2 ^ 64) : bits .or .u64 (a : Int) (b : Int) = ((a ||| b : Nat) : Int) := bits_or_u64_nat a b ha hb
theorem or_lt {a b : Nat} (ha : a < 2 ^ 64) (hb : b < 2 ^ 64) : a ||| b < 2 ^ 64 := Nat.or_lt_two_pow ha hb
theorem wrap_u {a : Nat} (h : a < 2 ^ 64) : IntKind.u64.wrap (a : Int) = (a : Int) := by rw [IntKind.wrap_u64]; omega
theorem sh_u {n : Nat} (h : n < 64) : IntKind.u64.wrap (1 * 2 ^ min n 64) = ((2 ^ n : Nat) : Int) := by
  have h2 : 2 ^ n < 2 ^ 64 := Nat.pow_lt_pow_right (by omega) h
  rw [Nat.min_eq_left (by omega), Int.one_mul, ← wrap_u h2, Int.natCast_pow]; rfl
theorem or_w {a b : Nat} (ha : a < 2 ^ 64) (hb : b < 2 ^ 64) : IntKind.u64.wrap ((BitVec.ofInt 64 (a : Int) ||| BitVec.ofInt 64 (b : Int)).toNat : Int) = ((a ||| b : Nat) : Int) := or_u ha hb
mutual
/-- with what a part can begin, and whether it can be nothing -/
def bgE (F : List Nat) (nl : List Bool) : Ex → Nat × Bool
  | .mk k n _ l => if k = 1 then (2 ^ n.toNat, false) else if k = 2 then (F.getD n.toNat 0, nl.getD n.toNat false) else if k = 3 then bgS F nl l 0 else bgA F nl l 0 (k != 4)
def bgS (F : List Nat) (nl : List Bool) : List Ex → Nat → Nat × Bool
  | [], a => (a, true)
  | x :: l, a => if (bgE F nl x).2 = true then bgS F nl l (a ||| (bgE F nl x).1) else (a ||| (bgE F nl x).1, false)
def bgA (F : List Nat) (nl : List Bool) : List Ex → Nat → Bool → Nat × Bool
  | [], a, b => (a, b)
  | x :: l, a, b => bgA F nl l (a ||| (bgE F nl x).1) (b || (bgE F nl x).2)
end
section
variable {F : List Nat} {nl : List Bool}
theorem bgE_eq (x : Ex) : bgE F nl x = if x.kind = 1 then (2 ^ x.num.toNat, false) else if x.kind = 2 then (F.getD x.num.toNat 0, nl.getD x.num.toNat false) else if x.kind = 3 then bgS F nl x.l 0 else bgA F nl x.l 0 (x.kind != 4) := by
  cases x; rw [bgE]; rfl
def Lt64 (F : List Nat) : Prop := ∀ n, F.getD n 0 < 2 ^ 64
theorem bgS_lt : ∀ (l : List Ex), (∀ y ∈ l, (bgE F nl y).1 < 2 ^ 64) → ∀ a, a < 2 ^ 64 → (bgS F nl l a).1 < 2 ^ 64
  | [], _, a, h => by rw [bgS]; exact h
  | x :: l, hx, a, h => by
    rw [bgS]
    have := or_lt h (hx x (by simp))
    split
    · exact bgS_lt l (fun y hy => hx y (by simp [hy])) _ this
    · exact this
theorem bgA_lt : ∀ (l : List Ex), (∀ y ∈ l, (bgE F nl y).1 < 2 ^ 64) → ∀ a b, a < 2 ^ 64 → (bgA F nl l a b).1 < 2 ^ 64
  | [], _, a, b, h => by rw [bgA]; exact h
  | x :: l, hx, a, b, h => by
    rw [bgA]
    exact bgA_lt l (fun y hy => hx y (by simp [hy])) _ _ (or_lt h (hx x (by simp)))
theorem bgE_lt (hF : Lt64 F) {t : Int} {r : Nat} (ht : t ≤ 64) : ∀ x : Ex, okE t r x → (bgE F nl x).1 < 2 ^ 64 := fun x ho => by
  have hsub : ∀ y ∈ x.l, (bgE F nl y).1 < 2 ^ 64 := fun y hy => bgE_lt hF ht y (ho.sub hy)
  rw [bgE_eq]
  split
  · rename_i k1
    obtain ⟨h1, h2⟩ := ho.tok k1
    exact Nat.pow_lt_pow_right (by omega) (by omega)
  split
  · exact hF _
  split
  · exact bgS_lt _ hsub _ (by omega)
  · exact bgA_lt _ hsub _ _ (by omega)
termination_by x => x
decreasing_by exact Ex.sub_lt hy
end
structure SM (g : Gr) (nl : List Bool) (ks k1 k2 k3 : Nat) (F H : List Nat) (R : List Bool) (σ : St) : Prop where
  s : σ.get ks = .cells [.d (.int .i64 g.tokens), g.rd, .d (.slc false (boolsD nl)), .row k1 0 g.rules.length 1, .row k2 0 g.rules.length 1, .row k3 0 g.rules.length 1]
  f : σ.get k1 = .cells (ubA F)
  h : σ.get k2 = .cells (ubA H)
  r : σ.get k3 = .cells (bA R)
  fl : F.length = g.rules.length
  hl : H.length = g.rules.length
  rl : R.length = g.rules.length
  nl : nl.length = g.rules.length
  ls : ks < σ.n
  l1 : k1 < σ.n
  l2 : k2 < σ.n
  l3 : k3 < σ.n
theorem SM.stay {g : Gr} {nl : List Bool} {ks k1 k2 k3 : Nat} {F H : List Nat} {R : List Bool} {σ τ : St} (h : SM g nl ks k1 k2 k3 F H R σ) (hn : σ.n ≤ τ.n) (hg : ∀ k, k < σ.n → τ.get k = σ.get k) : SM g nl ks k1 k2 k3 F H R τ :=
  ⟨(hg _ h.ls).trans h.s, (hg _ h.l1).trans h.f, (hg _ h.l2).trans h.h, (hg _ h.l3).trans h.r, h.fl, h.hl, h.rl, h.nl, Nat.lt_of_lt_of_le h.ls hn, Nat.lt_of_lt_of_le h.l1 hn, Nat.lt_of_lt_of_le h.l2 hn, Nat.lt_of_lt_of_le h.l3 hn⟩
set_option maxHeartbeats 8000000 in
theorem begin_c (h69 : fz 69 = .cut) {g : Gr} {nl : List Bool} {ks k1 k2 k3 : Nat} {F H : List Nat} {R : List Bool} (hF : Lt64 F) (ht : g.tokens ≤ 64) (x : Ex) (σ : St) (hx : SmallE x) (ho : okE g.tokens g.rules.length x) (hm : SM g nl ks k1 k2 k3 F H R σ) :
    CallsTo (XX fz) (.func 69 []) [.ptr ks 0, x.a] σ (.tup [.d (.int .u64 ((bgE F nl x).1 : Int)), .d (.bool (bgE F nl x).2)]) σ [] := by
  refine CallsTo.cut0 h69 fn69 (by simp) rfl ?_
  simp only [Tryd.f69, Option.getD_some]
  have hlen := hx.len
  have nls : ks ≠ σ.n := by have := hm.ls; omega
  have hls := hm.ls
  simp only [go_sem, ↓reduceIte, Int.reduceEq, Nat.reduceBEq, Int.reduceBEq, Nat.reduceAdd, Nat.reduceEqDiff, Nat.reduceLT, Nat.reduceSub, Ex.a]
  by_cases k1' : x.kind = 1
  · have e : (x.kind == 1) = true := by simpa using k1'
    obtain ⟨c1, c2⟩ := ho.tok k1'
    rw [bgE_eq, if_pos k1']
    obtain ⟨n, hn⟩ := Int.eq_ofNat_of_zero_le c1
    have hn0 : ¬ ((n : Int) < 0) := by omega
    simp only [go_sem, ↓reduceIte, Int.reduceEq, Nat.reduceBEq, Int.reduceBEq, Nat.reduceAdd, Nat.reduceEqDiff, Nat.reduceLT, Nat.reduceSub, e, hn, bin_shl, hn0, Int.toNat_natCast]
    rw [sh_u (by omega)]
  have e1 : (x.kind == 1) = false := by simpa using k1'
  by_cases k2' : x.kind = 2
  · have e : (x.kind == 2) = true := by simpa using k2'
    obtain ⟨c1, c2⟩ := ho.call k2'
    obtain ⟨n, hn⟩ := Int.eq_ofNat_of_zero_le c1
    have hlt : n < g.rules.length := by omega
    have ix := fun ρ : St => indexR_nat (σ := ρ) (k := k1) (off := 0) (s := 1) (cs := ubA F) hlt
    simp only [Nat.zero_add, Nat.mul_one] at ix
    have cg := ubA_get (l := F) (i := n) (by rw [hm.fl]; exact hlt)
    have ib := fun ρ : St => index_bools (σ := ρ) (l := nl) (z := false) (i := n) (by rw [hm.nl]; exact hlt)
    have nl1 : k1 ≠ σ.n := by have := hm.l1; omega
    have hl1 := hm.l1
    rw [bgE_eq, if_neg k1', if_pos k2']
    simp only [go_sem, ↓reduceIte, Int.reduceEq, Nat.reduceBEq, Int.reduceBEq, Nat.reduceAdd, Nat.reduceEqDiff, Nat.reduceLT, Nat.reduceSub, e1, e, hn, nls, hls, nl1, hl1, hm.s, hm.f, ix, cg, ib]
    refine ⟨drawOk_rel [] [] rfl (by kernel_rfl) rfl (by simp), ?_⟩
    simp only [go_sem, ↓reduceIte, Int.reduceEq, Nat.reduceBEq, Int.reduceBEq, Nat.reduceAdd, Nat.reduceEqDiff, Nat.reduceLT, Nat.reduceSub, Int.toNat_natCast]
  have e2 : (x.kind == 2) = false := by simpa using k2'
  by_cases k3' : x.kind = 3
  · have e : (x.kind == 3) = true := by simpa using k3'
    rw [bgE_eq, if_neg k1', if_neg k2', if_pos k3']
    simp only [go_sem, ↓reduceIte, Int.reduceEq, Nat.reduceBEq, Int.reduceBEq, Nat.reduceAdd, Nat.reduceEqDiff, Nat.reduceLT, Nat.reduceSub, e1, e2, e]
    refine Ev.loop_ind (fun k tm τ W => ∃ (i a : Nat), k = x.l.length - i ∧ i ≤ x.l.length ∧ W = [] ∧ σ.n + 1 ≤ τ.n ∧ SM g nl ks k1 k2 k3 F H R τ ∧ a < 2 ^ 64 ∧ bgS F nl (x.l.drop i) a = bgS F nl x.l 0 ∧
        tm.at 0 = .ptr ks 0 ∧ tm.at 4 = .d (.int .u64 (a : Int)) ∧ tm.at 42 = x.ld ∧ tm.at 43 = .d (.int .i64 (x.l.length : Int)) ∧ tm.at 44 = .d (.int .i64 i)) ?_ x.l.length _ _ _ ⟨0, 0, rfl, by omega, rfl, by simp [St.n_push], hm.stay (by simp [St.n_push]) (fun k hk => St.get_push_ne hk), by omega, rfl, ?_, ?_, ?_, ?_, ?_⟩
    · rintro k tm τ W ⟨i, a, rfl, hi, rfl, hn, hM, ha, he, t0, t4, t42, t43, t44⟩ ih
      by_cases hl : i < x.l.length
      · have hget : x.l[i]? = some x.l[i] := by simp [hl]
        have hmem : x.l[i] ∈ x.l := List.getElem_mem hl
        rw [List.drop_eq_getElem_cons hl, bgS] at he
        have hlt := bgE_lt hF ht (nl := nl) _ (ho.sub hmem)
        have hor := or_lt ha hlt
        have how := or_w ha hlt
        simp only [go_sem, ↓reduceIte, Int.reduceEq, Nat.reduceBEq, Int.reduceBEq, Nat.reduceAdd, Nat.reduceEqDiff, Nat.reduceLT, Nat.reduceSub, t0, t4, t42, t43, t44, dec_lt' hl, Ex.index_ld hget]
        have lz : low σ.n [τ.n] = [] := by rw [low_cons_ge (by omega)]; rfl
        have hM1 : SM g nl ks k1 k2 k3 F H R ((τ.push (.cells [.d (.int .i64 0), .d (.int .i64 0), .d (.slc true [])])).set τ.n (.cells x.l[i].c)) := hM.stay (by simp only [St.n_set, St.n_push]; omega) (fun k hk => by rw [St.get_set_ne (by omega), St.get_push_ne hk])
        refine ⟨_, _, _, begin_c h69 hF ht x.l[i] _ (hx.sub hmem) (ho.sub hmem) hM1, ?_⟩
        cases hb : (bgE F nl x.l[i]).2 with
        | true =>
          rw [hb, if_pos rfl] at he
          simp only [go_sem, ↓reduceIte, Int.reduceEq, Nat.reduceBEq, Int.reduceBEq, Nat.reduceAdd, Nat.reduceEqDiff, Nat.reduceLT, Nat.reduceSub, t4, t44, lz, wrap_succ' hl hlen]
          refine ih _ _ _ _ (by omega) ⟨i + 1, _, rfl, hl, rfl, by simp only [St.n_set, St.n_push]; omega, hM1, hor, he, by simp only [go_sem, ↓reduceIte, Int.reduceEq, Nat.reduceBEq, Int.reduceBEq, Nat.reduceAdd, Nat.reduceEqDiff, Nat.reduceLT, Nat.reduceSub, t0], by simp only [go_sem, ↓reduceIte, Int.reduceEq, Nat.reduceBEq, Int.reduceBEq, Nat.reduceAdd, Nat.reduceEqDiff, Nat.reduceLT, Nat.reduceSub]; exact congrArg (fun n => A.d (D.int IntKind.u64 n)) how, by simp only [go_sem, ↓reduceIte, Int.reduceEq, Nat.reduceBEq, Int.reduceBEq, Nat.reduceAdd, Nat.reduceEqDiff, Nat.reduceLT, Nat.reduceSub, t42], by simp only [go_sem, ↓reduceIte, Int.reduceEq, Nat.reduceBEq, Int.reduceBEq, Nat.reduceAdd, Nat.reduceEqDiff, Nat.reduceLT, Nat.reduceSub, t43], by simp only [go_sem, ↓reduceIte, Int.reduceEq, Nat.reduceBEq, Int.reduceBEq, Nat.reduceAdd, Nat.reduceEqDiff, Nat.reduceLT, Nat.reduceSub]⟩
        | false =>
          rw [hb, if_neg (by simp)] at he
          simp only [go_sem, ↓reduceIte, Int.reduceEq, Nat.reduceBEq, Int.reduceBEq, Nat.reduceAdd, Nat.reduceEqDiff, Nat.reduceLT, Nat.reduceSub, t4, t44, lz, ← he]
          exact congrArg (fun n => A.tup [A.d (D.int IntKind.u64 n), A.d (.bool false)]) how
      · rw [List.drop_eq_nil_of_le (by omega), bgS] at he
        simp only [go_sem, ↓reduceIte, Int.reduceEq, Nat.reduceBEq, Int.reduceBEq, Nat.reduceAdd, Nat.reduceEqDiff, Nat.reduceLT, Nat.reduceSub, t4, t42, t43, t44, dec_ge' hl, ← he]
    all_goals first | rfl | (simp only [go_sem, ↓reduceIte, Int.reduceEq, Nat.reduceBEq, Int.reduceBEq, Nat.reduceAdd, Nat.reduceEqDiff, Nat.reduceLT, Nat.reduceSub]; done) | (simp only [go_sem, ↓reduceIte, Int.reduceEq, Nat.reduceBEq, Int.reduceBEq, Nat.reduceAdd, Nat.reduceEqDiff, Nat.reduceLT, Nat.reduceSub]; rfl)
  have e3 : (x.kind == 3) = false := by simpa using k3'
  rw [bgE_eq, if_neg k1', if_neg k2', if_neg k3']
  simp only [go_sem, ↓reduceIte, Int.reduceEq, Nat.reduceBEq, Int.reduceBEq, Nat.reduceAdd, Nat.reduceEqDiff, Nat.reduceLT, Nat.reduceSub, e1, e2, e3]
  refine Ev.loop_ind (fun k tm τ W => ∃ (i a : Nat) (b : Bool), k = x.l.length - i ∧ i ≤ x.l.length ∧ W = [] ∧ σ.n + 1 ≤ τ.n ∧ SM g nl ks k1 k2 k3 F H R τ ∧ a < 2 ^ 64 ∧ bgA F nl (x.l.drop i) a b = bgA F nl x.l 0 (x.kind != 4) ∧
      tm.at 0 = .ptr ks 0 ∧ tm.at 4 = .d (.int .u64 (a : Int)) ∧ tm.at 5 = .d (.bool b) ∧ tm.at 66 = x.ld ∧ tm.at 67 = .d (.int .i64 (x.l.length : Int)) ∧ tm.at 68 = .d (.int .i64 i)) ?_ x.l.length _ _ _ ⟨0, 0, _, rfl, by omega, rfl, by simp [St.n_push], hm.stay (by simp [St.n_push]) (fun k hk => St.get_push_ne hk), by omega, rfl, ?_, ?_, ?_, ?_, ?_, ?_⟩
  · rintro k tm τ W ⟨i, a, b, rfl, hi, rfl, hn, hM, ha, he, t0, t4, t5, t66, t67, t68⟩ ih
    by_cases hl : i < x.l.length
    · have hget : x.l[i]? = some x.l[i] := by simp [hl]
      have hmem : x.l[i] ∈ x.l := List.getElem_mem hl
      rw [List.drop_eq_getElem_cons hl, bgA] at he
      have hlt := bgE_lt hF ht (nl := nl) _ (ho.sub hmem)
      have hor := or_lt ha hlt
      have how := or_w ha hlt
      simp only [go_sem, ↓reduceIte, Int.reduceEq, Nat.reduceBEq, Int.reduceBEq, Nat.reduceAdd, Nat.reduceEqDiff, Nat.reduceLT, Nat.reduceSub, t0, t4, t5, t66, t67, t68, dec_lt' hl, Ex.index_ld hget]
      have lz : low σ.n [τ.n] = [] := by rw [low_cons_ge (by omega)]; rfl
      have hM1 : SM g nl ks k1 k2 k3 F H R ((τ.push (.cells [.d (.int .i64 0), .d (.int .i64 0), .d (.slc true [])])).set τ.n (.cells x.l[i].c)) := hM.stay (by simp only [St.n_set, St.n_push]; omega) (fun k hk => by rw [St.get_set_ne (by omega), St.get_push_ne hk])
      refine ⟨_, _, _, begin_c h69 hF ht x.l[i] _ (hx.sub hmem) (ho.sub hmem) hM1, ?_⟩
      cases b with
      | true =>
        rw [Bool.true_or] at he
        simp only [go_sem, ↓reduceIte, Int.reduceEq, Nat.reduceBEq, Int.reduceBEq, Nat.reduceAdd, Nat.reduceEqDiff, Nat.reduceLT, Nat.reduceSub, t4, t5, t68, lz, wrap_succ' hl hlen]
        refine ih _ _ _ _ (by omega) ⟨i + 1, _, true, rfl, hl, rfl, by simp only [St.n_set, St.n_push]; omega, hM1, hor, he, by simp only [go_sem, ↓reduceIte, Int.reduceEq, Nat.reduceBEq, Int.reduceBEq, Nat.reduceAdd, Nat.reduceEqDiff, Nat.reduceLT, Nat.reduceSub, t0], by simp only [go_sem, ↓reduceIte, Int.reduceEq, Nat.reduceBEq, Int.reduceBEq, Nat.reduceAdd, Nat.reduceEqDiff, Nat.reduceLT, Nat.reduceSub]; exact congrArg (fun n => A.d (D.int IntKind.u64 n)) how, by simp only [go_sem, ↓reduceIte, Int.reduceEq, Nat.reduceBEq, Int.reduceBEq, Nat.reduceAdd, Nat.reduceEqDiff, Nat.reduceLT, Nat.reduceSub], by simp only [go_sem, ↓reduceIte, Int.reduceEq, Nat.reduceBEq, Int.reduceBEq, Nat.reduceAdd, Nat.reduceEqDiff, Nat.reduceLT, Nat.reduceSub, t66], by simp only [go_sem, ↓reduceIte, Int.reduceEq, Nat.reduceBEq, Int.reduceBEq, Nat.reduceAdd, Nat.reduceEqDiff, Nat.reduceLT, Nat.reduceSub, t67], by simp only [go_sem, ↓reduceIte, Int.reduceEq, Nat.reduceBEq, Int.reduceBEq, Nat.reduceAdd, Nat.reduceEqDiff, Nat.reduceLT, Nat.reduceSub]⟩
      | false =>
        rw [Bool.false_or] at he
        simp only [go_sem, ↓reduceIte, Int.reduceEq, Nat.reduceBEq, Int.reduceBEq, Nat.reduceAdd, Nat.reduceEqDiff, Nat.reduceLT, Nat.reduceSub, t4, t5, t68, lz, wrap_succ' hl hlen]
        refine ih _ _ _ _ (by omega) ⟨i + 1, _, _, rfl, hl, rfl, by simp only [St.n_set, St.n_push]; omega, hM1, hor, he, by simp only [go_sem, ↓reduceIte, Int.reduceEq, Nat.reduceBEq, Int.reduceBEq, Nat.reduceAdd, Nat.reduceEqDiff, Nat.reduceLT, Nat.reduceSub, t0], by simp only [go_sem, ↓reduceIte, Int.reduceEq, Nat.reduceBEq, Int.reduceBEq, Nat.reduceAdd, Nat.reduceEqDiff, Nat.reduceLT, Nat.reduceSub]; exact congrArg (fun n => A.d (D.int IntKind.u64 n)) how, by simp only [go_sem, ↓reduceIte, Int.reduceEq, Nat.reduceBEq, Int.reduceBEq, Nat.reduceAdd, Nat.reduceEqDiff, Nat.reduceLT, Nat.reduceSub], by simp only [go_sem, ↓reduceIte, Int.reduceEq, Nat.reduceBEq, Int.reduceBEq, Nat.reduceAdd, Nat.reduceEqDiff, Nat.reduceLT, Nat.reduceSub, t66], by simp only [go_sem, ↓reduceIte, Int.reduceEq, Nat.reduceBEq, Int.reduceBEq, Nat.reduceAdd, Nat.reduceEqDiff, Nat.reduceLT, Nat.reduceSub, t67], by simp only [go_sem, ↓reduceIte, Int.reduceEq, Nat.reduceBEq, Int.reduceBEq, Nat.reduceAdd, Nat.reduceEqDiff, Nat.reduceLT, Nat.reduceSub]⟩
    · rw [List.drop_eq_nil_of_le (by omega), bgA] at he
      simp only [go_sem, ↓reduceIte, Int.reduceEq, Nat.reduceBEq, Int.reduceBEq, Nat.reduceAdd, Nat.reduceEqDiff, Nat.reduceLT, Nat.reduceSub, t4, t5, t66, t67, t68, dec_ge' hl, ← he]
  all_goals first | rfl | (simp only [go_sem, ↓reduceIte, Int.reduceEq, Nat.reduceBEq, Int.reduceBEq, Nat.reduceAdd, Nat.reduceEqDiff, Nat.reduceLT, Nat.reduceSub]; done) | (simp only [go_sem, ↓reduceIte, Int.reduceEq, Nat.reduceBEq, Int.reduceBEq, Nat.reduceAdd, Nat.reduceEqDiff, Nat.reduceLT, Nat.reduceSub]; rfl)
termination_by x
decreasing_by all_goals exact Ex.sub_lt hmem
end Go.Am

/- Part V1 of a proof that runs a program's calls on a small machine whose values bear no addresses: no conditions. -/
import Derived.Test.YtahfdfpakikbpaaAmF1
import Derived.Test.YtahfdfpakikbpaaAmQ3
import Derived.Test.YtahfdfpakikbpaaAmU2
set_option autoImplicit false
set_option linter.unusedSimpArgs false
set_option linter.unusedVariables false
set_option linter.unusedSectionVars false
namespace Go.Am
open Go Go.Proofs
def bringP (i n : Int) : Int := if n ≤ 0 then 0 else if i.tmod n < 0 then IntKind.i64.wrap (i.tmod n + n) else i.tmod n
theorem bring_call {fz : Nat → Md} (h26 : fz 26 = .cut) (i n : Int) (σ : St) : CallsTo (XX fz) (.func 26 []) [.d (.int .i64 i), .d (.int .i64 n)] σ (.d (.int .i64 (bringP i n))) σ [] := by
  refine CallsTo.cut0 h26 fn26 (by simp) rfl ?_
  simp only [Try.f26, Option.getD_some]
  unfold bringP
  simp only [go_sem, ↓reduceIte, Int.reduceEq, Nat.reduceBEq, Option.some.injEq, Bool.true_eq_false, Bool.false_eq_true, Int.reduceBEq, Int.reduceBNe, Int.reduceLT, Int.reduceLE, Nat.add_assoc, Nat.reduceAdd, Nat.reducePow, Nat.zero_le, Nat.reduceEqDiff, Nat.reduceLT, Nat.reduceLeDiff, Nat.reduceMul, Nat.reduceSub, Nat.add_left_cancel_iff, Nat.lt_irrefl, Nat.le_refl, Nat.add_eq_left, Nat.left_eq_add, beq_self_eq_true]
  by_cases h : n ≤ 0
  · have h1 : decide (n ≤ 0) = true := by simpa using h
    simp only [go_sem, ↓reduceIte, Int.reduceEq, Nat.reduceBEq, Option.some.injEq, Bool.true_eq_false, Bool.false_eq_true, Int.reduceBEq, Int.reduceBNe, Int.reduceLT, Int.reduceLE, Nat.add_assoc, Nat.reduceAdd, Nat.reducePow, Nat.zero_le, Nat.reduceEqDiff, Nat.reduceLT, Nat.reduceLeDiff, Nat.reduceMul, Nat.reduceSub, Nat.add_left_cancel_iff, Nat.lt_irrefl, Nat.le_refl, Nat.add_eq_left, Nat.left_eq_add, beq_self_eq_true, h1, h]
  · have h1 : decide (n ≤ 0) = false := by simpa using h
    simp only [go_sem, ↓reduceIte, Int.reduceEq, Nat.reduceBEq, Option.some.injEq, Bool.true_eq_false, Bool.false_eq_true, Int.reduceBEq, Int.reduceBNe, Int.reduceLT, Int.reduceLE, Nat.add_assoc, Nat.reduceAdd, Nat.reducePow, Nat.zero_le, Nat.reduceEqDiff, Nat.reduceLT, Nat.reduceLeDiff, Nat.reduceMul, Nat.reduceSub, Nat.add_left_cancel_iff, Nat.lt_irrefl, Nat.le_refl, Nat.add_eq_left, Nat.left_eq_add, beq_self_eq_true, h1, h, bin_rem (show n ≠ 0 by omega)]
    by_cases h2 : i.tmod n < 0
    · have h3 : decide (i.tmod n < 0) = true := by simpa using h2
      simp only [go_sem, ↓reduceIte, Int.reduceEq, Nat.reduceBEq, Option.some.injEq, Bool.true_eq_false, Bool.false_eq_true, Int.reduceBEq, Int.reduceBNe, Int.reduceLT, Int.reduceLE, Nat.add_assoc, Nat.reduceAdd, Nat.reducePow, Nat.zero_le, Nat.reduceEqDiff, Nat.reduceLT, Nat.reduceLeDiff, Nat.reduceMul, Nat.reduceSub, Nat.add_left_cancel_iff, Nat.lt_irrefl, Nat.le_refl, Nat.add_eq_left, Nat.left_eq_add, beq_self_eq_true, h3, h2]
    · have h3 : decide (i.tmod n < 0) = false := by simpa using h2
      simp only [go_sem, ↓reduceIte, Int.reduceEq, Nat.reduceBEq, Option.some.injEq, Bool.true_eq_false, Bool.false_eq_true, Int.reduceBEq, Int.reduceBNe, Int.reduceLT, Int.reduceLE, Nat.add_assoc, Nat.reduceAdd, Nat.reducePow, Nat.zero_le, Nat.reduceEqDiff, Nat.reduceLT, Nat.reduceLeDiff, Nat.reduceMul, Nat.reduceSub, Nat.add_left_cancel_iff, Nat.lt_irrefl, Nat.le_refl, Nat.add_eq_left, Nat.left_eq_add, beq_self_eq_true, h3, h2]
theorem bring_lt {i n : Int} (h : 0 < n) (hn : n < 1000000000) : 0 ≤ bringP i n ∧ bringP i n < n := by
  unfold bringP
  rw [if_neg (by omega)]
  have h1 := Int.tmod_lt_of_pos i h
  have h2 : -n < i.tmod n := by
    have := Int.lt_tmod_of_pos i h; omega
  split
  · rw [wrap_small (by omega) (by omega)]; omega
  · omega

end Go.Am
namespace Go.Am
open Go Go.Proofs
section
variable {X : X} {tm : Tm} {σ : St} {dst : Option Nat} {ty : Nat} {pos : String} {after : Array Edge} {g : Option (Nat × Bool)}
def bndA (o : Option A) (d : Nat) : Option Nat := match o with
  | none => some d
  | some (.d (.int _ n)) => if 0 ≤ n then some n.toNat else none
  | _ => none
theorem bnd_eq {o : Option Operand} {d : Nat} : bnd tm o d = bndA (o.map (ev tm)) d := by
  cases o with
  | none => rfl
  | some p =>
    unfold bnd bndA
    simp only [Option.map_some]
    cases h : ev tm p with
    | d x => cases x <;> rfl
    | _ => rfl
def sliceD (σ : St) (z : Bool) (xs : List (List D)) (lo hi : Option A) : Option TI → OpR
  | some ie => match bndA hi xs.length with
    | some h => match bndA lo 0 with
      | some l => if l ≤ h ∧ h ≤ xs.length ∧ ((xs.take h).drop l).all (fun c => c.length == ie.size) = true then .val (.d (.slc z ((xs.take h).drop l))) σ [] [] else .bad
      | none => .bad
    | none => .bad
  | none => .bad
theorem o_sliceD {t : Nat} {x : Operand} {lo hi : Option Operand} {z : Bool} {xs : List (List D)} {e s b : Nat} {zz : Option (List A)} {zv : A} (ht : X.ti t = some ⟨.slc e, s, b, zz, zv⟩) (hx : ev tm x = .d (.slc z xs)) :
    evalOp X tm σ ⟨dst, .slice t x lo hi none, ty, pos, after, g⟩ = sliceD σ z xs (lo.map (ev tm)) (hi.map (ev tm)) (X.ti e) := by
  unfold evalOp sliceD
  simp only [ht, hx, bnd_eq]
  cases X.ti e <;> cases bndA (hi.map (ev tm)) xs.length <;> rfl
/-- slices of data, of rows -/
def sliceT (X : Am.X) (tm : Tm) (σ : St) (t : Nat) (lo hi : Option A) : A → Option TI → OpR
  | .d (.slc z xs), some ⟨.slc e, _, _, _, _⟩ => sliceD σ z xs lo hi (X.ti e)
  | x, _ => evalOp X (FT.set (FT.set (FT.set FT.nil 0 x) 1 (lo.getD .top)) 2 (hi.getD .top)) σ ⟨none, .slice t (.tmp 0) (lo.map fun _ => .tmp 1) (hi.map fun _ => .tmp 2) none, 0, "", #[], none⟩
theorem o_slice {t : Nat} {x : Operand} {lo hi : Option Operand} : evalOp X tm σ ⟨dst, .slice t x lo hi none, ty, pos, after, g⟩ = sliceT X tm σ t (lo.map (ev tm)) (hi.map (ev tm)) (ev tm x) (X.ti t) := by
  have gen : evalOp X tm σ ⟨dst, .slice t x lo hi none, ty, pos, after, g⟩ = evalOp X (FT.set (FT.set (FT.set FT.nil 0 (ev tm x)) 1 ((lo.map (ev tm)).getD .top)) 2 ((hi.map (ev tm)).getD .top)) σ ⟨none, .slice t (.tmp 0) ((lo.map (ev tm)).map fun _ => .tmp 1) ((hi.map (ev tm)).map fun _ => .tmp 2) none, 0, "", #[], none⟩ := by
    unfold evalOp
    simp only [bnd_eq]
    have a0 : ev (FT.set (FT.set (FT.set FT.nil 0 (ev tm x)) 1 ((lo.map (ev tm)).getD .top)) 2 ((hi.map (ev tm)).getD .top)) (.tmp 0) = ev tm x := by simp [ev, Tm.at_set]
    have a1 : ((lo.map (ev tm)).map fun _ => Operand.tmp 1).map (ev (FT.set (FT.set (FT.set FT.nil 0 (ev tm x)) 1 ((lo.map (ev tm)).getD .top)) 2 ((hi.map (ev tm)).getD .top))) = lo.map (ev tm) := by
      cases lo <;> simp [ev, Tm.at_set]
    have a2 : ((hi.map (ev tm)).map fun _ => Operand.tmp 2).map (ev (FT.set (FT.set (FT.set FT.nil 0 (ev tm x)) 1 ((lo.map (ev tm)).getD .top)) 2 ((hi.map (ev tm)).getD .top))) = hi.map (ev tm) := by
      cases hi <;> simp [ev, Tm.at_set]
    rw [a0, a1, a2]
  unfold sliceT
  split
  · rename_i z xs e s b zz zv h1 h2
    rw [o_sliceD h2 h1]
  · exact gen
theorem sliceT_d {t : Nat} {lo hi : Option A} {z : Bool} {xs : List (List D)} {e s b : Nat} {zz : Option (List A)} {zv : A} : sliceT X tm σ t lo hi (.d (.slc z xs)) (some ⟨.slc e, s, b, zz, zv⟩) = sliceD σ z xs lo hi (X.ti e) := rfl
theorem sliceD_hi {z : Bool} {l : List Int} {n : Nat} {kd : IntKind} {ek : TK} {eb : Nat} {ez : Option (List A)} {ezv : A} : sliceD σ z (intsD l) none (some (.d (.int kd (n : Int)))) (some ⟨ek, 1, eb, ez, ezv⟩) = if n ≤ l.length then .val (.d (.slc z (intsD (l.take n)))) σ [] [] else .bad := by
  unfold sliceD bndA
  simp only [Int.natCast_nonneg, if_true, Int.toNat_natCast, intsD_len, Nat.zero_le, true_and, List.drop_zero]
  have h1 : ((intsD l).take n).all (fun c => c.length == 1) = true := by
    rw [List.all_eq_true]; intro c hc; rw [intsD_one l c (List.mem_of_mem_take hc)]; rfl
  have h2 : (intsD l).take n = intsD (l.take n) := by simp [intsD, List.map_take]
  by_cases h : n ≤ l.length
  · rw [if_pos ⟨h, h1⟩, if_pos h, h2]
  · rw [if_neg (fun e => h e.1), if_neg h]
theorem sliceD_lo {z : Bool} {l : List Int} {n : Nat} {kd : IntKind} {ek : TK} {eb : Nat} {ez : Option (List A)} {ezv : A} : sliceD σ z (intsD l) (some (.d (.int kd (n : Int)))) none (some ⟨ek, 1, eb, ez, ezv⟩) = if n ≤ l.length then .val (.d (.slc z (intsD (l.drop n)))) σ [] [] else .bad := by
  unfold sliceD bndA
  simp only [Int.natCast_nonneg, if_true, Int.toNat_natCast, intsD_len, Nat.le_refl, true_and]
  have h1 : (((intsD l).take l.length).drop n).all (fun c => c.length == 1) = true := by
    rw [List.all_eq_true]; intro c hc; rw [intsD_one l c (List.mem_of_mem_take (List.mem_of_mem_drop hc))]; rfl
  have h2 : ((intsD l).take l.length).drop n = intsD (l.drop n) := by rw [List.take_of_length_le (by rw [intsD_len]; exact Nat.le_refl _)]; simp [intsD, List.map_drop]
  by_cases h : n ≤ l.length
  · rw [if_pos ⟨h, h1⟩, if_pos h, h2]
  · rw [if_neg (fun e => h e.1), if_neg h]
theorem len_ints {z : Bool} {l : List Int} : sliceLen σ (.d (.slc z (intsD l))) = some l.length := by simp [sliceLen, intsD_len]
theorem minA {a b : Nat} : minmax false [.d (.int .i64 (a : Int)), .d (.int .i64 (b : Int))] = some (.d (.int .i64 ((min a b : Nat) : Int))) := by
  simp [minmax, mmStep]
  split
  · rw [Nat.min_eq_right (by omega)]
  · rw [Nat.min_eq_left (by omega)]
theorem o_minA {x y : Operand} {ts : Array Nat} : evalOp X tm σ ⟨dst, .call ⟨.builtin .min, #[x, y], ts⟩, ty, pos, after, g⟩ = OpR.of σ [] (minmax false [ev tm x, ev tm y]) := rfl
end
attribute [go_sem] o_minA intsD_len o_slice sliceT_d sliceD_hi sliceD_lo len_ints Option.map_none Option.map_some
end Go.Am
namespace Go.Am
open Go Go.Proofs

section
variable {bs : List Ex} {l : List Int}
theorem Dx.take_to {w : Ex ⊕ List Ex} {i j k : Nat} (h : Dx bs l w i j) : j ≤ k → Dx bs (l.take k) w i j := by
  induction h with
  | tok h1 h2 => intro hk; exact .tok h1 (by rw [List.getElem?_take, if_pos (by omega)]; exact h2)
  | call h1 h2 _ ih => exact fun hk => .call h1 h2 (ih hk)
  | alt h1 h2 _ ih => exact fun hk => .alt h1 h2 (ih hk)
  | opt0 h1 => exact fun _ => .opt0 h1
  | opt1 h1 h2 _ ih => exact fun hk => .opt1 h1 h2 (ih hk)
  | star0 h1 => exact fun _ => .star0 h1
  | star1 h1 h2 a b ih1 ih2 => exact fun hk => .star1 h1 h2 (ih1 (Nat.le_trans b.le hk)) (ih2 hk)
  | seq h1 _ ih => exact fun hk => .seq h1 (ih hk)
  | nil => exact fun _ => .nil
  | cons a b ih1 ih2 => exact fun hk => .cons (ih1 (Nat.le_trans b.le hk)) (ih2 hk)
theorem Dx.take_of {w : Ex ⊕ List Ex} {i j k : Nat} (h : Dx bs (l.take k) w i j) : Dx bs l w i j := by
  induction h with
  | tok h1 h2 =>
    rw [List.getElem?_take] at h2
    split at h2
    · exact .tok h1 h2
    · cases h2
  | call h1 h2 _ ih => exact .call h1 h2 ih
  | alt h1 h2 _ ih => exact .alt h1 h2 ih
  | opt0 h1 => exact .opt0 h1
  | opt1 h1 h2 _ ih => exact .opt1 h1 h2 ih
  | star0 h1 => exact .star0 h1
  | star1 h1 h2 _ _ ih1 ih2 => exact .star1 h1 h2 ih1 ih2
  | seq h1 _ ih => exact .seq h1 ih
  | nil => exact .nil
  | cons _ _ ih1 ih2 => exact .cons ih1 ih2
theorem Dx.drop_of {w : Ex ⊕ List Ex} {i j k : Nat} (h : Dx bs (l.drop k) w i j) : Dx bs l w (i + k) (j + k) := by
  induction h with
  | tok h1 h2 => rw [List.getElem?_drop, Nat.add_comm] at h2; have := Dx.tok (bs := bs) h1 h2; rwa [Nat.add_right_comm] at this
  | call h1 h2 _ ih => exact .call h1 h2 ih
  | alt h1 h2 _ ih => exact .alt h1 h2 ih
  | opt0 h1 => exact .opt0 h1
  | opt1 h1 h2 _ ih => exact .opt1 h1 h2 ih
  | star0 h1 => exact .star0 h1
  | star1 h1 h2 _ _ ih1 ih2 => exact .star1 h1 h2 ih1 ih2
  | seq h1 _ ih => exact .seq h1 ih
  | nil => exact .nil
  | cons _ _ ih1 ih2 => exact .cons ih1 ih2
theorem Dx.drop_to {w : Ex ⊕ List Ex} {i j k : Nat} (h : Dx bs l w i j) : k ≤ i → Dx bs (l.drop k) w (i - k) (j - k) := by
  induction h with
  | @tok x i h1 h2 =>
    intro hk
    have := Dx.tok (bs := bs) (l := l.drop k) (i := i - k) h1 (by rw [List.getElem?_drop, show k + (i - k) = i by omega]; exact h2)
    rwa [show i - k + 1 = i + 1 - k by omega] at this
  | call h1 h2 _ ih => exact fun hk => .call h1 h2 (ih hk)
  | alt h1 h2 _ ih => exact fun hk => .alt h1 h2 (ih hk)
  | opt0 h1 => exact fun _ => .opt0 h1
  | opt1 h1 h2 _ ih => exact fun hk => .opt1 h1 h2 (ih hk)
  | star0 h1 => exact fun _ => .star0 h1
  | star1 h1 h2 a _ ih1 ih2 => exact fun hk => .star1 h1 h2 (ih1 hk) (ih2 (Nat.le_trans hk a.le))
  | seq h1 _ ih => exact fun hk => .seq h1 (ih hk)
  | nil => exact fun _ => .nil
  | cons a _ ih1 ih2 => exact fun hk => .cons (ih1 hk) (ih2 (Nat.le_trans hk a.le))
theorem der_take {x : Ex} {k : Nat} : Der bs (l.take k) x 0 k ↔ Der bs l x 0 k := ⟨Dx.take_of, fun h => Dx.take_to h (Nat.le_refl _)⟩
theorem der_drop {x : Ex} {k : Nat} (hk : k ≤ l.length) : Der bs (l.drop k) x 0 (l.drop k).length ↔ Der bs l x k l.length := by
  rw [List.length_drop]
  constructor
  · intro h
    have := Dx.drop_of h
    rw [Nat.zero_add, show l.length - k + k = l.length by omega] at this; exact this
  · intro h
    have := Dx.drop_to h (Nat.le_refl k)
    rwa [Nat.sub_self] at this
end

theorem ext_len {g : Gr} {nm : ByteArray} {x : Ex} : (g.ext nm x).rules.length = g.rules.length + 1 := by simp [Gr.ext]
theorem ext_bodies {g : Gr} {nm : ByteArray} {x : Ex} : (g.ext nm x).bodies = g.bodies.map Ex.cp ++ [x] := by simp [Gr.ext, Gr.bodies, Ru.cp]
/-- Derives, of rules and tokens that are looked at -/
theorem derV_at {g : Gr} {rule : Nat} {l : List Int} {y : Ex} (h : checkP g = 0) (hr : g.bodies[rule]? = some y) (hl : l.length ≤ 64) : derV g rule l = derB g.bodies l y 0 l.length ∧ derE g rule l = 0 := by
  have hlt : rule < g.rules.length := by rw [← bodies_len]; exact (List.getElem?_eq_some_iff.1 hr).1
  unfold derV derE
  rw [if_neg (by simp [h]), if_neg (by simp; omega), if_neg (by simp; omega), if_neg (by simp [h]), if_neg (by simp; omega), if_neg (by simp; omega)]
  refine ⟨?_, rfl⟩
  rw [Int.toNat_natCast, List.getD_eq_getElem?_getD, hr]; rfl
def seqX (a b : Int) : Ex := .mk 3 0 false [exC a, exC b]
theorem seq_law {g : Gr} {nm : ByteArray} {a b : Nat} (h : checkP (g.ext nm (seqX a b)) = 0) (ha : a < g.rules.length) (hb : b < g.rules.length) (l : List Int) (hl : l.length ≤ 20) :
    (derV (g.ext nm (seqX a b)) g.rules.length l = (List.range (l.length + 1)).any fun k => derV (g.ext nm (seqX a b)) a (l.take k) && derV (g.ext nm (seqX a b)) b (l.drop k)) ∧
    derE (g.ext nm (seqX a b)) g.rules.length l = 0 ∧ (∀ k, derE (g.ext nm (seqX a b)) a (l.take k) = 0) ∧ ∀ k, derE (g.ext nm (seqX a b)) b (l.drop k) = 0 := by
  have hbn := bodies_len g
  have hxa : (g.ext nm (seqX a b)).bodies[a]? = some (g.bodies[a]'(by omega)).cp := by rw [ext_bodies, List.getElem?_append_left (by simp; omega)]; simp [hbn, ha]
  have hxb : (g.ext nm (seqX a b)).bodies[b]? = some (g.bodies[b]'(by omega)).cp := by rw [ext_bodies, List.getElem?_append_left (by simp; omega)]; simp [hbn, hb]
  have hxn : (g.ext nm (seqX a b)).bodies[g.rules.length]? = some (seqX a b) := by rw [ext_bodies, List.getElem?_append_right (by simp; omega)]; simp [hbn]
  generalize hB : (g.ext nm (seqX a b)).bodies = B at hxa hxb hxn
  generalize hya : (g.bodies[a]'(by omega)).cp = ya at hxa
  generalize hyb : (g.bodies[b]'(by omega)).cp = yb at hxb
  have ea := fun k => derV_at (rule := a) (l := l.take k) h (by rw [hB]; exact hxa) (by rw [List.length_take]; omega)
  have eb := fun k => derV_at (rule := b) (l := l.drop k) h (by rw [hB]; exact hxb) (by rw [List.length_drop]; omega)
  have en := derV_at (rule := g.rules.length) (l := l) h (by rw [hB]; exact hxn) (by omega)
  rw [hB] at en
  refine ⟨?_, en.2, fun k => (ea k).2, fun k => (eb k).2⟩
  rw [en.1]
  simp only [fun k => (ea k).1, fun k => (eb k).1, hB]
  rw [Bool.eq_iff_iff, derB_iff, List.any_eq_true]
  have ca : ∀ i j, Der B l (exC a) i j ↔ Der B l ya i j := fun i j => der_2 (x := exC a) rfl (by simpa [exC, Ex.num] using hxa)
  have cb : ∀ i j, Der B l (exC b) i j ↔ Der B l yb i j := fun i j => der_2 (x := exC b) rfl (by simpa [exC, Ex.num] using hxb)
  rw [der_s (x := seqX a b) (by simp [seqX, Ex.kind])]
  constructor
  · intro hd
    cases hd with
    | @cons _ _ _ k _ h1 h2 =>
      have h2' := DerL.one.1 h2
      have hk : k ≤ l.length := h1.len (Nat.zero_le _)
      refine ⟨k, List.mem_range.2 (by omega), ?_⟩
      rw [Bool.and_eq_true, derB_iff, derB_iff]
      refine ⟨?_, (der_drop hk).2 ((cb _ _).1 h2')⟩
      rw [List.length_take, Nat.min_eq_left hk, der_take]; exact (ca _ _).1 h1
  · rintro ⟨k, hk, hd⟩
    have hk : k ≤ l.length := by have := List.mem_range.1 hk; omega
    rw [Bool.and_eq_true, derB_iff, derB_iff, List.length_take, Nat.min_eq_left hk, der_take, der_drop hk] at hd
    exact .cons ((ca _ _).2 hd.1) (DerL.one.2 ((cb _ _).2 hd.2))
end Go.Am
namespace Go.Am
open Go Go.Proofs
def pairA (a b : Int) : A := .agg [.d (.int .i64 a), .d (.int .i64 b)]
set_option maxHeartbeats 8000000 in
theorem seq_call (g : Gr) (hg : SmallG g) (hL : g.rules.length < 2000000) (t0 t1 : Int) (z : Bool) (l : List Int) (hl : l.length < 2000000) (σ : St) :
    CallsTo (XX mdL) (.func 7 []) [g.a, pairA t0 t1, .d (.slc z (intsD l))] σ (.d (.bool true)) σ [] := by
  refine CallsTo.cut0 rfl fn7 (by simp) rfl ?_
  simp only [Try.f7, Option.getD_some]
  simp only [go_sem, ↓reduceIte, Int.reduceEq, Nat.reduceBEq, Option.some.injEq, Bool.true_eq_false, Bool.false_eq_true, Int.reduceBEq, Int.reduceBNe, Int.reduceLT, Int.reduceLE, Nat.add_assoc, Nat.reduceAdd, Nat.reducePow, Nat.zero_le, Nat.reduceEqDiff, Nat.reduceLT, Nat.reduceLeDiff, Nat.reduceMul, Nat.reduceSub, Nat.add_left_cancel_iff, Nat.lt_irrefl, Nat.le_refl, Nat.add_eq_left, Nat.left_eq_add, beq_self_eq_true, Int.reduceToNat, Nat.mul_one, Nat.zero_mul, Nat.zero_add, Nat.add_zero, Nat.one_mul, Gr.a, pairA]
  refine ⟨_, _, _, works_L _, ?_⟩
  simp only [go_sem, ↓reduceIte, Int.reduceEq, Nat.reduceBEq, Option.some.injEq, Bool.true_eq_false, Bool.false_eq_true, Int.reduceBEq, Int.reduceBNe, Int.reduceLT, Int.reduceLE, Nat.add_assoc, Nat.reduceAdd, Nat.reducePow, Nat.zero_le, Nat.reduceEqDiff, Nat.reduceLT, Nat.reduceLeDiff, Nat.reduceMul, Nat.reduceSub, Nat.add_left_cancel_iff, Nat.lt_irrefl, Nat.le_refl, Nat.add_eq_left, Nat.left_eq_add, beq_self_eq_true, Int.reduceToNat, Nat.mul_one, Nat.zero_mul, Nat.zero_add, Nat.add_zero, Nat.one_mul]
  refine ⟨_, _, _, deep_L g _ hg (by omega), ?_⟩
  cases hd : deepG g with
  | true => simp only [go_sem, ↓reduceIte, Int.reduceEq, Nat.reduceBEq, Option.some.injEq, Bool.true_eq_false, Bool.false_eq_true, Int.reduceBEq, Int.reduceBNe, Int.reduceLT, Int.reduceLE, Nat.add_assoc, Nat.reduceAdd, Nat.reducePow, Nat.zero_le, Nat.reduceEqDiff, Nat.reduceLT, Nat.reduceLeDiff, Nat.reduceMul, Nat.reduceSub, Nat.add_left_cancel_iff, Nat.lt_irrefl, Nat.le_refl, Nat.add_eq_left, Nat.left_eq_add, beq_self_eq_true, Int.reduceToNat, Nat.mul_one, Nat.zero_mul, Nat.zero_add, Nat.add_zero, Nat.one_mul]
  | false =>
    simp only [go_sem, ↓reduceIte, Int.reduceEq, Nat.reduceBEq, Option.some.injEq, Bool.true_eq_false, Bool.false_eq_true, Int.reduceBEq, Int.reduceBNe, Int.reduceLT, Int.reduceLE, Nat.add_assoc, Nat.reduceAdd, Nat.reducePow, Nat.zero_le, Nat.reduceEqDiff, Nat.reduceLT, Nat.reduceLeDiff, Nat.reduceMul, Nat.reduceSub, Nat.add_left_cancel_iff, Nat.lt_irrefl, Nat.le_refl, Nat.add_eq_left, Nat.left_eq_add, beq_self_eq_true, Int.reduceToNat, Nat.mul_one, Nat.zero_mul, Nat.zero_add, Nat.add_zero, Nat.one_mul]
    refine ⟨_, _, _, check_L hg _, ?_⟩
    cases hc : (checkP g != 0) with
    | true => simp only [go_sem, ↓reduceIte, Int.reduceEq, Nat.reduceBEq, Option.some.injEq, Bool.true_eq_false, Bool.false_eq_true, Int.reduceBEq, Int.reduceBNe, Int.reduceLT, Int.reduceLE, Nat.add_assoc, Nat.reduceAdd, Nat.reducePow, Nat.zero_le, Nat.reduceEqDiff, Nat.reduceLT, Nat.reduceLeDiff, Nat.reduceMul, Nat.reduceSub, Nat.add_left_cancel_iff, Nat.lt_irrefl, Nat.le_refl, Nat.add_eq_left, Nat.left_eq_add, beq_self_eq_true, Int.reduceToNat, Nat.mul_one, Nat.zero_mul, Nat.zero_add, Nat.add_zero, Nat.one_mul, hc]
    | false =>
      have hc' : checkP g = 0 := by simpa using hc
      have hk := chk_iff.1 hc'
      have hpos := hk.pos
      have hle := hk.le
      simp only [go_sem, ↓reduceIte, Int.reduceEq, Nat.reduceBEq, Option.some.injEq, Bool.true_eq_false, Bool.false_eq_true, Int.reduceBEq, Int.reduceBNe, Int.reduceLT, Int.reduceLE, Nat.add_assoc, Nat.reduceAdd, Nat.reducePow, Nat.zero_le, Nat.reduceEqDiff, Nat.reduceLT, Nat.reduceLeDiff, Nat.reduceMul, Nat.reduceSub, Nat.add_left_cancel_iff, Nat.lt_irrefl, Nat.le_refl, Nat.add_eq_left, Nat.left_eq_add, beq_self_eq_true, Int.reduceToNat, Nat.mul_one, Nat.zero_mul, Nat.zero_add, Nat.add_zero, Nat.one_mul, hc]
      refine ⟨_, _, _, bring_call rfl t0 _ _, ?_⟩
      obtain ⟨b1, b2⟩ := bring_lt (i := t0) (n := (g.rules.length : Int)) (by omega) (by omega)
      obtain ⟨a, ha⟩ := Int.eq_ofNat_of_zero_le b1
      have ha' : a < g.rules.length := by omega
      simp only [go_sem, ↓reduceIte, Int.reduceEq, Nat.reduceBEq, Option.some.injEq, Bool.true_eq_false, Bool.false_eq_true, Int.reduceBEq, Int.reduceBNe, Int.reduceLT, Int.reduceLE, Nat.add_assoc, Nat.reduceAdd, Nat.reducePow, Nat.zero_le, Nat.reduceEqDiff, Nat.reduceLT, Nat.reduceLeDiff, Nat.reduceMul, Nat.reduceSub, Nat.add_left_cancel_iff, Nat.lt_irrefl, Nat.le_refl, Nat.add_eq_left, Nat.left_eq_add, beq_self_eq_true, Int.reduceToNat, Nat.mul_one, Nat.zero_mul, Nat.zero_add, Nat.add_zero, Nat.one_mul, ha]
      refine ⟨_, _, _, bring_call rfl t1 _ _, ?_⟩
      obtain ⟨b3, b4⟩ := bring_lt (i := t1) (n := (g.rules.length : Int)) (by omega) (by omega)
      obtain ⟨b, hb⟩ := Int.eq_ofNat_of_zero_le b3
      have hb' : b < g.rules.length := by omega
      simp only [go_sem, ↓reduceIte, Int.reduceEq, Nat.reduceBEq, Option.some.injEq, Bool.true_eq_false, Bool.false_eq_true, Int.reduceBEq, Int.reduceBNe, Int.reduceLT, Int.reduceLE, Nat.add_assoc, Nat.reduceAdd, Nat.reducePow, Nat.zero_le, Nat.reduceEqDiff, Nat.reduceLT, Nat.reduceLeDiff, Nat.reduceMul, Nat.reduceSub, Nat.add_left_cancel_iff, Nat.lt_irrefl, Nat.le_refl, Nat.add_eq_left, Nat.left_eq_add, beq_self_eq_true, Int.reduceToNat, Nat.mul_one, Nat.zero_mul, Nat.zero_add, Nat.add_zero, Nat.one_mul, hb]
      refine ⟨rfl, _, _, _, c38 rfl a _, ?_⟩
      have e1 : ∀ n, (exC n).c = [.d (.int .i64 2), .d (.int .i64 n), .d (.slc true [])] := fun n => rfl
      refine ⟨_, _, _, c38 rfl b _, ?_⟩
      simp only [go_sem, ↓reduceIte, Int.reduceEq, Nat.reduceBEq, Option.some.injEq, Bool.true_eq_false, Bool.false_eq_true, Int.reduceBEq, Int.reduceBNe, Int.reduceLT, Int.reduceLE, Nat.add_assoc, Nat.reduceAdd, Nat.reducePow, Nat.zero_le, Nat.reduceEqDiff, Nat.reduceLT, Nat.reduceLeDiff, Nat.reduceMul, Nat.reduceSub, Nat.add_left_cancel_iff, Nat.lt_irrefl, Nat.le_refl, Nat.add_eq_left, Nat.left_eq_add, beq_self_eq_true, Int.reduceToNat, Nat.mul_one, Nat.zero_mul, Nat.zero_add, Nat.add_zero, Nat.one_mul, e1]
      generalize hσ2 : ((σ.push (Blk.cells g.c)).push (Blk.cells [A.d (D.int IntKind.i64 t0), A.d (D.int IntKind.i64 t1)])).push (Blk.cells [A.d (D.int IntKind.i64 2), A.d (D.int IntKind.i64 (a : Int)), A.d (D.slc true []), A.d (D.int IntKind.i64 2), A.d (D.int IntKind.i64 (b : Int)), A.d (D.slc true [])]) = σ2
      have n2 : σ2.n = σ.n + 3 := by rw [← hσ2]; rfl
      have g2 : σ2.get (σ.n + 2) = .cells [A.d (D.int IntKind.i64 2), A.d (D.int IntKind.i64 (a : Int)), A.d (D.slc true []), A.d (D.int IntKind.i64 2), A.d (D.int IntKind.i64 (b : Int)), A.d (D.slc true [])] := by rw [← hσ2]; exact St.get_push_eq' (by simp [St.n_push])
      have g0 : σ2.get σ.n = .cells g.c := by rw [← hσ2]; simp [St.get_push, St.n_push]; intro h; omega
      have hFz : Frz 10 σ2 [.d (.int .i64 3), .d (.int .i64 0), .row (σ.n + 2) 0 2 3] (seqX a b) := Frz.row (N := 0) (css := [(exC a).c, (exC b).c]) (xs := [exC a, exC b]) g2 (by omega) rfl fun i c x hc hx => by
        match i, hc, hx with
        | 0, hc, hx => cases hc; cases hx; exact Frz.data _ _
        | 1, hc, hx => cases hc; cases hx; exact Frz.data _ _
        | i + 2, hc, _ => simp at hc
      refine ⟨_, _, _, c37 rfl (by omega), ?_⟩
      obtain ⟨xa, σ3, hbc, hE3, hLn⟩ := behind_L hg hL hFz (by omega) (by unfold SmallE seqX exC; simp [Ex.sz])
      refine ⟨_, _, _, hbc, ?_⟩
      have n3 := hE3.n
      have g3 : σ3.get σ.n = .cells g.c := (hE3.g σ.n (by omega)).trans g0
      obtain ⟨kx, mx, rfl, hkx⟩ := id hLn.form
      have rc : (A.row kx 0 mx 4).cells = some [A.row kx 0 mx 4] := rfl
      have rcc : (A.row kx 0 mx 4).isCell = true := rfl
      simp only [go_sem, ↓reduceIte, Int.reduceEq, Nat.reduceBEq, Option.some.injEq, Bool.true_eq_false, Bool.false_eq_true, Int.reduceBEq, Int.reduceBNe, Int.reduceLT, Int.reduceLE, Nat.add_assoc, Nat.reduceAdd, Nat.reducePow, Nat.zero_le, Nat.reduceEqDiff, Nat.reduceLT, Nat.reduceLeDiff, Nat.reduceMul, Nat.reduceSub, Nat.add_left_cancel_iff, Nat.lt_irrefl, Nat.le_refl, Nat.add_eq_left, Nat.left_eq_add, beq_self_eq_true, Int.reduceToNat, Nat.mul_one, Nat.zero_mul, Nat.zero_add, Nat.add_zero, Nat.one_mul, rc, rcc]
      refine ⟨drawOk_rel [2, 4, 6, 7, 12] [(2, 0), (2, 3), (2, 11), (4, 0), (4, 11), (6, 0), (6, 11), (7, 11), (12, 10)] rfl (by kernel_rfl) rfl (by simp [meets]), ?_⟩
      have lz3 : low σ.n [σ3.n] = [] := by rw [low_cons_ge (by omega)]; rfl
      cases hcx : (checkP (g.ext moreB (seqX a b)) == 0) with
      | false => simp only [go_sem, ↓reduceIte, Int.reduceEq, Nat.reduceBEq, Option.some.injEq, Bool.true_eq_false, Bool.false_eq_true, Int.reduceBEq, Int.reduceBNe, Int.reduceLT, Int.reduceLE, Nat.add_assoc, Nat.reduceAdd, Nat.reducePow, Nat.zero_le, Nat.reduceEqDiff, Nat.reduceLT, Nat.reduceLeDiff, Nat.reduceMul, Nat.reduceSub, Nat.add_left_cancel_iff, Nat.lt_irrefl, Nat.le_refl, Nat.add_eq_left, Nat.left_eq_add, beq_self_eq_true, Int.reduceToNat, Nat.mul_one, Nat.zero_mul, Nat.zero_add, Nat.add_zero, Nat.one_mul, hcx, lz3]
      | true =>
      have hcx' : checkP (g.ext moreB (seqX a b)) = 0 := by simpa using hcx
      have hmin : minmax false [.d (.int .i64 (l.length : Int)), .d (.int .i64 20)] = some (.d (.int .i64 ((min l.length 20 : Nat) : Int))) := minA (b := 20)
      have hmn : min l.length 20 ≤ l.length := Nat.min_le_left _ _
      have lz3 : low σ.n [σ3.n] = [] := by rw [low_cons_ge (by omega)]; rfl
      simp only [go_sem, ↓reduceIte, Int.reduceEq, Nat.reduceBEq, Option.some.injEq, Bool.true_eq_false, Bool.false_eq_true, Int.reduceBEq, Int.reduceBNe, Int.reduceLT, Int.reduceLE, Nat.add_assoc, Nat.reduceAdd, Nat.reducePow, Nat.zero_le, Nat.reduceEqDiff, Nat.reduceLT, Nat.reduceLeDiff, Nat.reduceMul, Nat.reduceSub, Nat.add_left_cancel_iff, Nat.lt_irrefl, Nat.le_refl, Nat.add_eq_left, Nat.left_eq_add, beq_self_eq_true, Int.reduceToNat, Nat.mul_one, Nat.zero_mul, Nat.zero_add, Nat.add_zero, Nat.one_mul, hcx, hmin, hmn, lz3]
      have hl20 : (l.take (min l.length 20)).length ≤ 20 := by rw [List.length_take]; omega
      generalize hl' : l.take (min l.length 20) = l' at hl20
      obtain ⟨law1, law2, law3, law4⟩ := seq_law hcx' ha' hb' l' hl20
      have hXs : SmallG (g.ext moreB (seqX a b)) := Gr.ext_small hg (by unfold SmallE seqX exC; simp [Ex.sz])
      generalize hτ : (σ3.push (Blk.cells [A.d (D.int IntKind.i64 0), A.d (D.slc true [])])).set σ3.n (Blk.cells [A.d (D.int IntKind.i64 (g.ext moreB (seqX a b)).tokens), A.row kx 0 mx 4]) = τ
      have hEτ : Ext σ3 τ := by rw [← hτ]; exact ((Ext.refl σ3).push).set (Nat.le_refl _)
      have hLτ := hLn.mono hEτ
      have q0 : τ.get σ.n = .cells g.c := (hEτ.g _ (by omega)).trans g3
      have q3 : τ.get σ3.n = .cells [A.d (D.int IntKind.i64 (g.ext moreB (seqX a b)).tokens), A.row kx 0 mx 4] := by rw [← hτ, St.get_set_eq]
      refine Ev.loop_ind (fun m tm τ' W => ∃ i : Nat, m = l'.length + 1 - i ∧ i ≤ l'.length + 1 ∧ W = [] ∧ τ' = τ ∧ tm.at 2 = .d (.slc z (intsD l')) ∧ tm.at 3 = .ptr σ.n 0 ∧ tm.at 7 = .d (.int .i64 a) ∧ tm.at 8 = .d (.int .i64 b) ∧ tm.at 9 = .ptr σ3.n 0 ∧
        tm.at 11 = .d (.bool ((List.range i).any fun k => derV (g.ext moreB (seqX a b)) a (l'.take k) && derV (g.ext moreB (seqX a b)) b (l'.drop k))) ∧ tm.at 12 = .d (.int .i64 i)) ?_ (l'.length + 1) _ _ _ ⟨0, rfl, by omega, rfl, rfl, ?_, ?_, ?_, ?_, ?_, ?_, ?_⟩
      · rintro m tm τ' W ⟨i, rfl, hi, rfl, rfl, t2, t3, t7, t8, t9, t11, t12⟩ ih
        by_cases hlt : i ≤ l'.length
        · have hdec : decide ((i : Int) ≤ (l'.length : Int)) = true := by simpa using hlt
          simp only [go_sem, ↓reduceIte, Int.reduceEq, Nat.reduceBEq, Option.some.injEq, Bool.true_eq_false, Bool.false_eq_true, Int.reduceBEq, Int.reduceBNe, Int.reduceLT, Int.reduceLE, Nat.add_assoc, Nat.reduceAdd, Nat.reducePow, Nat.zero_le, Nat.reduceEqDiff, Nat.reduceLT, Nat.reduceLeDiff, Nat.reduceMul, Nat.reduceSub, Nat.add_left_cancel_iff, Nat.lt_irrefl, Nat.le_refl, Nat.add_eq_left, Nat.left_eq_add, beq_self_eq_true, Int.reduceToNat, Nat.mul_one, Nat.zero_mul, Nat.zero_add, Nat.add_zero, Nat.one_mul, t2, t3, t7, t8, t9, t12, hdec, hlt, q3]
          refine ⟨_, _, _, derives_lent hLτ hXs a z (l'.take i) (by rw [List.length_take]; omega), ?_⟩
          simp only [go_sem, ↓reduceIte, Int.reduceEq, Nat.reduceBEq, Option.some.injEq, Bool.true_eq_false, Bool.false_eq_true, Int.reduceBEq, Int.reduceBNe, Int.reduceLT, Int.reduceLE, Nat.add_assoc, Nat.reduceAdd, Nat.reducePow, Nat.zero_le, Nat.reduceEqDiff, Nat.reduceLT, Nat.reduceLeDiff, Nat.reduceMul, Nat.reduceSub, Nat.add_left_cancel_iff, Nat.lt_irrefl, Nat.le_refl, Nat.add_eq_left, Nat.left_eq_add, beq_self_eq_true, Int.reduceToNat, Nat.mul_one, Nat.zero_mul, Nat.zero_add, Nat.add_zero, Nat.one_mul, law3]
          refine ⟨rfl, ?_⟩
          simp only [go_sem, ↓reduceIte, Int.reduceEq, Nat.reduceBEq, Option.some.injEq, Bool.true_eq_false, Bool.false_eq_true, Int.reduceBEq, Int.reduceBNe, Int.reduceLT, Int.reduceLE, Nat.add_assoc, Nat.reduceAdd, Nat.reducePow, Nat.zero_le, Nat.reduceEqDiff, Nat.reduceLT, Nat.reduceLeDiff, Nat.reduceMul, Nat.reduceSub, Nat.add_left_cancel_iff, Nat.lt_irrefl, Nat.le_refl, Nat.add_eq_left, Nat.left_eq_add, beq_self_eq_true, Int.reduceToNat, Nat.mul_one, Nat.zero_mul, Nat.zero_add, Nat.add_zero, Nat.one_mul, t2, t3, t7, t8, t9, t12, hlt, q3]
          refine ⟨_, _, _, derives_lent hLτ hXs b z (l'.drop i) (by rw [List.length_drop]; omega), ?_⟩
          simp only [go_sem, ↓reduceIte, Int.reduceEq, Nat.reduceBEq, Option.some.injEq, Bool.true_eq_false, Bool.false_eq_true, Int.reduceBEq, Int.reduceBNe, Int.reduceLT, Int.reduceLE, Nat.add_assoc, Nat.reduceAdd, Nat.reducePow, Nat.zero_le, Nat.reduceEqDiff, Nat.reduceLT, Nat.reduceLeDiff, Nat.reduceMul, Nat.reduceSub, Nat.add_left_cancel_iff, Nat.lt_irrefl, Nat.le_refl, Nat.add_eq_left, Nat.left_eq_add, beq_self_eq_true, Int.reduceToNat, Nat.mul_one, Nat.zero_mul, Nat.zero_add, Nat.add_zero, Nat.one_mul, law4]
          refine ⟨rfl, ?_⟩
          have hr : ∀ f : Nat → Bool, (List.range (i + 1)).any f = ((List.range i).any f || f i) := fun f => by rw [List.range_succ, List.any_append]; simp
          have hw : IntKind.i64.wrap ((i : Int) + 1) = ((i + 1 : Nat) : Int) := wrap_succ' (n := 1000) (by omega) (by omega)
          cases c1 : ((List.range i).any fun k => derV (g.ext moreB (seqX a b)) a (l'.take k) && derV (g.ext moreB (seqX a b)) b (l'.drop k)) <;> cases c2 : derV (g.ext moreB (seqX a b)) a (l'.take i) <;> cases c3 : derV (g.ext moreB (seqX a b)) b (l'.drop i)
          all_goals
            rw [c1] at t11
            simp only [go_sem, ↓reduceIte, Int.reduceEq, Nat.reduceBEq, Option.some.injEq, Bool.true_eq_false, Bool.false_eq_true, Int.reduceBEq, Int.reduceBNe, Int.reduceLT, Int.reduceLE, Nat.add_assoc, Nat.reduceAdd, Nat.reducePow, Nat.zero_le, Nat.reduceEqDiff, Nat.reduceLT, Nat.reduceLeDiff, Nat.reduceMul, Nat.reduceSub, Nat.add_left_cancel_iff, Nat.lt_irrefl, Nat.le_refl, Nat.add_eq_left, Nat.left_eq_add, beq_self_eq_true, Int.reduceToNat, Nat.mul_one, Nat.zero_mul, Nat.zero_add, Nat.add_zero, Nat.one_mul, t11, t12, c1, c2, c3, hw]
            exact ih _ _ _ _ (by omega) ⟨i + 1, rfl, by omega, rfl, rfl, by simp only [go_sem, ↓reduceIte, Int.reduceEq, Nat.reduceBEq, Option.some.injEq, Bool.true_eq_false, Bool.false_eq_true, Int.reduceBEq, Int.reduceBNe, Int.reduceLT, Int.reduceLE, Nat.add_assoc, Nat.reduceAdd, Nat.reducePow, Nat.zero_le, Nat.reduceEqDiff, Nat.reduceLT, Nat.reduceLeDiff, Nat.reduceMul, Nat.reduceSub, Nat.add_left_cancel_iff, Nat.lt_irrefl, Nat.le_refl, Nat.add_eq_left, Nat.left_eq_add, beq_self_eq_true, Int.reduceToNat, Nat.mul_one, Nat.zero_mul, Nat.zero_add, Nat.add_zero, Nat.one_mul, t2], by simp only [go_sem, ↓reduceIte, Int.reduceEq, Nat.reduceBEq, Option.some.injEq, Bool.true_eq_false, Bool.false_eq_true, Int.reduceBEq, Int.reduceBNe, Int.reduceLT, Int.reduceLE, Nat.add_assoc, Nat.reduceAdd, Nat.reducePow, Nat.zero_le, Nat.reduceEqDiff, Nat.reduceLT, Nat.reduceLeDiff, Nat.reduceMul, Nat.reduceSub, Nat.add_left_cancel_iff, Nat.lt_irrefl, Nat.le_refl, Nat.add_eq_left, Nat.left_eq_add, beq_self_eq_true, Int.reduceToNat, Nat.mul_one, Nat.zero_mul, Nat.zero_add, Nat.add_zero, Nat.one_mul, t3], by simp only [go_sem, ↓reduceIte, Int.reduceEq, Nat.reduceBEq, Option.some.injEq, Bool.true_eq_false, Bool.false_eq_true, Int.reduceBEq, Int.reduceBNe, Int.reduceLT, Int.reduceLE, Nat.add_assoc, Nat.reduceAdd, Nat.reducePow, Nat.zero_le, Nat.reduceEqDiff, Nat.reduceLT, Nat.reduceLeDiff, Nat.reduceMul, Nat.reduceSub, Nat.add_left_cancel_iff, Nat.lt_irrefl, Nat.le_refl, Nat.add_eq_left, Nat.left_eq_add, beq_self_eq_true, Int.reduceToNat, Nat.mul_one, Nat.zero_mul, Nat.zero_add, Nat.add_zero, Nat.one_mul, t7], by simp only [go_sem, ↓reduceIte, Int.reduceEq, Nat.reduceBEq, Option.some.injEq, Bool.true_eq_false, Bool.false_eq_true, Int.reduceBEq, Int.reduceBNe, Int.reduceLT, Int.reduceLE, Nat.add_assoc, Nat.reduceAdd, Nat.reducePow, Nat.zero_le, Nat.reduceEqDiff, Nat.reduceLT, Nat.reduceLeDiff, Nat.reduceMul, Nat.reduceSub, Nat.add_left_cancel_iff, Nat.lt_irrefl, Nat.le_refl, Nat.add_eq_left, Nat.left_eq_add, beq_self_eq_true, Int.reduceToNat, Nat.mul_one, Nat.zero_mul, Nat.zero_add, Nat.add_zero, Nat.one_mul, t8], by simp only [go_sem, ↓reduceIte, Int.reduceEq, Nat.reduceBEq, Option.some.injEq, Bool.true_eq_false, Bool.false_eq_true, Int.reduceBEq, Int.reduceBNe, Int.reduceLT, Int.reduceLE, Nat.add_assoc, Nat.reduceAdd, Nat.reducePow, Nat.zero_le, Nat.reduceEqDiff, Nat.reduceLT, Nat.reduceLeDiff, Nat.reduceMul, Nat.reduceSub, Nat.add_left_cancel_iff, Nat.lt_irrefl, Nat.le_refl, Nat.add_eq_left, Nat.left_eq_add, beq_self_eq_true, Int.reduceToNat, Nat.mul_one, Nat.zero_mul, Nat.zero_add, Nat.add_zero, Nat.one_mul, t9], by rw [hr, c1, c2, c3]; simp only [go_sem, ↓reduceIte, Int.reduceEq, Nat.reduceBEq, Option.some.injEq, Bool.true_eq_false, Bool.false_eq_true, Int.reduceBEq, Int.reduceBNe, Int.reduceLT, Int.reduceLE, Nat.add_assoc, Nat.reduceAdd, Nat.reducePow, Nat.zero_le, Nat.reduceEqDiff, Nat.reduceLT, Nat.reduceLeDiff, Nat.reduceMul, Nat.reduceSub, Nat.add_left_cancel_iff, Nat.lt_irrefl, Nat.le_refl, Nat.add_eq_left, Nat.left_eq_add, beq_self_eq_true, Int.reduceToNat, Nat.mul_one, Nat.zero_mul, Nat.zero_add, Nat.add_zero, Nat.one_mul, t11], by simp only [go_sem, ↓reduceIte, Int.reduceEq, Nat.reduceBEq, Option.some.injEq, Bool.true_eq_false, Bool.false_eq_true, Int.reduceBEq, Int.reduceBNe, Int.reduceLT, Int.reduceLE, Nat.add_assoc, Nat.reduceAdd, Nat.reducePow, Nat.zero_le, Nat.reduceEqDiff, Nat.reduceLT, Nat.reduceLeDiff, Nat.reduceMul, Nat.reduceSub, Nat.add_left_cancel_iff, Nat.lt_irrefl, Nat.le_refl, Nat.add_eq_left, Nat.left_eq_add, beq_self_eq_true, Int.reduceToNat, Nat.mul_one, Nat.zero_mul, Nat.zero_add, Nat.add_zero, Nat.one_mul]⟩
        · have hdec : decide ((i : Int) ≤ (l'.length : Int)) = false := by simpa using hlt
          have hi' : i = l'.length + 1 := by omega
          simp only [go_sem, ↓reduceIte, Int.reduceEq, Nat.reduceBEq, Option.some.injEq, Bool.true_eq_false, Bool.false_eq_true, Int.reduceBEq, Int.reduceBNe, Int.reduceLT, Int.reduceLE, Nat.add_assoc, Nat.reduceAdd, Nat.reducePow, Nat.zero_le, Nat.reduceEqDiff, Nat.reduceLT, Nat.reduceLeDiff, Nat.reduceMul, Nat.reduceSub, Nat.add_left_cancel_iff, Nat.lt_irrefl, Nat.le_refl, Nat.add_eq_left, Nat.left_eq_add, beq_self_eq_true, Int.reduceToNat, Nat.mul_one, Nat.zero_mul, Nat.zero_add, Nat.add_zero, Nat.one_mul, t2, t3, t7, t8, t9, t12, hdec, q0, q3]
          refine ⟨_, _, _, derives_lent hLτ hXs g.rules.length z l' (by omega), ?_⟩
          subst hi'
          rw [← law1] at t11
          cases c1 : derV (g.ext moreB (seqX a b)) g.rules.length l'
          all_goals
            rw [c1] at t11
            simp only [go_sem, ↓reduceIte, Int.reduceEq, Nat.reduceBEq, Option.some.injEq, Bool.true_eq_false, Bool.false_eq_true, Int.reduceBEq, Int.reduceBNe, Int.reduceLT, Int.reduceLE, Nat.add_assoc, Nat.reduceAdd, Nat.reducePow, Nat.zero_le, Nat.reduceEqDiff, Nat.reduceLT, Nat.reduceLeDiff, Nat.reduceMul, Nat.reduceSub, Nat.add_left_cancel_iff, Nat.lt_irrefl, Nat.le_refl, Nat.add_eq_left, Nat.left_eq_add, beq_self_eq_true, Int.reduceToNat, Nat.mul_one, Nat.zero_mul, Nat.zero_add, Nat.add_zero, Nat.one_mul, law2, t11, c1]
      all_goals first | rfl | (simp only [go_sem, ↓reduceIte, Int.reduceEq, Nat.reduceBEq, Option.some.injEq, Bool.true_eq_false, Bool.false_eq_true, Int.reduceBEq, Int.reduceBNe, Int.reduceLT, Int.reduceLE, Nat.add_assoc, Nat.reduceAdd, Nat.reducePow, Nat.zero_le, Nat.reduceEqDiff, Nat.reduceLT, Nat.reduceLeDiff, Nat.reduceMul, Nat.reduceSub, Nat.add_left_cancel_iff, Nat.lt_irrefl, Nat.le_refl, Nat.add_eq_left, Nat.left_eq_add, beq_self_eq_true, Int.reduceToNat, Nat.mul_one, Nat.zero_mul, Nat.zero_add, Nat.add_zero, Nat.one_mul]; done) | (simp only [go_sem, ↓reduceIte, Int.reduceEq, Nat.reduceBEq, Option.some.injEq, Bool.true_eq_false, Bool.false_eq_true, Int.reduceBEq, Int.reduceBNe, Int.reduceLT, Int.reduceLE, Nat.add_assoc, Nat.reduceAdd, Nat.reducePow, Nat.zero_le, Nat.reduceEqDiff, Nat.reduceLT, Nat.reduceLeDiff, Nat.reduceMul, Nat.reduceSub, Nat.add_left_cancel_iff, Nat.lt_irrefl, Nat.le_refl, Nat.add_eq_left, Nat.left_eq_add, beq_self_eq_true, Int.reduceToNat, Nat.mul_one, Nat.zero_mul, Nat.zero_add, Nat.add_zero, Nat.one_mul]; rfl)
end Go.Am

/- Part Q3 of a proof that runs a program's calls on a small machine whose values bear no addresses: no conditions. -/
import Derived.Test.YtlcadkgpojjokaaAmQ2
set_option autoImplicit false
set_option linter.unusedSimpArgs false
set_option linter.unusedVariables false
set_option linter.unusedSectionVars false
namespace Go.Am
open Go Go.Proofs
section
variable {X : X} {tm : Tm} {σ : St} {dst : Option Nat} {ty : Nat} {pos : String} {after : Array Edge} {g : Option (Nat × Bool)}
def idxArr (σ : St) (n es k off : Nat) (i : Int) : Blk → OpR
  | .dead => .bad
  | _ => if 0 ≤ i ∧ i < n ∧ 0 < es then .val (.ptr k (off + i.toNat * es)) σ [] [k] else .bad
theorem indexT_arr {k off n es e s b : Nat} {kd : IntKind} {i : Int} {ti : Nat → Option TI} {z : Option (List A)} {zv : A} : indexT σ (.ptr k off) (.d (.int kd i)) ti (some ⟨.arr n es e, s, b, z, zv⟩) = idxArr σ n es k off i (σ.get k) := by
  unfold indexT idxArr; dsimp only; cases σ.get k <;> rfl
theorem idxArr_cells {k off n es : Nat} {i : Int} {cs : List A} : idxArr σ n es k off i (.cells cs) = if 0 ≤ i ∧ i.toNat < n ∧ 0 < es then .val (.ptr k (off + i.toNat * es)) σ [] [k] else .bad := by
  unfold idxArr; dsimp only
  have : (0 ≤ i ∧ i < (n : Int) ∧ 0 < es) ↔ (0 ≤ i ∧ i.toNat < n ∧ 0 < es) := by omega
  by_cases h : 0 ≤ i ∧ i.toNat < n ∧ 0 < es
  · rw [if_pos (this.2 h), if_pos h]
  · rw [if_neg (fun e => h (this.1 e)), if_neg h]
theorem bin_quo64 {t : Nat} {kd : IntKind} {a : Int} : binA X σ .quo t (.d (.int kd a)) (.d (.int kd 64)) = some (.d (.int kd (kd.wrap (a.tdiv 64)))) := by simp [binA, intOp]
theorem bin_rem64 {t : Nat} {kd : IntKind} {a : Int} : binA X σ .rem t (.d (.int kd a)) (.d (.int kd 64)) = some (.d (.int kd (a.tmod 64))) := by simp [binA, intOp]
theorem bin_shr {t : Nat} {kd ke : IntKind} {a : Int} {b : Nat} : binA X σ .shr t (.d (.int kd a)) (.d (.int ke (b : Int))) = some (.d (.int kd (a.fdiv (2 ^ (min b kd.bits))))) := by simp [binA]
theorem bin_shl {t : Nat} {kd ke : IntKind} {a : Int} {b : Nat} : binA X σ .shl t (.d (.int kd a)) (.d (.int ke (b : Int))) = some (.d (.int kd (kd.wrap (a * 2 ^ (min b kd.bits))))) := by simp [binA]
theorem bldT_arr {ps : List (Nat × A)} {n es e s b : Nat} {z : List A} {zv : A} : bldT σ ps (some ⟨.arr n es e, s, b, some z, zv⟩) = bldV σ (if es = 0 then none else fillA (fun i => some (i * es, es)) z ps) := rfl
def mkmT (σ : St) : Option TI → OpR
  | some { kind := .map _ _, .. } => .val (.map σ.n) (σ.push (.map [])) [] []
  | _ => .bad
theorem o_mkm {t : Nat} : evalOp X tm σ ⟨dst, .makeMap t none, ty, pos, after, g⟩ = mkmT σ (X.ti t) := by
  unfold evalOp mkmT; dsimp only
  cases X.ti t with
  | none => rfl
  | some i => obtain ⟨kd, s, b, z, zv⟩ := i; cases kd <;> rfl
theorem mkmT_map {k e s b : Nat} {z : Option (List A)} {zv : A} : mkmT σ (some ⟨.map k e, s, b, z, zv⟩) = .val (.map σ.n) (σ.push (.map [])) [] [] := rfl
def lookF (σ : St) (ok : Bool) (zv : A) (R : List Nat) : Option (Option (Nat × A)) → OpR
  | some (some (_, v)) => .val (if ok then .tup [v, .d (.bool true)] else v) σ [] R
  | some none => .val (if ok then .tup [zv, .d (.bool false)] else zv) σ [] R
  | none => .bad
def lookB (X : Am.X) (σ : St) (ok : Bool) (kt : Nat) (k zv : A) (m : Nat) : Blk → OpR
  | .map es => lookF σ ok zv (m :: (k.refs ++ es.flatMap fun e => e.1.refs)) (mapFind X σ kt k es 0)
  | _ => .bad
def lookA (X : Am.X) (σ : St) (ok : Bool) (kt : Nat) (k zv : A) : A → OpR
  | .d .nmap => .val (if ok then .tup [zv, .d (.bool false)] else zv) σ [] []
  | .map m => lookB X σ ok kt k zv m (σ.get m)
  | _ => .bad
def lookE (X : Am.X) (σ : St) (ok : Bool) (kt : Nat) (k x : A) : Option TI → OpR
  | some { zero := some _, zval := zv, .. } => if keyT X 8 kt k = false then .bad else lookA X σ ok kt k zv x
  | _ => .bad
def lookT (X : Am.X) (σ : St) (ok : Bool) (k x : A) : Option TI → OpR
  | some { kind := .map kt e, .. } => lookE X σ ok kt k x (X.ti e)
  | _ => .bad
theorem o_look {t : Nat} {x k : Operand} {ok : Bool} : evalOp X tm σ ⟨dst, .lookup t x k ok, ty, pos, after, g⟩ = lookT X σ ok (ev tm k) (ev tm x) (X.ti t) := by
  unfold evalOp lookT; dsimp only
  cases X.ti t with
  | none => rfl
  | some i =>
    obtain ⟨kd, s, b, z, zv⟩ := i
    cases kd with
    | map kt e =>
      dsimp only; unfold lookE
      cases X.ti e with
      | none => rfl
      | some j =>
        obtain ⟨kd', s', b', z', zv'⟩ := j
        cases z' with
        | none => rfl
        | some z' =>
          dsimp only
          split
          · rfl
          · unfold lookA
            cases ev tm x with
            | map m =>
              dsimp only; unfold lookB
              cases σ.get m with
              | map es =>
                dsimp only; unfold lookF
                cases mapFind X σ kt (ev tm k) es 0 with
                | none => rfl
                | some p => cases p <;> rfl
              | _ => rfl
            | d v => cases v <;> rfl
            | _ => rfl
    | _ => rfl
theorem lookT_map {ok : Bool} {k x : A} {kt e s b : Nat} {z : Option (List A)} {zv : A} : lookT X σ ok k x (some ⟨.map kt e, s, b, z, zv⟩) = lookE X σ ok kt k x (X.ti e) := rfl
theorem lookE_some {ok : Bool} {k x : A} {kt s b : Nat} {kd : TK} {z : List A} {zv : A} : lookE X σ ok kt k x (some ⟨kd, s, b, some z, zv⟩) = if keyT X 8 kt k = false then .bad else lookA X σ ok kt k zv x := rfl
theorem lookA_map {ok : Bool} {k zv : A} {kt m : Nat} : lookA X σ ok kt k zv (.map m) = lookB X σ ok kt k zv m (σ.get m) := rfl
theorem lookB_map {ok : Bool} {k zv : A} {kt m : Nat} {es : List (A × A)} : lookB X σ ok kt k zv m (.map es) = lookF σ ok zv (m :: (k.refs ++ es.flatMap fun e => e.1.refs)) (mapFind X σ kt k es 0) := rfl
theorem lookF_some {ok : Bool} {zv : A} {R : List Nat} {n : Nat} {v : A} : lookF σ ok zv R (some (some (n, v))) = .val (if ok then .tup [v, .d (.bool true)] else v) σ [] R := rfl
theorem lookF_none {ok : Bool} {zv : A} {R : List Nat} : lookF σ ok zv R (some none) = .val (if ok then .tup [zv, .d (.bool false)] else zv) σ [] R := rfl
def updB (X : Am.X) (σ : St) (kt : Nat) (k v : A) (r : Nat) : Blk → OpR
  | .map es => if keyT X 8 kt k = false then .bad else match mapFind X σ kt k es 0 with
    | some (some (i, _)) => match es[i]? with
      | some e => if sameK σ e.1 k then .val .top (σ.set r (.map (es.set i (k, v)))) [r] [] else .bad
      | none => .bad
    | some none => .val .top (σ.set r (.map (es ++ [(k, v)]))) [r] []
    | none => .bad
  | _ => .bad
def updA (X : Am.X) (σ : St) (kt : Nat) (k v : A) : A → OpR
  | .map r => updB X σ kt k v r (σ.get r)
  | _ => .bad
def updT (X : Am.X) (σ : St) (m k v : A) : Option TI → OpR
  | some { kind := .map kt _, .. } => updA X σ kt k v m
  | _ => .bad
theorem o_upd {t : Nat} {m k v : Operand} : evalOp X tm σ ⟨dst, .mapUpdate t m k v, ty, pos, after, g⟩ = updT X σ (ev tm m) (ev tm k) (ev tm v) (X.ti t) := by
  unfold evalOp updT; dsimp only
  cases X.ti t with
  | none => rfl
  | some i =>
    obtain ⟨kd, s, b, z, zv⟩ := i
    cases kd with
    | map kt e =>
      dsimp only; unfold updA
      cases ev tm m with
      | map r => dsimp only; unfold updB; cases σ.get r <;> rfl
      | _ => rfl
    | _ => rfl
theorem updT_map {m k v : A} {kt e s b : Nat} {z : Option (List A)} {zv : A} : updT X σ m k v (some ⟨.map kt e, s, b, z, zv⟩) = updA X σ kt k v m := rfl
theorem updA_map {k v : A} {kt r : Nat} : updA X σ kt k v (.map r) = updB X σ kt k v r (σ.get r) := rfl
end
attribute [go_sem] indexT_arr idxArr_cells bin_quo64 bin_rem64 bin_shr bin_shl bldT_arr o_mkm mkmT_map o_look lookT_map lookE_some lookA_map lookB_map lookF_some lookF_none o_upd updT_map updA_map
variable {fz : Nat → Md}
def plC (P : Nat) : List A := [.d (.int .u64 ((P % 2 ^ 64 : Nat) : Int)), .d (.int .u64 ((P / 2 ^ 64 : Nat) : Int))]
def plA (P : Nat) : A := .agg (plC P)
theorem plC_len (P : Nat) : (plC P).length = 2 := rfl
theorem plC_take (P : Nat) : (plC P).take 2 = plC P := rfl
theorem plC_0 (P : Nat) : (plC P)[0]? = some (.d (.int .u64 ((P % 2 ^ 64 : Nat) : Int))) := rfl
theorem plC_1 (P : Nat) : (plC P)[1]? = some (.d (.int .u64 ((P / 2 ^ 64 : Nat) : Int))) := rfl
theorem plC_cell (P : Nat) : (plC P).all A.isCell = true := rfl
attribute [go_sem] plC_len plC_take plC_0 plC_1 plC_cell
theorem wrapu {n : Nat} (h : n < 2 ^ 64) : IntKind.u64.wrap (n : Int) = n := by
  unfold IntKind.wrap; simp [IntKind.signed, IntKind.bits]; omega
theorem w_shr (w k : Nat) (hk : k < 64) : (w : Int).fdiv (2 ^ (min k IntKind.u64.bits)) = ((w / 2 ^ k : Nat) : Int) := by
  have e : min k IntKind.u64.bits = k := by simp [IntKind.bits]; omega
  have h2 : (0 : Int) ≤ 2 ^ k := Int.pow_nonneg (by omega)
  rw [e, Int.fdiv_eq_ediv_of_nonneg _ h2]; simp
theorem w_and (m : Nat) (hm : m < 2 ^ 64) (w k : Nat) (h : m = w / 2 ^ k) : (IntKind.u64.wrap ((BitVec.ofInt IntKind.u64.bits (m : Int) &&& BitVec.ofInt IntKind.u64.bits 1).toNat : Int) == 1) = w.testBit k := by
  have e : (BitVec.ofInt IntKind.u64.bits (m : Int) &&& BitVec.ofInt IntKind.u64.bits 1).toNat = m % 2 := by
    have : BitVec.ofInt IntKind.u64.bits 1 = BitVec.ofNat 64 1 := rfl
    rw [this, BitVec.ofInt_natCast]
    show (BitVec.ofNat 64 m &&& BitVec.ofNat 64 1).toNat = m % 2
    rw [BitVec.toNat_and, BitVec.toNat_ofNat, BitVec.toNat_ofNat, Nat.mod_eq_of_lt hm]
    exact Nat.and_one_is_mod m
  rw [e, wrapu (by omega), h, Nat.testBit_eq_decide_div_mod_eq]
  have : w / 2 ^ k % 2 = 0 ∨ w / 2 ^ k % 2 = 1 := by omega
  rcases this with h | h <;> rw [h] <;> rfl
theorem w_or (a b : Nat) (ha : a < 2 ^ 64) (hb : b < 2 ^ 64) : IntKind.u64.wrap ((BitVec.ofInt IntKind.u64.bits (a : Int) ||| BitVec.ofInt IntKind.u64.bits (b : Int)).toNat : Int) = ((a ||| b : Nat) : Int) := by
  rw [BitVec.ofInt_natCast, BitVec.ofInt_natCast]
  have : (BitVec.ofNat IntKind.u64.bits a ||| BitVec.ofNat IntKind.u64.bits b).toNat = a ||| b := by
    show (BitVec.ofNat 64 a ||| BitVec.ofNat 64 b).toNat = a ||| b
    rw [BitVec.toNat_or, BitVec.toNat_ofNat, BitVec.toNat_ofNat, Nat.mod_eq_of_lt ha, Nat.mod_eq_of_lt hb]
  rw [this, wrapu (Nat.or_lt_two_pow ha hb)]
theorem w_shl (k : Nat) (hk : k < 64) : IntKind.u64.wrap (1 * 2 ^ (min k IntKind.u64.bits)) = ((2 ^ k : Nat) : Int) := by
  have e : min k IntKind.u64.bits = k := by simp [IntKind.bits]; omega
  have h2 : (1 * 2 ^ k : Int) = ((2 ^ k : Nat) : Int) := by simp
  rw [e, h2, wrapu (Nat.pow_lt_pow_right (by omega) hk)]
theorem lt_mod (P : Nat) : P % 2 ^ 64 < 2 ^ 64 := Nat.mod_lt _ (by decide)
theorem div_lt {P : Nat} (h : P < 2 ^ 128) : P / 2 ^ 64 < 2 ^ 64 := Nat.div_lt_of_lt_mul (by rw [← Nat.pow_add]; exact h)
theorem pow_le_lt {m k : Nat} (h : m < 2 ^ 64) : m / 2 ^ k < 2 ^ 64 := Nat.lt_of_le_of_lt (Nat.div_le_self _ _) h
theorem bit_lo {P i : Nat} (h : i < 64) : (P % 2 ^ 64).testBit i = P.testBit i := by rw [Nat.testBit_mod_two_pow]; simp [h]
theorem bit_hi {P i : Nat} (h : 64 ≤ i) : (P / 2 ^ 64).testBit (i - 64) = P.testBit i := by rw [Nat.testBit_div_two_pow, Nat.sub_add_cancel h]
theorem has_call (h71 : fz 52 = .cut) {P i : Nat} (hP : P < 2 ^ 128) (hi : i < 128) {σ : St} : CallsTo (XX fz) (.func 52 []) [plA P, .d (.int .i64 i)] σ (.d (.bool (P.testBit i))) σ [] := by
  refine CallsTo.cut0 h71 fn52 (by simp) rfl ?_
  simp only [Try.f52, Option.getD_some]
  by_cases h : i < 64
  · have e1 : IntKind.i64.wrap ((i : Int).tdiv 64) = 0 := by
      have : (i : Int).tdiv 64 = ((i / 64 : Nat) : Int) := (Int.ofNat_tdiv i 64).symm
      rw [this, wrap_small (by omega) (by omega)]; omega
    have e2 : (i : Int).tmod 64 = ((i : Nat) : Int) := by
      have : (i : Int).tmod 64 = ((i % 64 : Nat) : Int) := (Int.ofNat_tmod i 64).symm
      rw [this]; omega
    simp only [go_sem, ↓reduceIte, Int.reduceEq, Nat.reduceBEq, Int.reduceBEq, Int.reduceBNe, Int.reduceLT, Int.reduceLE, Nat.reduceAdd, Nat.reducePow, Nat.reduceEqDiff, Nat.reduceLT, Nat.reduceLeDiff, Nat.reduceMul, Nat.reduceSub, Int.reduceToNat, Nat.mul_one, Nat.zero_mul, Nat.zero_add, Nat.add_zero, Nat.one_mul, plA, e1, e2, w_shr _ _ h, w_and _ (pow_le_lt (lt_mod P)) _ _ rfl, bit_lo h]
  · have e1 : IntKind.i64.wrap ((i : Int).tdiv 64) = 1 := by
      have : (i : Int).tdiv 64 = ((i / 64 : Nat) : Int) := (Int.ofNat_tdiv i 64).symm
      rw [this, wrap_small (by omega) (by omega)]; omega
    have e2 : (i : Int).tmod 64 = ((i - 64 : Nat) : Int) := by
      have : (i : Int).tmod 64 = ((i % 64 : Nat) : Int) := (Int.ofNat_tmod i 64).symm
      rw [this]; omega
    simp only [go_sem, ↓reduceIte, Int.reduceEq, Nat.reduceBEq, Int.reduceBEq, Int.reduceBNe, Int.reduceLT, Int.reduceLE, Nat.reduceAdd, Nat.reducePow, Nat.reduceEqDiff, Nat.reduceLT, Nat.reduceLeDiff, Nat.reduceMul, Nat.reduceSub, Int.reduceToNat, Nat.mul_one, Nat.zero_mul, Nat.zero_add, Nat.add_zero, Nat.one_mul, plA, e1, e2, w_shr _ _ (show i - 64 < 64 by omega), w_and _ (pow_le_lt (div_lt hP)) _ _ rfl, bit_hi (show 64 ≤ i by omega)]
theorem or_call (h98 : fz 79 = .cut) {P Q : Nat} (hP : P < 2 ^ 128) (hQ : Q < 2 ^ 128) {σ : St} : CallsTo (XX fz) (.func 79 []) [plA P, plA Q] σ (plA (P ||| Q)) σ [] := by
  refine CallsTo.cut0 h98 fn79 (by simp) rfl ?_
  simp only [Try.f79, Option.getD_some]
  have e1 := w_or _ _ (lt_mod P) (lt_mod Q)
  have e2 := w_or _ _ (div_lt hP) (div_lt hQ)
  rw [← Nat.or_mod_two_pow] at e1
  rw [← Nat.or_div_two_pow] at e2
  simp only [go_sem, ↓reduceIte, Int.reduceEq, Nat.reduceBEq, Int.reduceBEq, Int.reduceBNe, Int.reduceLT, Int.reduceLE, Nat.reduceAdd, Nat.reducePow, Nat.reduceEqDiff, Nat.reduceLT, Nat.reduceLeDiff, Nat.reduceMul, Nat.reduceSub, Int.reduceToNat, Nat.mul_one, Nat.zero_mul, Nat.zero_add, Nat.add_zero, Nat.one_mul, plA, e1, e2]
  rfl
theorem add_lo {P i : Nat} (h : i < 64) : A.d (.int .u64 ((P % 2 ^ 64 ||| 2 ^ i : Nat) : Int)) :: (plC P).drop 1 = plC (P ||| 2 ^ i) := by
  have hp : 2 ^ i < 2 ^ 64 := Nat.pow_lt_pow_right (by omega) h
  rw [plC, plC, Nat.or_mod_two_pow, Nat.or_div_two_pow, Nat.mod_eq_of_lt hp, Nat.div_eq_of_lt hp, Nat.or_zero]; rfl
theorem add_hi {P i : Nat} (h : 64 ≤ i) : (plC P).set 1 (A.d (.int .u64 ((P / 2 ^ 64 ||| 2 ^ (i - 64) : Nat) : Int))) = plC (P ||| 2 ^ i) := by
  show [A.d (.int .u64 ((P % 2 ^ 64 : Nat) : Int)), A.d (.int .u64 ((P / 2 ^ 64 ||| 2 ^ (i - 64) : Nat) : Int))] = plC (P ||| 2 ^ i)
  have e : 2 ^ i = 2 ^ (i - 64) * 2 ^ 64 := by rw [← Nat.pow_add, Nat.sub_add_cancel h]
  rw [plC, Nat.or_mod_two_pow, Nat.or_div_two_pow, e, Nat.mul_mod_left, Nat.mul_div_cancel _ (by decide), Nat.or_zero]
theorem add_call (h97 : fz 78 = .cut) {P i k : Nat} (hP : P < 2 ^ 128) (hi : i < 128) {σ : St} (hk : σ.get k = .cells (plC P)) (hlt : k < σ.n) : ∃ W, CallsTo (XX fz) (.func 78 []) [.ptr k 0, .d (.int .i64 i)] σ (.tup []) (σ.set k (.cells (plC (P ||| 2 ^ i)))) W ∧ ∀ j ∈ W, j = k := by
  have key := CallsTo.cutM (X := XX fz) (f := 78) (cap := []) (args := [.ptr k 0, .d (.int .i64 i)]) (r := .tup []) (σ := σ) (P := fun σ1 W => σ1.get k = .cells (plC (P ||| 2 ^ i)) ∧ ∀ j ∈ W, j = k) h97 fn78 (by simp) rfl ?_
  · obtain ⟨σ', W', σ1, hcall, hM, hn, hlo, hhi, hP⟩ := key
    have he : σ' = σ.set k (.cells (plC (P ||| 2 ^ i))) := by
      refine St.ext' hn fun j => ?_
      rw [St.get_set]
      by_cases hj : j = k
      · rw [if_pos hj, hj, hlo k hlt]; exact hP.1
      · rw [if_neg hj]
        by_cases hkn : j < σ.n
        · exact hM.same j hkn fun hw => hj (hP.2 j hw)
        · exact hhi j (by omega)
    rw [he] at hcall
    exact ⟨W', hcall, hP.2⟩
  · simp only [Try.f78, Option.getD_some]
    by_cases h : i < 64
    · have e1 : IntKind.i64.wrap ((i : Int).tdiv 64) = 0 := by
        have : (i : Int).tdiv 64 = ((i / 64 : Nat) : Int) := (Int.ofNat_tdiv i 64).symm
        rw [this, wrap_small (by omega) (by omega)]; omega
      have e2 : (i : Int).tmod 64 = ((i : Nat) : Int) := by
        have : (i : Int).tmod 64 = ((i % 64 : Nat) : Int) := (Int.ofNat_tmod i 64).symm
        rw [this]; omega
      simp only [go_sem, ↓reduceIte, Int.reduceEq, Nat.reduceBEq, Int.reduceBEq, Int.reduceBNe, Int.reduceLT, Int.reduceLE, Nat.reduceAdd, Nat.reducePow, Nat.reduceEqDiff, Nat.reduceLT, Nat.reduceLeDiff, Nat.reduceMul, Nat.reduceSub, Int.reduceToNat, Nat.mul_one, Nat.zero_mul, Nat.zero_add, Nat.add_zero, Nat.one_mul, hk, e1, e2, w_shl _ h, w_or _ _ (lt_mod P) (Nat.pow_lt_pow_right (show 1 < 2 by omega) h)]
      have el := add_lo (P := P) h
      rw [show (2 : Nat) ^ 64 = 18446744073709551616 from rfl] at el
      rw [el]
      refine ⟨drawOk_end _ rfl rfl (by kernel_rfl), by simpa using (Mod.refl (σ := σ)).write (k := k) (b := .cells (plC (P ||| 2 ^ i))), fun j hj => ?_, rfl, fun j hj => ?_⟩
      · rw [mem_low] at hj
        rw [if_pos (by simpa using hj.1)]; rfl
      · rw [mem_low] at hj; simpa using hj.1
    · have e1 : IntKind.i64.wrap ((i : Int).tdiv 64) = 1 := by
        have : (i : Int).tdiv 64 = ((i / 64 : Nat) : Int) := (Int.ofNat_tdiv i 64).symm
        rw [this, wrap_small (by omega) (by omega)]; omega
      have e2 : (i : Int).tmod 64 = ((i - 64 : Nat) : Int) := by
        have : (i : Int).tmod 64 = ((i % 64 : Nat) : Int) := (Int.ofNat_tmod i 64).symm
        rw [this]; omega
      have h6 : i - 64 < 64 := by omega
      simp only [go_sem, ↓reduceIte, Int.reduceEq, Nat.reduceBEq, Int.reduceBEq, Int.reduceBNe, Int.reduceLT, Int.reduceLE, Nat.reduceAdd, Nat.reducePow, Nat.reduceEqDiff, Nat.reduceLT, Nat.reduceLeDiff, Nat.reduceMul, Nat.reduceSub, Int.reduceToNat, Nat.mul_one, Nat.zero_mul, Nat.zero_add, Nat.add_zero, Nat.one_mul, hk, e1, e2, w_shl _ h6, w_or _ _ (div_lt hP) (Nat.pow_lt_pow_right (show 1 < 2 by omega) h6)]
      have el := add_hi (P := P) (show 64 ≤ i by omega)
      rw [show (2 : Nat) ^ 64 = 18446744073709551616 from rfl] at el
      rw [el]
      refine ⟨drawOk_end _ rfl rfl (by kernel_rfl), by simpa using (Mod.refl (σ := σ)).write (k := k) (b := .cells (plC (P ||| 2 ^ i))), fun j hj => ?_, rfl, fun j hj => ?_⟩
      · rw [mem_low] at hj
        rw [if_pos (by simpa using hj.1)]; rfl
      · rw [mem_low] at hj; simpa using hj.1
end Go.Am
namespace Go.Am
open Go Go.Proofs
variable {fz : Nat → Md}
theorem CallsTo.keepP {X : X} {f : Nat} {cap args : List A} {F : AFn} {σ : St} {P : A → St → Prop} (hz : X.fz f = .keep) (hF : X.fn f = some F) (hl : args.length + cap.length ≤ F.nt)
    (e : Ev X f F.nt none σ.n [.code F.body] (initTm (args ++ cap) 0 .nil) σ [] (RetQ X F.results fun a σ1 W1 => W1 = [] ∧ P a σ1)) : ∃ a σ', CallsTo X (.func f cap) args σ a σ' [] ∧ P a σ' := by
  obtain ⟨n, o, hn, hq⟩ := e
  cases o with
  | leave _ _ _ => exact hq.elim
  | ret tm σ1 W1 =>
    unfold RetQ at hq
    dsimp only at hq
    split at hq
    · rename_i l hl'
      obtain ⟨rfl, h5⟩ := hq
      exact ⟨_, σ1, CallsTo.ofQ hF hl ⟨n, _, hn, by unfold RetQ; dsimp only; rw [hl']; simp [leaveCall, hz]⟩, h5⟩
    · exact hq.elim
inductive Rl where
  | no | part (x : Ex) | own (xs : List Ex) | map (x : Ex)
def ME (M : List (Nat × Nat)) : List (A × A) := M.map fun e => (.d (.int .i64 (e.1 : Int)), plA e.2)
structure Parts (G : Ex → Nat → Nat → Prop) (σ : St) (T : Nat → Rl) : Prop where
  lt : ∀ k, T k ≠ .no → k < σ.n
  part : ∀ k x, T k = .part x → ∃ own km, σ.get k = .cells [.d (.int .i64 x.kind), .d (.int .i64 x.num), own, .map km] ∧ T km = .map x ∧ ((x.l = [] ∧ own = .d (.slc true [])) ∨ ∃ ko, own = .row ko 0 x.l.length 1 ∧ T ko = .own x.l)
  own : ∀ k xs, T k = .own xs → ∃ cs, σ.get k = .cells cs ∧ cs.length = xs.length ∧ ∀ (i : Nat) (y : Ex), xs[i]? = some y → ∃ kp, cs[i]? = some (A.ptr kp 0) ∧ T kp = .part y
  map : ∀ k x, T k = .map x → ∃ M, σ.get k = .map (ME M) ∧ ∀ e ∈ M, G x e.1 e.2
section
variable {G : Ex → Nat → Nat → Prop} {σ τ : St} {T : Nat → Rl}
theorem Parts.mono (h : Parts G σ T) (hn : σ.n ≤ τ.n) (hg : ∀ k, T k ≠ .no → τ.get k = σ.get k) : Parts G τ T where
  lt k hk := Nat.lt_of_lt_of_le (h.lt k hk) hn
  part k x hk := by rw [hg k (by rw [hk]; simp)]; exact h.part k x hk
  own k x hk := by rw [hg k (by rw [hk]; simp)]; exact h.own k x hk
  map k x hk := by rw [hg k (by rw [hk]; simp)]; exact h.map k x hk
theorem Parts.no (h : Parts G σ T) {k : Nat} (hk : σ.n ≤ k) : T k = .no := by
  cases e : T k with
  | no => rfl
  | _ => have := h.lt k (by rw [e]; simp); omega
def OwnAt (T : Nat → Rl) (lo : Nat) (σ : St) (a : A) (xs : List Ex) : Prop :=
  (xs = [] ∧ a = .d (.slc true [])) ∨ ∃ ko cs, a = .row ko 0 xs.length 1 ∧ lo ≤ ko ∧ ko < σ.n ∧ T ko = .no ∧ σ.get ko = .cells cs ∧ cs.length = xs.length ∧ cs.all A.isCell = true ∧ ∀ (i : Nat) (y : Ex), xs[i]? = some y → ∃ kp, cs[i]? = some (A.ptr kp 0) ∧ T kp = .part y
variable {lo : Nat} {a : A} {xs : List Ex}
theorem OwnAt.refs (h : OwnAt T lo σ a xs) : ∀ j ∈ a.refs, lo ≤ j ∧ j < σ.n ∧ T j = .no := by
  rcases h with ⟨-, rfl⟩ | ⟨ko, cs, rfl, h1, h2, h3, -⟩
  · intro j hj; simp [A.refs] at hj
  · intro j hj; simp [A.refs] at hj; subst hj; exact ⟨h1, h2, h3⟩
theorem OwnAt.cell (h : OwnAt T lo σ a xs) : a.isCell = true := by rcases h with ⟨-, rfl⟩ | ⟨ko, cs, rfl, -⟩ <;> rfl
theorem OwnAt.cells (h : OwnAt T lo σ a xs) : a.cells = some [a] := by rcases h with ⟨-, rfl⟩ | ⟨ko, cs, rfl, -⟩ <;> rfl
theorem OwnAt.stay {T' : Nat → Rl} (h : OwnAt T lo σ a xs) (hn : σ.n ≤ τ.n) (hg : ∀ k ∈ a.refs, τ.get k = σ.get k) (hT : ∀ k, k < σ.n → T' k = T k) (hp : ∀ k, T k ≠ .no → k < σ.n) : OwnAt T' lo τ a xs := by
  rcases h with h | ⟨ko, cs, rfl, h1, h2, h3, h4, h5, h6, h7⟩
  · exact .inl h
  · refine .inr ⟨ko, cs, rfl, h1, by omega, by rw [hT ko h2]; exact h3, by rw [hg ko (by simp [A.refs])]; exact h4, h5, h6, fun i y hi => ?_⟩
    obtain ⟨kp, g1, g2⟩ := h7 i y hi
    exact ⟨kp, g1, by rw [hT kp (hp kp (by rw [g2]; simp))]; exact g2⟩
theorem OwnAt.app (h : OwnAt T lo σ a xs) {k' kp : Nat} {y : Ex} (hk : σ.get k' = .cells [.ptr kp 0]) (hp : T kp = .part y) (hlo : lo ≤ σ.n) (hno : T σ.n = .no) (hne : ∀ j ∈ a.refs, j ≠ k') (hl : xs.length < 1000000000) :
    ∃ a' σ' R, appendA 1 8 σ a (.row k' 0 1 1) = .val a' σ' R [] ∧ OwnAt T lo σ' a' (xs ++ [y]) ∧ σ'.n = σ.n + 1 ∧ (∀ j, j < σ.n → j ∉ a.refs → σ'.get j = σ.get j) ∧ ∀ j ∈ R, j ∈ a.refs := by
  have s1 : sliceCells σ (.row k' 0 1 1) = some [.ptr kp 0] := by simp [sliceCells, hk]
  have s2 : sliceLen σ (.row k' 0 1 1) = some 1 := by simp [sliceLen, alive, hk]
  have hput : ∀ cs : List A, cs.length = xs.length → (∀ (i : Nat) (y : Ex), xs[i]? = some y → ∃ kp, cs[i]? = some (A.ptr kp 0) ∧ T kp = .part y) → ∀ (i : Nat) (z : Ex), (xs ++ [y])[i]? = some z → ∃ kp', (cs ++ [A.ptr kp 0])[i]? = some (A.ptr kp' 0) ∧ T kp' = .part z := by
    intro cs hc h i z hz
    by_cases e : i < xs.length
    · rw [List.getElem?_append_left e] at hz
      rw [List.getElem?_append_left (by omega)]
      exact h i z hz
    · rw [List.getElem?_append_right (by omega)] at hz
      rw [List.getElem?_append_right (by omega), hc]
      have : i - xs.length = 0 := by
        cases q : i - xs.length with
        | zero => rfl
        | succ n => rw [q] at hz; simp at hz
      rw [this] at hz ⊢
      simp at hz
      exact ⟨kp, rfl, by rw [← hz]; exact hp⟩
  rcases h with ⟨rfl, rfl⟩ | ⟨ko, cs, rfl, h1, h2, h3, h4, h5, h6, h7⟩
  · rw [appendA_nil s1 s2 rfl rfl (by omega) (by omega), if_neg (by omega)]
    exact ⟨_, _, _, rfl, .inr ⟨σ.n, [.ptr kp 0], rfl, hlo, by simp [St.n_push], hno, St.get_push_eq, rfl, rfl, by simpa using hput [] rfl (by simp)⟩, by simp [St.n_push], fun j hj _ => St.get_push_ne hj, by simp⟩
  · rw [appendA_row h4 s1 s2 rfl rfl (by omega) (by omega) (by omega), if_neg (by omega)]
    refine ⟨_, _, _, rfl, .inr ⟨σ.n, cs ++ [.ptr kp 0], by simp, hlo, by simp [St.n_push, St.n_set], hno, ?_, by simp [h5], by simp [List.all_append, h6, A.isCell], hput cs h5 h7⟩, by simp [St.n_push, St.n_set], fun j hj hj2 => ?_, by simp [A.refs]⟩
    · have : ((cs.drop 0).take (xs.length * 1)) = cs := by rw [List.drop_zero, List.take_of_length_le (by omega)]
      rw [this]; exact St.get_push_eq' (by simp [St.n_set])
    · simp [A.refs] at hj2
      rw [St.get_push_ne (by rw [St.n_set]; exact hj), St.get_set_ne hj2]
end
set_option maxHeartbeats 4000000 in
theorem partOf_call (h69 : fz 50 = .keep) (G : Ex → Nat → Nat → Prop) (x : Ex) (σ : St) (T : Nat → Rl) (hx : SmallE x) (hP : Parts G σ T) :
    ∃ a σ', CallsTo (XX fz) (.func 50 []) [x.a] σ a σ' [] ∧ ∃ (k : Nat) (T' : Nat → Rl), a = .ptr k 0 ∧ σ.n ≤ σ'.n ∧ (∀ j, j < σ.n → σ'.get j = σ.get j) ∧ Parts G σ' T' ∧ T' k = .part x ∧ ∀ j, j < σ.n → T' j = T j := by
  refine CallsTo.keepP h69 fn50 (by simp) ?_
  simp only [Try.f50, Option.getD_some]
  have hlen := hx.len
  simp only [go_sem, ↓reduceIte, Int.reduceEq, Nat.reduceBEq, Int.reduceBEq, Int.reduceBNe, Int.reduceLT, Int.reduceLE, Nat.reduceAdd, Nat.reducePow, Nat.reduceEqDiff, Nat.reduceLT, Nat.reduceLeDiff, Nat.reduceMul, Nat.reduceSub, Int.reduceToNat, Nat.mul_one, Nat.zero_mul, Nat.zero_add, Nat.add_zero, Nat.one_mul, Ex.a]
  refine Ev.loop_ind (fun m tm τ W => ∃ (i : Nat) (T1 : Nat → Rl) (own : A), m = x.l.length - i ∧ i ≤ x.l.length ∧ W = [] ∧ σ.n + 3 ≤ τ.n ∧ (∀ j, j < σ.n → τ.get j = σ.get j) ∧ (∀ j, j < σ.n + 3 → T1 j = T j) ∧ Parts G τ T1 ∧ OwnAt T1 (σ.n + 3) τ own (x.l.take i) ∧
    τ.get σ.n = .cells x.c ∧ τ.get (σ.n + 1) = .map [] ∧ τ.get (σ.n + 2) = .cells [.d (.int .i64 x.kind), .d (.int .i64 x.num), own, .map (σ.n + 1)] ∧
    tm.at 3 = .ptr (σ.n + 2) 0 ∧ tm.at 14 = x.ld ∧ tm.at 15 = .d (.int .i64 x.l.length) ∧ tm.at 16 = .d (.int .i64 i)) ?_ x.l.length _ _ _
    ⟨0, T, .d (.slc true []), rfl, by omega, rfl, by simp only [St.n_push]; omega, fun j hj => ?_, fun _ _ => rfl, hP.mono (by simp only [St.n_push]; omega) fun k hk => ?_, .inl ⟨by simp, rfl⟩, ?_, ?_, ?_, ?_, ?_, ?_, ?_⟩
  · rintro m tm τ W ⟨i, T1, own, rfl, hi, rfl, hn, hg, hT, hP1, hO, g0, g1, g2, t3, t14, t15, t16⟩ ih
    by_cases hl : i < x.l.length
    · have hget : x.l[i]? = some x.l[i] := by simp [hl]
      have hmem : x.l[i] ∈ x.l := List.getElem_mem hl
      have n2 : σ.n + 2 ≠ τ.n := by omega
      have lz0 : low σ.n [τ.n] = [] := by rw [low_cons_ge (by omega)]; rfl
      simp only [go_sem, ↓reduceIte, Int.reduceEq, Nat.reduceBEq, Int.reduceBEq, Int.reduceBNe, Int.reduceLT, Int.reduceLE, Nat.reduceAdd, Nat.reducePow, Nat.reduceEqDiff, Nat.reduceLT, Nat.reduceLeDiff, Nat.reduceMul, Nat.reduceSub, Int.reduceToNat, Nat.mul_one, Nat.zero_mul, Nat.zero_add, Nat.add_zero, Nat.one_mul, t3, t14, t15, t16, dec_lt' hl, Ex.index_ld hget, g2, n2, lz0]
      generalize hτ2 : (τ.push (Blk.cells [A.d (D.int IntKind.i64 0), A.d (D.int IntKind.i64 0), A.d (D.slc true [])])).set τ.n (Blk.cells x.l[i].c) = τ2
      have hn2 : τ2.n = τ.n + 1 := by rw [← hτ2]; simp [St.n_set, St.n_push]
      have hg2 : ∀ j, j < τ.n → τ2.get j = τ.get j := fun j hj => by rw [← hτ2, St.get_set_ne (by omega), St.get_push_ne hj]
      have hP2 : Parts G τ2 T1 := hP1.mono (by omega) fun k hk => hg2 k (hP1.lt k hk)
      obtain ⟨a, τ3, hcall, kp, T3, rfl, hn3, hg3, hP3, hk3, hT3⟩ := partOf_call h69 G x.l[i] τ2 T1 (hx.sub hmem) hP2
      refine ⟨_, _, _, hcall, ?_⟩
      have hO3 : OwnAt T3 (σ.n + 3) τ3 own (x.l.take i) := hO.stay (by omega) (fun k hk => by have := hO.refs k hk; rw [hg3 k (by omega), hg2 k (by omega)]) (fun k hk => hT3 k (by omega)) (fun k hk => hP1.lt k hk)
      have r0 := hO.refs
      have hno : T3 (τ3.n) = .no := hP3.no (Nat.le_refl _)
      have hO4 : OwnAt T3 (σ.n + 3) (τ3.push (Blk.cells [A.ptr kp 0])) own (x.l.take i) := hO3.stay (by simp only [St.n_push]; omega) (fun k hk => St.get_push_ne (by have := r0 k hk; omega)) (fun _ _ => rfl) (fun k hk => hP3.lt k hk)
      obtain ⟨own', τ5, R, happ, hO5, hn5, hg5, hR⟩ := hO4.app (k' := τ3.n) (kp := kp) (y := x.l[i]) St.get_push_eq hk3 (by simp only [St.n_push]; omega) (hP3.no (by simp only [St.n_push]; omega)) (fun j hj => by have := r0 j hj; omega) (by rw [List.length_take]; omega)
      simp only [St.n_push] at hn5 hg5
      have hg25 : τ5.get (σ.n + 2) = .cells [.d (.int .i64 x.kind), .d (.int .i64 x.num), own, .map (σ.n + 1)] := by
        rw [hg5 _ (by omega) (fun h => by have := r0 _ h; omega), St.get_push_ne (by omega), hg3 _ (by omega), hg2 _ (by omega)]; exact g2
      have hcell := hO5.cell
      have hcells := hO5.cells
      have cp : (A.ptr kp 0).cells = some [A.ptr kp 0] := rfl
      simp only [go_sem, ↓reduceIte, Int.reduceEq, Nat.reduceBEq, Int.reduceBEq, Int.reduceBNe, Int.reduceLT, Int.reduceLE, Nat.reduceAdd, Nat.reducePow, Nat.reduceEqDiff, Nat.reduceLT, Nat.reduceLeDiff, Nat.reduceMul, Nat.reduceSub, Int.reduceToNat, Nat.mul_one, Nat.zero_mul, Nat.zero_add, Nat.add_zero, Nat.one_mul, cp, happ, hg25, hcell, hcells, t3]
      refine ⟨drawOk_rel [8, 11] [(8, 0)] rfl (by kernel_rfl) rfl (by simp [meets]), ?_⟩
      have lzR : low σ.n R = [] := low_all fun k hk => by have := r0 k (hR k hk); omega
      simp only [go_sem, ↓reduceIte, Int.reduceEq, Nat.reduceBEq, Int.reduceBEq, Int.reduceBNe, Int.reduceLT, Int.reduceLE, Nat.reduceAdd, Nat.reducePow, Nat.reduceEqDiff, Nat.reduceLT, Nat.reduceLeDiff, Nat.reduceMul, Nat.reduceSub, Int.reduceToNat, Nat.mul_one, Nat.zero_mul, Nat.zero_add, Nat.add_zero, Nat.one_mul, t16, wrap_succ' hl hlen, lzR]
      have hold : ∀ k, k < τ3.n → k ∉ own.refs → k ≠ σ.n + 2 → (τ5.set (σ.n + 2) (Blk.cells [A.d (D.int IntKind.i64 x.kind), A.d (D.int IntKind.i64 x.num), own', A.map (σ.n + 1)])).get k = τ3.get k := fun k h1 h2 h3 => by
        rw [St.get_set_ne h3, hg5 _ (by omega) h2, St.get_push_ne h1]
      have hnr : ∀ k, k < σ.n + 3 → k ∉ own.refs := fun k hk h => by have := r0 k h; omega
      refine ih _ _ _ _ (by omega) ⟨i + 1, T3, own', rfl, hl, rfl, by simp only [St.n_set]; omega, fun j hj => ?_, fun j hj => ?_, ?_, ?_, ?_, ?_, ?_, by simp only [go_sem, ↓reduceIte, Int.reduceEq, Nat.reduceBEq, Int.reduceBEq, Int.reduceBNe, Int.reduceLT, Int.reduceLE, Nat.reduceAdd, Nat.reducePow, Nat.reduceEqDiff, Nat.reduceLT, Nat.reduceLeDiff, Nat.reduceMul, Nat.reduceSub, t3], by simp only [go_sem, ↓reduceIte, Int.reduceEq, Nat.reduceBEq, Int.reduceBEq, Int.reduceBNe, Int.reduceLT, Int.reduceLE, Nat.reduceAdd, Nat.reducePow, Nat.reduceEqDiff, Nat.reduceLT, Nat.reduceLeDiff, Nat.reduceMul, Nat.reduceSub, t14], by simp only [go_sem, ↓reduceIte, Int.reduceEq, Nat.reduceBEq, Int.reduceBEq, Int.reduceBNe, Int.reduceLT, Int.reduceLE, Nat.reduceAdd, Nat.reducePow, Nat.reduceEqDiff, Nat.reduceLT, Nat.reduceLeDiff, Nat.reduceMul, Nat.reduceSub, t15], by simp only [go_sem, ↓reduceIte, Int.reduceEq, Nat.reduceBEq, Int.reduceBEq, Int.reduceBNe, Int.reduceLT, Int.reduceLE, Nat.reduceAdd, Nat.reducePow, Nat.reduceEqDiff, Nat.reduceLT, Nat.reduceLeDiff, Nat.reduceMul, Nat.reduceSub]⟩
      · rw [hold j (by omega) (hnr j (by omega)) (by omega), hg3 j (by omega), hg2 j (by omega)]; exact hg j hj
      · rw [hT3 j (by omega)]; exact hT j hj
      · refine hP3.mono (by simp only [St.n_set]; omega) fun k hk => hold k (hP3.lt k hk) (fun h => ?_) (fun h => ?_)
        · have := r0 k h
          exact hk (by rw [hT3 k (by omega)]; exact this.2.2)
        · subst h
          exact hk (by rw [hT3 _ (by omega), hT _ (by omega)]; exact hP.no (by omega))
      · rw [List.take_succ_eq_append_getElem hl]
        exact hO5.stay (by simp only [St.n_set]; omega) (fun k hk => by have := hO5.refs k hk; rw [St.get_set_ne (by omega)]) (fun _ _ => rfl) (fun k hk => by have := hP3.lt k hk; omega)
      · rw [hold _ (by omega) (hnr _ (by omega)) (by omega), hg3 _ (by omega), hg2 _ (by omega)]; exact g0
      · rw [hold _ (by omega) (hnr _ (by omega)) (by omega), hg3 _ (by omega), hg2 _ (by omega)]; exact g1
      · rw [St.get_set_eq]
    · rw [List.take_of_length_le (by omega)] at hO
      simp only [go_sem, ↓reduceIte, Int.reduceEq, Nat.reduceBEq, Int.reduceBEq, Int.reduceBNe, Int.reduceLT, Int.reduceLE, Nat.reduceAdd, Nat.reducePow, Nat.reduceEqDiff, Nat.reduceLT, Nat.reduceLeDiff, Nat.reduceMul, Nat.reduceSub, t3, t14, t15, t16, dec_ge' hl]
      have hnoA : T1 (σ.n + 1) = .no := by rw [hT _ (by omega)]; exact hP.no (by omega)
      have hnoB : T1 (σ.n + 2) = .no := by rw [hT _ (by omega)]; exact hP.no (by omega)
      rcases hO with ⟨he, rfl⟩ | ⟨ko, cs, rfl, h1, h2, h3, h4, h5, h6, h7⟩
      · have hTo : ∀ k, T1 k ≠ .no → (if k = σ.n + 2 then Rl.part x else if k = σ.n + 1 then .map x else T1 k) = T1 k := fun k hk => by
          rw [if_neg (fun e => hk (by rw [e]; exact hnoB)), if_neg (fun e => hk (by rw [e]; exact hnoA))]
        refine ⟨σ.n + 2, fun k => if k = σ.n + 2 then .part x else if k = σ.n + 1 then .map x else T1 k, rfl, by omega, hg, ⟨fun k hk => ?_, fun k y hk => ?_, fun k ys hk => ?_, fun k y hk => ?_⟩, by simp, fun j hj => ?_⟩
        · skip
          split at hk
          · omega
          · split at hk
            · omega
            · exact hP1.lt k hk
        · skip
          split at hk
          · rename_i e; cases hk; subst e
            exact ⟨_, _, g2, by simp, .inl ⟨he, rfl⟩⟩
          · split at hk
            · cases hk
            · obtain ⟨own, km, q1, q2, q3⟩ := hP1.part k y hk
              refine ⟨own, km, q1, by (try dsimp only); rw [hTo km (by rw [q2]; simp)]; exact q2, q3.imp id ?_⟩
              rintro ⟨ko, q4, q5⟩
              exact ⟨ko, q4, by (try dsimp only); rw [hTo ko (by rw [q5]; simp)]; exact q5⟩
        · skip
          split at hk
          · cases hk
          · split at hk
            · cases hk
            · obtain ⟨cs, q1, q2, q3⟩ := hP1.own k ys hk
              refine ⟨cs, q1, q2, fun i y hi => ?_⟩
              obtain ⟨kp, q4, q5⟩ := q3 i y hi
              exact ⟨kp, q4, by (try dsimp only); rw [hTo kp (by rw [q5]; simp)]; exact q5⟩
        · skip
          split at hk
          · cases hk
          · split at hk
            · rename_i e; cases hk; subst e
              exact ⟨[], g1, by simp⟩
            · exact hP1.map k y hk
        · (try dsimp only)
          rw [if_neg (by omega), if_neg (by omega)]; exact hT j (by omega)
      · have hTo : ∀ k, T1 k ≠ .no → (if k = σ.n + 2 then Rl.part x else if k = σ.n + 1 then .map x else if k = ko then .own x.l else T1 k) = T1 k := fun k hk => by
          rw [if_neg (fun e => hk (by rw [e]; exact hnoB)), if_neg (fun e => hk (by rw [e]; exact hnoA)), if_neg (fun e => hk (by rw [e]; exact h3))]
        refine ⟨σ.n + 2, fun k => if k = σ.n + 2 then .part x else if k = σ.n + 1 then .map x else if k = ko then .own x.l else T1 k, rfl, by omega, hg, ⟨fun k hk => ?_, fun k y hk => ?_, fun k ys hk => ?_, fun k y hk => ?_⟩, by simp, fun j hj => ?_⟩
        · skip
          split at hk
          · omega
          · split at hk
            · omega
            · split at hk
              · omega
              · exact hP1.lt k hk
        · skip
          split at hk
          · rename_i e; cases hk; subst e
            exact ⟨_, _, g2, by simp, .inr ⟨ko, rfl, by (try dsimp only); rw [if_neg (by omega), if_neg (by omega), if_pos rfl]⟩⟩
          · split at hk
            · cases hk
            · split at hk
              · cases hk
              · obtain ⟨own, km, q1, q2, q3⟩ := hP1.part k y hk
                refine ⟨own, km, q1, by (try dsimp only); rw [hTo km (by rw [q2]; simp)]; exact q2, q3.imp id ?_⟩
                rintro ⟨ko, q4, q5⟩
                exact ⟨ko, q4, by (try dsimp only); rw [hTo ko (by rw [q5]; simp)]; exact q5⟩
        · skip
          split at hk
          · cases hk
          · split at hk
            · cases hk
            · split at hk
              · rename_i e; cases hk; subst e
                refine ⟨cs, h4, h5, fun i y hi => ?_⟩
                obtain ⟨kp, q4, q5⟩ := h7 i y hi
                exact ⟨kp, q4, by (try dsimp only); rw [hTo kp (by rw [q5]; simp)]; exact q5⟩
              · obtain ⟨cs, q1, q2, q3⟩ := hP1.own k ys hk
                refine ⟨cs, q1, q2, fun i y hi => ?_⟩
                obtain ⟨kp, q4, q5⟩ := q3 i y hi
                exact ⟨kp, q4, by (try dsimp only); rw [hTo kp (by rw [q5]; simp)]; exact q5⟩
        · skip
          split at hk
          · cases hk
          · split at hk
            · rename_i e; cases hk; subst e
              exact ⟨[], g1, by simp⟩
            · split at hk
              · cases hk
              · exact hP1.map k y hk
        · (try dsimp only)
          rw [if_neg (by omega), if_neg (by omega), if_neg (by omega)]; exact hT j (by omega)
  · rw [St.get_push_ne (by simp only [St.n_push]; omega), St.get_push_ne (by simp only [St.n_push]; omega), St.get_push_ne hj]
  · have := hP.lt k hk
    rw [St.get_push_ne (by simp only [St.n_push]; omega), St.get_push_ne (by simp only [St.n_push]; omega), St.get_push_ne this]
  all_goals first | rfl | (simp only [go_sem, ↓reduceIte, Int.reduceEq, Nat.reduceBEq, Int.reduceBEq, Int.reduceBNe, Int.reduceLT, Int.reduceLE, Nat.reduceAdd, Nat.reducePow, Nat.reduceEqDiff, Nat.reduceLT, Nat.reduceLeDiff, Nat.reduceMul, Nat.reduceSub]; done) | (simp only [go_sem, ↓reduceIte, Int.reduceEq, Nat.reduceBEq, Int.reduceBEq, Int.reduceBNe, Int.reduceLT, Int.reduceLE, Nat.reduceAdd, Nat.reducePow, Nat.reduceEqDiff, Nat.reduceLT, Nat.reduceLeDiff, Nat.reduceMul, Nat.reduceSub]; rfl)
termination_by x
decreasing_by exact Ex.sub_lt hmem
end Go.Am
namespace Go.Am
open Go Go.Proofs
variable {fz : Nat → Md}
inductive Dx (bs : List Ex) (l : List Int) : Ex ⊕ List Ex → Nat → Nat → Prop
  | tok {x : Ex} {i : Nat} : x.kind = 1 → l[i]? = some x.num → Dx bs l (.inl x) i (i + 1)
  | call {x y : Ex} {i j : Nat} : x.kind = 2 → bs[x.num.toNat]? = some y → Dx bs l (.inl y) i j → Dx bs l (.inl x) i j
  | alt {x y : Ex} {i j : Nat} : x.kind = 4 → y ∈ x.l → Dx bs l (.inl y) i j → Dx bs l (.inl x) i j
  | opt0 {x : Ex} {i : Nat} : x.kind = 6 → Dx bs l (.inl x) i i
  | opt1 {x y : Ex} {i j : Nat} : x.kind = 6 → x.l = [y] → Dx bs l (.inl y) i j → Dx bs l (.inl x) i j
  | star0 {x : Ex} {i : Nat} : x.kind = 5 → Dx bs l (.inl x) i i
  | star1 {x y : Ex} {i k j : Nat} : x.kind = 5 → x.l = [y] → Dx bs l (.inl x) i k → Dx bs l (.inl y) k j → Dx bs l (.inl x) i j
  | seq {x : Ex} {i j : Nat} : (x.kind ≠ 1 ∧ x.kind ≠ 2 ∧ x.kind ≠ 4 ∧ x.kind ≠ 5 ∧ x.kind ≠ 6) → Dx bs l (.inr x.l) i j → Dx bs l (.inl x) i j
  | nil {i : Nat} : Dx bs l (.inr []) i i
  | cons {y : Ex} {r : List Ex} {i k j : Nat} : Dx bs l (.inl y) i k → Dx bs l (.inr r) k j → Dx bs l (.inr (y :: r)) i j
def Der (bs : List Ex) (l : List Int) (x : Ex) (i j : Nat) : Prop := Dx bs l (.inl x) i j
def DerL (bs : List Ex) (l : List Int) (xs : List Ex) (i j : Nat) : Prop := Dx bs l (.inr xs) i j
section
variable {bs : List Ex} {l : List Int}
theorem Dx.le {w : Ex ⊕ List Ex} {i j : Nat} (h : Dx bs l w i j) : i ≤ j := by
  induction h <;> omega
theorem Dx.len {w : Ex ⊕ List Ex} {i j : Nat} (h : Dx bs l w i j) : i ≤ l.length → j ≤ l.length := by
  induction h with
  | tok _ h => intro _; have := (List.getElem?_eq_some_iff.1 h).1; omega
  | star1 _ _ _ _ h1 h2 => exact fun h => h2 (h1 h)
  | cons _ _ h1 h2 => exact fun h => h2 (h1 h)
  | _ => simp_all
theorem DerL.append {xs ys : List Ex} {i j k : Nat} (h1 : DerL bs l xs i j) (h2 : DerL bs l ys j k) : DerL bs l (xs ++ ys) i k := by
  induction xs generalizing i with
  | nil => cases h1; exact h2
  | cons x xs ih => cases h1 with | cons a b => exact .cons a (ih b)
theorem DerL.split {xs ys : List Ex} {i k : Nat} (h : DerL bs l (xs ++ ys) i k) : ∃ j, DerL bs l xs i j ∧ DerL bs l ys j k := by
  induction xs generalizing i with
  | nil => exact ⟨i, .nil, h⟩
  | cons x xs ih =>
    cases h with
    | cons a b =>
      obtain ⟨j, h1, h2⟩ := ih b
      exact ⟨j, .cons a h1, h2⟩
theorem DerL.one {y : Ex} {i j : Nat} : DerL bs l [y] i j ↔ Der bs l y i j := by
  constructor
  · intro h
    cases h with
    | cons a b => cases b; exact a
  · exact fun h => .cons h .nil
theorem Dx.null {q : Int → Bool} {t : Int} {r : Nat} (hcl : ∀ (n : Int) (y : Ex), 0 ≤ n → bs[n.toNat]? = some y → canE false q y = true → q n = true) (hok : ∀ y ∈ bs, okE t r y) {w : Ex ⊕ List Ex} {i j : Nat} (h : Dx bs l w i j) :
    i = j → match w with
      | .inl x => okE t r x → canE false q x = true
      | .inr xs => (∀ x ∈ xs, okE t r x) → ∀ x ∈ xs, canE false q x = true := by
  induction h with
  | tok h1 h2 => intro h; omega
  | @call x y i j h1 h2 h3 ih =>
    intro e; dsimp only; intro ho
    rw [canE_eq, if_neg (by rw [h1]; decide), if_pos h1]
    exact hcl _ y (ho.call h1).1 h2 (ih e (hok y (List.mem_of_getElem? h2)))
  | @alt x y i j h1 h2 h3 ih =>
    intro e; dsimp only; intro ho
    rw [canE_eq, if_neg (by rw [h1]; decide), if_neg (by rw [h1]; decide), if_pos h1]
    exact List.any_eq_true.2 ⟨y, h2, ih e (ho.sub h2)⟩
  | opt0 h1 => intro _; dsimp only; intro _; rw [canE_eq, h1]; rfl
  | opt1 h1 h2 h3 => intro _; dsimp only; intro _; rw [canE_eq, h1]; rfl
  | star0 h1 => intro _; dsimp only; intro _; rw [canE_eq, h1]; rfl
  | star1 h1 h2 h3 => intro _; dsimp only; intro _; rw [canE_eq, h1]; rfl
  | @seq x i j h1 h2 ih =>
    intro e; dsimp only; intro ho
    rw [canE_eq, if_neg h1.1, if_neg h1.2.1, if_neg h1.2.2.1]
    split
    · have := ih e fun y hy => ho.sub hy
      simpa using this
    · rfl
  | nil => intro _; dsimp only; intro _ x hx; cases hx
  | @cons y r i k j h1 h2 ih1 ih2 =>
    intro e; dsimp only; intro ho x hx
    have a := h1.le
    have b := h2.le
    rcases List.mem_cons.1 hx with rfl | hx
    · exact ih1 (by omega) (ho x (by simp))
    · exact ih2 (by omega) (fun z hz => ho z (by simp [hz])) x hx
end
inductive Beg (q : Int → Bool) : Ex → Nat → Prop
  | call {x : Ex} : x.kind = 2 → Beg q x x.num.toNat
  | sub {x y : Ex} {n : Nat} : x.kind ≠ 3 → y ∈ x.l → Beg q y n → Beg q x n
  | seq {x y : Ex} {pre post : List Ex} {n : Nat} : x.l = pre ++ y :: post → (∀ z ∈ pre, canE false q z = true) → Beg q y n → Beg q x n
def IsEnd (bs : List Ex) (l : List Int) (x : Ex) (i P : Nat) : Prop := ∀ j, P.testBit j = true ↔ Der bs l x i j
def IsEndL (bs : List Ex) (l : List Int) (xs : List Ex) (i P : Nat) : Prop := ∀ j, P.testBit j = true ↔ DerL bs l xs i j
theorem pow_lt {n P : Nat} (hn : n ≤ 64) (h : ∀ j, P.testBit j = true → j ≤ n) : P < 2 ^ 128 := by
  apply Nat.lt_pow_two_of_testBit
  intro i hi
  cases e : P.testBit i with
  | false => rfl
  | true => have := h i e; omega
theorem IsEnd.lt {bs : List Ex} {l : List Int} {x : Ex} {i P : Nat} (h : IsEnd bs l x i P) (hi : i ≤ l.length) (hl : l.length ≤ 64) : P < 2 ^ 128 := pow_lt hl fun j hj => ((h j).1 hj).len hi
def intsD (l : List Int) : List (List D) := l.map fun n => [.int .i64 n]
def TokAt (σ : St) (a : A) (l : List Int) : Prop := (∃ z, a = .d (.slc z (intsD l))) ∨ ∃ k, a = .row k 0 l.length 1 ∧ k < σ.n ∧ σ.get k = .cells (((intsD l).flatMap id).map A.d)
theorem intsD_one (l : List Int) : ∀ x ∈ intsD l, x.length = 1 := by intro x hx; obtain ⟨n, -, rfl⟩ := List.mem_map.1 hx; rfl
theorem intsD_len (l : List Int) : (intsD l).length = l.length := by simp [intsD]
theorem TokAt.sl {σ : St} {a : A} {l : List Int} (h : TokAt σ a l) : SlV 1 σ a (intsD l) := by
  rcases h with ⟨z, rfl⟩ | ⟨k, rfl, hk, hc⟩
  · exact SlV.data (intsD_one l)
  · exact RowAt.sl (bs := [k]) (by omega) ⟨intsD_one l, .inr ⟨k, by rw [intsD_len], hc, hk, rfl⟩⟩
theorem TokAt.stay {σ τ : St} {a : A} {l : List Int} (h : TokAt σ a l) (hn : σ.n ≤ τ.n) (hg : ∀ k, k < σ.n → (∃ cs, σ.get k = .cells cs) → τ.get k = σ.get k) : TokAt τ a l := by
  rcases h with ⟨z, rfl⟩ | ⟨k, rfl, hk, hc⟩
  · exact .inl ⟨z, rfl⟩
  · exact .inr ⟨k, rfl, by omega, by rw [hg k hk ⟨_, hc⟩]; exact hc⟩
theorem TokAt.cell {σ : St} {a : A} {l : List Int} (h : TokAt σ a l) : a.isCell = true := by rcases h with ⟨z, rfl⟩ | ⟨k, rfl, -⟩ <;> rfl
theorem TokAt.cells {σ : St} {a : A} {l : List Int} (h : TokAt σ a l) : a.cells = some [a] := by rcases h with ⟨z, rfl⟩ | ⟨k, rfl, -⟩ <;> rfl
theorem TokAt.len {σ : St} {a : A} {l : List Int} (h : TokAt σ a l) : sliceLen σ a = some l.length := by rw [h.sl.len, intsD_len]
theorem eq_int {σ : St} {a b : Int} : eqT (XX fz) σ 8 3 (.d (.int .i64 a)) (.d (.int .i64 b)) = some (a == b) := by
  rw [eqT, ti3]; rfl
theorem key_int {a : Int} : keyT (XX fz) 8 3 (.d (.int .i64 a)) = true := by rw [keyT, ti3]
theorem find_ME {σ : St} {i : Nat} : ∀ (M : List (Nat × Nat)) (off : Nat), (∃ n P, M[n]? = some (i, P) ∧ mapFind (XX fz) σ 3 (.d (.int .i64 (i : Int))) (ME M) off = some (some (off + n, plA P))) ∨
    mapFind (XX fz) σ 3 (.d (.int .i64 (i : Int))) (ME M) off = some none
  | [], _ => .inr rfl
  | (j, P) :: M, off => by
    have hME : ME ((j, P) :: M) = (.d (.int .i64 (j : Int)), plA P) :: ME M := rfl
    rw [hME, mapFind, eq_int]
    by_cases e : i = j
    · subst e
      left; exact ⟨0, P, rfl, by simp⟩
    · have : ((i : Int) == (j : Int)) = false := by rw [beq_eq_false_iff_ne]; omega
      rw [this]; dsimp only
      rcases find_ME M (off + 1) with ⟨n, Q, h1, h2⟩ | h
      · left; exact ⟨n + 1, Q, by simpa using h1, by rw [h2]; congr 3; omega⟩
      · right; exact h
theorem upd_ME {σ : St} {i P r : Nat} (M : List (Nat × Nat)) : ∃ M', updB (XX fz) σ 3 (.d (.int .i64 (i : Int))) (plA P) r (.map (ME M)) = .val .top (σ.set r (.map (ME M'))) [r] [] ∧ ∀ e ∈ M', e ∈ M ∨ e = (i, P) := by
  unfold updB
  dsimp only
  rw [key_int, if_neg (by simp)]
  rcases find_ME (fz := fz) (σ := σ) (i := i) M 0 with ⟨n, Q, h1, h2⟩ | h
  · rw [h2]; dsimp only
    have hn : (ME M)[0 + n]? = some (.d (.int .i64 (i : Int)), plA Q) := by rw [Nat.zero_add, ME, List.getElem?_map, h1]; rfl
    rw [hn]; dsimp only
    have hs : sameK σ (A.d (D.int IntKind.i64 ↑i)) (A.d (D.int IntKind.i64 ↑i)) = true := by simp [sameK, sameK1]
    rw [if_pos hs]
    refine ⟨M.set n (i, P), by rw [Nat.zero_add, ME, ME, List.map_set], fun e he => ?_⟩
    rcases List.mem_or_eq_of_mem_set he with h | h
    · exact .inl h
    · exact .inr h
  · rw [h]; dsimp only
    exact ⟨M ++ [(i, P)], by simp [ME], fun e he => by simpa using he⟩
theorem ME_under (M : List (Nat × Nat)) (n : Nat) : (Blk.map (ME M)).under n = true := by
  show (ME M).all _ = true
  rw [List.all_eq_true]
  intro e he
  obtain ⟨p, -, rfl⟩ := List.mem_map.1 he
  rfl
end Go.Am
namespace Go.Am
open Go Go.Proofs
variable {fz : Nat → Md}
theorem CallsTo.cutE {X : X} {f : Nat} {cap args : List A} {F : AFn} {σ : St} {P : A → St → List Nat → Prop} (hz : X.fz f = .cut) (hF : X.fn f = some F) (hl : args.length + cap.length ≤ F.nt)
    (e : Ev X f F.nt none σ.n [.code F.body] (initTm (args ++ cap) 0 .nil) σ [] (RetQ X F.results fun a σ1 W1 => a.under σ.n = true ∧ Mod σ σ1 W1 ∧ (∀ k, k ∈ W1 → (σ1.get k).under σ.n = true) ∧ P a σ1 W1)) :
    ∃ a σ' W' σ1, CallsTo X (.func f cap) args σ a σ' W' ∧ Mod σ σ' W' ∧ σ'.n = σ.n ∧ (∀ k, k < σ.n → σ'.get k = σ1.get k) ∧ P a σ1 W' := by
  obtain ⟨n, o, hn, hq⟩ := e
  cases o with
  | leave _ _ _ => exact hq.elim
  | ret tm σ1 W1 =>
    unfold RetQ at hq
    dsimp only at hq
    split at hq
    · rename_i l hl'
      obtain ⟨hr, h4, h5, h6⟩ := hq
      refine ⟨_, cutSt σ σ1 W1, W1, σ1, CallsTo.ofQ hF hl ⟨n, _, hn, ?_⟩, ⟨by rw [n_cutSt]; exact Nat.le_refl _, fun k _ hk => by rw [get_cutSt, if_neg hk], h4.lt⟩, n_cutSt _ _ _, fun k hk => ?_, h6⟩
      · unfold RetQ; dsimp only; rw [hl']
        simp [leaveCall, hz, hr]
        exact fun k hk e => absurd (h5 k hk) (by rw [e]; simp)
      · rw [get_cutSt]; split
        · rfl
        · rename_i h; exact (h4.same k hk h).symm
    · exact hq.elim
section
variable (bs : List Ex) (l : List Int)
def Fact (x : Ex) (i P : Nat) : Prop := i ≤ l.length ∧ IsEnd bs l x i P
structure Chart (T : Nat → Rl) (kc lo : Nat) (σ : St) : Prop where
  n : lo ≤ σ.n
  parts : Parts (Fact bs l) σ T
  plt : ∀ k, T k ≠ .no → k < lo
  no : T kc = .no
  lt : kc < lo
  cell : ∃ tk kb, σ.get kc = .cells [tk, .row kb 0 bs.length 1] ∧ T kb = .own bs ∧ TokAt σ tk l ∧ ∀ k ∈ tk.refs, k < lo ∧ T k = .no
end
section
variable {bs : List Ex} {l : List Int} {T : Nat → Rl} {kc lo : Nat} {σ τ ρ : St}
theorem Chart.mono (h : Chart bs l T kc lo σ) (hn : lo ≤ τ.n) (hg : ∀ k, k < lo → (∀ x, T k ≠ .map x) → τ.get k = σ.get k) (hm : ∀ k x, T k = .map x → ∃ M, τ.get k = .map (ME M) ∧ ∀ e ∈ M, Fact bs l x e.1 e.2) : Chart bs l T kc lo τ where
  n := hn
  parts := by
    refine ⟨fun k hk => Nat.lt_of_lt_of_le (h.plt k hk) hn, fun k x hk => ?_, fun k x hk => ?_, hm⟩
    · rw [hg k (h.plt k (by rw [hk]; simp)) (by rw [hk]; simp)]; exact h.parts.part k x hk
    · rw [hg k (h.plt k (by rw [hk]; simp)) (by rw [hk]; simp)]; exact h.parts.own k x hk
  plt := h.plt
  no := h.no
  lt := h.lt
  cell := by
    obtain ⟨tk, kb, h1, h2, h3, h4⟩ := h.cell
    refine ⟨tk, kb, by rw [hg kc h.lt (by rw [h.no]; simp)]; exact h1, h2, ?_, h4⟩
    rcases h3 with ⟨z, rfl⟩ | ⟨k, rfl, q1, q2⟩
    · exact .inl ⟨z, rfl⟩
    · have := h4 k (by simp [A.refs])
      exact .inr ⟨k, rfl, by omega, by rw [hg k this.1 (by rw [this.2]; simp)]; exact q2⟩
theorem Chart.same (h : Chart bs l T kc lo σ) (hn : lo ≤ τ.n) (hg : ∀ k, k < lo → τ.get k = σ.get k) : Chart bs l T kc lo τ :=
  h.mono hn (fun k hk _ => hg k hk) fun k x hk => by rw [hg k (h.plt k (by rw [hk]; simp))]; exact h.parts.map k x hk
structure Fr (bs : List Ex) (l : List Int) (T : Nat → Rl) (kc lo : Nat) (σ τ : St) (W : List Nat) : Prop where
  ch : Chart bs l T kc lo τ
  mod : Mod σ τ W
  maps : ∀ k ∈ W, k < lo ∧ ∃ y, T k = .map y
variable {W S : List Nat} {k : Nat} {b : Blk}
theorem Fr.init (h : Chart bs l T kc lo σ) : Fr bs l T kc lo σ σ [] := ⟨h, Mod.refl, by simp⟩
theorem Fr.push (h : Fr bs l T kc lo σ τ W) : Fr bs l T kc lo σ (τ.push b) W :=
  ⟨h.ch.same (by rw [St.n_push]; have := h.ch.n; omega) fun k hk => St.get_push_ne (by have := h.ch.n; omega), h.mod.push, h.maps⟩
theorem Fr.set (h : Fr bs l T kc lo σ τ W) (hlo : lo ≤ σ.n) (hk : σ.n ≤ k) : Fr bs l T kc lo σ (τ.set k b) W :=
  ⟨h.ch.same (by rw [St.n_set]; exact h.ch.n) fun j hj => St.get_set_ne (by omega), h.mod.set hk, h.maps⟩
theorem Fr.call (h : Fr bs l T kc lo σ τ W) (g : Fr bs l T kc lo τ ρ S) : Fr bs l T kc lo σ ρ (W ++ low σ.n S) :=
  ⟨g.ch, h.mod.call g.mod, fun k hk => by
    rw [List.mem_append, mem_low] at hk
    exact hk.elim (h.maps k) fun q => g.maps k q.1⟩
theorem Fr.keep (h : Fr bs l T kc lo σ τ W) {k : Nat} (hk : k < σ.n) (hlo : lo ≤ k) : τ.get k = σ.get k := h.mod.same k hk fun hw => by have := (h.maps k hw).1; omega
end
def EndSpec (fz : Nat → Md) (bs : List Ex) (l : List Int) (T : Nat → Rl) (kc lo : Nat) (x : Ex) (i : Nat) : Prop :=
  ∀ (kp : Nat) (σ : St), T kp = .part x → Chart bs l T kc lo σ → ∃ P σ' W, CallsTo (XX fz) (.func 51 []) [.ptr kc 0, .ptr kp 0, .d (.int .i64 (i : Int))] σ (plA P) σ' W ∧ IsEnd bs l x i P ∧ Fr bs l T kc lo σ σ' W ∧ σ'.n = σ.n
theorem end_fin (h70 : fz 51 = .cut) {bs : List Ex} {l : List Int} {T : Nat → Rl} {kc lo : Nat} {x : Ex} {i kp : Nat} {σ : St} (hC : Chart bs l T kc lo σ)
    (e : Ev (XX fz) 51 154 none σ.n [.code (Try.f51.body.getD .skip)] (initTm [.ptr kc 0, .ptr kp 0, .d (.int .i64 (i : Int))] 0 .nil) σ [] (RetQ (XX fz) [.cell 6 102] fun a σ1 W1 => ∃ P, a = plA P ∧ IsEnd bs l x i P ∧ Fr bs l T kc lo σ σ1 W1)) :
    ∃ P σ' W, CallsTo (XX fz) (.func 51 []) [.ptr kc 0, .ptr kp 0, .d (.int .i64 (i : Int))] σ (plA P) σ' W ∧ IsEnd bs l x i P ∧ Fr bs l T kc lo σ σ' W ∧ σ'.n = σ.n := by
  have key := CallsTo.cutE (X := XX fz) (f := 51) (cap := []) (args := [.ptr kc 0, .ptr kp 0, .d (.int .i64 (i : Int))]) (σ := σ) (P := fun a σ1 W1 => ∃ P, a = plA P ∧ IsEnd bs l x i P ∧ Fr bs l T kc lo σ σ1 W1) h70 fn51 (by simp) ?_
  · obtain ⟨a, σ', W', σ1, hcall, hM, hn, hlo, P, rfl, hE, hF⟩ := key
    exact ⟨P, σ', W', hcall, hE, ⟨hF.ch.same (by rw [hn]; exact hC.n) fun k hk => hlo k (by have := hC.n; omega), hM, hF.maps⟩, hn⟩
  · obtain ⟨n, o, hn, hq⟩ := e
    refine ⟨n, o, hn, ?_⟩
    cases o with
    | leave _ _ _ => exact hq.elim
    | ret tm σ1 W1 =>
      unfold RetQ at hq ⊢
      dsimp only at hq ⊢
      have e2 : Try.f51.results.toList = [.cell 6 102] := rfl
      split at hq
      · rename_i r hr
        obtain ⟨P, h1, h2, h3⟩ := hq
        refine ⟨by rw [h1]; rfl, h3.mod, fun k hk => ?_, P, h1, h2, h3⟩
        obtain ⟨y, hy⟩ := (h3.maps k hk).2
        obtain ⟨M, q1, -⟩ := h3.ch.parts.map k y hy
        rw [q1]; exact ME_under _ _
      · exact hq.elim
theorem end_tail (h70 : fz 51 = .cut) {bs : List Ex} {l : List Int} {T : Nat → Rl} {kc lo : Nat} {x : Ex} {i kp : Nat} {σ : St} (hi : i ≤ l.length) (hlo : lo ≤ σ.n) (hp : T kp = .part x) (tm : Tm) (τ : St) (W : List Nat) (P : Nat) (P0 : Nat) (hF : Fr bs l T kc lo σ τ W) (hn : σ.n + 4 ≤ τ.n) (hE : IsEnd bs l x i P)
    (g6 : τ.get σ.n = .cells (plC P0)) (g10 : τ.get (σ.n + 3) = .cells (plC P)) (t1 : tm.at 1 = .ptr kp 0) (t2 : tm.at 2 = .d (.int .i64 (i : Int))) (t6 : tm.at 6 = .ptr σ.n 0) (t10 : tm.at 10 = .ptr (σ.n + 3) 0) :
    Ev (XX fz) 51 154 none σ.n [.code (Code.r (Code.r (Code.r (Code.r (Code.r (Try.f51.body.getD .skip))))))] tm τ W (RetQ (XX fz) [.cell 6 102] fun a σ1 W1 => ∃ P, a = plA P ∧ IsEnd bs l x i P ∧ Fr bs l T kc lo σ σ1 W1) := by
  simp only [Try.f51, Option.getD_some, Code.r]
  obtain ⟨own, km, hk, hkm, -⟩ := hF.ch.parts.part kp x hp
  obtain ⟨M, hM, hMf⟩ := hF.ch.parts.map km x hkm
  have lk := hF.ch.plt km (by rw [hkm]; simp)
  obtain ⟨M', hu, hM'⟩ := upd_ME (fz := fz) (σ := τ) (i := i) (P := P) (r := km) M
  have m6 : σ.n ≠ km := by omega
  have m10 : σ.n + 3 ≠ km := by omega
  have hc : (plA P) = .agg (plC P) := rfl
  rw [hc] at hu
  have lz : low σ.n [σ.n] = [] := low_n0
  have lkm : low σ.n [km] = [km] := by rw [low_cons_lt (by omega)]; rfl
  simp only [go_sem, ↓reduceIte, Int.reduceEq, Nat.reduceBEq, Int.reduceBEq, Nat.reduceAdd, Nat.reduceEqDiff, Nat.reduceLT, Nat.reduceSub, Int.reduceToNat, Nat.mul_one, Nat.zero_mul, Nat.zero_add, Nat.add_zero, Nat.one_mul, t1, t2, t6, t10, hk, g6, g10, hM, hu, m6, m10, lz, lkm]
  refine ⟨drawOk_end _ rfl rfl (by kernel_rfl), P, rfl, hE, ⟨?_, ?_, ?_⟩⟩
  · refine hF.ch.mono (by simp only [St.n_set]; exact hF.ch.n) (fun k h1 h2 => ?_) fun k y hy => ?_
    · rw [St.get_set_ne (by omega), St.get_set_ne (fun e => h2 x (by rw [e]; exact hkm))]
    · have hlt := hF.ch.plt k (by rw [hy]; simp)
      rw [St.get_set_ne (by omega)]
      by_cases e : k = km
      · subst e
        rw [hkm] at hy; cases hy
        refine ⟨M', by rw [St.get_set_eq], fun p hp' => ?_⟩
        rcases hM' p hp' with h | rfl
        · exact hMf p h
        · exact ⟨hi, hE⟩
      · rw [St.get_set_ne e]; exact hF.ch.parts.map k y hy
  · have := hF.mod.write (k := km) (b := .map (ME M'))
    rw [lkm] at this
    exact this.set (Nat.le_refl _)
  · intro k hk'
    rcases List.mem_append.1 hk' with h | h
    · exact hF.maps k h
    · simp at h; subst h; exact ⟨lk, x, hkm⟩
end Go.Am

/- Part E1 of a proof that runs a program's calls on a small machine whose values bear no addresses: no conditions. -/
import Derived.Test.YtbppacknigeiaaaAmF1
import Derived.Test.YtbppacknigeiaaaAmD1
import Derived.Test.YtbppacknigeiaaaAmM6
import Derived.Test.YtbppacknigeiaaaAmM5
set_option autoImplicit false
set_option linter.unusedSimpArgs false
set_option linter.unusedVariables false
set_option linter.unusedSectionVars false
namespace Go.Am
open Go Go.Proofs
def bringP (i n : Int) : Int := if n ≤ 0 then 0 else if i.tmod n < 0 then IntKind.i64.wrap (i.tmod n + n) else i.tmod n
theorem bring_call {fz : Nat → Md} (h26 : fz 18 = .cut) (i n : Int) (σ : St) : CallsTo (XX fz) (.func 18 []) [.d (.int .i64 i), .d (.int .i64 n)] σ (.d (.int .i64 (bringP i n))) σ [] := by
  refine CallsTo.cut0 h26 fn18 (by simp) rfl ?_
  simp only [Try.f18, Option.getD_some]
  unfold bringP
  simp only [go_sem, ↓reduceIte, Int.reduceEq, Nat.reduceBEq, Int.reduceBEq, Nat.reduceAdd, Nat.reduceEqDiff, Nat.reduceLT, Nat.reduceSub]
  by_cases h : n ≤ 0
  · have h1 : decide (n ≤ 0) = true := by simpa using h
    simp only [go_sem, ↓reduceIte, Int.reduceEq, Nat.reduceBEq, Int.reduceBEq, Nat.reduceAdd, Nat.reduceEqDiff, Nat.reduceLT, Nat.reduceSub, h1, h]
  · have h1 : decide (n ≤ 0) = false := by simpa using h
    simp only [go_sem, ↓reduceIte, Int.reduceEq, Nat.reduceBEq, Int.reduceBEq, Nat.reduceAdd, Nat.reduceEqDiff, Nat.reduceLT, Nat.reduceSub, h1, h, bin_rem (show n ≠ 0 by omega)]
    by_cases h2 : i.tmod n < 0
    · have h3 : decide (i.tmod n < 0) = true := by simpa using h2
      simp only [go_sem, ↓reduceIte, Int.reduceEq, Nat.reduceBEq, Int.reduceBEq, Nat.reduceAdd, Nat.reduceEqDiff, Nat.reduceLT, Nat.reduceSub, h3, h2]
    · have h3 : decide (i.tmod n < 0) = false := by simpa using h2
      simp only [go_sem, ↓reduceIte, Int.reduceEq, Nat.reduceBEq, Int.reduceBEq, Nat.reduceAdd, Nat.reduceEqDiff, Nat.reduceLT, Nat.reduceSub, h3, h2]
theorem bring_lt {i n : Int} (h : 0 < n) (hn : n < 1000000000) : 0 ≤ bringP i n ∧ bringP i n < n := by
  unfold bringP
  rw [if_neg (by omega)]
  have h1 := Int.tmod_lt_of_pos i h
  have h2 : -n < i.tmod n := by
    have := Int.lt_tmod_of_pos i h; omega
  split
  · rw [wrap_small (by omega) (by omega)]; omega
  · omega

end Go.Am
namespace Go.Am
open Go Go.Proofs
variable {fz : Nat → Md}
/-- a call that is frozen, whatever it has written -/
theorem CallsTo.iceE {X : X} {f : Nat} {args : List A} {F : AFn} {r : A} {σ : St} {P : St → List Nat → Prop} (hz : X.fz f = .ice) (hF : X.fn f = some F) (hl : args.length ≤ F.nt)
    (e : Ev X f F.nt none σ.n [.code F.body] (initTm args 0 .nil) σ [] (RetQ X F.results fun a σ1 W1 => freezeV σ1 σ.n fzDepth a = some r ∧ Mod σ σ1 W1 ∧ (∀ k, k ∈ W1 → (σ1.get k).under σ.n = true) ∧ P σ1 W1)) :
    ∃ σ' W' σ1, CallsTo X (.func f []) args σ r σ' W' ∧ Mod σ σ' W' ∧ σ'.n = σ.n ∧ (∀ k, k < σ.n → σ'.get k = σ1.get k) ∧ P σ1 W' := by
  obtain ⟨n, o, hn, hq⟩ := e
  cases o with
  | leave _ _ _ => exact hq.elim
  | ret tm σ1 W1 =>
    unfold RetQ at hq
    dsimp only at hq
    split at hq
    · rename_i l hl'
      obtain ⟨hr, h4, h5, h6⟩ := hq
      refine ⟨cutSt σ σ1 W1, W1, σ1, CallsTo.ofQ hF (by simpa using hl) ⟨n, _, by rw [List.append_nil]; exact hn, ?_⟩, ⟨by rw [n_cutSt]; exact Nat.le_refl _, fun k _ hk => by rw [get_cutSt, if_neg hk], h4.lt⟩, n_cutSt _ _ _, fun k hk => ?_, h6⟩
      · unfold RetQ; dsimp only; rw [hl']
        simp [leaveCall, hz, hr]
        first | exact h5 | exact fun k hk => h5 k hk | exact fun k hk e => absurd (h5 k hk) (by rw [e]; simp)
      · rw [get_cutSt]; split
        · rfl
        · rename_i h; exact (h4.same k hk h).symm
    · exact hq.elim
/-- where a walk's memory lies -/
structure WP where
  kw : Nat
  kk : Nat
  ke : Nat
  ka : Nat → Nat
  kb : Nat → Nat
  tag : Nat → Nat
  lo : Nat
  n : Nat
  L : Nat
structure WP.Ok (P : WP) : Prop where
  tw : P.tag P.kw = 0
  tk : P.tag P.kk = 1
  te : P.tag P.ke = 2
  ta : ∀ r, r < P.n → P.tag (P.ka r) = 10 + 2 * r
  tb : ∀ r, r < P.n → P.tag (P.kb r) = 11 + 2 * r
  lw : P.kw < P.lo
  lk : P.kk < P.lo
  le : P.ke < P.lo
  la : ∀ r, r < P.n → P.ka r < P.lo
  lb : ∀ r, r < P.n → P.kb r < P.lo
/-- what is answered of a rule and a place -/
abbrev Bits := Nat → Nat → List Bool
structure WkM (P : WP) (N : Nv) (X : Nx) (tok : D) (bits : Bits) (σ : St) : Prop where
  cell : σ.get P.kw = .cells [.d N.esD, .d (slD X.en), .d (slD X.lv), .d tok, .row P.kk 0 P.n 1, .row P.ke 0 P.n 1]
  gk : σ.get P.kk = .cells ((List.range P.n).map fun r => .row (P.ka r) 0 (P.L + 1) 1)
  ge : σ.get P.ke = .cells ((List.range P.n).map fun r => .row (P.kb r) 0 (P.L + 1) 1)
  rows : ∀ r, r < P.n → ∃ (b : List Bool) (ds : List D), σ.get (P.ka r) = .cells (bA b) ∧ b.length = P.L + 1 ∧ σ.get (P.kb r) = .cells (ds.map A.d) ∧ ds.length = P.L + 1 ∧ ∀ i, i ≤ P.L → b.getD i false = true → ds[i]? = some (.slc false (boolsD (bits r i)))
theorem WkM.stay {P : WP} {N : Nv} {X : Nx} {tok : D} {bits : Bits} {σ τ : St} (h : WkM P N X tok bits σ) (hP : P.Ok) (hg : ∀ k, k < P.lo → τ.get k = σ.get k) : WkM P N X tok bits τ where
  cell := by rw [hg _ hP.lw]; exact h.cell
  gk := by rw [hg _ hP.lk]; exact h.gk
  ge := by rw [hg _ hP.le]; exact h.ge
  rows r hr := by rw [hg _ (hP.la r hr), hg _ (hP.lb r hr)]; exact h.rows r hr
theorem WkM.under {P : WP} {N : Nv} {X : Nx} {tok : D} {bits : Bits} {σ : St} (h : WkM P N X tok bits σ) {k n : Nat} (hk : ∃ r, r < P.n ∧ (k = P.ka r ∨ k = P.kb r)) : (σ.get k).under n = true := by
  obtain ⟨r, hr, hk⟩ := hk
  obtain ⟨b, ds, h1, -, h3, -⟩ := h.rows r hr
  rcases hk with rfl | rfl
  · rw [h1]; exact bA_under b n
  · rw [h3]
    show A.underL n (ds.map A.d) = true
    clear h1 h3
    induction ds with
    | nil => rfl
    | cons d ds ih => rw [List.map_cons, A.underL, ih]; rfl
def Mine (P : WP) (k : Nat) : Prop := ∃ r, r < P.n ∧ (k = P.ka r ∨ k = P.kb r)
theorem Mine.tag {P : WP} (hP : P.Ok) {k : Nat} (h : Mine P k) : 10 ≤ P.tag k ∧ k < P.lo := by
  obtain ⟨r, hr, h | h⟩ := h
  · rw [h, hP.ta r hr]; exact ⟨by omega, hP.la r hr⟩
  · rw [h, hP.tb r hr]; exact ⟨by omega, hP.lb r hr⟩
/-- what the call of a rule does -/
def RuleSpec (fz : Nat → Md) (P : WP) (N : Nv) (X : Nx) (tok : D) (bits : Bits) (r i : Nat) : Prop := ∀ σ : St, WkM P N X tok bits σ → P.lo ≤ σ.n →
  ∃ σ' W, CallsTo (XX fz) (.func 36 []) [.ptr P.kw 0, .d (.int .i64 (r : Int)), .d (.int .i64 (i : Int))] σ (.d (.slc false (boolsD (bits r i)))) σ' W ∧ Mod σ σ' W ∧ σ'.n = σ.n ∧ WkM P N X tok bits σ' ∧ ∀ k ∈ W, Mine P k
def FromSpec (fz : Nat → Md) (P : WP) (N : Nv) (X : Nx) (tok : D) (bits : Bits) (r i : Nat) : Prop := ∀ σ : St, WkM P N X tok bits σ → P.lo ≤ σ.n →
  ∃ σ' W, CallsTo (XX fz) (.func 78 []) [.ptr P.kw 0, .d (.int .i64 (X.en.getD r 0)), .d (.int .i64 (i : Int)), .d (.int .i64 (X.lv.getD r 0))] σ (.d (.slc false (boolsD (bits r i)))) σ' W ∧ Mod σ σ' W ∧ σ'.n = σ.n ∧ WkM P N X tok bits σ' ∧ ∀ k ∈ W, Mine P k
set_option maxHeartbeats 4000000 in
theorem rule_c36 (h36 : fz 36 = .cut) {P : WP} (hP : P.Ok) {N : Nv} {X : Nx} {tok : D} {bits : Bits} {r i : Nat} (hr : r < P.n) (hi : i ≤ P.L) (hen : r < X.en.length) (hlv : r < X.lv.length) (hf : FromSpec fz P N X tok bits r i) : RuleSpec fz P N X tok bits r i := by
  intro σ hM hlo
  obtain ⟨b, ds, g1, g2, g3, g4, g5⟩ := hM.rows r hr
  have la := hP.la r hr
  have lb := hP.lb r hr
  have lw := hP.lw
  have lk := hP.lk
  have le := hP.le
  have ik : ∀ τ : St, indexR τ 1 P.kk 0 P.n 1 (r : Int) (.cells ((List.range P.n).map fun r => A.row (P.ka r) 0 (P.L + 1) 1)) = .val (.ptr P.kk (0 + r * 1)) τ [] [P.kk] := fun τ => indexR_nat hr
  have ie : ∀ τ : St, indexR τ 1 P.ke 0 P.n 1 (r : Int) (.cells ((List.range P.n).map fun r => A.row (P.kb r) 0 (P.L + 1) 1)) = .val (.ptr P.ke (0 + r * 1)) τ [] [P.ke] := fun τ => indexR_nat hr
  have ia : ∀ (τ : St) (b : List Bool), indexR τ 1 (P.ka r) 0 (P.L + 1) 1 (i : Int) (.cells (bA b)) = .val (.ptr (P.ka r) (0 + i * 1)) τ [] [P.ka r] := fun τ b => indexR_nat (by omega)
  have ib : ∀ (τ : St) (ds : List D), indexR τ 1 (P.kb r) 0 (P.L + 1) 1 (i : Int) (.cells (ds.map A.d)) = .val (.ptr (P.kb r) (0 + i * 1)) τ [] [P.kb r] := fun τ b => indexR_nat (by omega)
  simp only [Nat.zero_add, Nat.mul_one] at ik ie ia ib
  have ck : ((List.range P.n).map fun r => A.row (P.ka r) 0 (P.L + 1) 1)[r]? = some (.row (P.ka r) 0 (P.L + 1) 1) := by simp [hr]
  have ce : ((List.range P.n).map fun r => A.row (P.kb r) 0 (P.L + 1) 1)[r]? = some (.row (P.kb r) 0 (P.L + 1) 1) := by simp [hr]
  have cb := bA_get (l := b) (i := i) (by omega)
  have key := CallsTo.cutE (X := XX fz) (f := 36) (cap := []) (args := [.ptr P.kw 0, .d (.int .i64 (r : Int)), .d (.int .i64 (i : Int))]) (σ := σ) (P := fun a σ1 W1 => a = .d (.slc false (boolsD (bits r i))) ∧ WkM P N X tok bits σ1 ∧ ∀ k ∈ W1, Mine P k) h36 fn36 (by simp) ?_
  · obtain ⟨a, σ', W', σ1, c1, c2, c3, c4, rfl, c5, c6⟩ := key
    exact ⟨σ', W', c1, c2, c3, c5.stay hP fun k hk => c4 k (by omega), c6⟩
  simp only [Try.f36, Option.getD_some]
  cases hb : b.getD i false with
  | true =>
    have cd : (ds.map A.d)[i]? = some (.d (.slc false (boolsD (bits r i)))) := by rw [List.getElem?_map, g5 i hi hb]; rfl
    simp only [go_sem, ↓reduceIte, Int.reduceEq, Nat.reduceBEq, Int.reduceBEq, Nat.reduceAdd, Nat.reduceEqDiff, Nat.reduceLT, Nat.reduceSub, hM.cell, hM.gk, hM.ge, ik, ie, ck, ce, g1, g3, ia, ib, cb, cd, hb]
    exact ⟨rfl, Mod.refl, (fun k hk => by cases hk), hM, fun k hk => by cases hk⟩
  | false =>
    have in1 := fun (σ : St) => index_sl (σ := σ) (kd := .i64) hen
    have in2 := fun (σ : St) => index_sl (σ := σ) (kd := .i64) hlv
    obtain ⟨σ2, T2, c2, M2, n2, W2, t2⟩ := hf σ hM hlo
    obtain ⟨b', ds', q1, q2, q3, q4, q5⟩ := W2.rows r hr
    have cb' := bA_get (l := b') (i := i) (by omega)
    have nab : P.ka r ≠ P.kb r := fun e => by have h1 := hP.ta r hr; have h2 := hP.tb r hr; rw [e] at h1; omega
    have nka : P.kk ≠ P.ka r := fun e => by have h1 := hP.ta r hr; have h2 := hP.tk; rw [← e] at h1; omega
    have nkb : P.kk ≠ P.kb r := fun e => by have h1 := hP.tb r hr; have h2 := hP.tk; rw [← e] at h1; omega
    have nea : P.ke ≠ P.ka r := fun e => by have h1 := hP.ta r hr; have h2 := hP.te; rw [← e] at h1; omega
    have neb : P.ke ≠ P.kb r := fun e => by have h1 := hP.tb r hr; have h2 := hP.te; rw [← e] at h1; omega
    have nwa : P.kw ≠ P.ka r := fun e => by have h1 := hP.ta r hr; have h2 := hP.tw; rw [← e] at h1; omega
    have nwb : P.kw ≠ P.kb r := fun e => by have h1 := hP.tb r hr; have h2 := hP.tw; rw [← e] at h1; omega
    have hbl : i < (bA b').length := by rw [bA_len]; omega
    have hdl : i < (ds'.map A.d).length := by rw [List.length_map]; omega
    have hset : (ds'.map A.d).set i (.d (.slc false (boolsD (bits r i)))) = (ds'.set i (.slc false (boolsD (bits r i)))).map A.d := by rw [List.map_set]
    have hgd : ((ds'.set i (.slc false (boolsD (bits r i)))).map A.d)[i]? = some (.d (.slc false (boolsD (bits r i)))) := by
      rw [List.getElem?_map, List.getElem?_set_self (by omega)]; rfl
    have tw : ∀ k ∈ T2, k ≠ P.kw ∧ k ≠ P.ke := fun k hk => by
      have := (t2 k hk).tag hP
      exact ⟨fun e => by rw [e, hP.tw] at this; omega, fun e => by rw [e, hP.te] at this; omega⟩
    have lT : low σ.n T2 = T2 := List.filter_eq_self.2 fun k hk => by simpa using M2.lt k hk
    have lwr : ∀ k, k < P.lo → low σ.n [k] = [k] := fun k hk => by rw [low_cons_lt (by omega)]; rfl
    simp only [go_sem, ↓reduceIte, Int.reduceEq, Nat.reduceBEq, Int.reduceBEq, Nat.reduceAdd, Nat.reduceEqDiff, Nat.reduceLT, Nat.reduceSub, hM.cell, hM.gk, hM.ge, ik, ie, ck, ce, g1, g3, ia, ib, cb, hb, in1, in2]
    refine ⟨_, _, _, c2, ?_⟩
    simp only [go_sem, ↓reduceIte, Int.reduceEq, Nat.reduceBEq, Int.reduceBEq, Nat.reduceAdd, Nat.reduceEqDiff, Nat.reduceLT, Nat.reduceSub, q1, q3, ib, hdl, hset]
    refine ⟨drawOk_rel [26, 28] [(26, 0), (26, 1), (26, 2), (26, 3), (26, 4), (26, 5), (26, 6), (26, 7)] rfl (by kernel_rfl) rfl (by simp [meets]; exact ⟨fun k hk => (tw k hk).1, fun k hk => (tw k hk).2⟩), ?_⟩
    simp only [go_sem, ↓reduceIte, Int.reduceEq, Nat.reduceBEq, Int.reduceBEq, Nat.reduceAdd, Nat.reduceEqDiff, Nat.reduceLT, Nat.reduceSub, W2.cell, W2.gk, W2.ge, nab, nka, nkb, nea, neb, nwa, nwb, nab.symm, ik, ie, ck, ce, ia, ib, q1, hbl, bA_set, hgd, lT, lwr _ la, lwr _ lb]
    have mine : ∀ k, k ∈ T2 ++ [P.kb r] ++ [P.ka r] → Mine P k := fun k hk => by
      simp only [List.mem_append, List.mem_singleton] at hk
      rcases hk with (hk | rfl) | rfl
      · exact t2 k hk
      · exact ⟨r, hr, .inr rfl⟩
      · exact ⟨r, hr, .inl rfl⟩
    have get : ∀ k, k ≠ P.ka r → k ≠ P.kb r → ((σ2.set (P.kb r) (.cells ((ds'.set i (.slc false (boolsD (bits r i)))).map A.d))).set (P.ka r) (.cells (bA (b'.set i true)))).get k = σ2.get k := fun k h1 h2 => by
      rw [St.get_set_ne h1, St.get_set_ne h2]
    have hW : WkM P N X tok bits ((σ2.set (P.kb r) (.cells ((ds'.set i (.slc false (boolsD (bits r i)))).map A.d))).set (P.ka r) (.cells (bA (b'.set i true)))) := by
      refine ⟨by rw [get _ nwa nwb]; exact W2.cell, by rw [get _ nka nkb]; exact W2.gk, by rw [get _ nea neb]; exact W2.ge, fun r' hr' => ?_⟩
      by_cases hrr : r' = r
      · subst hrr
        refine ⟨b'.set i true, ds'.set i (.slc false (boolsD (bits r' i))), St.get_set_eq, by rw [List.length_set]; exact q2, by rw [St.get_set_ne nab.symm, St.get_set_eq], by rw [List.length_set]; exact q4, fun j hj hbj => ?_⟩
        by_cases hji : j = i
        · subst hji; exact List.getElem?_set_self (by omega)
        · rw [List.getElem?_set_ne (Ne.symm hji)]
          refine q5 j hj ?_
          rw [List.getD_eq_getElem?_getD, List.getElem?_set_ne (Ne.symm hji), ← List.getD_eq_getElem?_getD] at hbj; exact hbj
      · obtain ⟨b3, ds3, p1, p2, p3, p4, p5⟩ := W2.rows r' hr'
        have ta := hP.ta r hr; have tb := hP.tb r hr; have ta' := hP.ta r' hr'; have tb' := hP.tb r' hr'
        exact ⟨b3, ds3, by rw [get _ (fun e => by rw [e] at ta'; omega) (fun e => by rw [e] at ta'; omega)]; exact p1, p2, by rw [get _ (fun e => by rw [e] at tb'; omega) (fun e => by rw [e] at tb'; omega)]; exact p3, p4, p5⟩
    refine ⟨rfl, ⟨by simp only [St.n_set]; omega, fun k h1 h2 => ?_, fun k hk => by have := ((mine k hk).tag hP).2; omega⟩, fun k hk => hW.under (mine k hk), hW, mine⟩
    simp only [List.mem_append, List.mem_singleton, not_or] at h2
    rw [get k h2.2 h2.1.2]
    exact M2.same k h1 h2.1.1
end Go.Am
namespace Go.Am
open Go Go.Proofs
variable {fz : Nat → Md}
/-- pairs in a row -/
def pairsA (l : List (Nat × Nat)) : List A := l.flatMap fun x => [A.d (.int .i64 (x.1 : Int)), A.d (.int .i64 (x.2 : Int))]
theorem pairsA_len : ∀ l : List (Nat × Nat), (pairsA l).length = 2 * l.length
  | [] => rfl
  | x :: l => by
    have := pairsA_len l
    simp only [pairsA, List.flatMap_cons, List.length_append, List.length_cons, List.length_nil] at this ⊢; omega
def TodoP (lo : Nat) (σ : St) (a : A) (todo : List (Nat × Nat)) (k : Nat) : Prop := ∃ off cs, a = .row k off todo.length 2 ∧ σ.get k = .cells cs ∧ off + 2 * todo.length = cs.length ∧ cs.drop off = pairsA todo ∧ lo ≤ k ∧ k < σ.n
theorem TodoP.stay {lo k : Nat} {σ τ : St} {a : A} {todo : List (Nat × Nat)} (h : TodoP lo σ a todo k) (hn : σ.n ≤ τ.n) (hg : τ.get k = σ.get k) : TodoP lo τ a todo k := by
  obtain ⟨off, cs, h1, h2, h3, h4, h5, h6⟩ := h
  exact ⟨off, cs, h1, hg.trans h2, h3, h4, h5, by omega⟩
theorem TodoP.app {lo k : Nat} {σ : St} {a : A} {todo : List (Nat × Nat)} {j n m : Nat} (h : TodoP lo σ a todo k) (hj : σ.get j = .cells [.d (.int .i64 (n : Int)), .d (.int .i64 (m : Int))]) (hl : todo.length < 1000000000) (hlo : lo ≤ σ.n) :
    ∃ a' σ' T, appendA 2 16 σ a (.row j 0 1 2) = .val a' σ' T [] ∧ TodoP lo σ' a' (todo ++ [(n, m)]) σ.n ∧ σ'.n = σ.n + 1 ∧ (∀ i, i < σ.n → i ≠ k → σ'.get i = σ.get i) ∧ ∀ i ∈ T, lo ≤ i := by
  obtain ⟨off, cs, rfl, hk, h3, h4, h5, h6⟩ := h
  rw [appendA_row hk (new := [.d (.int .i64 (n : Int)), .d (.int .i64 (m : Int))]) (n := 1) (by rw [sliceCells_row hj (by simp)]; rfl) (by rw [sliceLen_row, hj]; rfl) rfl rfl (by omega) (by omega) (by omega), if_neg (by omega)]
  refine ⟨_, _, _, rfl, ⟨0, _, by rw [List.length_append]; rfl, by rw [St.get_push_eq' (by rw [St.n_set])], ?_, ?_, hlo, by simp [St.n_push, St.n_set]⟩, by simp [St.n_push, St.n_set], fun i hi hne => ?_, by simpa using h5⟩
  · rw [h4, List.length_append, List.length_append, List.length_take, pairsA_len]; simp; omega
  · rw [List.drop_zero, h4, List.take_of_length_le (by rw [pairsA_len]; omega)]; simp [pairsA]
  · rw [St.get_push_ne (by rw [St.n_set]; exact hi), St.get_set_ne hne]
theorem TodoP.tail {lo k s p : Nat} {σ : St} {a : A} {todo : List (Nat × Nat)} (h : TodoP lo σ a ((s, p) :: todo) k) :
    ∃ off cs, a = .row k off (todo.length + 1) 2 ∧ σ.get k = .cells cs ∧ cs[off]? = some (.d (.int .i64 (s : Int))) ∧ cs[off + 1]? = some (.d (.int .i64 (p : Int))) ∧ off + 2 ≤ cs.length ∧ TodoP lo σ (.row k (off + 2) todo.length 2) todo k := by
  obtain ⟨off, cs, rfl, hk, h3, h4, h5, h6⟩ := h
  have h4' : cs.drop off = A.d (.int .i64 (s : Int)) :: A.d (.int .i64 (p : Int)) :: pairsA todo := h4
  refine ⟨off, cs, rfl, hk, ?_, ?_, by simp only [List.length_cons] at h3; omega, off + 2, cs, rfl, hk, by simp only [List.length_cons] at h3; omega, ?_, h5, h6⟩
  · have : (cs.drop off)[0]? = some (.d (.int .i64 (s : Int))) := by rw [h4']; rfl
    rw [List.getElem?_drop, Nat.add_zero] at this; exact this
  · have : (cs.drop off)[1]? = some (.d (.int .i64 (p : Int))) := by rw [h4']; rfl
    rw [List.getElem?_drop] at this; exact this
  · rw [← List.drop_drop, h4']; rfl
theorem slice_lo2 {tm : Tm} {σ : St} {a : Nat} {k off n : Nat} {cs : List A} {dst : Option Nat} {ty : Nat} {pos : String} {af : Array Edge} {g : Option (Nat × Bool)} (ha : tm.at a = .row k off (n + 1) 2) (hk : σ.get k = .cells cs) :
    evalOp (XX fz) tm σ { dst := dst, op := Op.slice 142 (Operand.tmp a) (some (Operand.const (Value.int IntKind.i64 1))) none none, type := ty, pos := pos, after := af, guard := g } = .val (.row k (off + 2) n 2) σ [] [k] := by
  have h2 : bnd tm (some (Operand.const (Value.int IntKind.i64 1))) 0 = some 1 := rfl
  have h3 : bnd tm none (n + 1) = some (n + 1) := rfl
  unfold evalOp
  simp only [ti142, ti141, ev, ha, h2, h3, hk]
  rw [if_pos (by refine ⟨by omega, by omega, trivial⟩), Nat.add_sub_cancel, Nat.one_mul]
/-- places, read -/
def Rd (k : Nat) (σ : St) (a : A) (tb : List Bool) : Prop := a = .d (.slc false (boolsD tb)) ∨ (a = .row k 0 tb.length 1 ∧ σ.get k = .cells (bA tb))
theorem Rd.stay {k : Nat} {σ τ : St} {a : A} {tb : List Bool} (h : Rd k σ a tb) (hg : τ.get k = σ.get k) : Rd k τ a tb := h.imp id fun q => ⟨q.1, hg.trans q.2⟩
theorem Rd.eq {k : Nat} {σ : St} {a a' : A} {tb : List Bool} (h : Rd k σ a tb) (e : a' = a) : Rd k σ a' tb := e ▸ h
theorem Rd.len {k : Nat} {σ : St} {a : A} {tb : List Bool} (h : Rd k σ a tb) : sliceLen σ a = some tb.length := by
  rcases h with rfl | ⟨rfl, h⟩
  · simp [sliceLen, boolsD]
  · rw [sliceLen_row, h]; rfl
theorem Rd.idx {k : Nat} {σ : St} {a : A} {tb : List Bool} (h : Rd k σ a tb) {i : Nat} (hi : i < tb.length) : ∃ Pp R R2, indexK σ 1 a (.d (.int .i64 (i : Int))) = .val Pp σ [] R ∧ loadK σ (some { kind := TK.bool, size := 1, bytes := 1, zero := some [A.d (D.bool false)], zval := A.d (D.bool false) }) Pp = .val (.d (.bool (tb.getD i false))) σ [] R2 := by
  rcases h with rfl | ⟨rfl, h⟩
  · exact ⟨_, _, _, index_bools hi, rfl⟩
  · have hg := bA_get hi
    refine ⟨.ptr k (0 + i * 1), [k], [k], ?_, ?_⟩
    · rw [indexK_row, h]; exact indexR_nat hi
    · rw [loadK_ptr, h, loadB_cells, Nat.zero_add, Nat.mul_one]
      show loadV σ [k] (partOf false 1 (bA tb) i) = _
      rw [partOf_f, hg]; rfl
/-- how much is not seen -/
def uns (ns : Nat) (sb : Nat → List Bool) : Nat := ((List.range ns).map fun s => falses (sb s)).sum
def updS (sb : Nat → List Bool) (s p : Nat) : Nat → List Bool := fun j => if j = s then (sb s).set p true else sb j
theorem uns_upd {sb : Nat → List Bool} {s p : Nat} (h : (sb s)[p]? = some false) : ∀ {ns : Nat}, s < ns → uns ns (updS sb s p) + 1 = uns ns sb
  | 0, hs => by omega
  | ns + 1, hs => by
    unfold uns
    rw [List.range_succ, List.map_append, List.map_append, List.sum_append, List.sum_append]
    simp only [List.map_cons, List.map_nil, List.sum_cons, List.sum_nil, Nat.add_zero]
    by_cases e : s = ns
    · subst e
      have h1 : ((List.range s).map fun j => falses (updS sb s p j)) = (List.range s).map fun j => falses (sb j) := List.map_congr_left fun j hj => by
        rw [List.mem_range] at hj
        unfold updS; rw [if_neg (by omega)]
      have h2 : updS sb s p s = (sb s).set p true := if_pos rfl
      rw [h1, h2]
      have := falses_set _ _ h
      omega
    · have h2 : updS sb s p ns = sb ns := if_neg (Ne.symm e)
      have := uns_upd h (ns := ns) (by omega)
      unfold uns at this
      rw [h2]; omega
theorem uns_0 (ns L : Nat) : uns ns (fun _ => List.replicate L false) = ns * L := by
  induction ns with
  | zero => simp [uns]
  | succ n ih =>
    unfold uns at ih ⊢
    rw [List.range_succ, List.map_append, List.sum_append, ih]
    simp [falses_rep]; rw [Nat.add_mul]; omega
end Go.Am
namespace Go.Am
open Go Go.Proofs
variable {fz : Nat → Md}
/-- the place of a state's row -/
def srB (n s : Nat) : Nat := n + 2 + s
theorem srB_eq (n s : Nat) : srB n s = n + 2 + s := rfl
/-- what from has at hand -/
structure BF (P : WP) (N : Nv) (X : Nx) (tok : D) (bits : Bits) (σ : St) (sb : Nat → List Bool) (ob : List Bool) (τ : St) (W : List Nat) : Prop where
  mod : Mod σ τ W
  mine : ∀ k ∈ W, Mine P k
  wk : WkM P N X tok bits τ
  n : σ.n + 2 + N.es.length ≤ τ.n
  go : τ.get σ.n = .cells (bA ob)
  ol : ob.length = P.L + 1
  gS : τ.get (σ.n + 1) = .cells ((List.range N.es.length).map fun s => .row (srB σ.n s) 0 (P.L + 1) 1)
  gs : ∀ s, s < N.es.length → τ.get (srB σ.n s) = .cells (bA (sb s)) ∧ (sb s).length = P.L + 1
theorem BF.stay {P : WP} (hP : P.Ok) {N : Nv} {X : Nx} {tok : D} {bits : Bits} {σ : St} {sb : Nat → List Bool} {ob : List Bool} {τ ρ : St} {W : List Nat} (h : BF P N X tok bits σ sb ob τ W) (hlo : P.lo ≤ σ.n) (hn : τ.n ≤ ρ.n) (hg : ∀ k, k < σ.n + 2 + N.es.length → ρ.get k = τ.get k) : BF P N X tok bits σ sb ob ρ W where
  mod := ⟨Nat.le_trans h.mod.n hn, fun k h1 h2 => by rw [hg k (by omega)]; exact h.mod.same k h1 h2, h.mod.lt⟩
  mine := h.mine
  wk := h.wk.stay hP fun k hk => hg k (by omega)
  n := Nat.le_trans h.n hn
  go := by rw [hg _ (by omega)]; exact h.go
  ol := h.ol
  gS := by rw [hg _ (by omega)]; exact h.gS
  gs s hs := by rw [hg _ (by rw [srB_eq]; omega)]; exact h.gs s hs
theorem BF.out {P : WP} (hP : P.Ok) {N : Nv} {X : Nx} {tok : D} {bits : Bits} {σ : St} {sb : Nat → List Bool} {ob : List Bool} {τ : St} {W : List Nat} (h : BF P N X tok bits σ sb ob τ W) (hlo : P.lo ≤ σ.n) {ob' : List Bool} (hl : ob'.length = ob.length) : BF P N X tok bits σ sb ob' (τ.set σ.n (.cells (bA ob'))) W where
  mod := h.mod.set (Nat.le_refl _)
  mine := h.mine
  wk := h.wk.stay hP fun k hk => St.get_set_ne (by omega)
  n := by rw [St.n_set]; exact h.n
  go := St.get_set_eq
  ol := by rw [hl]; exact h.ol
  gS := by rw [St.get_set_ne (by omega)]; exact h.gS
  gs s hs := by rw [St.get_set_ne (by rw [srB_eq]; omega)]; exact h.gs s hs
theorem BF.see {P : WP} (hP : P.Ok) {N : Nv} {X : Nx} {tok : D} {bits : Bits} {σ : St} {sb : Nat → List Bool} {ob : List Bool} {τ : St} {W : List Nat} (h : BF P N X tok bits σ sb ob τ W) (hlo : P.lo ≤ σ.n) {s p : Nat} (hs : s < N.es.length) : BF P N X tok bits σ (updS sb s p) ob (τ.set (srB σ.n s) (.cells (bA ((sb s).set p true)))) W where
  mod := h.mod.set (by rw [srB_eq]; omega)
  mine := h.mine
  wk := h.wk.stay hP fun k hk => St.get_set_ne (by rw [srB_eq]; omega)
  n := by rw [St.n_set]; exact h.n
  go := by rw [St.get_set_ne (by rw [srB_eq]; omega)]; exact h.go
  ol := h.ol
  gS := by rw [St.get_set_ne (by rw [srB_eq]; omega)]; exact h.gS
  gs s' hs' := by
    unfold updS
    by_cases e : s' = s
    · subst e; rw [St.get_set_eq, if_pos rfl]; exact ⟨rfl, by rw [List.length_set]; exact (h.gs s' hs').2⟩
    · rw [St.get_set_ne (by rw [srB_eq, srB_eq]; omega), if_neg e]; exact h.gs s' hs'
theorem BF.call {P : WP} {N : Nv} {X : Nx} {tok : D} {bits : Bits} {σ : St} {sb : Nat → List Bool} {ob : List Bool} {τ ρ : St} {W T : List Nat} (h : BF P N X tok bits σ sb ob τ W) (hP : P.Ok) (hlo : P.lo ≤ σ.n) (hm : Mod τ ρ T) (ht : ∀ k ∈ T, Mine P k) (hw : WkM P N X tok bits ρ) : BF P N X tok bits σ sb ob ρ (W ++ low σ.n T) where
  mod := h.mod.call hm
  mine k hk := by
    rcases List.mem_append.1 hk with hk | hk
    · exact h.mine k hk
    · exact ht k (mem_low.1 hk).1
  wk := hw
  n := Nat.le_trans h.n hm.n
  go := by rw [hm.same _ (by have := h.n; omega) (fun hk => by have := ((ht _ hk).tag hP).2; omega)]; exact h.go
  ol := h.ol
  gS := by rw [hm.same _ (by have := h.n; omega) (fun hk => by have := ((ht _ hk).tag hP).2; omega)]; exact h.gS
  gs s hs := by rw [hm.same _ (by have := h.n; rw [srB_eq]; omega) (fun hk => by have := ((ht _ hk).tag hP).2; rw [srB_eq] at this; omega)]; exact h.gs s hs
def seenC (σn ns L j : Nat) : List A := (List.range ns).map fun s => if s < j then .row (srB σn s) 0 (L + 1) 1 else .d (.slc true [])
theorem rep_map (n : Nat) (x : A) : rep n [x] = (List.range n).map fun _ => x := by
  induction n with
  | zero => rfl
  | succ n ih => rw [rep_succ, ih, List.range_succ_eq_map]; simp [Function.comp_def]
theorem seenC_0 (σn ns L : Nat) : rep ns [A.d (.slc true [])] = seenC σn ns L 0 := by
  rw [rep_map]; unfold seenC; exact List.map_congr_left fun s _ => by rw [if_neg (by omega)]
theorem seenC_len (σn ns L j : Nat) : (seenC σn ns L j).length = ns := by simp [seenC]
theorem seenC_set (σn ns L j : Nat) (hj : j < ns) : (seenC σn ns L j).set j (.row (srB σn j) 0 (L + 1) 1) = seenC σn ns L (j + 1) := by
  apply List.ext_getElem?
  intro k
  by_cases e : k = j
  · subst e
    rw [List.getElem?_set_self (by rw [seenC_len]; exact hj)]
    simp [seenC, hj]
  · rw [List.getElem?_set_ne (Ne.symm e)]
    unfold seenC
    rw [List.getElem?_map, List.getElem?_map]
    cases hk : (List.range ns)[k]? with
    | none => rfl
    | some x =>
      have hx : x = k := by
        have := (List.getElem?_eq_some_iff.1 hk).2; rw [List.getElem_range] at this; exact this.symm
      subst hx
      simp only [Option.map_some]
      congr 1
      by_cases c : x < j
      · rw [if_pos c, if_pos (by omega)]
      · rw [if_neg c, if_neg (by omega)]
theorem seenC_all (σn ns L : Nat) : seenC σn ns L ns = (List.range ns).map fun s => .row (srB σn s) 0 (L + 1) 1 := List.map_congr_left fun s hs => if_pos (List.mem_range.1 hs)
theorem freeze_bA {σ : St} {lo k : Nat} {ob : List Bool} (hk : σ.get k = .cells (bA ob)) (hlo : lo ≤ k) (hl : ob.length < 1000000) : freeze σ lo fzDepth (.row k 0 ob.length 1) = some (.slc false (boolsD ob)) := by
  have hf := freeze_row (n := fzDepth) (len := ob.length) (es := 1) (ds := (boolsD ob).flatMap id) (by unfold fzDepth; omega) hk hlo (by rw [bA_len]; omega) (by
    rw [Nat.mul_one, List.take_of_length_le (by rw [bA_len]; exact Nat.le_refl _), bA_flat]
    exact freezeL_map (by rw [flat_len (es := 1) (by intro x hx; obtain ⟨y, -, rfl⟩ := List.mem_map.1 hx; rfl)]; simp [boolsD]; unfold fzDepth; omega))
  have hch := chunks_flat (es := 1) (xs := boolsD ob) (by intro x hx; obtain ⟨y, -, rfl⟩ := List.mem_map.1 hx; rfl)
  rw [show (boolsD ob).length = ob.length by simp [boolsD]] at hch
  rw [hch] at hf
  exact hf
/-- what is known while from goes on -/
structure Bfs (bs : List Ex) (l : List Int) (N : Nv) (L a i b : Nat) (sb : Nat → List Bool) (ob : List Bool) (todo : List (Nat × Nat)) : Prop where
  sl : ∀ s, s < N.es.length → (sb s).length = L + 1
  ol : ob.length = L + 1
  I1 : ∀ s p, s < N.es.length → (sb s).getD p false = true → Rch bs l N a i s p
  I3 : ∀ x ∈ todo, x.1 < N.es.length ∧ x.2 ≤ L ∧ (sb x.1).getD x.2 false = true
  I4 : ∀ p, ob.getD p false = true → Rch bs l N a i b p
  I5 : (sb a).getD i false = true
/-- of what is done with -/
def Fin (bs : List Ex) (l : List Int) (N : Nv) (b : Nat) (sb : Nat → List Bool) (ob : List Bool) (s p : Nat) : Prop := (s = b → ob.getD p false = true) ∧ ∀ row, N.es[s]? = some row → ∀ e ∈ row, ∀ k, (posW bs l).st e.kind e.num p k → (sb e.to).getD k false = true
theorem bfs_end {bs : List Ex} {l : List Int} {N : Nv} {L a i b : Nat} {sb : Nat → List Bool} {ob : List Bool} (h : Bfs bs l N L a i b sb ob []) (ha : a < N.es.length) (hto : ∀ (s : Nat) (row : List Eg), N.es[s]? = some row → ∀ e ∈ row, e.to < N.es.length)
    (hf : ∀ s p, s < N.es.length → (sb s).getD p false = true → Fin bs l N b sb ob s p) {bt : List Bool} (hl : bt.length = L + 1) (hb : ∀ k, k ≤ L → (bt.getD k false = true ↔ Rch bs l N a i b k)) : ob = bt := by
  have key : ∀ {s p : Nat}, Rch bs l N a i s p → s < N.es.length ∧ (sb s).getD p false = true := by
    intro s p hr
    induction hr with
    | start => exact ⟨ha, h.I5⟩
    | @step s p k r e _ h1 h2 h3 ih => exact ⟨hto _ _ h1 _ h2, (hf s p ih.1 ih.2).2 r h1 e h2 k h3⟩
  apply List.ext_getElem?
  intro k
  rcases Nat.lt_or_ge k (L + 1) with hk | hk
  · have k1 : k < ob.length := by rw [h.ol]; exact hk
    have k2 : k < bt.length := by rw [hl]; exact hk
    have e1 : ob[k]? = some (ob.getD k false) := by rw [List.getD_eq_getElem?_getD]; simp [k1]
    have e2 : bt[k]? = some (bt.getD k false) := by rw [List.getD_eq_getElem?_getD]; simp [k2]
    rw [e1, e2]
    congr 1
    rw [Bool.eq_iff_iff, hb k (by omega)]
    constructor
    · exact h.I4 k
    · intro hr
      obtain ⟨q1, q2⟩ := key hr
      exact (hf b k q1 q2).1 rfl
  · rw [List.getElem?_eq_none (by rw [h.ol]; exact hk), List.getElem?_eq_none (by rw [hl]; exact hk)]
theorem Ev.mid {X : X} {f nt lo : Nat} {ro : Option Nat} {c : Item} {rest : List Item} {tm : Tm} {σ : St} {W : List Nat} {Q : Out → Prop} (I : Tm → St → List Nat → Prop) (h2 : ∀ rest, (∀ tm σ W, I tm σ W → Ev X f nt ro lo rest tm σ W Q) → Ev X f nt ro lo (c :: rest) tm σ W Q) (h1 : ∀ tm σ W, I tm σ W → Ev X f nt ro lo rest tm σ W Q) : Ev X f nt ro lo (c :: rest) tm σ W Q := h2 rest h1
theorem Fin.mono {bs : List Ex} {l : List Int} {N : Nv} {b : Nat} {sb sb' : Nat → List Bool} {ob ob' : List Bool} {s p : Nat} (h : Fin bs l N b sb ob s p) (h1 : ∀ s p, (sb s).getD p false = true → (sb' s).getD p false = true) (h2 : ∀ p, ob.getD p false = true → ob'.getD p false = true) : Fin bs l N b sb' ob' s p :=
  ⟨fun e => h2 _ (h.1 e), fun r hr e he k hk => h1 _ _ (h.2 r hr e he k hk)⟩
theorem gdS {l : List Bool} {i j : Nat} : (l.set i true).getD j false = true → j = i ∨ l.getD j false = true := fun h => by
  by_cases e : j = i
  · exact .inl e
  · refine .inr ?_
    rw [List.getD_eq_getElem?_getD, List.getElem?_set_ne (Ne.symm e), ← List.getD_eq_getElem?_getD] at h; exact h
theorem gdS1 {l : List Bool} {i j : Nat} (h : l.getD j false = true) : (l.set i true).getD j false = true := by
  rw [List.getD_eq_getElem?_getD]
  by_cases e : i = j
  · subst e
    have hl : i < l.length := by
      rcases Nat.lt_or_ge i l.length with q | q
      · exact q
      · rw [List.getD_eq_getElem?_getD, List.getElem?_eq_none q] at h; cases h
    rw [List.getElem?_set_self hl]; rfl
  · rw [List.getElem?_set_ne e, ← List.getD_eq_getElem?_getD]; exact h
theorem getD_set_self {l : List Bool} {i : Nat} (h : i < l.length) : (l.set i true).getD i false = true := by
  rw [List.getD_eq_getElem?_getD, List.getElem?_set_self h]; rfl
theorem updS_mono {sb : Nat → List Bool} {t k s p : Nat} (h : (sb s).getD p false = true) : (updS sb t k s).getD p false = true := by
  unfold updS; split
  · rename_i e; subst e; exact gdS1 h
  · exact h
theorem updS_inv {sb : Nat → List Bool} {t k s p : Nat} (h : (updS sb t k s).getD p false = true) : (s = t ∧ p = k) ∨ (sb s).getD p false = true := by
  unfold updS at h; split at h
  · rename_i e; subst e
    rcases gdS h with q | q
    · exact .inl ⟨rfl, q⟩
    · exact .inr q
  · exact .inr h
theorem updS_self {sb : Nat → List Bool} {t k : Nat} (h : k < (sb t).length) : (updS sb t k t).getD k false = true := by
  unfold updS; rw [if_pos rfl]; exact getD_set_self h
/-- while a pair is gone through -/
structure Mid (bs : List Ex) (l : List Int) (N : Nv) (L a i b M s p : Nat) (es : List Eg) (sb : Nat → List Bool) (ob : List Bool) (todo : List (Nat × Nat)) : Prop where
  B : Bfs bs l N L a i b sb ob todo
  fin : ∀ s' p', s' < N.es.length → (sb s').getD p' false = true → (s', p') ∈ todo ∨ (s' = s ∧ p' = p) ∨ Fin bs l N b sb ob s' p'
  hb : s = b → ob.getD p false = true
  me : (sb s).getD p false = true
  m : todo.length + uns N.es.length sb = M
  done : ∀ e ∈ es, ∀ k, (posW bs l).st e.kind e.num p k → (sb e.to).getD k false = true
theorem Mid.see {bs : List Ex} {l : List Int} {N : Nv} {L a i b M s p : Nat} {es : List Eg} {sb : Nat → List Bool} {ob : List Bool} {todo : List (Nat × Nat)} (h : Mid bs l N L a i b M s p es sb ob todo) {t k : Nat} (ht : t < N.es.length) (hk : k ≤ L) (hf : (sb t).getD k false = false) (hr : Rch bs l N a i t k) :
    Mid bs l N L a i b M s p es (updS sb t k) ob (todo ++ [(t, k)]) := by
  have hl := h.B.sl t ht
  have hg : (sb t)[k]? = some false := by
    rw [List.getD_eq_getElem?_getD] at hf
    have : k < (sb t).length := by omega
    simp [this] at hf ⊢; exact hf
  have hu := uns_upd hg ht
  have hm := h.m
  refine ⟨⟨fun s' hs' => ?_, h.B.ol, fun s' p' hs' hq => ?_, fun x hx => ?_, h.B.I4, updS_mono h.B.I5⟩, fun s' p' hs' hq => ?_, h.hb, updS_mono h.me, by rw [List.length_append, List.length_singleton]; omega, fun e he k' hk' => updS_mono (h.done e he k' hk')⟩
  · unfold updS; split
    · rw [List.length_set]; exact hl
    · exact h.B.sl s' hs'
  · rcases updS_inv hq with ⟨rfl, rfl⟩ | hq
    · exact hr
    · exact h.B.I1 s' p' hs' hq
  · rcases List.mem_append.1 hx with hx | hx
    · obtain ⟨q1, q2, q3⟩ := h.B.I3 x hx
      exact ⟨q1, q2, updS_mono q3⟩
    · simp at hx; subst hx
      exact ⟨ht, hk, updS_self (by omega)⟩
  · rcases updS_inv hq with ⟨rfl, rfl⟩ | hq
    · exact .inl (by simp)
    · rcases h.fin s' p' hs' hq with h1 | h1 | h1
      · exact .inl (by simp [h1])
      · exact .inr (.inl h1)
      · exact .inr (.inr (h1.mono (fun _ _ => updS_mono) (fun _ q => q)))
/-- what from has at hand in its long loop -/
structure FrB (kt : Nat) (P : WP) (N : Nv) (X : Nx) (tok : D) (bits : Bits) (σ : St) (b : Nat) (sb : Nat → List Bool) (ob : List Bool) (todo : List (Nat × Nat)) (tm : Tm) (τ : St) (W : List Nat) : Prop where
  bf : BF P N X tok bits σ sb ob τ W
  td : TodoP (σ.n + 2 + N.es.length) τ (tm.at 12) todo kt
  t0 : tm.at 0 = .ptr P.kw 0
  t3 : tm.at 3 = .d (.int .i64 (b : Int))
  t9 : tm.at 9 = .row σ.n 0 (P.L + 1) 1
  t10 : tm.at 10 = .row (σ.n + 1) 0 N.es.length 1
theorem FrB.tm {kt : Nat} {P : WP} {N : Nv} {X : Nx} {tok : D} {bits : Bits} {σ : St} {b : Nat} {sb : Nat → List Bool} {ob : List Bool} {todo : List (Nat × Nat)} {tm tm' : Tm} {τ : St} {W : List Nat} (h : FrB kt P N X tok bits σ b sb ob todo tm τ W)
    (h0 : tm'.at 0 = tm.at 0) (h3 : tm'.at 3 = tm.at 3) (h9 : tm'.at 9 = tm.at 9) (h10 : tm'.at 10 = tm.at 10) (h12 : tm'.at 12 = tm.at 12) : FrB kt P N X tok bits σ b sb ob todo tm' τ W :=
  ⟨h.bf, by rw [h12]; exact h.td, h0.trans h.t0, h3.trans h.t3, h9.trans h.t9, h10.trans h.t10⟩
theorem TodoP.eq {lo k : Nat} {σ : St} {a a' : A} {todo : List (Nat × Nat)} (h : TodoP lo σ a todo k) (e : a' = a) : TodoP lo σ a' todo k := e ▸ h
theorem FrB.stay {kt : Nat} {P : WP} (hP : P.Ok) {N : Nv} {X : Nx} {tok : D} {bits : Bits} {σ : St} {b : Nat} {sb : Nat → List Bool} {ob : List Bool} {todo : List (Nat × Nat)} {tm : Tm} {τ ρ : St} {W : List Nat} (h : FrB kt P N X tok bits σ b sb ob todo tm τ W) (hlo : P.lo ≤ σ.n) (hn : τ.n ≤ ρ.n) (hg : ∀ k, k < τ.n → ρ.get k = τ.get k) : FrB kt P N X tok bits σ b sb ob todo tm ρ W := by
  have q := h.td
  exact ⟨h.bf.stay hP hlo hn fun k hk => hg k (by have := h.bf.n; omega), q.stay hn (hg kt (by obtain ⟨_, _, _, _, _, _, _, h6⟩ := q; exact h6)), h.t0, h.t3, h.t9, h.t10⟩
theorem FrB.call {kt : Nat} {P : WP} (hP : P.Ok) {N : Nv} {X : Nx} {tok : D} {bits : Bits} {σ : St} {b : Nat} {sb : Nat → List Bool} {ob : List Bool} {todo : List (Nat × Nat)} {tm : Tm} {τ ρ : St} {W T : List Nat} (h : FrB kt P N X tok bits σ b sb ob todo tm τ W) (hlo : P.lo ≤ σ.n) (hm : Mod τ ρ T) (ht : ∀ k ∈ T, Mine P k) (hw : WkM P N X tok bits ρ) : FrB kt P N X tok bits σ b sb ob todo tm ρ (W ++ low σ.n T) := by
  have q := h.td
  refine ⟨h.bf.call hP hlo hm ht hw, q.stay hm.n (hm.same _ ?_ fun hk => ?_), h.t0, h.t3, h.t9, h.t10⟩
  · obtain ⟨_, _, _, _, _, _, _, h6⟩ := q; exact h6
  · obtain ⟨_, _, _, _, _, _, h5, _⟩ := q
    have := ((ht _ hk).tag hP).2
    omega
theorem rep_set {n p k : Nat} (hp : p < n) : ((List.replicate n false).set p true).getD k false = true ↔ k = p := by
  constructor
  · intro h
    rcases gdS h with h | h
    · exact h
    · rw [List.getD_eq_getElem?_getD, List.getElem?_replicate] at h
      split at h <;> simp at h
  · rintro rfl; exact getD_set_self (by simp; exact hp)
theorem repF_get {n k : Nat} : (List.replicate n false).getD k false = false := by
  rw [List.getD_eq_getElem?_getD, List.getElem?_replicate]
  split <;> rfl
theorem st0 {bs : List Ex} {l : List Int} {n : Int} {i j : Nat} : (posW bs l).st 0 n i j ↔ j = i := Iff.rfl
theorem st1 {bs : List Ex} {l : List Int} {n : Int} {i j : Nat} : (posW bs l).st 1 n i j ↔ l[i]? = some n ∧ j = i + 1 := Iff.rfl
theorem st2 {bs : List Ex} {l : List Int} {n : Int} {i j : Nat} : (posW bs l).st 2 n i j ↔ ∃ y, bs[n.toNat]? = some y ∧ Der bs l y i j := Iff.rfl
end Go.Am

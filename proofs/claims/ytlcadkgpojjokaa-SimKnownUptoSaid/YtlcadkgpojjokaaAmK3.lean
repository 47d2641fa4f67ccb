/- Part K3 of a proof that runs a program's calls on a small machine whose values bear no addresses: no conditions. -/
import Derived.Test.YtlcadkgpojjokaaAmK1
import Derived.Test.YtlcadkgpojjokaaAmM6
import Derived.Test.YtlcadkgpojjokaaAmV0
set_option autoImplicit false
set_option linter.unusedSimpArgs false
set_option linter.unusedVariables false
set_option linter.unusedSectionVars false
namespace Go.Am
open Go Go.Proofs
variable {fz : Nat → Md}
def prA (s p : Nat) : A := .agg [.d (.int .i64 (s : Int)), .d (.int .i64 (p : Int))]
theorem cmp140 : (XX fz).cmp 140 = true := by kernel_rfl
theorem cmp146 : (XX fz).cmp 146 = true := by kernel_rfl
def T2 (t : Nat) : Prop := t = 140 ∨ t = 146
theorem T2.cmp {t : Nat} (h : T2 t) : (XX fz).cmp t = true := by
  rcases h with rfl | rfl
  · exact cmp140
  · exact cmp146
theorem T2.ti {t : Nat} (h : T2 t) : ∃ i : TI, (XX fz).ti t = some i ∧ i.kind = TK.struct [(0, 1, 3), (1, 1, 3)] := by
  rcases h with rfl | rfl
  · exact ⟨_, ti140, rfl⟩
  · exact ⟨_, ti146, rfl⟩
theorem part3 {o : Nat} {cs : List A} : partT (XX fz) 3 cs o = cs[o]? := by
  unfold partT; rw [ti3]; exact partOf_f
theorem eq_pr {t : Nat} (ht : T2 t) {σ : St} {a b c d : Nat} : eqT (XX fz) σ 8 t (prA a b) (prA c d) = some (decide (a = c ∧ b = d)) := by
  have e3 : ∀ x y : Int, eqT (XX fz) σ 7 3 (.d (.int .i64 x)) (.d (.int .i64 y)) = some (x == y) := fun x y => by rw [eqT, ti3]; rfl
  obtain ⟨i, h1, h2⟩ := ht.ti (fz := fz)
  have key : eqT (XX fz) σ 8 t (prA a b) (prA c d) = some (((a : Int) == c) && ((b : Int) == d)) := by
    rw [eqT, h1]; unfold prA; dsimp only; rw [h2]; dsimp only; rw [ht.cmp, if_pos rfl]
    simp only [eqFs, part3, List.getElem?_cons_zero, List.getElem?_cons_succ, e3]
    cases ((a : Int) == c) <;> cases ((b : Int) == d) <;> rfl
  rw [key]; refine congrArg some ?_
  rw [Bool.eq_iff_iff]; simp; omega
theorem key_pr {t : Nat} (ht : T2 t) {a b : Nat} : keyT (XX fz) 8 t (prA a b) = true := by
  have e3 : ∀ x : Int, keyT (XX fz) 7 3 (.d (.int .i64 x)) = true := fun x => by rw [keyT, ti3]
  obtain ⟨i, h1, h2⟩ := ht.ti (fz := fz)
  rw [keyT, h1]; unfold prA; dsimp only; rw [h2]; dsimp only; rw [ht.cmp]
  simp only [keyFs, part3, List.getElem?_cons_zero, List.getElem?_cons_succ, e3]; rfl
def PM (M : List ((Nat × Nat) × D)) : List (A × A) := M.map fun e => (prA e.1.1 e.1.2, .d e.2)
def FP (M : List ((Nat × Nat) × D)) (x : Nat × Nat) : Option D := (M.find? fun e => decide (x.1 = e.1.1 ∧ x.2 = e.1.2)).map (·.2)
theorem find_PM {t : Nat} (ht : T2 t) {a b : Nat} : ∀ (M : List ((Nat × Nat) × D)) (off : Nat), (∃ j v, M[j]? = some ((a, b), v) ∧ FP M (a, b) = some v ∧ ∀ σ : St, mapFind (XX fz) σ t (.agg [.d (.int .i64 (a : Int)), .d (.int .i64 (b : Int))]) (PM M) off = some (some (off + j, .d v))) ∨
    FP M (a, b) = none ∧ ∀ σ : St, mapFind (XX fz) σ t (.agg [.d (.int .i64 (a : Int)), .d (.int .i64 (b : Int))]) (PM M) off = some none
  | [], off => .inr ⟨rfl, fun _ => rfl⟩
  | ((c, d), v) :: M, off => by
    have hME : PM (((c, d), v) :: M) = (prA c d, .d v) :: PM M := rfl
    have hq : ∀ σ : St, eqT (XX fz) σ 8 t (.agg [.d (.int .i64 (a : Int)), .d (.int .i64 (b : Int))]) (prA c d) = some (decide (a = c ∧ b = d)) := fun σ => eq_pr ht
    by_cases e : a = c ∧ b = d
    · obtain ⟨rfl, rfl⟩ := e
      left
      exact ⟨0, v, rfl, by simp [FP], fun σ => by rw [hME, mapFind, hq]; simp⟩
    · have hF : FP (((c, d), v) :: M) (a, b) = FP M (a, b) := by unfold FP; rw [List.find?_cons_of_neg (by simpa using e)]
      rw [decide_eq_false e] at hq
      rw [hF]
      rcases find_PM ht (a := a) (b := b) M (off + 1) with ⟨j, s', h1, h2, h3⟩ | ⟨h1, h2⟩
      · left; exact ⟨j + 1, s', by simpa using h1, h2, fun σ => by rw [hME, mapFind, hq]; dsimp only; rw [h3]; congr 3; omega⟩
      · right; exact ⟨h1, fun σ => by rw [hME, mapFind, hq]; exact h2 σ⟩
theorem upd_PM {t : Nat} (ht : T2 t) {σ : St} {a b r : Nat} {v : D} {M : List ((Nat × Nat) × D)} (h : FP M (a, b) = none) :
    updB (XX fz) σ t (.agg [.d (.int .i64 (a : Int)), .d (.int .i64 (b : Int))]) (.d v) r (.map (PM M)) = .val .top (σ.set r (.map (PM (M ++ [((a, b), v)])))) [r] [] := by
  unfold updB
  dsimp only
  rw [show keyT (XX fz) 8 t (.agg [.d (.int .i64 (a : Int)), .d (.int .i64 (b : Int))]) = true from key_pr ht, if_neg (by simp)]
  rcases find_PM (fz := fz) ht (a := a) (b := b) M 0 with ⟨j, s', h1, h2, h3⟩ | ⟨h1, h2⟩
  · rw [h] at h2; cases h2
  · rw [h2]; dsimp only
    rw [show PM (M ++ [((a, b), v)]) = PM M ++ [(prA a b, .d v)] by simp [PM]]; rfl
theorem FP_none {M : List ((Nat × Nat) × D)} {x : Nat × Nat} : FP M x = none ↔ ∀ v, (x, v) ∉ M := by
  unfold FP
  rw [Option.map_eq_none_iff, List.find?_eq_none]
  constructor
  · intro h v hv
    have := h _ hv
    simp at this
  · rintro h ⟨⟨c, d⟩, v⟩ he hx
    simp at hx
    obtain ⟨a, b⟩ := x
    obtain ⟨rfl, rfl⟩ := hx
    exact h v he
theorem PM_under (M : List ((Nat × Nat) × D)) (n : Nat) : (Blk.map (PM M)).under n = true := by
  rw [Blk.under, List.all_eq_true]
  intro e he
  obtain ⟨x, -, rfl⟩ := List.mem_map.1 he
  rfl
end Go.Am
namespace Go.Am
open Go Go.Proofs
variable {fz : Nat → Md}
theorem CallsTo.keepE {X : X} {f : Nat} {cap args : List A} {F : AFn} {r : A} {σ : St} {P : St → List Nat → Prop} (hz : X.fz f = .keep) (hF : X.fn f = some F) (hl : args.length + cap.length ≤ F.nt)
    (e : Ev X f F.nt none σ.n [.code F.body] (initTm (args ++ cap) 0 .nil) σ [] (RetQ X F.results fun a σ1 W1 => a = r ∧ P σ1 W1)) : ∃ σ' W, CallsTo X (.func f cap) args σ r σ' W ∧ P σ' W := by
  obtain ⟨n, o, hn, hq⟩ := e
  cases o with
  | leave _ _ _ => exact hq.elim
  | ret tm σ1 W1 =>
    unfold RetQ at hq
    dsimp only at hq
    split at hq
    · rename_i l hl'
      obtain ⟨rfl, h5⟩ := hq
      exact ⟨σ1, W1, CallsTo.ofQ hF hl ⟨n, _, hn, by unfold RetQ; dsimp only; rw [hl']; simp [leaveCall, hz]⟩, h5⟩
    · exact hq.elim
theorem maxA {a b : Nat} : minmax true [.d (.int .i64 (a : Int)), .d (.int .i64 (b : Int))] = some (.d (.int .i64 ((max a b : Nat) : Int))) := by
  simp only [minmax, List.foldl_cons, List.foldl_nil, mmStep, if_true]
  congr 3
  by_cases h : a < b
  · rw [if_pos (by omega), Nat.max_eq_right (by omega)]
  · rw [if_neg (by omega), Nat.max_eq_left (by omega)]
theorem o_maxA {X : Am.X} {tm : Tm} {σ : St} {dst : Option Nat} {ty : Nat} {pos : String} {after : Array Edge} {g : Option (Nat × Bool)} {x y : Operand} {ts : Array Nat} : evalOp X tm σ ⟨dst, .call ⟨.builtin .max, #[x, y], ts⟩, ty, pos, after, g⟩ = OpR.of σ [] (minmax true [ev tm x, ev tm y]) := rfl
def pairsA (l : List (Nat × Nat)) : List A := l.flatMap fun x => [A.d (.int .i64 (x.1 : Int)), A.d (.int .i64 (x.2 : Int))]
theorem pairsA_len : ∀ l : List (Nat × Nat), (pairsA l).length = 2 * l.length
  | [] => rfl
  | x :: l => by
    have := pairsA_len l
    simp only [pairsA, List.flatMap_cons, List.length_append, List.length_cons, List.length_nil] at this ⊢; omega
def TodoP (lo : Nat) (σ : St) (a : A) (todo : List (Nat × Nat)) (ks : List Nat) : Prop := (a = .d (.slc true []) ∧ todo = [] ∧ ks = []) ∨
  ∃ k off cs, ks = [k] ∧ a = .row k off todo.length 2 ∧ σ.get k = .cells cs ∧ off + 2 * todo.length = cs.length ∧ cs.drop off = pairsA todo ∧ lo ≤ k ∧ k < σ.n
section
variable {lo : Nat} {σ τ : St} {a : A} {todo : List (Nat × Nat)} {ks : List Nat}
theorem TodoP.lt (h : TodoP lo σ a todo ks) : ∀ k ∈ ks, lo ≤ k ∧ k < σ.n := by
  rcases h with ⟨-, -, rfl⟩ | ⟨k, off, cs, rfl, -, -, -, -, h5, h6⟩
  · intro k hk; cases hk
  · intro j hj; simp at hj; subst hj; exact ⟨h5, h6⟩
theorem TodoP.stay (h : TodoP lo σ a todo ks) (hn : σ.n ≤ τ.n) (hg : ∀ k ∈ ks, τ.get k = σ.get k) : TodoP lo τ a todo ks := by
  rcases h with h | ⟨k, off, cs, rfl, h1, h2, h3, h4, h5, h6⟩
  · exact .inl h
  · exact .inr ⟨k, off, cs, rfl, h1, (hg k (by simp)).trans h2, h3, h4, h5, by omega⟩
theorem TodoP.cell (h : TodoP lo σ a todo ks) : a.cells = some [a] ∧ a.isCell = true := by
  rcases h with ⟨rfl, -, -⟩ | ⟨k, off, cs, rfl, rfl, -⟩ <;> exact ⟨rfl, rfl⟩
theorem TodoP.len (h : TodoP lo σ a todo ks) : sliceLen σ a = some todo.length := by
  rcases h with ⟨rfl, rfl, -⟩ | ⟨k, off, cs, rfl, rfl, h2, -⟩
  · rfl
  · rw [sliceLen_row, h2]; rfl
theorem TodoP.app {j n m : Nat} (h : TodoP lo σ a todo ks) (hj : σ.get j = .cells [.d (.int .i64 (n : Int)), .d (.int .i64 (m : Int))]) (hl : todo.length < 1000000000) (hlo : lo ≤ σ.n) :
    ∃ a' σ' T, appendA 2 16 σ a (.row j 0 1 2) = .val a' σ' T [] ∧ TodoP lo σ' a' (todo ++ [(n, m)]) [σ.n] ∧ σ'.n = σ.n + 1 ∧ (∀ i, i < σ.n → i ∉ ks → σ'.get i = σ.get i) ∧ T = ks := by
  have hsc : sliceCells σ (.row j 0 1 2) = some [.d (.int .i64 (n : Int)), .d (.int .i64 (m : Int))] := by rw [sliceCells_row hj (by simp)]; rfl
  have hsl : sliceLen σ (.row j 0 1 2) = some 1 := by rw [sliceLen_row, hj]; rfl
  rcases h with ⟨rfl, rfl, rfl⟩ | ⟨k, off, cs, rfl, rfl, hk, h3, h4, h5, h6⟩
  · rw [appendA_nil hsc hsl rfl rfl (by omega) (by omega), if_neg (by omega)]
    exact ⟨_, _, _, rfl, .inr ⟨σ.n, 0, _, rfl, rfl, St.get_push_eq, rfl, rfl, hlo, by simp [St.n_push]⟩, by simp [St.n_push], fun i hi _ => St.get_push_ne hi, rfl⟩
  · rw [appendA_row hk (new := [.d (.int .i64 (n : Int)), .d (.int .i64 (m : Int))]) (n := 1) hsc hsl rfl rfl (by omega) (by omega) (by omega), if_neg (by omega)]
    refine ⟨_, _, _, rfl, .inr ⟨σ.n, 0, _, rfl, by rw [List.length_append]; rfl, by rw [St.get_push_eq' (by rw [St.n_set])], ?_, ?_, hlo, by simp [St.n_push, St.n_set]⟩, by simp [St.n_push, St.n_set], fun i hi hne => ?_, rfl⟩
    · rw [h4, List.length_append, List.length_append, List.length_take, pairsA_len]; simp; omega
    · rw [List.drop_zero, h4, List.take_of_length_le (by rw [pairsA_len]; omega)]; simp [pairsA]
    · rw [St.get_push_ne (by rw [St.n_set]; exact hi), St.get_set_ne (by simpa using hne)]
theorem TodoP.tail {s p : Nat} (h : TodoP lo σ a ((s, p) :: todo) ks) :
    ∃ k off cs, ks = [k] ∧ a = .row k off (todo.length + 1) 2 ∧ σ.get k = .cells cs ∧ cs[off]? = some (.d (.int .i64 (s : Int))) ∧ cs[off + 1]? = some (.d (.int .i64 (p : Int))) ∧ off + 2 ≤ cs.length ∧ lo ≤ k ∧ k < σ.n ∧ TodoP lo σ (.row k (off + 2) todo.length 2) todo ks := by
  rcases h with ⟨-, h, -⟩ | ⟨k, off, cs, rfl, rfl, hk, h3, h4, h5, h6⟩
  · cases h
  have h4' : cs.drop off = A.d (.int .i64 (s : Int)) :: A.d (.int .i64 (p : Int)) :: pairsA todo := h4
  refine ⟨k, off, cs, rfl, rfl, hk, ?_, ?_, by simp only [List.length_cons] at h3; omega, h5, h6, .inr ⟨k, off + 2, cs, rfl, rfl, hk, by simp only [List.length_cons] at h3; omega, ?_, h5, h6⟩⟩
  · have : (cs.drop off)[0]? = some (.d (.int .i64 (s : Int))) := by rw [h4']; rfl
    rw [List.getElem?_drop, Nat.add_zero] at this; exact this
  · have : (cs.drop off)[1]? = some (.d (.int .i64 (p : Int))) := by rw [h4']; rfl
    rw [List.getElem?_drop] at this; exact this
  · rw [← List.drop_drop, h4']; rfl
end
theorem sliceT_row {tm : Tm} {σ : St} {k off n sz bb : Nat} {cs : List A} {zz : Option (List A)} {zv : A} (hk : σ.get k = .cells cs) :
    sliceT (XX fz) tm σ 138 (some (.d (.int .i64 1))) none (.row k off (n + 1) 2) (some ⟨.slc 140, sz, bb, zz, zv⟩) = .val (.row k (off + 2) n 2) σ [] [k] := by
  have h0 : ev (FT.set (FT.set (FT.set FT.nil 0 (A.row k off (n + 1) 2)) 1 (.d (.int .i64 1))) 2 .top) (.tmp 0) = A.row k off (n + 1) 2 := by simp [ev, Tm.at_set]
  have h1 : ev (FT.set (FT.set (FT.set FT.nil 0 (A.row k off (n + 1) 2)) 1 (.d (.int .i64 1))) 2 .top) (.tmp 1) = .d (.int .i64 1) := by simp [ev, Tm.at_set]
  have h2 : bnd (FT.set (FT.set (FT.set FT.nil 0 (A.row k off (n + 1) 2)) 1 (.d (.int .i64 1))) 2 .top) (some (.tmp 1)) 0 = some 1 := by unfold bnd; dsimp only; rw [h1]; rfl
  have h3 : ∀ tm : Tm, bnd tm none (n + 1) = some (n + 1) := fun _ => rfl
  unfold sliceT
  show evalOp _ _ _ _ = _
  unfold evalOp
  simp only [Option.getD_some, Option.getD_none, Option.map_some, Option.map_none, ti138, ti140, h0, h2, h3, hk]
  rw [if_pos (by refine ⟨by omega, by omega, trivial⟩), Nat.add_sub_cancel, Nat.one_mul]
theorem upd_all {t : Nat} (ht : T2 t) {a b r : Nat} {v : D} {M : List ((Nat × Nat) × D)} (h : FP M (a, b) = none) (σ : St) :
    updB (XX fz) σ t (.agg [.d (.int .i64 (a : Int)), .d (.int .i64 (b : Int))]) (.d v) r (.map (PM M)) = .val .top (σ.set r (.map (PM (M ++ [((a, b), v)])))) [r] [] := upd_PM ht h
structure RunM (kr kM : Nat) (sim tok : D) (f : Nat) (M : List ((Nat × Nat) × D)) (σ : St) : Prop where
  cell : σ.get kr = .cells [.d sim, .d tok, .d (.int .i64 (f : Int)), .map kM]
  gm : σ.get kM = .map (PM M)
theorem RunM.stay {kr kM : Nat} {sim tok : D} {f : Nat} {M : List ((Nat × Nat) × D)} {σ τ : St} (h : RunM kr kM sim tok f M σ) (h1 : τ.get kr = σ.get kr) (h2 : τ.get kM = σ.get kM) : RunM kr kM sim tok f M τ :=
  ⟨h1.trans h.cell, h2.trans h.gm⟩
def SS (S : List (Nat × Nat)) : List ((Nat × Nat) × D) := S.map fun x => (x, .int .i64 1)
theorem SS_app (S : List (Nat × Nat)) (x : Nat × Nat) : SS S ++ [(x, .int .i64 1)] = SS (S ++ [x]) := by simp [SS]
theorem SS_mem {S : List (Nat × Nat)} {x : Nat × Nat} {v : D} : (x, v) ∈ SS S ↔ x ∈ S ∧ v = .int .i64 1 := by
  unfold SS; rw [List.mem_map]
  constructor
  · rintro ⟨y, h1, h2⟩; cases h2; exact ⟨h1, rfl⟩
  · rintro ⟨h1, rfl⟩; exact ⟨x, h1, rfl⟩
structure FrM (b kr kM : Nat) (sim tok : D) (f : Nat) (M : List ((Nat × Nat) × D)) (S todo : List (Nat × Nat)) (ks : List Nat) (σ : St) : Prop where
  run : RunM kr kM sim tok f M σ
  gc : σ.get b = .cells [.ptr kr 0]
  gS : σ.get (b + 1) = .map (PM (SS S))
  gs : σ.get (b + 2) = .cells [.map (b + 1)]
  gt : ∃ av, σ.get (b + 3) = .cells [av] ∧ TodoP (b + 4) σ av todo ks
  n : b + 4 ≤ σ.n
structure Plc (b kr kM : Nat) : Prop where
  r : kr < b
  m : kM < b
  ne : kr ≠ kM
set_option maxHeartbeats 4000000 in
theorem reach_c (h85 : fz 85 = .keep) {b kr kM : Nat} (hP : Plc b kr kM) {sim tok : D} {f : Nat} {M : List ((Nat × Nat) × D)} {S todo : List (Nat × Nat)} {ks : List Nat} {σ : St} (h : FrM b kr kM sim tok f M S todo ks σ) (hl : todo.length < 1000000000) (s p : Nat) :
    ∃ σ' W, CallsTo (XX fz) (.func 85 [.ptr (b + 2) 0, .ptr (b + 3) 0, .ptr b 0]) [.d (.int .i64 (s : Int)), .d (.int .i64 (p : Int))] σ (.tup []) σ' W ∧ ∃ f' S' todo' ks', FrM b kr kM sim tok f' M S' todo' ks' σ' ∧
      (((s, p) ∈ S ∧ S' = S ∧ todo' = todo ∧ f' = f) ∨ ((s, p) ∉ S ∧ S' = S ++ [(s, p)] ∧ todo' = todo ++ [(s, p)] ∧ f' = max f p)) ∧ Mod σ σ' W ∧ (ks' = ks ∨ ∃ k, ks' = [k] ∧ σ.n ≤ k) ∧
      (∀ k, k < σ.n → k ≠ kr → k ≠ b + 1 → k ≠ b + 3 → k ∉ ks → σ'.get k = σ.get k) ∧ ∀ k ∈ W, k = kr ∨ k = b + 1 ∨ k = b + 3 ∨ k ∈ ks ∨ σ.n ≤ k := by
  refine CallsTo.keepE h85 fn85 (by simp) ?_
  obtain ⟨av, g3, td⟩ := h.gt
  have hn := h.n
  have l1 := hP.r
  have l2 := hP.m
  have a1 : b + 2 ≠ σ.n := by omega
  have a2 : b + 2 < σ.n := by omega
  have a3 : b + 1 ≠ σ.n := by omega
  have a4 : b + 1 < σ.n := by omega
  have a5 : b + 3 ≠ σ.n := by omega
  have a6 : b + 3 < σ.n := by omega
  have kp : keyT (XX fz) 8 140 (.agg [.d (.int .i64 (s : Int)), .d (.int .i64 (p : Int))]) = true := key_pr (.inl rfl)
  simp only [Try.f85, Option.getD_some]
  rcases find_PM (fz := fz) (t := 140) (.inl rfl) (a := s) (b := p) (SS S) 0 with ⟨j, v, h1, h2, h3⟩ | ⟨h2, h3⟩
  · obtain ⟨hm, rfl⟩ := SS_mem.1 (List.mem_of_getElem? h1)
    simp only [go_sem, ↓reduceIte, Int.reduceEq, Nat.reduceBEq, Int.reduceBEq, Int.reduceBNe, Int.reduceLT, Int.reduceLE, Nat.reduceAdd, Nat.reducePow, Nat.reduceEqDiff, Nat.reduceLT, Nat.reduceLeDiff, Nat.reduceMul, Nat.reduceSub, h.gs, h.gS, a1, a2, a3, a4, kp, h3]
    have hg : ∀ k, k < σ.n → (if k = σ.n then Blk.cells [A.d (D.int IntKind.i64 (s : Int)), A.d (D.int IntKind.i64 (p : Int))] else if k = σ.n then Blk.cells [A.d (D.int IntKind.i64 0), A.d (D.int IntKind.i64 0)] else σ.get k) = σ.get k := fun k hk => by
      rw [if_neg (by omega), if_neg (by omega)]
    refine ⟨f, S, todo, ks, ⟨h.run.stay (hg _ (by omega)) (hg _ (by omega)), (hg _ (by omega)).trans h.gc, (hg _ (by omega)).trans h.gS, (hg _ (by omega)).trans h.gs, ⟨av, (hg _ (by omega)).trans g3, td.stay (Nat.le_succ _) fun k hk => hg k (td.lt k hk).2⟩, Nat.le_succ_of_le hn⟩, .inl ⟨hm, rfl, rfl, rfl⟩, ⟨Nat.le_succ _, fun k hk _ => hg k hk, fun k hk => by cases hk⟩, .inl rfl, fun k hk _ _ _ _ => hg k hk, fun k hk => by cases hk⟩
  · have hm : (s, p) ∉ S := fun q => FP_none.1 h2 (.int .i64 1) (SS_mem.2 ⟨q, rfl⟩)
    have hu := upd_all (fz := fz) (t := 140) (.inl rfl) (r := b + 1) (v := .int .i64 1) h2
    rw [SS_app] at hu
    have td1 : TodoP (b + 4) ((((σ.push (.cells [.d (.int .i64 0), .d (.int .i64 0)])).set σ.n (.cells [.d (.int .i64 (s : Int)), .d (.int .i64 (p : Int))])).set (b + 1) (.map (PM (SS (S ++ [(s, p)]))))).push (.cells [.d (.int .i64 (s : Int)), .d (.int .i64 (p : Int))])) av todo ks :=
      td.stay (by simp only [St.n_push, St.n_set]; omega) fun k hk => by
        have := td.lt k hk
        rw [St.get_push_ne (by simp only [St.n_push, St.n_set]; omega), St.get_set_ne (by omega), St.get_set_ne (by omega), St.get_push_ne this.2]
    obtain ⟨av', ρ', T, happ, td2, n2, g2, rfl⟩ := td1.app (j := σ.n + 1) (n := s) (m := p) (by rw [St.get_push_eq' (by simp only [St.n_push, St.n_set])]) hl (by simp only [St.n_push, St.n_set]; omega)
    simp only [St.n_push, St.n_set] at n2 g2 td2
    have a7 : σ.n ≠ b + 1 := by omega
    have nT : ∀ k, k < b + 4 → k ∉ T := fun k hk q => by have := (td.lt k q).1; omega
    have g4 : ∀ k, k < σ.n → k ≠ b + 1 → k ∉ T → ρ'.get k = σ.get k := fun k h1 h2 h3 => by
      rw [g2 k (by omega) h3, St.get_push_ne (by simp only [St.n_push, St.n_set]; omega), St.get_set_ne h2, St.get_set_ne (by omega), St.get_push_ne h1]
    have gS2 : ρ'.get (b + 1) = .map (PM (SS (S ++ [(s, p)]))) := by
      rw [g2 _ (by omega) (nT _ (by omega)), St.get_push_ne (by simp only [St.n_push, St.n_set]; omega), St.get_set_eq]
    have q3 : ρ'.get (b + 3) = .cells [av] := (g4 _ (by omega) (by omega) (nT _ (by omega))).trans g3
    have qc : ρ'.get b = .cells [.ptr kr 0] := (g4 _ (by omega) (by omega) (nT _ (by omega))).trans h.gc
    have qs : ρ'.get (b + 2) = .cells [.map (b + 1)] := (g4 _ (by omega) (by omega) (nT _ (by omega))).trans h.gs
    have qr : ρ'.get kr = .cells [.d sim, .d tok, .d (.int .i64 (f : Int)), .map kM] := (g4 _ (by omega) (by omega) (nT _ (by omega))).trans h.run.cell
    have qM : ρ'.get kM = .map (PM M) := (g4 _ (by omega) (by omega) (nT _ (by omega))).trans h.run.gm
    obtain ⟨c1, c2⟩ := td2.cell
    have a8 : b ≠ b + 3 := by omega
    have a9 : kr ≠ b + 3 := by omega
    simp only [go_sem, ↓reduceIte, Int.reduceEq, Nat.reduceBEq, Int.reduceBEq, Int.reduceBNe, Int.reduceLT, Int.reduceLE, Nat.reduceAdd, Nat.reducePow, Nat.reduceEqDiff, Nat.reduceLT, Nat.reduceLeDiff, Nat.reduceMul, Nat.reduceSub, h.gs, h.gS, a1, a2, a3, a4, a5, a6, a7, kp, h3, hu, g3, happ, c1, c2, q3, qc, qr, a8, a9, o_maxA, maxA]
    refine ⟨drawOk_rel [9] [] rfl (by kernel_rfl) rfl (by simp), ?_⟩
    have gg : ∀ k, k ≠ kr → k ≠ b + 3 → ((ρ'.set (b + 3) (.cells [av'])).set kr (.cells [.d sim, .d tok, .d (.int .i64 ((max f p : Nat) : Int)), .map kM])).get k = ρ'.get k := fun k h1 h2 => by rw [St.get_set_ne h1, St.get_set_ne h2]
    have lm := hP.ne
    refine ⟨max f p, S ++ [(s, p)], todo ++ [(s, p)], _, ⟨⟨St.get_set_eq, (gg _ (by omega) (by omega)).trans qM⟩, (gg _ (by omega) (by omega)).trans qc, (gg _ (by omega) (by omega)).trans gS2, (gg _ (by omega) (by omega)).trans qs, ⟨av', by rw [St.get_set_ne (by omega), St.get_set_eq], td2.stay (Nat.le_refl _) fun k hk => ?_⟩, by simp only [St.n_set]; omega⟩, .inr ⟨hm, rfl, rfl, rfl⟩, ⟨by simp only [St.n_set]; omega, fun k h1 h2 => ?_, fun k hk => ?_⟩, .inr ⟨_, rfl, by omega⟩, fun k h1 h2 h3 h4 h5 => ?_, fun k hk => ?_⟩
    · have := (td2.lt k hk).1
      exact gg _ (by omega) (by omega)
    · simp only [List.mem_append, mem_low, List.mem_singleton, not_or, not_and] at h2
      obtain ⟨⟨⟨q1, q2⟩, q3'⟩, q4⟩ := h2
      rw [gg _ (fun e => q4 e h1) (fun e => q3' e h1)]
      exact g4 k h1 (fun e => q1 e h1) (fun e => q2 e h1)
    · simp only [List.mem_append, mem_low] at hk
      rcases hk with ((⟨-, hk⟩ | ⟨-, hk⟩) | ⟨-, hk⟩) | ⟨-, hk⟩ <;> exact hk
    · rw [if_neg h2, if_neg h4]; exact g4 k h1 h3 h5
    · simp only [List.mem_append, mem_low, List.mem_singleton] at hk
      rcases hk with ((⟨hk, -⟩ | ⟨hk, -⟩) | ⟨hk, -⟩) | ⟨hk, -⟩
      · exact .inr (.inl hk)
      · exact .inr (.inr (.inr (.inl hk)))
      · exact .inr (.inr (.inl hk))
      · exact .inl hk
end Go.Am
namespace Go.Am
open Go Go.Proofs
def natsI (l : List Nat) : List Int := l.map fun (n : Nat) => (n : Int)
theorem natsI_len (l : List Nat) : (natsI l).length = l.length := by simp [natsI]
def stops (n L : Nat) : List (Nat × Nat) := (List.range n).flatMap fun s => (List.range (L + 1)).map fun p => (s, p)
theorem stops_len (n L : Nat) : (stops n L).length = n * (L + 1) := by
  unfold stops
  induction n with
  | zero => simp
  | succ n ih => rw [List.range_succ (n := n), List.flatMap_append, List.length_append, ih]; simp [Nat.add_mul]
theorem stops_mem {n L s p : Nat} (hs : s < n) (hp : p ≤ L) : (s, p) ∈ stops n L := by
  unfold stops
  rw [List.mem_flatMap]
  exact ⟨s, by simpa using hs, by simp; omega⟩
section
variable (l : List Int) (N : Nv) (X : Nx)
structure AOk (a : Nat) (ps : List Nat) (b : Nat) (js : List Nat) (f : Nat) : Prop where
  snd : ∀ j ∈ js, ∃ p ∈ ps, Rn l N X a p b j
  cmp : f < l.length → ∀ p ∈ ps, ∀ j, Rn l N X a p b j → j ∈ js
  far : f < l.length → ∀ p ∈ ps, ∀ k, Pg l N X a p k → k ≤ f
  len : js.length ≤ N.es.length * (l.length + 1)
def MemoOk (f : Nat) (M : List ((Nat × Nat) × D)) : Prop := ∀ x v, (x, v) ∈ M → ∃ js : List Nat, v = slD (natsI js) ∧ AOk l N X (X.ent x.1) [x.2] (X.lve x.1) js f
variable {l N X}
theorem AOk.mono {a : Nat} {ps : List Nat} {b : Nat} {js : List Nat} {f f' : Nat} (h : AOk l N X a ps b js f) (hf : f ≤ f') : AOk l N X a ps b js f' :=
  ⟨h.snd, fun hl => h.cmp (by omega), fun hl p hp k hk => Nat.le_trans (h.far (by omega) p hp k hk) hf, h.len⟩
theorem MemoOk.mono {f f' : Nat} {M : List ((Nat × Nat) × D)} (h : MemoOk l N X f M) (hf : f ≤ f') : MemoOk l N X f' M := fun x v hx => by
  obtain ⟨js, h1, h2⟩ := h x v hx
  exact ⟨js, h1, h2.mono hf⟩
variable (l N X)
structure AlB (a : Nat) (ps : List Nat) (b f0 f : Nat) (S todo : List (Nat × Nat)) (out : List Nat) : Prop where
  in_ : ∀ x ∈ S, x.1 < N.es.length ∧ x.2 ≤ l.length ∧ ∃ p ∈ ps, Rn l N X a p x.1 x.2
  td : ∀ x ∈ todo, x ∈ S
  os : ∀ j ∈ out, ∃ p ∈ ps, Rn l N X a p b j
  fl : f ≤ l.length
  fo : f0 ≤ f
  fs : f = f0 ∨ ∃ p ∈ ps, Pg l N X a p f
  fx : ∀ x ∈ S, x.2 ≤ f
  nd : S.Nodup
  on : out.length + todo.length ≤ S.length
variable {l N X}
section
variable {a : Nat} {ps : List Nat} {b f0 f : Nat} {S todo : List (Nat × Nat)} {out : List Nat}
theorem AlB.cap (h : AlB l N X a ps b f0 f S todo out) : S.length ≤ N.es.length * (l.length + 1) := by
  rw [← stops_len]
  exact h.nd.length_le_of_subset fun x hx => by
    obtain ⟨h1, h2, -⟩ := h.in_ x hx
    exact stops_mem h1 h2
theorem AlB.reach (h : AlB l N X a ps b f0 f S todo out) {s p : Nat} (hs : s < N.es.length) (hp : p ≤ l.length) (hr : ∃ p0 ∈ ps, Rn l N X a p0 s p) (hn : (s, p) ∉ S) : AlB l N X a ps b f0 (max f p) (S ++ [(s, p)]) (todo ++ [(s, p)]) out where
  in_ x hx := by
    rcases List.mem_append.1 hx with hx | hx
    · exact h.in_ x hx
    · simp at hx; subst hx; exact ⟨hs, hp, hr⟩
  td x hx := by
    rcases List.mem_append.1 hx with hx | hx
    · exact List.mem_append_left _ (h.td x hx)
    · exact List.mem_append_right _ hx
  os := h.os
  fl := by have := h.fl; omega
  fo := by have := h.fo; omega
  fs := by
    rcases Nat.le_total f p with q | q
    · rw [Nat.max_eq_right q]; obtain ⟨p0, h1, h2⟩ := hr; exact .inr ⟨p0, h1, .here h2⟩
    · rw [Nat.max_eq_left q]; exact h.fs
  fx x hx := by
    rcases List.mem_append.1 hx with hx | hx
    · have := h.fx x hx; omega
    · simp at hx; subst hx; exact Nat.le_max_right _ _
  nd := by
    rw [List.nodup_append]
    exact ⟨h.nd, by simp, fun x hx y hy e => by simp at hy; subst hy; subst e; exact hn hx⟩
  on := by have := h.on; simp; omega
theorem AlB.called (h : AlB l N X a ps b f0 f S todo out) {f' : Nat} (h1 : f ≤ f') (h2 : f' ≤ l.length) (h3 : f' = f ∨ ∃ p ∈ ps, Pg l N X a p f') : AlB l N X a ps b f0 f' S todo out where
  in_ := h.in_
  td := h.td
  os := h.os
  fl := h2
  fo := Nat.le_trans h.fo h1
  fs := h3.elim (fun e => e ▸ h.fs) .inr
  fx x hx := Nat.le_trans (h.fx x hx) h1
  nd := h.nd
  on := h.on
theorem AlB.pop {x : Nat × Nat} (h : AlB l N X a ps b f0 f S (x :: todo) out) : AlB l N X a ps b f0 f S todo out :=
  ⟨h.in_, fun y hy => h.td y (by simp [hy]), h.os, h.fl, h.fo, h.fs, h.fx, h.nd, by have := h.on; simp at this; omega⟩
theorem AlB.popO {p : Nat} (h : AlB l N X a ps b f0 f S ((b, p) :: todo) out) : AlB l N X a ps b f0 f S todo (out ++ [p]) :=
  ⟨h.in_, fun y hy => h.td y (by simp [hy]), fun j hj => by
    rcases List.mem_append.1 hj with hj | hj
    · exact h.os j hj
    · simp at hj; subst hj; exact (h.in_ (b, j) (h.td _ (by simp))).2.2, h.fl, h.fo, h.fs, h.fx, h.nd, by have := h.on; simp at this ⊢; omega⟩
end
variable (l N X)
def EDn (S : List (Nat × Nat)) (f : Nat) (e : Eg) (p : Nat) : Prop :=
  (e.kind = 0 → (e.to, p) ∈ S) ∧ (e.kind = 1 → l[p]? = some e.num → (e.to, p + 1) ∈ S) ∧
  (e.kind = 2 → f < l.length → (∀ k, Rn l N X (X.ent e.num.toNat) p (X.lve e.num.toNat) k → (e.to, k) ∈ S) ∧ ∀ k, Pg l N X (X.ent e.num.toNat) p k → k ≤ f)
def AFin (b : Nat) (S : List (Nat × Nat)) (f : Nat) (out : List Nat) (x : Nat × Nat) : Prop :=
  (x.1 = b → x.2 ∈ out) ∧ ∀ r, N.es[x.1]? = some r → ∀ e ∈ r, EDn l N X S f e x.2
variable {l N X}
theorem EDn.mono {S S' : List (Nat × Nat)} {f f' : Nat} {e : Eg} {p : Nat} (h : EDn l N X S f e p) (hS : ∀ x ∈ S, x ∈ S') (hf : f ≤ f') : EDn l N X S' f' e p :=
  ⟨fun q => hS _ (h.1 q), fun q1 q2 => hS _ (h.2.1 q1 q2), fun q1 q2 => by
    obtain ⟨h1, h2⟩ := h.2.2 q1 (by omega)
    exact ⟨fun k hk => hS _ (h1 k hk), fun k hk => Nat.le_trans (h2 k hk) hf⟩⟩
theorem AFin.mono {b : Nat} {S S' : List (Nat × Nat)} {f f' : Nat} {out out' : List Nat} {x : Nat × Nat} (h : AFin l N X b S f out x) (hS : ∀ x ∈ S, x ∈ S') (hf : f ≤ f') (ho : ∀ j ∈ out, j ∈ out') : AFin l N X b S' f' out' x :=
  ⟨fun q => ho _ (h.1 q), fun r hr e he => (h.2 r hr e he).mono hS hf⟩
theorem AlB.done {a : Nat} {ps : List Nat} {b f0 f : Nat} {S todo : List (Nat × Nat)} {out : List Nat} (h : AlB l N X a ps b f0 f S todo out) (hs : ∀ p ∈ ps, (a, p) ∈ S) (hf : f < l.length → ∀ x ∈ S, AFin l N X b S f out x) : AOk l N X a ps b out f := by
  have key : f < l.length → ∀ p ∈ ps, ∀ s k, Rn l N X a p s k → (s, k) ∈ S := fun hl p hp s k hr => by
    clear h
    induction hr with
    | refl => exact hs _ hp
    | free _ h1 h2 h3 ih => exact ((hf hl _ (ih hs hp)).2 _ h1 _ h2).1 h3
    | tok _ h1 h2 h3 h4 ih => exact ((hf hl _ (ih hs hp)).2 _ h1 _ h2).2.1 h3 h4
    | call _ h1 h2 h3 h4 ih _ => exact (((hf hl _ (ih hs hp)).2 _ h1 _ h2).2.2 h3 hl).1 _ h4
  refine ⟨h.os, fun hl p hp j hr => (hf hl _ (key hl p hp _ _ hr)).1 rfl, fun hl p hp k hk => ?_, by have := h.on; have := h.cap; omega⟩
  cases hk with
  | here hr => exact h.fx _ (key hl p hp _ _ hr)
  | call hr h1 h2 h3 h4 => exact (((hf hl _ (key hl p hp _ _ hr)).2 _ h1 _ h2).2.2 h3 hl).2 _ h4
end
end Go.Am
namespace Go.Am
open Go Go.Proofs
variable {fz : Nat → Md}
def PlA (kr kM : Nat) (σ : St) (pa : A) (ps : List Nat) : Prop := (∃ z, pa = .d (.slc z (intsD (natsI ps)))) ∨
  ∃ kp, pa = .row kp 0 ps.length 1 ∧ σ.get kp = .cells (ps.map fun (n : Nat) => A.d (.int .i64 (n : Int))) ∧ kp ≠ kr ∧ kp ≠ kM ∧ kp < σ.n
theorem PlA.stay {kr kM : Nat} {σ τ : St} {pa : A} {ps : List Nat} (h : PlA kr kM σ pa ps) (hn : σ.n ≤ τ.n) (hg : ∀ k, k < σ.n → k ≠ kr → k ≠ kM → τ.get k = σ.get k) : PlA kr kM τ pa ps := by
  rcases h with h | ⟨kp, h1, h2, h3, h4, h5⟩
  · exact .inl h
  · exact .inr ⟨kp, h1, (hg kp h5 h3 h4).trans h2, h3, h4, by omega⟩
theorem PlA.len {kr kM : Nat} {σ : St} {pa : A} {ps : List Nat} (h : PlA kr kM σ pa ps) : sliceLen σ pa = some ps.length := by
  rcases h with ⟨z, rfl⟩ | ⟨kp, rfl, h2, -⟩
  · rw [len_ints, natsI_len]
  · rw [sliceLen_row, h2]; rfl
theorem PlA.idx {kr kM : Nat} {σ : St} {pa : A} {ps : List Nat} (h : PlA kr kM σ pa ps) {i : Nat} (hi : i < ps.length) : ∃ Pp R R2, indexK σ 1 pa (.d (.int .i64 (i : Int))) = .val Pp σ [] R ∧ loadK σ (some { kind := TK.int IntKind.i64, size := 1, bytes := 8, zero := some [A.d (D.int IntKind.i64 0)], zval := A.d (D.int IntKind.i64 0) }) Pp = .val (.d (.int .i64 (ps[i] : Int))) σ [] R2 := by
  rcases h with ⟨z, rfl⟩ | ⟨kp, rfl, h2, -⟩
  · have := index_ints (σ := σ) (z := z) (l := natsI ps) (i := i) (by rw [natsI_len]; exact hi)
    rw [show (natsI ps)[i]'(by rw [natsI_len]; exact hi) = (ps[i] : Int) by simp [natsI]] at this
    exact ⟨_, _, _, this, rfl⟩
  · refine ⟨.ptr kp (0 + i * 1), [kp], [kp], ?_, ?_⟩
    · rw [indexK_row, h2]; exact indexR_nat hi
    · rw [loadK_ptr, h2, loadB_cells, Nat.zero_add, Nat.mul_one]
      show loadV σ [kp] (partOf false 1 (ps.map fun (n : Nat) => A.d (.int .i64 (n : Int))) i) = _
      rw [partOf_f, List.getElem?_map, List.getElem?_eq_getElem hi]; rfl
section
variable (fz) (kr kM lo : Nat) (sim tok : D) (l : List Int) (N : Nv) (X : Nx)
def RuleSpec (n p : Nat) : Prop := ∀ (σ : St) (f : Nat) (M : List ((Nat × Nat) × D)), RunM kr kM sim tok f M σ → lo ≤ σ.n → MemoOk l N X f M → f ≤ l.length →
  ∃ (js : List Nat) (f' : Nat) (M' : List ((Nat × Nat) × D)) (σ' : St) (W : List Nat), CallsTo (XX fz) (.func 86 []) [.ptr kr 0, .d (.int .i64 (n : Int)), .d (.int .i64 (p : Int))] σ (.d (slD (natsI js))) σ' W ∧ Mod σ σ' W ∧ σ'.n = σ.n ∧
    RunM kr kM sim tok f' M' σ' ∧ (∀ k ∈ W, k = kr ∨ k = kM) ∧ f ≤ f' ∧ f' ≤ l.length ∧ MemoOk l N X f' M' ∧ (f' = f ∨ Pg l N X (X.ent n) p f') ∧ AOk l N X (X.ent n) [p] (X.lve n) js f'
def AlongSpec (a : Nat) (ps : List Nat) (b : Nat) : Prop := ∀ (pa : A) (σ : St) (f : Nat) (M : List ((Nat × Nat) × D)), PlA kr kM σ pa ps → RunM kr kM sim tok f M σ → lo ≤ σ.n → MemoOk l N X f M → f ≤ l.length →
  ∃ (js : List Nat) (f' : Nat) (M' : List ((Nat × Nat) × D)) (σ' : St) (W : List Nat), CallsTo (XX fz) (.func 73 []) [.ptr kr 0, .d (.int .i64 (a : Int)), pa] σ (.d (slD (natsI js))) σ' W ∧ Mod σ σ' W ∧ σ'.n = σ.n ∧
    RunM kr kM sim tok f' M' σ' ∧ (∀ k ∈ W, k = kr ∨ k = kM) ∧ f ≤ f' ∧ f' ≤ l.length ∧ MemoOk l N X f' M' ∧ (f' = f ∨ ∃ p ∈ ps, Pg l N X a p f') ∧ AOk l N X a ps b js f'
def msr (S todo : List (Nat × Nat)) : Nat := todo.length + (N.es.length * (l.length + 1) - S.length)
structure AF (a : Nat) (ps : List Nat) (b f0 : Nat) (σ : St) (vs : List (Nat × List A)) (f : Nat) (M : List ((Nat × Nat) × D)) (S todo : List (Nat × Nat)) (ks : List Nat) (out : List Nat) (oa : A) (ob : List Nat) (τ : St) (W : List Nat) : Prop where
  fr : FrM σ.n kr kM sim tok f M S todo ks τ
  mod : Mod σ τ W
  mine : ∀ k ∈ W, k = kr ∨ k = kM
  mo : MemoOk l N X f M
  B : AlB l N X a ps b f0 f S todo out
  ro : RowN 1 τ oa (intsD (natsI out)) ob
  od : ∀ k ∈ ob, σ.n + 4 ≤ k ∧ k ∉ ks
  vs : ∀ v ∈ vs, σ.n + 4 ≤ v.1 ∧ v.1 < τ.n ∧ v.1 ∉ ks ∧ v.1 ∉ ob ∧ τ.get v.1 = .cells v.2
end
section
variable {kr kM lo : Nat} {sim tok : D} {l : List Int} {N : Nv} {X : Nx} {a : Nat} {ps : List Nat} {b f0 : Nat} {σ : St} {vs : List (Nat × List A)} {f : Nat} {M : List ((Nat × Nat) × D)} {S todo : List (Nat × Nat)} {ks : List Nat} {out : List Nat} {oa : A} {ob : List Nat} {τ : St} {W : List Nat}
theorem AF.tdl (h : AF kr kM sim tok l N X a ps b f0 σ vs f M S todo ks out oa ob τ W) : ∀ k ∈ ks, σ.n + 4 ≤ k ∧ k < τ.n := by
  obtain ⟨av, -, td⟩ := h.fr.gt
  exact td.lt
theorem AF.reach (h85 : fz 85 = .keep) (hP : Plc σ.n kr kM) (hC : N.es.length * (l.length + 1) < 1000000000) (h : AF kr kM sim tok l N X a ps b f0 σ vs f M S todo ks out oa ob τ W) {s p : Nat} (hs : s < N.es.length) (hp : p ≤ l.length) (hr : ∃ p0 ∈ ps, Rn l N X a p0 s p) :
    ∃ (τ' : St) (T : List Nat) (f' : Nat) (S' todo' : List (Nat × Nat)) (ks' : List Nat), CallsTo (XX fz) (.func 85 [.ptr (σ.n + 2) 0, .ptr (σ.n + 3) 0, .ptr σ.n 0]) [.d (.int .i64 (s : Int)), .d (.int .i64 (p : Int))] τ (.tup []) τ' T ∧
      AF kr kM sim tok l N X a ps b f0 σ vs f' M S' todo' ks' out oa ob τ' (W ++ low σ.n T) ∧ (s, p) ∈ S' ∧ (∀ x ∈ S, x ∈ S') ∧ (∀ x ∈ S', x ∈ S ∨ x ∈ todo') ∧ (∀ x ∈ todo, x ∈ todo') ∧ f ≤ f' ∧ msr l N S' todo' = msr l N S todo := by
  have hl : todo.length < 1000000000 := by have := h.B.on; have := h.B.cap; omega
  obtain ⟨τ', T, c, f', S', todo', ks', h1, h2, h3, h4, h5, h6⟩ := reach_c h85 hP h.fr hl s p
  have hn := h.fr.n
  have hks := h.tdl
  have l1 := hP.r
  have l2 := hP.m
  have hlow : ∀ k ∈ low σ.n T, k = kr := fun k hk => by
    obtain ⟨q1, q2⟩ := mem_low.1 hk
    rcases h6 k q1 with q | q | q | q | q
    · exact q
    · omega
    · omega
    · have := hks k q; omega
    · omega
  have hsame : ∀ k, σ.n + 4 ≤ k → k < τ.n → k ∉ ks → τ'.get k = τ.get k := fun k q1 q2 q3 => h5 k q2 (by omega) (by omega) (by omega) q3
  have hks' : ∀ k, k < τ.n → k ∉ ks → k ∉ ks' := fun k q1 q2 => by
    rcases h4 with rfl | ⟨j, rfl, hj⟩
    · exact q2
    · simp; omega
  have keep : AlB l N X a ps b f0 f' S' todo' out → AF kr kM sim tok l N X a ps b f0 σ vs f' M S' todo' ks' out oa ob τ' (W ++ low σ.n T) := fun hB => by
    have hfo : f ≤ f' := by
      rcases h2 with ⟨-, -, -, e⟩ | ⟨-, -, -, e⟩
      · rw [e]; exact Nat.le_refl _
      · rw [e]; exact Nat.le_max_left _ _
    refine ⟨h1, h.mod.call h3, fun k hk => ?_, h.mo.mono hfo, hB, h.ro.stay h3.n fun k hk => hsame k (h.od k hk).1 (h.ro.1.lt hk) (h.od k hk).2, fun k hk => ⟨(h.od k hk).1, hks' k (h.ro.1.lt hk) (h.od k hk).2⟩, fun v hv => ?_⟩
    · rcases List.mem_append.1 hk with hk | hk
      · exact h.mine k hk
      · exact .inl (hlow k hk)
    · obtain ⟨v1, v2, v3, v4, v5⟩ := h.vs v hv
      exact ⟨v1, Nat.lt_of_lt_of_le v2 h3.n, hks' _ v2 v3, v4, (hsame _ v1 v2 v3).trans v5⟩
  rcases h2 with ⟨e, rfl, rfl, rfl⟩ | ⟨e, rfl, rfl, rfl⟩
  · exact ⟨τ', T, f', S', todo', ks', c, keep h.B, e, fun _ hx => hx, fun _ hx => .inl hx, fun _ hx => hx, Nat.le_refl _, rfl⟩
  · have hB := h.B.reach hs hp hr e
    refine ⟨τ', T, _, _, _, ks', c, keep hB, by simp, fun x hx => List.mem_append_left _ hx, fun x hx => ?_, fun x hx => List.mem_append_left _ hx, Nat.le_max_left _ _, ?_⟩
    · rcases List.mem_append.1 hx with hx | hx
      · exact .inl hx
      · exact .inr (List.mem_append_right _ hx)
    · have := hB.cap
      simp only [List.length_append, List.length_singleton] at this
      unfold msr
      simp only [List.length_append, List.length_singleton]; omega
theorem AF.rule (hP : Plc σ.n kr kM) (hlo : lo ≤ σ.n) {n p : Nat} (hs : RuleSpec fz kr kM lo sim tok l N X n p) (h : AF kr kM sim tok l N X a ps b f0 σ vs f M S todo ks out oa ob τ W)
    (hr : ∀ k, Pg l N X (X.ent n) p k → ∃ p0 ∈ ps, Pg l N X a p0 k) :
    ∃ (js : List Nat) (τ' : St) (T : List Nat) (f' : Nat) (M' : List ((Nat × Nat) × D)), CallsTo (XX fz) (.func 86 []) [.ptr kr 0, .d (.int .i64 (n : Int)), .d (.int .i64 (p : Int))] τ (.d (slD (natsI js))) τ' T ∧
      AF kr kM sim tok l N X a ps b f0 σ vs f' M' S todo ks out oa ob τ' (W ++ low σ.n T) ∧ f ≤ f' ∧ AOk l N X (X.ent n) [p] (X.lve n) js f' := by
  have hn := h.fr.n
  have l1 := hP.r
  have l2 := hP.m
  obtain ⟨js, f', M', τ', T, c, hm, hn', hM, hT, h1, h2, h3, h4, h5⟩ := hs τ f M h.fr.run (by omega) h.mo h.B.fl
  have hsame : ∀ k, σ.n ≤ k → k < τ.n → τ'.get k = τ.get k := fun k q1 q2 => hm.same k q2 fun q => by
    rcases hT k q with e | e <;> omega
  refine ⟨js, τ', T, f', M', c, ⟨⟨hM, ?_, ?_, ?_, ?_, by omega⟩, h.mod.call hm, fun k hk => ?_, h3, h.B.called h1 h2 (h4.imp id (hr _)), h.ro.stay hm.n fun k hk => hsame k (by have := (h.od k hk).1; omega) (h.ro.1.lt hk), h.od, fun v hv => ?_⟩, h1, h5⟩
  · rw [hsame _ (Nat.le_refl _) (by omega)]; exact h.fr.gc
  · rw [hsame _ (by omega) (by omega)]; exact h.fr.gS
  · rw [hsame _ (by omega) (by omega)]; exact h.fr.gs
  · obtain ⟨av, q1, q2⟩ := h.fr.gt
    exact ⟨av, by rw [hsame _ (by omega) (by omega)]; exact q1, q2.stay hm.n fun k hk => hsame k (by have := (q2.lt k hk).1; omega) (q2.lt k hk).2⟩
  · rcases List.mem_append.1 hk with hk | hk
    · exact h.mine k hk
    · exact hT k (mem_low.1 hk).1
  · obtain ⟨v1, v2, v3, v4, v5⟩ := h.vs v hv
    exact ⟨v1, Nat.lt_of_lt_of_le v2 hm.n, v3, v4, (hsame _ (by omega) v2).trans v5⟩
theorem AF.push (hP : Plc σ.n kr kM) (h : AF kr kM sim tok l N X a ps b f0 σ vs f M S todo ks out oa ob τ W) (cs : List A) : AF kr kM sim tok l N X a ps b f0 σ ((τ.n, cs) :: vs) f M S todo ks out oa ob (τ.push (.cells cs)) W := by
  have hn := h.fr.n
  have l1 := hP.r
  have l2 := hP.m
  have g : ∀ k, k < τ.n → (τ.push (.cells cs)).get k = τ.get k := fun k hk => St.get_push_ne hk
  refine ⟨⟨h.fr.run.stay (g _ (by omega)) (g _ (by omega)), (g _ (by omega)).trans h.fr.gc, (g _ (by omega)).trans h.fr.gS, (g _ (by omega)).trans h.fr.gs, ?_, by rw [St.n_push]; omega⟩, h.mod.push, h.mine, h.mo, h.B, h.ro.stay (by rw [St.n_push]; omega) fun k hk => g k (h.ro.1.lt hk), h.od, fun v hv => ?_⟩
  · obtain ⟨av, q1, q2⟩ := h.fr.gt
    exact ⟨av, (g _ (by omega)).trans q1, q2.stay (by rw [St.n_push]; omega) fun k hk => g k (q2.lt k hk).2⟩
  · rcases List.mem_cons.1 hv with rfl | hv
    · exact ⟨by dsimp only; omega, by dsimp only; rw [St.n_push]; omega, fun q => by have := (h.tdl _ q).2; dsimp only at this; omega, fun q => by have := h.ro.1.lt q; dsimp only at this; omega, St.get_push_eq⟩
    · obtain ⟨v1, v2, v3, v4, v5⟩ := h.vs v hv
      exact ⟨v1, by rw [St.n_push]; omega, v3, v4, (g _ v2).trans v5⟩
theorem AF.set (hP : Plc σ.n kr kM) {k : Nat} {cs0 : List A} (h : AF kr kM sim tok l N X a ps b f0 σ ((k, cs0) :: vs) f M S todo ks out oa ob τ W) (hv : ∀ v ∈ vs, v.1 ≠ k) (cs : List A) : AF kr kM sim tok l N X a ps b f0 σ ((k, cs) :: vs) f M S todo ks out oa ob (τ.set k (.cells cs)) W := by
  have hn := h.fr.n
  have l1 := hP.r
  have l2 := hP.m
  obtain ⟨k1, k2, k3, k4, k5⟩ := h.vs (k, cs0) (by simp)
  dsimp only at k1 k2 k3 k4 k5
  have g : ∀ j, j ≠ k → (τ.set k (.cells cs)).get j = τ.get j := fun j hj => St.get_set_ne hj
  refine ⟨⟨h.fr.run.stay (g _ (by omega)) (g _ (by omega)), (g _ (by omega)).trans h.fr.gc, (g _ (by omega)).trans h.fr.gS, (g _ (by omega)).trans h.fr.gs, ?_, by rw [St.n_set]; omega⟩, h.mod.set (by omega), h.mine, h.mo, h.B, h.ro.stay (by rw [St.n_set]; exact Nat.le_refl _) fun j hj => g j (fun e => k4 (e ▸ hj)), h.od, fun v hv' => ?_⟩
  · obtain ⟨av, q1, q2⟩ := h.fr.gt
    exact ⟨av, (g _ (by omega)).trans q1, q2.stay (by rw [St.n_set]; exact Nat.le_refl _) fun j hj => g j (fun e => k3 (e ▸ hj))⟩
  · rcases List.mem_cons.1 hv' with rfl | hv'
    · exact ⟨k1, by rw [St.n_set]; exact k2, k3, k4, St.get_set_eq⟩
    · obtain ⟨v1, v2, v3, v4, v5⟩ := h.vs v (by simp [hv'])
      exact ⟨v1, by rw [St.n_set]; exact v2, v3, v4, (g _ (hv v hv')).trans v5⟩
theorem AF.less {vs' : List (Nat × List A)} (h : AF kr kM sim tok l N X a ps b f0 σ vs f M S todo ks out oa ob τ W) (hv : ∀ v ∈ vs', v ∈ vs) : AF kr kM sim tok l N X a ps b f0 σ vs' f M S todo ks out oa ob τ W :=
  { h with vs := fun v q => h.vs v (hv v q) }
end
end Go.Am
namespace Go.Am
open Go Go.Proofs
variable {fz : Nat → Md}
theorem CallsTo.iceP {X : X} {f : Nat} {args : List A} {F : AFn} {σ : St} {P : A → St → List Nat → Prop} (hz : X.fz f = .ice) (hF : X.fn f = some F) (hl : args.length ≤ F.nt)
    (e : Ev X f F.nt none σ.n [.code F.body] (initTm args 0 .nil) σ [] (RetQ X F.results fun a σ1 W1 => ∃ r, freezeV σ1 σ.n fzDepth a = some r ∧ Mod σ σ1 W1 ∧ (∀ k, k ∈ W1 → (σ1.get k).under σ.n = true) ∧ P r σ1 W1)) :
    ∃ r σ' W' σ1, CallsTo X (.func f []) args σ r σ' W' ∧ Mod σ σ' W' ∧ σ'.n = σ.n ∧ (∀ k, k < σ.n → σ'.get k = σ1.get k) ∧ P r σ1 W' := by
  obtain ⟨n, o, hn, hq⟩ := e
  cases o with
  | leave _ _ _ => exact hq.elim
  | ret tm σ1 W1 =>
    unfold RetQ at hq
    dsimp only at hq
    split at hq
    · rename_i l hl'
      obtain ⟨r, hr, h4, h5, h6⟩ := hq
      refine ⟨r, cutSt σ σ1 W1, W1, σ1, CallsTo.ofQ hF (by simpa using hl) ⟨n, _, by rw [List.append_nil]; exact hn, ?_⟩, ⟨by rw [n_cutSt]; exact Nat.le_refl _, fun k _ hk => by rw [get_cutSt, if_neg hk], h4.lt⟩, n_cutSt _ _ _, fun k hk => ?_, h6⟩
      · unfold RetQ; dsimp only; rw [hl']
        simp [leaveCall, hz, hr]
        first | exact h5 | exact fun k hk => h5 k hk | exact fun k hk e => absurd (h5 k hk) (by rw [e]; simp)
      · rw [get_cutSt]; split
        · rfl
        · rename_i h; exact (h4.same k hk h).symm
    · exact hq.elim
theorem Ev.mid {X : X} {f nt lo : Nat} {ro : Option Nat} {c : Item} {rest : List Item} {tm : Tm} {σ : St} {W : List Nat} {Q : Out → Prop} (I : Tm → St → List Nat → Prop) (h2 : ∀ rest, (∀ tm σ W, I tm σ W → Ev X f nt ro lo rest tm σ W Q) → Ev X f nt ro lo (c :: rest) tm σ W Q) (h1 : ∀ tm σ W, I tm σ W → Ev X f nt ro lo rest tm σ W Q) : Ev X f nt ro lo (c :: rest) tm σ W Q := h2 rest h1
section
variable {kr kM lo : Nat} {sim tok : D} {l : List Int} {N : Nv} {X : Nx} {a : Nat} {ps : List Nat} {b f0 : Nat} {σ : St} {vs : List (Nat × List A)} {f : Nat} {M : List ((Nat × Nat) × D)} {S todo : List (Nat × Nat)} {ks : List Nat} {out : List Nat} {oa : A} {ob : List Nat} {τ : St} {W : List Nat}
theorem AF.pop (hP : Plc σ.n kr kM) {s p : Nat} (h : AF kr kM sim tok l N X a ps b f0 σ vs f M S ((s, p) :: todo) ks out oa ob τ W) :
    ∃ kq off cs, τ.get (σ.n + 3) = .cells [.row kq off (todo.length + 1) 2] ∧ τ.get kq = .cells cs ∧ cs[off]? = some (.d (.int .i64 (s : Int))) ∧ cs[off + 1]? = some (.d (.int .i64 (p : Int))) ∧ off + 2 ≤ cs.length ∧ σ.n + 4 ≤ kq ∧ kq < τ.n ∧ kq ∈ ks ∧
      AF kr kM sim tok l N X a ps b f0 σ vs f M S todo ks out oa ob (τ.set (σ.n + 3) (.cells [.row kq (off + 2) todo.length 2])) W := by
  have hn := h.fr.n
  have l1 := hP.r
  have l2 := hP.m
  obtain ⟨av, q1, q2⟩ := h.fr.gt
  obtain ⟨kq, off, cs, rfl, rfl, h2, h3, h4, h5, h6, h7, h8⟩ := q2.tail
  have g : ∀ j, j ≠ σ.n + 3 → (τ.set (σ.n + 3) (.cells [.row kq (off + 2) todo.length 2])).get j = τ.get j := fun j hj => St.get_set_ne hj
  refine ⟨kq, off, cs, q1, h2, h3, h4, h5, h6, h7, by simp, ⟨⟨h.fr.run.stay (g _ (by omega)) (g _ (by omega)), (g _ (by omega)).trans h.fr.gc, (g _ (by omega)).trans h.fr.gS, (g _ (by omega)).trans h.fr.gs, ⟨_, St.get_set_eq, h8.stay (by rw [St.n_set]; exact Nat.le_refl _) fun j hj => g j (by have := (h8.lt j hj).1; omega)⟩, by rw [St.n_set]; exact hn⟩, h.mod.set (by omega), h.mine, h.mo, h.B.pop,
    h.ro.stay (by rw [St.n_set]; exact Nat.le_refl _) fun j hj => g j (by have := (h.od j hj).1; omega), h.od, fun v hv => ?_⟩⟩
  obtain ⟨v1, v2, v3, v4, v5⟩ := h.vs v hv
  exact ⟨v1, by rw [St.n_set]; exact v2, v3, v4, (g _ (by omega)).trans v5⟩
theorem AF.outA (hP : Plc σ.n kr kM) (h : AF kr kM sim tok l N X a ps b f0 σ vs f M S todo ks out oa ob τ W) {p : Nat} (hB : AlB l N X a ps b f0 f S todo (out ++ [p])) (hC : N.es.length * (l.length + 1) < 1000000000) :
    ∃ a' τ' T ob', appendA 1 8 (τ.push (.cells [.d (.int .i64 (p : Int))])) oa (.row τ.n 0 1 1) = .val a' τ' T [] ∧ AF kr kM sim tok l N X a ps b f0 σ vs f M S todo ks (out ++ [p]) a' ob' τ' W ∧ a'.cells = some [a'] ∧ a'.isCell = true ∧ low σ.n T = [] := by
  have hn := h.fr.n
  have l1 := hP.r
  have l2 := hP.m
  have hl : out.length < 1000000000 := by have := h.B.on; have := h.B.cap; omega
  have h1 := h.push hP [.d (.int .i64 (p : Int))]
  obtain ⟨a', τ', T, ob', happ, hR, hK⟩ := h1.ro.app (b := 8) (x := .row τ.n 0 1 1) (ys := [[.int .i64 (p : Int)]]) (by rw [sliceCells_row St.get_push_eq (by simp)]; rfl) (by rw [sliceLen_row, St.get_push_eq]; rfl) (by simp) (by rw [intsD_len, natsI_len]; simp; omega) (by rw [intsD_len, natsI_len]; simp; omega)
  have hx : intsD (natsI out) ++ [[D.int .i64 (p : Int)]] = intsD (natsI (out ++ [p])) := by simp [intsD, natsI]
  rw [hx] at hR
  have hpn : τ.n < (τ.push (Blk.cells [A.d (D.int IntKind.i64 (p : Int))])).n := by rw [St.n_push]; omega
  have g : ∀ k, k < τ.n → k ∉ ob → τ'.get k = τ.get k := fun k q1 q2 => by rw [hK.same k (by omega) q2, St.get_push_ne q1]
  have hnn : τ.n ≤ τ'.n := Nat.le_trans (by omega) hK.n
  have nob : ∀ k, k < σ.n + 4 → k ∉ ob := fun k q1 q2 => by have := (h.od k q2).1; omega
  refine ⟨a', τ', T, ob', happ, ⟨⟨h.fr.run.stay (g _ (by omega) (nob _ (by omega))) (g _ (by omega) (nob _ (by omega))), (g _ (by omega) (nob _ (by omega))).trans h.fr.gc, (g _ (by omega) (nob _ (by omega))).trans h.fr.gS, (g _ (by omega) (nob _ (by omega))).trans h.fr.gs, ?_, by omega⟩, ⟨Nat.le_trans h.mod.n hnn, fun k q1 q2 => by rw [g k (by omega) (nob _ (by omega))]; exact h.mod.same k q1 q2, h.mod.lt⟩, h.mine, h.mo, hB, hR, fun k hk => ?_, fun v hv => ?_⟩, hR.1.cells, hR.1.cell, low_all fun k hk => ?_⟩
  · obtain ⟨av, q1, q2⟩ := h.fr.gt
    exact ⟨av, (g _ (by omega) (nob _ (by omega))).trans q1, q2.stay hnn fun k hk => g k (q2.lt k hk).2 fun q => (h.od k q).2 hk⟩
  · rcases hK.o k hk with q | q
    · exact h.od k q
    · exact ⟨by omega, fun e => by have := (h.tdl k e).2; omega⟩
  · obtain ⟨v1, v2, v3, v4, v5⟩ := h.vs v hv
    exact ⟨v1, by omega, v3, fun e => by rcases hK.o _ e with q | q; exact v4 q; omega, (g _ v2 v4).trans v5⟩
  · rcases hK.w k hk with q | q
    · have := (h.od k q).1; omega
    · omega
theorem AF.frz (h : AF kr kM sim tok l N X a ps b f0 σ vs f M S todo ks out oa ob τ W) (hC : N.es.length * (l.length + 1) < 1000000000) : freeze τ σ.n fzDepth oa = some (slD (natsI out)) := by
  have hl : out.length < 1000000000 := by have := h.B.on; have := h.B.cap; omega
  have := h.ro.freeze (lo := σ.n) (n := fzDepth) (fun k hk => by have := (h.od k hk).1; omega) (by rw [intsD_len, natsI_len]; unfold fzDepth; omega)
  rw [this, isE]; rfl
theorem AF.undr (h : AF kr kM sim tok l N X a ps b f0 σ vs f M S todo ks out oa ob τ W) (hkM : kM < σ.n) : ∀ k ∈ W, (τ.get k).under σ.n = true := fun k hk => by
  rcases h.mine k hk with rfl | rfl
  · rw [h.fr.run.cell]
    simp [Blk.under, A.underL, A.under, hkM]
  · rw [h.fr.run.gm]; exact PM_under _ _
end
end Go.Am

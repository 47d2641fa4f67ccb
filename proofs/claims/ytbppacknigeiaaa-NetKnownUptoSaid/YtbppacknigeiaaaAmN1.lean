/- Part N1 of a proof that runs a program's calls on a small machine whose values bear no addresses: no conditions. -/
import Derived.Test.YtbppacknigeiaaaAmM7
import Derived.Test.YtbppacknigeiaaaAmT2
import Derived.Test.YtbppacknigeiaaaAmP5
set_option autoImplicit false
set_option linter.unusedSimpArgs false
set_option linter.unusedVariables false
set_option linter.unusedSectionVars false
namespace Go.Am
open Go Go.Proofs
set_option maxRecDepth 1000000
/-- what New makes, computed -/
def newC (g : Gr) : Option A :=
  if (checkP g != 0) = true then some (.tup [.d .nptr, .d (.int .i64 (checkP g))]) else
  match shX g.bodies 1000 (K0 g.bodies.length) with
  | some R => some (.tup [.d (.vptr (netC (newN g).N ⟨(newN g).en, (newN g).lv, (List.range g.rules.length).map (fun k => (kF R k).getD []), (List.range g.rules.length).map (fun k => (kF R k).isNone)⟩) 0), .d (.int .i64 0)])
  | none => none
theorem newC_ok {g : Gr} {r : A} (h : newC g = some r) : r = .tup [.d (newV g).1, .d (.int .i64 (newV g).2)] := by
  unfold newC at h
  unfold newV
  split at h
  · rename_i hc; cases h; rw [if_pos hc]
  · rename_i hc
    rw [if_neg hc]
    have k := GOk.of (show checkP g = 0 by simpa using hc)
    split at h
    · rename_i R hR
      have : R = shEnd g.bodies := (shX_ok k.ok k.tok 1000 _ R (K0_ok _) hR _ (Nat.lt_succ_self _)).symm
      subst this
      cases h
      rfl
    · cases h
def F11 : List A → Option A
  | [a] => match decG a with
    | some g => newC g
    | none => none
  | _ => none
theorem newV_pure (g : Gr) : (A.tup [.d (newV g).1, .d (.int .i64 (newV g).2)]).pureT = true := rfl
theorem ora11 : OraS Try.prog 11 F11 := by
  refine oraS_of (fz := mdS) oraMS mixedT fun args r h => ?_
  unfold F11 at h
  split at h
  · split at h
    · rename_i a g hg
      obtain ⟨rfl, hs⟩ := decG_sound hg
      have := newC_ok h
      subst this
      exact ⟨newV_pure g, _, _, new_S g St.empty hs⟩
    · cases h
  · cases h
/-- modes under which the closed statement runs -/
def mdNK : Nat → Md := fun f => match f with
  | 10 => .ora F10 | 11 => .ora F11 | 33 => .ora F28
  | 13 | 16 | 45 | 46 | 48 | 51 => .ice
  | 88 => .keep
  | _ => .cut
theorem oraNK : ∀ f F, oraOf (mdNK f) = some F → OraS Try.prog f F := by
  intro f F h
  unfold mdNK at h
  split at h <;> cases h
  · exact ora10
  · exact ora11
  · exact ora28
end Go.Am
namespace Go.Am
open Go Go.Proofs
variable {fz : Nat → Md}
/-! equal data -/
mutual
def beqD : D → D → Bool
  | .bool a, .bool b => a == b
  | .int k a, .int j b => decide (k = j) && decide (a = b)
  | .slc z xs, .slc y ys => (z == y) && beqLL xs ys
  | _, _ => false
def beqL : List D → List D → Bool
  | [], [] => true
  | a :: l, b :: r => beqD a b && beqL l r
  | _, _ => false
def beqLL : List (List D) → List (List D) → Bool
  | [], [] => true
  | a :: l, b :: r => beqL a b && beqLL l r
  | _, _ => false
end
mutual
theorem beqD_eq : ∀ (a b : D), beqD a b = true → a = b
  | .bool a, .bool b, h => by rw [beqD, beq_iff_eq] at h; rw [h]
  | .int k a, .int j b, h => by rw [beqD, Bool.and_eq_true, decide_eq_true_eq, decide_eq_true_eq] at h; rw [h.1, h.2]
  | .slc z xs, .slc y ys, h => by rw [beqD, Bool.and_eq_true, beq_iff_eq] at h; rw [h.1, beqLL_eq xs ys h.2]
  | .bool _, .int _ _, h => by simp [beqD] at h
  | .bool _, .slc _ _, h => by simp [beqD] at h
  | .int _ _, .bool _, h => by simp [beqD] at h
  | .int _ _, .slc _ _, h => by simp [beqD] at h
  | .slc _ _, .bool _, h => by simp [beqD] at h
  | .slc _ _, .int _ _, h => by simp [beqD] at h
  | .str _, b, h => by cases b <;> simp [beqD] at h
  | .vptr _ _, b, h => by cases b <;> simp [beqD] at h
  | .nptr, b, h => by cases b <;> simp [beqD] at h
  | .nmap, b, h => by cases b <;> simp [beqD] at h
  | .nfunc, b, h => by cases b <;> simp [beqD] at h
  | .bool _, .str _, h => by simp [beqD] at h
  | .bool _, .vptr _ _, h => by simp [beqD] at h
  | .bool _, .nptr, h => by simp [beqD] at h
  | .bool _, .nmap, h => by simp [beqD] at h
  | .bool _, .nfunc, h => by simp [beqD] at h
  | .int _ _, .str _, h => by simp [beqD] at h
  | .int _ _, .vptr _ _, h => by simp [beqD] at h
  | .int _ _, .nptr, h => by simp [beqD] at h
  | .int _ _, .nmap, h => by simp [beqD] at h
  | .int _ _, .nfunc, h => by simp [beqD] at h
  | .slc _ _, .str _, h => by simp [beqD] at h
  | .slc _ _, .vptr _ _, h => by simp [beqD] at h
  | .slc _ _, .nptr, h => by simp [beqD] at h
  | .slc _ _, .nmap, h => by simp [beqD] at h
  | .slc _ _, .nfunc, h => by simp [beqD] at h
theorem beqL_eq : ∀ (a b : List D), beqL a b = true → a = b
  | [], [], _ => rfl
  | a :: l, b :: r, h => by rw [beqL, Bool.and_eq_true] at h; rw [beqD_eq a b h.1, beqL_eq l r h.2]
  | [], _ :: _, h => by simp [beqL] at h
  | _ :: _, [], h => by simp [beqL] at h
theorem beqLL_eq : ∀ (a b : List (List D)), beqLL a b = true → a = b
  | [], [], _ => rfl
  | a :: l, b :: r, h => by rw [beqLL, Bool.and_eq_true] at h; rw [beqL_eq a b h.1, beqLL_eq l r h.2]
  | [], _ :: _, h => by simp [beqLL] at h
  | _ :: _, [], h => by simp [beqLL] at h
end
/-! rounds, with a fuel that tells where it ends -/
def nsX (X : Nx) (N : Nv) (ru : Int) : Nat → KT → Option KT
  | 0, _ => none
  | n + 1, K => if (nsP X N ru N.es 0 K false).2 = true then nsX X N ru n (nsP X N ru N.es 0 K false).1 else some (nsP X N ru N.es 0 K false).1
theorem nsX_ok {X : Nx} {N : Nv} {ru : Int} (ho : OwS X N) : ∀ (n : Nat) (K R : KT), SmK K → N.es.length ≤ K.length → nsX X N ru n K = some R → ∀ m, meas K < m → nsF X N ru m K = R
  | 0, K, R, _, _, h, _, _ => by cases h
  | n + 1, K, R, hK, hl, h, m, hm => by
    obtain ⟨m, rfl⟩ : ∃ q, m = q + 1 := ⟨m - 1, by omega⟩
    obtain ⟨p1, p2, p3, p4⟩ := nsP_ok (X := X) (N := N) (ru := ru) N.es 0 K false ho (by omega) hK
    rw [nsX] at h
    rw [nsF]
    split
    · rename_i hh
      rw [if_pos hh] at h
      exact nsX_ok ho n _ R p1 (by omega) h m (by have := p4 rfl hh; omega)
    · rename_i hh
      rw [if_neg hh] at h
      exact Option.some.inj h
/-- a network of which Short can be told -/
def sm64 (l : List Int) : Bool := l.all fun a => decide (0 ≤ a) && decide (a < 64)
theorem sm64_iff {l : List Int} (h : sm64 l = true) : small64 l := fun a ha => by
  have := List.all_eq_true.1 h a ha
  simpa using this
def okNX (N : Nv) (X : Nx) : Bool := decide (N.rs.length = N.es.length) && !N.es.isEmpty && decide (N.es.length ≤ 10000) &&
  N.es.all fun row => decide (row.length ≤ 10000) && row.all fun e => decide (0 ≤ e.kind) && decide (e.kind ≤ 2) && decide (0 ≤ e.num) && (if e.kind = 2 then decide (e.num < X.ca.length) && decide (e.num < X.lg.length) else true) && decide ((ownP X e).1.length ≤ 256) && sm64 (ownP X e).1
theorem okNX_iff {N : Nv} {X : Nx} (h : okNX N X = true) : N.Fits 10000 ∧ ShE N X := by
  unfold okNX at h
  simp only [Bool.and_eq_true, decide_eq_true_eq, List.all_eq_true, Bool.not_eq_true'] at h
  obtain ⟨⟨⟨h1, h2⟩, h3⟩, h4⟩ := h
  refine ⟨⟨h3, h1, fun x hx => (h4 x hx).1⟩, h1, fun h0 => (by rw [h0] at h2; cases h2), fun row hr e he _ => sm64_iff ((h4 row hr).2 e he).2, fun row hr e he => ?_⟩
  obtain ⟨⟨⟨⟨⟨a1, a2⟩, a3⟩, a4⟩, a5⟩, -⟩ := (h4 row hr).2 e he
  refine ⟨⟨a1, a2⟩, a3, fun k => ?_, a5⟩
  rw [if_pos k, Bool.and_eq_true, decide_eq_true_eq, decide_eq_true_eq] at a4; exact a4
def shNX (N : Nv) (X : Nx) (s : Int) : Option A :=
  if okNX N X = false ∨ s < 0 ∨ s ≥ N.es.length then none else
  if N.rule s.toNat < 0 ∨ N.rule s.toNat ≥ X.lv.length then none else
  if X.lv.getD (N.rule s.toNat).toNat 0 < 0 ∨ X.lv.getD (N.rule s.toNat).toNat 0 ≥ N.es.length then none else
  match nsX X N (N.rule s.toNat) 1000 (nsK0 N (X.lv.getD (N.rule s.toNat).toNat 0).toNat) with
  | some K => match kF K s.toNat with
    | some l => some (.tup [.d (slD l), .d (.int .i64 0)])
    | none => some (.tup [.d (.slc true []), .d (.int .i64 5)])
  | none => none
theorem shNX_call {N : Nv} {X : Nx} {s : Int} {r : A} (h : shNX N X s = some r) (σ : St) : r.pureT = true ∧ CallsTo (XX mdS) (.func 13 []) [netP N X, .d (.int .i64 s)] σ r σ [] := by
  unfold shNX at h
  split at h
  · cases h
  rename_i c1
  split at h
  · cases h
  rename_i c2
  split at h
  · cases h
  rename_i c3
  split at h
  rotate_left
  · cases h
  rename_i K hK
  have hok : okNX N X = true := by
    cases hq : okNX N X with
    | true => rfl
    | false => exact absurd (.inl hq) c1
  obtain ⟨hF, hE⟩ := okNX_iff hok
  obtain ⟨st, rfl⟩ := Int.eq_ofNat_of_zero_le (show 0 ≤ s by omega)
  rw [Int.toNat_natCast] at h c2 c3 hK
  obtain ⟨ru, hru⟩ := Int.eq_ofNat_of_zero_le (show 0 ≤ N.rule st by omega)
  rw [hru, Int.toNat_natCast] at c3 hK
  rw [hru] at c2
  obtain ⟨lf, hlf⟩ := Int.eq_ofNat_of_zero_le (show 0 ≤ X.lv.getD ru 0 by omega)
  rw [hlf, Int.toNat_natCast] at hK
  rw [hlf] at c3
  have hlN : lf < N.es.length := by omega
  have hend : nsEnd X N ru lf = K := nsX_ok hE.ow 1000 _ K (nsK0_Sm hlN) (by simp [nsK0, K0]) hK _ (Nat.lt_succ_self _)
  have key := nshort_c (fz := mdS) rfl rfl rfl rfl rfl rfl rfl rfl rfl rfl hF (by omega) hE st ru lf (by omega) hru (by omega) hlf hlN σ
  unfold nshV at key
  rw [hend] at key
  cases hk : kF K st with
  | some l => rw [hk] at h key; cases h; exact ⟨rfl, key⟩
  | none => rw [hk] at h key; cases h; exact ⟨rfl, key⟩
/-! what is no network, and numbers of no state -/
set_option maxHeartbeats 1000000 in
theorem none_n (h50 : fz 50 = .cut) (σ : St) : CallsTo (XX fz) (.func 50 []) [.d .nptr] σ (.d (.bool true)) σ [] := by
  refine CallsTo.cut0 h50 fn50 (by simp) rfl ?_
  simp only [Try.f50, Option.getD_some]
  simp only [go_sem, ↓reduceIte, Int.reduceEq, Nat.reduceBEq, Int.reduceBEq, Int.reduceBNe, Int.reduceLT, Int.reduceLE, Nat.reduceAdd, Nat.reducePow, Nat.reduceEqDiff, Nat.reduceLT, Nat.reduceLeDiff, Nat.reduceMul, Nat.reduceSub, eq_nptr2, OpR.of]
set_option maxHeartbeats 1000000 in
theorem short_n (h50 : fz 50 = .cut) (h44 : fz 44 = .cut) (h13 : fz 13 = .ice) (s : Int) (σ : St) : CallsTo (XX fz) (.func 13 []) [.d .nptr, .d (.int .i64 s)] σ (.tup [.d (.slc true []), .d (.int .i64 1)]) σ [] := by
  have ha : ∀ σ : St, CallsTo (XX fz) (.func 44 []) [.d .nptr, .d (.int .i64 s)] σ (.d (.int .i64 1)) σ [] := fun σ => by
    refine CallsTo.cut0 h44 fn44 (by simp) rfl ?_
    simp only [Try.f44, Option.getD_some]
    simp only [go_sem, ↓reduceIte, Int.reduceEq, Nat.reduceBEq, Int.reduceBEq, Int.reduceBNe, Int.reduceLT, Int.reduceLE, Nat.reduceAdd, Nat.reducePow, Nat.reduceEqDiff, Nat.reduceLT, Nat.reduceLeDiff, Nat.reduceMul, Nat.reduceSub]
    refine ⟨_, _, _, none_n h50 _, ?_⟩
    simp only [go_sem, ↓reduceIte, Int.reduceEq, Nat.reduceBEq, Int.reduceBEq, Int.reduceBNe, Int.reduceLT, Int.reduceLE, Nat.reduceAdd, Nat.reducePow, Nat.reduceEqDiff, Nat.reduceLT, Nat.reduceLeDiff, Nat.reduceMul, Nat.reduceSub]
  refine CallsTo.ice0 h13 fn13 (by simp) ?_
  simp only [Try.f13, Option.getD_some]
  simp only [go_sem, ↓reduceIte, Int.reduceEq, Nat.reduceBEq, Int.reduceBEq, Int.reduceBNe, Int.reduceLT, Int.reduceLE, Nat.reduceAdd, Nat.reducePow, Nat.reduceEqDiff, Nat.reduceLT, Nat.reduceLeDiff, Nat.reduceMul, Nat.reduceSub]
  refine ⟨_, _, _, ha _, ?_⟩
  simp only [go_sem, ↓reduceIte, Int.reduceEq, Nat.reduceBEq, Int.reduceBEq, Int.reduceBNe, Int.reduceLT, Int.reduceLE, Nat.reduceAdd, Nat.reducePow, Nat.reduceEqDiff, Nat.reduceLT, Nat.reduceLeDiff, Nat.reduceMul, Nat.reduceSub]
def zeroD : List D := [.slc true [], .slc true [], .slc true [], .slc true [], .slc true [], .slc true []]
theorem zeroD_map : zeroD.map A.d = [.d (.slc true []), .d (.slc true []), .d (.slc true []), .d (.slc true []), .d (.slc true []), .d (.slc true [])] := rfl
set_option maxHeartbeats 1000000 in
theorem none_z (h50 : fz 50 = .cut) (σ : St) : CallsTo (XX fz) (.func 50 []) [.d (.vptr zeroD 0)] σ (.d (.bool true)) σ [] := by
  refine CallsTo.cut0 h50 fn50 (by simp) rfl ?_
  simp only [Try.f50, Option.getD_some]
  simp only [go_sem, ↓reduceIte, Int.reduceEq, Nat.reduceBEq, Int.reduceBEq, Int.reduceBNe, Int.reduceLT, Int.reduceLE, Nat.reduceAdd, Nat.reducePow, Nat.reduceEqDiff, Nat.reduceLT, Nat.reduceLeDiff, Nat.reduceMul, Nat.reduceSub, zeroD_map, eq_nptr, eq_nslc, OpR.of]
set_option maxHeartbeats 1000000 in
theorem short_z (h50 : fz 50 = .cut) (h44 : fz 44 = .cut) (h13 : fz 13 = .ice) (s : Int) (σ : St) : CallsTo (XX fz) (.func 13 []) [.d (.vptr zeroD 0), .d (.int .i64 s)] σ (.tup [.d (.slc true []), .d (.int .i64 1)]) σ [] := by
  have ha : ∀ σ : St, CallsTo (XX fz) (.func 44 []) [.d (.vptr zeroD 0), .d (.int .i64 s)] σ (.d (.int .i64 1)) σ [] := fun σ => by
    refine CallsTo.cut0 h44 fn44 (by simp) rfl ?_
    simp only [Try.f44, Option.getD_some]
    simp only [go_sem, ↓reduceIte, Int.reduceEq, Nat.reduceBEq, Int.reduceBEq, Int.reduceBNe, Int.reduceLT, Int.reduceLE, Nat.reduceAdd, Nat.reducePow, Nat.reduceEqDiff, Nat.reduceLT, Nat.reduceLeDiff, Nat.reduceMul, Nat.reduceSub]
    refine ⟨_, _, _, none_z h50 _, ?_⟩
    simp only [go_sem, ↓reduceIte, Int.reduceEq, Nat.reduceBEq, Int.reduceBEq, Int.reduceBNe, Int.reduceLT, Int.reduceLE, Nat.reduceAdd, Nat.reducePow, Nat.reduceEqDiff, Nat.reduceLT, Nat.reduceLeDiff, Nat.reduceMul, Nat.reduceSub]
  refine CallsTo.ice0 h13 fn13 (by simp) ?_
  simp only [Try.f13, Option.getD_some]
  simp only [go_sem, ↓reduceIte, Int.reduceEq, Nat.reduceBEq, Int.reduceBEq, Int.reduceBNe, Int.reduceLT, Int.reduceLE, Nat.reduceAdd, Nat.reducePow, Nat.reduceEqDiff, Nat.reduceLT, Nat.reduceLeDiff, Nat.reduceMul, Nat.reduceSub]
  refine ⟨_, _, _, ha _, ?_⟩
  simp only [go_sem, ↓reduceIte, Int.reduceEq, Nat.reduceBEq, Int.reduceBEq, Int.reduceBNe, Int.reduceLT, Int.reduceLE, Nat.reduceAdd, Nat.reducePow, Nat.reduceEqDiff, Nat.reduceLT, Nat.reduceLeDiff, Nat.reduceMul, Nat.reduceSub]
set_option maxHeartbeats 1000000 in
theorem short_o (h50 : fz 50 = .cut) (h44 : fz 44 = .cut) (h13 : fz 13 = .ice) {N : Nv} (X : Nx) (hN : N.es ≠ []) (s : Int) (hs : s < 0 ∨ s ≥ N.es.length) (σ : St) : CallsTo (XX fz) (.func 13 []) [netP N X, .d (.int .i64 s)] σ (.tup [.d (.slc true []), .d (.int .i64 9)]) σ [] := by
  have ha : ∀ σ : St, CallsTo (XX fz) (.func 44 []) [netP N X, .d (.int .i64 s)] σ (.d (.int .i64 9)) σ [] := fun σ => by
    refine CallsTo.cut0 h44 fn44 (by simp) rfl ?_
    simp only [Try.f44, Option.getD_some]
    simp only [go_sem, ↓reduceIte, Int.reduceEq, Nat.reduceBEq, Int.reduceBEq, Int.reduceBNe, Int.reduceLT, Int.reduceLE, Nat.reduceAdd, Nat.reducePow, Nat.reduceEqDiff, Nat.reduceLT, Nat.reduceLeDiff, Nat.reduceMul, Nat.reduceSub, netP, netC_map]
    refine ⟨_, _, _, none_c h50 X hN _, ?_⟩
    cases e1 : decide (s < 0) with
    | true => simp only [go_sem, ↓reduceIte, Int.reduceEq, Nat.reduceBEq, Int.reduceBEq, Int.reduceBNe, Int.reduceLT, Int.reduceLE, Nat.reduceAdd, Nat.reducePow, Nat.reduceEqDiff, Nat.reduceLT, Nat.reduceLeDiff, Nat.reduceMul, Nat.reduceSub, e1]
    | false =>
      have e2 : decide (s ≥ (N.es.length : Int)) = true := by
        have : ¬ s < 0 := by simpa using e1
        simpa using hs.resolve_left this
      simp only [go_sem, ↓reduceIte, Int.reduceEq, Nat.reduceBEq, Int.reduceBEq, Int.reduceBNe, Int.reduceLT, Int.reduceLE, Nat.reduceAdd, Nat.reducePow, Nat.reduceEqDiff, Nat.reduceLT, Nat.reduceLeDiff, Nat.reduceMul, Nat.reduceSub, e1, netC_map, len_es, e2]
  refine CallsTo.ice0 h13 fn13 (by simp) ?_
  simp only [Try.f13, Option.getD_some]
  simp only [go_sem, ↓reduceIte, Int.reduceEq, Nat.reduceBEq, Int.reduceBEq, Int.reduceBNe, Int.reduceLT, Int.reduceLE, Nat.reduceAdd, Nat.reducePow, Nat.reduceEqDiff, Nat.reduceLT, Nat.reduceLeDiff, Nat.reduceMul, Nat.reduceSub, netP]
  refine ⟨_, _, _, ha _, ?_⟩
  simp only [go_sem, ↓reduceIte, Int.reduceEq, Nat.reduceBEq, Int.reduceBEq, Int.reduceBNe, Int.reduceLT, Int.reduceLE, Nat.reduceAdd, Nat.reducePow, Nat.reduceEqDiff, Nat.reduceLT, Nat.reduceLeDiff, Nat.reduceMul, Nat.reduceSub]
end Go.Am

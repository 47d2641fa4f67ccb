/- Part KD of a proof that runs a program's calls on a small machine whose values bear no addresses: no conditions. -/
import Derived.Test.YtlcadkgpojjokaaAmKC
set_option autoImplicit false
set_option linter.unusedSimpArgs false
set_option linter.unusedVariables false
set_option linter.unusedSectionVars false
namespace Go.Am
open Go Go.Proofs
set_option maxRecDepth 1000000
abbrev TB := List ((Nat × Nat) × (List Nat × Nat))
def evT (T : TB) (n p : Nat) : Option (List Nat × Nat) := (T.find? fun x => x.1.1 == n && x.1.2 == p).map (·.2)
def goT (N : Nv) (X : Nx) (l : List Int) : List (Nat × Nat) → TB → Option TB
  | [], T => some T
  | (n, p) :: r, T => match goL (evT T) N l (X.lve n) 100000 ([(X.ent n, p)], [(X.ent n, p)], p) [] with
    | some v => goT N X l r (((n, p), v) :: T)
    | none => none
def farT (N : Nv) (X : Nx) (l : List Int) (a : Nat) : Option Nat := match goT N X l ((List.range (l.length + 1)).reverse.map fun p => (0, p)) [] with
  | some T => (goL (evT T) N l (lvS N X a) 100000 ([(a, 0)], [(a, 0)], 0) []).map (·.2)
  | none => none
section
variable {l : List Int} {N : Nv} {X : Nx}
def TOk (l : List Int) (N : Nv) (X : Nx) (R : Nat) (T : TB) : Prop := ∀ x ∈ T, x.1.1 < R → x.1.2 ≤ l.length → AOk l N X (X.ent x.1.1) [x.1.2] (X.lve x.1.1) x.2.1 x.2.2 ∧ x.2.2 ≤ l.length ∧ Pg l N X (X.ent x.1.1) x.1.2 x.2.2
theorem TOk.ev {R : Nat} {T : TB} (h : TOk l N X R T) : EvOk l N X R (evT T) := fun n p js f e hn hp => by
  unfold evT at e
  rw [Option.map_eq_some_iff] at e
  obtain ⟨x, h1, h2⟩ := e
  have h3 := List.find?_some h1
  rw [Bool.and_eq_true, beq_iff_eq, beq_iff_eq] at h3
  obtain ⟨rfl, rfl⟩ := h3
  have := h x (List.mem_of_find?_eq_some h1) hn hp
  rw [h2] at this
  exact this
theorem goL_one {R : Nat} (hN : NetG N X R) {ev : Nat → Nat → Option (List Nat × Nat)} (hev : EvOk l N X R ev) {a b i : Nat} {js : List Nat} {f : Nat} (ha : a < N.es.length) (hi : i ≤ l.length) (e : goL ev N l b 100000 ([(a, i)], [(a, i)], i) [] = some (js, f)) : AOk l N X a [i] b js f ∧ f ≤ l.length ∧ Pg l N X a i f := by
  obtain ⟨h1, h2, h3, h4⟩ := goL_ok (a := a) (ps := [i]) (f0 := i) hN hev 100000 (st := ([(a, i)], [(a, i)], i)) (out := [])
    ⟨fun x hx => by simp at hx; subst hx; exact ⟨ha, hi, i, by simp, .refl _ _⟩, fun _ h => h, (fun x hx => by cases hx), hi, Nat.le_refl _, .inl rfl, fun x hx => by simp at hx; subst hx; exact Nat.le_refl _, by simp, Nat.le_refl _⟩ (fun p hp => by simp at hp; subst hp; simp) (fun x hx => .inl hx) e
  refine ⟨h1, h2, ?_⟩
  rcases h4 with q | ⟨p, hp, q⟩
  · rw [q]; exact .here (.refl _ _)
  · simp at hp; rw [hp] at q; exact q
theorem goT_ok {R : Nat} (hN : NetG N X R) : ∀ (o : List (Nat × Nat)) {T T' : TB}, TOk l N X R T → goT N X l o T = some T' → TOk l N X R T'
  | [], T, T', h, e => by rw [goT] at e; cases e; exact h
  | (n, p) :: o, T, T', h, e => by
    rw [goT] at e
    split at e
    · rename_i v hv
      refine goT_ok hN o (fun x hx hR hp => ?_) e
      rcases List.mem_cons.1 hx with rfl | hx
      · exact goL_one hN h.ev (hN.en n hR).1 hp hv
      · exact h x hx hR hp
    · cases e
theorem farT_ok {R : Nat} (hN : NetG N X R) {a m : Nat} (ha : a < N.es.length) (h : farT N X l a = some m) : farV l N X a [] = m := by
  unfold farT at h
  split at h
  · rename_i T hT
    rw [Option.map_eq_some_iff] at h
    obtain ⟨⟨js, f⟩, h1, rfl⟩ := h
    have hT := goT_ok hN _ (fun x hx => by cases hx) hT
    obtain ⟨q1, q2, q3⟩ := goL_one hN hT.ev ha (Nat.zero_le _) h1
    refine IsFar.eq ⟨q3, fun k hk => ?_⟩
    rcases Nat.lt_or_ge f l.length with q | q
    · exact q1.far q 0 (by simp) k hk
    · have := Pg.len hk (Nat.zero_le _)
      dsimp only; omega
  · cases h
end
def tE (n : Int) : Ex := .mk 1 n true []
def cE (n : Int) : Ex := .mk 2 n true []
def manyG : Gr := ⟨2, false, [⟨⟨#[]⟩, .mk 4 0 false [.mk 3 0 false [tE 0, cE 0, tE 1], .mk 3 0 false [tE 0, cE 0], tE 0]⟩]⟩
theorem many_ok : checkP manyG = 0 := by kernel_rfl
theorem many_small : SmallG manyG := by
  have h : decG manyG.aS = some manyG := by kernel_rfl
  exact (decG_sound h).2
def F41 : List A → Option A
  | [.d (.vptr cs 0), .d (.int .i64 st), .d (.slc _ []), .d (.slc _ ts)] => match decI ts with
    | some l => if 0 ≤ st ∧ l.length ≤ 1000 then
        (if st < (newN miniG).N.es.length ∧ beqL cs (simC (newN miniG).N (newX miniG) (clD (newN miniG).N)) = true then (farX (newN miniG).N (newX miniG) l st.toNat).map fun (m : Nat) => .d (.int .i64 (m : Int))
        else if st < (newN manyG).N.es.length ∧ beqL cs (simC (newN manyG).N (newX manyG) (clD (newN manyG).N)) = true then (farT (newN manyG).N (newX manyG) l st.toNat).map fun (m : Nat) => .d (.int .i64 (m : Int)) else none) else none
    | none => none
  | _ => none
theorem ora41 : OraS Try.prog 41 F41 := by
  refine oraS_of (fz := mdP) oraMP mixedT fun args r h => ?_
  unfold F41 at h
  split at h
  · rename_i cs st z z2 ts
    split at h
    · rename_i l hl
      obtain rfl := decI_sound hl
      split at h
      · rename_i hq
        obtain ⟨q1, q2⟩ := hq
        have hst : st = ((st.toNat : Nat) : Int) := (Int.toNat_of_nonneg q1).symm
        split at h
        · rename_i hq
          obtain ⟨q3, q4⟩ := hq
          cases hf : farX (newN miniG).N (newX miniG) l st.toNat with
          | none => rw [hf] at h; cases h
          | some m =>
            rw [hf] at h; cases h
            obtain rfl := beqL_eq _ _ q4
            have ha : st.toNat < (newN miniG).N.es.length := by omega
            have hm := farX_ok (newN_G (GOk.of mini_ok)) ha hf
            have := (far_c (fz := mdP) (cl := clD (newN miniG).N) (zt := z2) rfl rfl rfl rfl mini_small mini_ok q2 ha (B := []) (fun b hb => by cases hb) (by simp) (.d (.slc z [])) St.empty (.inl ⟨z, rfl⟩)).2
            rw [hm] at this
            rw [hst]
            exact ⟨rfl, _, _, this⟩
        · split at h
          · rename_i hq
            obtain ⟨q3, q4⟩ := hq
            cases hf : farT (newN manyG).N (newX manyG) l st.toNat with
            | none => rw [hf] at h; cases h
            | some m =>
              rw [hf] at h; cases h
              obtain rfl := beqL_eq _ _ q4
              have ha : st.toNat < (newN manyG).N.es.length := by omega
              have hm := farT_ok (newN_G (GOk.of many_ok)) ha hf
              have := (far_c (fz := mdP) (cl := clD (newN manyG).N) (zt := z2) rfl rfl rfl rfl many_small many_ok q2 ha (B := []) (fun b hb => by cases hb) (by simp) (.d (.slc z [])) St.empty (.inl ⟨z, rfl⟩)).2
              rw [hm] at this
              rw [hst]
              exact ⟨rfl, _, _, this⟩
          · cases h
      · cases h
    · cases h
  · cases h
def F20 : List A → Option A
  | [a] => (decG a).map fun g => .tup [.d (newV g).1, .d (.int .i64 (newV g).2)]
  | _ => none
theorem ora20 : OraS Try.prog 20 F20 := by
  refine oraS_of (fz := mdP) oraMP mixedT fun args r h => ?_
  unfold F20 at h
  split at h
  · rename_i a
    cases hd : decG a with
    | none => rw [hd] at h; cases h
    | some g =>
      rw [hd] at h; cases h
      obtain ⟨rfl, hs⟩ := decG_sound hd
      exact ⟨rfl, _, _, new_any check_P rfl rfl rfl rfl rfl rfl rfl rfl rfl rfl rfl rfl g St.empty hs⟩
  · cases h
def mdZ : Nat → Md := fun f => match f with
  | 19 => .ora F28 | 16 => .ora F16 | 20 => .ora F20 | 41 => .ora F41 | 8 => .ora F8
  | 14 | 21 | 64 | 65 | 46 => .ice
  | 23 | 24 | 25 | 26 | 76 => .keep
  | _ => .cut
theorem oraMZ : ∀ f F, oraOf (mdZ f) = some F → OraS Try.prog f F := by
  intro f F h
  unfold mdZ at h
  split at h <;> cases h
  · exact ora28
  · exact ora16
  · exact ora20
  · exact ora41
  · exact ora8
end Go.Am
namespace Go.Am
open Go Go.Proofs
set_option maxRecDepth 1000000
theorem simknown_run : (callA (XX mdZ) 100000 (.func 7 []) [] St.empty).map (·.1) = some (.d (.bool true)) := by kernel_rfl
theorem simknown_call : ∃ σ' T, CallsTo (XX mdZ) (.func 7 []) [] St.empty (.d (.bool true)) σ' T := by
  have := simknown_run
  cases hc : callA (XX mdZ) 100000 (.func 7 []) [] St.empty with
  | none => rw [hc] at this; cases this
  | some q =>
    obtain ⟨a, σ', T⟩ := q
    rw [hc] at this; cases this
    exact ⟨σ', T, 100000, hc⟩
end Go.Am

/- Part KE of a proof that runs a program's calls on a small machine whose values bear no addresses: no conditions. -/
import Derived.Test.YtlcadkgpojjokaaAmK9
import Derived.Test.YtlcadkgpojjokaaAmKD
set_option autoImplicit false
set_option linter.unusedSimpArgs false
set_option linter.unusedVariables false
set_option linter.unusedSectionVars false
namespace Go.Am
open Go Go.Proofs
section
variable {l : List Int} {N : Nv} {X : Nx}
theorem Gw.le {s i k : Nat} {B : List Nat} (h : Gw l N X s B i k) : i ≤ k := by
  induction h with
  | here => exact Nat.le_refl _
  | tok _ _ _ _ _ ih => omega
  | free _ _ _ _ ih => exact ih
  | call _ _ _ _ ih => exact ih
  | leave _ _ ih => exact ih
theorem Gw.len {s i k : Nat} {B : List Nat} (h : Gw l N X s B i k) : i ≤ l.length → k ≤ l.length := by
  induction h with
  | here => exact id
  | tok _ _ _ ht _ ih => intro _; exact ih (List.getElem?_eq_some_iff.1 ht).1
  | free _ _ _ _ ih => exact ih
  | call _ _ _ _ ih => exact ih
  | leave _ _ ih => exact ih
theorem Gw.dropTo {s i k : Nat} {B : List Nat} (h : Gw (l.drop 1) N X s B i k) : Gw l N X s B (i + 1) (k + 1) := by
  induction h with
  | here => exact .here _ _ _
  | tok h1 h2 h3 h4 _ ih => exact .tok h1 h2 h3 (by rw [List.getElem?_drop, Nat.add_comm] at h4; exact h4) ih
  | free h1 h2 h3 _ ih => exact .free h1 h2 h3 ih
  | call h1 h2 h3 _ ih => exact .call h1 h2 h3 ih
  | leave h1 _ ih => exact .leave h1 ih
theorem Gw.ofDrop {s j k : Nat} {B : List Nat} (h : Gw l N X s B j k) : 1 ≤ j → Gw (l.drop 1) N X s B (j - 1) (k - 1) := by
  induction h with
  | here => exact fun _ => .here _ _ _
  | @tok s i k B r e h1 h2 h3 h4 _ ih =>
    intro q
    have := ih (by omega)
    rw [show i + 1 - 1 = i - 1 + 1 by omega] at this
    exact .tok h1 h2 h3 (by rw [List.getElem?_drop, show 1 + (i - 1) = i by omega]; exact h4) this
  | free h1 h2 h3 _ ih => exact fun q => .free h1 h2 h3 (ih q)
  | call h1 h2 h3 _ ih => exact fun q => .call h1 h2 h3 (ih q)
  | leave h1 _ ih => exact fun q => .leave h1 (ih q)
def IsG (l : List Int) (N : Nv) (X : Nx) (a : Nat) (B : List Nat) (m : Nat) : Prop := Gw l N X a B 0 m ∧ ∀ k, Gw l N X a B 0 k → k ≤ m
theorem IsG.eq {a m n : Nat} {B : List Nat} (h : IsG l N X a B m) (k : IsG l N X a B n) : m = n := Nat.le_antisymm (k.2 _ h.1) (h.2 _ k.1)
theorem IsFar.g {R : Nat} (hN : NetG N X R) {a m : Nat} {B : List Nat} (ha : a < N.es.length) (hB : ∀ b ∈ B, b < N.es.length) (h : IsFar l N X a B m) : IsG l N X a B m :=
  ⟨Gw.of hN ha hB h.1, fun k hk => h.2 k (hk.to hN)⟩
end
end Go.Am
namespace Go.Am
open Go Go.Proofs
theorem eq_sn {σ : St} : binA (XX mdL) σ .eql 28 (.d .nptr) (.d .nptr) = some (.d (.bool true)) := by
  unfold binA eqT; simp only [ti28]; rfl
theorem viable_L {zt : Bool} {g : Gr} {l : List Int} (hg : SmallG g) (hc : checkP g = 0) (hL : l.length ≤ 1000) {s : Nat} {B : List Nat} (hs : SpOk (newN g).N s B) {σ : St} {ba : A} (hpa : PlA σ.n σ.n σ ba B) :
    IsG l (newN g).N (newX g) s B (farV l (newN g).N (newX g) s B) ∧ CallsTo (XX mdL) (.func 12 []) [simA (newN g).N (newX g), .agg [.d (.int .i64 (s : Int)), ba], .d (.slc zt (intsD l))] σ (viaV l (newN g).N (newX g) s B) σ [] := by
  obtain ⟨h1, h2⟩ := viable_c (fz := mdL) (zt := zt) rfl rfl rfl rfl rfl rfl rfl rfl rfl rfl rfl rfl hg hc hL hs hpa
  exact ⟨h1.g (newN_G (GOk.of hc)) hs.st hs.bs, h2⟩
end Go.Am
namespace Go.Am
open Go Go.Proofs
section
variable {l : List Int} {N : Nv} {X : Nx} {s : Nat} {B : List Nat}
def NE (l : List Int) (N : Nv) (X : Nx) (B : List Nat) (e : Eg) (n : Nat) : Prop := (e.kind = 0 ∧ IsG l N X e.to B n) ∨ (e.kind = 2 ∧ IsG l N X (X.ent e.num.toNat) (e.to :: B) n) ∨
  (e.kind = 1 ∧ l[0]? = some e.num ∧ ∃ f, n = f + 1 ∧ IsG (l.drop 1) N X e.to B f) ∨ (e.kind = 1 ∧ l[0]? ≠ some e.num ∧ n = 0)
theorem lvS_end {R : Nat} (hN : NetG N X R) (hs : s < N.es.length) (h : s = lvS N X s) : N.es[s]? = some [] := by
  rw [h]; exact hN.lv0 _ (hN.rr s hs).2
theorem IsG.row {R : Nat} (hN : NetG N X R) {r : List Eg} {m : Nat} (hr : N.es[s]? = some r) (hne : r ≠ []) (hle : ∀ e ∈ r, ∀ n, NE l N X B e n → n ≤ m) (hex : ∃ e ∈ r, NE l N X B e m) (hall : ∀ e ∈ r, ∃ n, NE l N X B e n) : IsG l N X s B m := by
  refine ⟨?_, fun k hk => ?_⟩
  · obtain ⟨e, he, h⟩ := hex
    rcases h with ⟨h1, h2⟩ | ⟨h1, h2⟩ | ⟨h1, h2, f, rfl, h3⟩ | ⟨h1, h2, rfl⟩
    · exact .free hr he h1 h2.1
    · exact .call hr he h1 h2.1
    · exact .tok hr he h1 h2 h3.1.dropTo
    · exact .here _ _ _
  · cases hk with
    | here => exact Nat.zero_le _
    | @free _ _ _ _ _ e h1 h2 h3 h4 =>
      rw [hr] at h1; cases h1
      obtain ⟨n, hn⟩ := hall e h2
      refine Nat.le_trans ?_ (hle e h2 n hn)
      rcases hn with ⟨q1, q2⟩ | ⟨q1, -⟩ | ⟨q1, -⟩ | ⟨q1, -⟩
      · exact q2.2 _ h4
      all_goals omega
    | @tok _ _ _ _ _ e h1 h2 h3 h4 h5 =>
      rw [hr] at h1; cases h1
      obtain ⟨n, hn⟩ := hall e h2
      refine Nat.le_trans ?_ (hle e h2 n hn)
      rcases hn with ⟨q1, -⟩ | ⟨q1, -⟩ | ⟨q1, -, f, rfl, q2⟩ | ⟨q1, q2, -⟩
      · omega
      · omega
      · have := q2.2 _ (h5.ofDrop (Nat.le_refl _)); omega
      · exact absurd h4 q2
    | @call _ _ _ _ _ e h1 h2 h3 h4 =>
      rw [hr] at h1; cases h1
      obtain ⟨n, hn⟩ := hall e h2
      refine Nat.le_trans ?_ (hle e h2 n hn)
      rcases hn with ⟨q1, -⟩ | ⟨q1, q2⟩ | ⟨q1, -⟩ | ⟨q1, -⟩
      · omega
      · exact q2.2 _ h4
      all_goals omega
    | leave h1 h2 =>
      have hs : s < N.es.length := (List.getElem?_eq_some_iff.1 hr).1
      rw [lvS_end hN hs h1] at hr
      cases hr; exact absurd rfl hne
theorem NE.eq {e : Eg} {n m : Nat} (h : NE l N X B e n) (k : NE l N X B e m) : n = m := by
  rcases h with ⟨q1, q2⟩ | ⟨q1, q2⟩ | ⟨q1, q2, f, rfl, q3⟩ | ⟨q1, q2, rfl⟩ <;> rcases k with ⟨p1, p2⟩ | ⟨p1, p2⟩ | ⟨p1, p2, f', rfl, p3⟩ | ⟨p1, p2, rfl⟩
  all_goals first | omega | exact q2.eq p2 | (rw [q3.eq p3]) | rfl | exact absurd p2 q2 | exact absurd q2 p2
theorem IsG.one {R : Nat} (hN : NetG N X R) {e : Eg} {m : Nat} (hr : N.es[s]? = some [e]) (h : NE l N X B e m) : IsG l N X s B m :=
  IsG.row hN hr (by simp) (fun e' he n hn => by simp at he; subst he; exact Nat.le_of_eq (hn.eq h)) ⟨e, by simp, h⟩ fun e' he => by simp at he; subst he; exact ⟨m, h⟩
end
end Go.Am
namespace Go.Am
open Go Go.Proofs
theorem slD1 {σ : St} {z : Bool} {l : List Int} {eb : Nat} {ez : Option (List A)} {ezv : A} {ek : TK} (h : 1 ≤ l.length) : sliceD σ z (intsD l) (some (.d (.int .i64 1))) none (some ⟨ek, 1, eb, ez, ezv⟩) = .val (.d (.slc z (intsD (l.drop 1)))) σ [] [] := by
  have := sliceD_lo (σ := σ) (z := z) (l := l) (n := 1) (kd := .i64) (ek := ek) (eb := eb) (ez := ez) (ezv := ezv)
  rw [if_pos h] at this
  exact this
end Go.Am

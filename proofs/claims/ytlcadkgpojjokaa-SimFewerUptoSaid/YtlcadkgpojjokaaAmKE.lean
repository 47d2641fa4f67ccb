/- Part KE of a proof that runs a program's calls on a small machine whose values bear no addresses: no conditions. -/
import Derived.Test.YtlcadkgpojjokaaAmK9
import Derived.Test.YtlcadkgpojjokaaAmKD
set_option autoImplicit false
set_option linter.unusedSimpArgs false
set_option linter.unusedVariables false
set_option linter.unusedSectionVars false
namespace Go.Am
open Go Go.Proofs
section
variable {l : List Int} {N : Nv} {X : Nx}
theorem Gw.le {s i k : Nat} {B : List Nat} (h : Gw l N X s B i k) : i ≤ k := by
  induction h with
  | here => exact Nat.le_refl _
  | tok _ _ _ _ _ ih => omega
  | free _ _ _ _ ih => exact ih
  | call _ _ _ _ ih => exact ih
  | leave _ _ ih => exact ih
theorem Gw.len {s i k : Nat} {B : List Nat} (h : Gw l N X s B i k) : i ≤ l.length → k ≤ l.length := by
  induction h with
  | here => exact id
  | tok _ _ _ ht _ ih => intro _; exact ih (List.getElem?_eq_some_iff.1 ht).1
  | free _ _ _ _ ih => exact ih
  | call _ _ _ _ ih => exact ih
  | leave _ _ ih => exact ih
theorem Gw.takeTo {m s i k : Nat} {B : List Nat} (h : Gw l N X s B i k) : k ≤ m → Gw (l.take m) N X s B i k := by
  induction h with
  | here => exact fun _ => .here _ _ _
  | tok h1 h2 h3 h4 h5 ih => intro hk; exact .tok h1 h2 h3 (by rw [List.getElem?_take_of_lt (by have := h5.le; omega)]; exact h4) (ih hk)
  | free h1 h2 h3 _ ih => exact fun hk => .free h1 h2 h3 (ih hk)
  | call h1 h2 h3 _ ih => exact fun hk => .call h1 h2 h3 (ih hk)
  | leave h1 _ ih => exact fun hk => .leave h1 (ih hk)
theorem Gw.ofTake {m s i k : Nat} {B : List Nat} (h : Gw (l.take m) N X s B i k) : Gw l N X s B i k := by
  induction h with
  | here => exact .here _ _ _
  | @tok s i k B r e h1 h2 h3 h4 _ ih =>
    have hi : i < m := by
      have := (List.getElem?_eq_some_iff.1 h4).1; rw [List.length_take] at this; omega
    exact .tok h1 h2 h3 (by rw [List.getElem?_take_of_lt hi] at h4; exact h4) ih
  | free h1 h2 h3 _ ih => exact .free h1 h2 h3 ih
  | call h1 h2 h3 _ ih => exact .call h1 h2 h3 ih
  | leave h1 _ ih => exact .leave h1 ih
theorem Gw.mid {m s i k : Nat} {B : List Nat} (h : Gw l N X s B i k) : i ≤ m → m ≤ k → Gw l N X s B i m := by
  induction h with
  | here => intro h1 h2; rw [Nat.le_antisymm h2 h1]; exact .here _ _ _
  | @tok s i k B r e h1 h2 h3 h4 _ ih =>
    intro q1 q2
    rcases Nat.lt_or_ge i m with q | q
    · exact .tok h1 h2 h3 h4 (ih q q2)
    · rw [Nat.le_antisymm q q1]; exact .here _ _ _
  | free h1 h2 h3 _ ih => exact fun q1 q2 => .free h1 h2 h3 (ih q1 q2)
  | call h1 h2 h3 _ ih => exact fun q1 q2 => .call h1 h2 h3 (ih q1 q2)
  | leave h1 _ ih => exact fun q1 q2 => .leave h1 (ih q1 q2)
def IsG (l : List Int) (N : Nv) (X : Nx) (a : Nat) (B : List Nat) (m : Nat) : Prop := Gw l N X a B 0 m ∧ ∀ k, Gw l N X a B 0 k → k ≤ m
theorem IsG.eq {a m n : Nat} {B : List Nat} (h : IsG l N X a B m) (k : IsG l N X a B n) : m = n := Nat.le_antisymm (k.2 _ h.1) (h.2 _ k.1)
theorem IsFar.g {R : Nat} (hN : NetG N X R) {a m : Nat} {B : List Nat} (ha : a < N.es.length) (hB : ∀ b ∈ B, b < N.es.length) (h : IsFar l N X a B m) : IsG l N X a B m :=
  ⟨Gw.of hN ha hB h.1, fun k hk => h.2 k (hk.to hN)⟩
theorem IsG.fewer {a m f : Nat} {B : List Nat} (h : IsG l N X a B f) : IsG (l.take m) N X a B (min m f) :=
  ⟨(h.1.mid (Nat.zero_le _) (Nat.min_le_right _ _)).takeTo (Nat.min_le_left _ _), fun k hk => by
    have h1 := h.2 k hk.ofTake
    have h2 := hk.len (Nat.zero_le _)
    rw [List.length_take] at h2
    omega⟩
end
end Go.Am
namespace Go.Am
open Go Go.Proofs
theorem eq_sn {σ : St} : binA (XX mdL) σ .eql 28 (.d .nptr) (.d .nptr) = some (.d (.bool true)) := by
  unfold binA eqT; simp only [ti28]; rfl
theorem viable_L {zt : Bool} {g : Gr} {l : List Int} (hg : SmallG g) (hc : checkP g = 0) (hL : l.length ≤ 1000) {s : Nat} {B : List Nat} (hs : SpOk (newN g).N s B) {σ : St} {ba : A} (hpa : PlA σ.n σ.n σ ba B) :
    IsG l (newN g).N (newX g) s B (farV l (newN g).N (newX g) s B) ∧ CallsTo (XX mdL) (.func 12 []) [simA (newN g).N (newX g), .agg [.d (.int .i64 (s : Int)), ba], .d (.slc zt (intsD l))] σ (viaV l (newN g).N (newX g) s B) σ [] := by
  obtain ⟨h1, h2⟩ := viable_c (fz := mdL) (zt := zt) rfl rfl rfl rfl rfl rfl rfl rfl rfl rfl rfl rfl hg hc hL hs hpa
  exact ⟨h1.g (newN_G (GOk.of hc)) hs.st hs.bs, h2⟩
theorem check13_L {g : Gr} (hc : checkP g = 0) {s : Nat} {B : List Nat} (hs : SpOk (newN g).N s B) {σ : St} {ba : A} (hpa : PlA σ.n σ.n σ ba B) : CallsTo (XX mdL) (.func 13 []) [simA (newN g).N (newX g), .agg [.d (.int .i64 (s : Int)), ba]] σ (.d (.int .i64 0)) σ [] :=
  check13_c rfl rfl rfl rfl rfl rfl rfl (newN_G (GOk.of hc)) (newN_fits (GOk.of hc)) hs hpa
set_option maxHeartbeats 16000000 in
theorem fewer_call (g : Gr) (hg : SmallG g) (hL : g.rules.length < 1000000000) (zw : Bool) (way : List Int) (hw : way.length < 1000000000) (z : Bool) (l0 : List Int) (hl0 : l0.length < 1000000000) : ∃ σ' T, CallsTo (XX mdL) (.func 3 []) [g.a, .d (.slc zw (intsD way)), .d (.slc z (intsD l0))] St.empty (.d (.bool true)) σ' T := by
  refine ⟨St.empty, [], CallsTo.cut0 rfl fn3 (by simp) rfl ?_⟩
  simp only [Try.f3, Option.getD_some]
  simp only [go_sem, ↓reduceIte, Int.reduceEq, Nat.reduceBEq, Int.reduceBEq, Nat.reduceAdd, Nat.reduceEqDiff, Nat.reduceLT, Nat.reduceSub, Gr.a]
  refine ⟨_, _, _, works_L _, ?_⟩
  simp only [go_sem, ↓reduceIte, Int.reduceEq, Nat.reduceBEq, Int.reduceBEq, Nat.reduceAdd, Nat.reduceEqDiff, Nat.reduceLT, Nat.reduceSub]
  refine ⟨_, _, _, deep_L g _ hg hL, ?_⟩
  cases hd : deepG g with
  | true => simp only [go_sem, ↓reduceIte, Int.reduceEq, Nat.reduceBEq, Int.reduceBEq, Nat.reduceAdd, Nat.reduceEqDiff, Nat.reduceLT, Nat.reduceSub]
  | false =>
  have hmin : min l0.length 30 ≤ l0.length := Nat.min_le_left _ _
  have hm30 : min l0.length 30 ≤ 30 := Nat.min_le_right _ _
  have hmn : minmax false [.d (.int .i64 (l0.length : Int)), .d (.int .i64 30)] = some (.d (.int .i64 ((min l0.length 30 : Nat) : Int))) := minA (b := 30)
  have hl1 : (l0.take (min l0.length 30)).length = min l0.length 30 := by rw [List.length_take]; omega
  simp only [go_sem, ↓reduceIte, Int.reduceEq, Nat.reduceBEq, Int.reduceBEq, Nat.reduceAdd, Nat.reduceEqDiff, Nat.reduceLT, Nat.reduceSub, hmn, hmin]
  generalize hl : l0.take (min l0.length 30) = l at *
  have hl30 : l.length ≤ 30 := by omega
  obtain ⟨r, hcall, hr⟩ := stand_c hg (zw := zw) hw hL (((St.empty.push (.cells g.c))))
  refine ⟨_, _, _, hcall, ?_⟩
  rcases hr with ⟨hc, rfl⟩ | ⟨hc, s, B, zb, hs, hB, rfl⟩
  · have c1 : (checkP g != 0) = true := by simpa using hc
    simp only [go_sem, ↓reduceIte, Int.reduceEq, Nat.reduceBEq, Int.reduceBEq, Nat.reduceAdd, Nat.reduceEqDiff, Nat.reduceLT, Nat.reduceSub, stNo, eq_sn]
    refine ⟨_, _, _, check_L g _ hg, ?_⟩
    simp only [go_sem, ↓reduceIte, Int.reduceEq, Nat.reduceBEq, Int.reduceBEq, Nat.reduceAdd, Nat.reduceEqDiff, Nat.reduceLT, Nat.reduceSub, c1]
  · have c0 : ((0 : Int) != 0) = false := rfl
    simp only [go_sem, ↓reduceIte, Int.reduceEq, Nat.reduceBEq, Int.reduceBEq, Nat.reduceAdd, Nat.reduceEqDiff, Nat.reduceLT, Nat.reduceSub, stAt, simA, eq_sp, netA, netC3]
    have hv := fun (σ : St) (zt : Bool) (l : List Int) (hl : l.length ≤ 30) => viable_L (zt := zt) (l := l) hg hc (by omega) hs (σ := σ) (ba := .d (.slc zb (intsD (natsI B)))) (.inl ⟨zb, rfl⟩)
    refine ⟨_, _, _, (hv _ z l hl30).2, ?_⟩
    simp only [go_sem, ↓reduceIte, Int.reduceEq, Nat.reduceBEq, Int.reduceBEq, Nat.reduceAdd, Nat.reduceEqDiff, Nat.reduceLT, Nat.reduceSub, viaV, c0]
    refine ⟨_, _, _, check13_L hc hs (.inl ⟨zb, rfl⟩), ?_⟩
    simp only [go_sem, ↓reduceIte, Int.reduceEq, Nat.reduceBEq, Int.reduceBEq, Nat.reduceAdd, Nat.reduceEqDiff, Nat.reduceLT, Nat.reduceSub, c0]
    have hall := (hv St.empty z l hl30).1
    have hpv : (((((St.empty.push (.cells g.c)).push (.cells [.d (.slc true []), .d (.slc true []), .d (.slc true [])])).push (.cells [.d (.int .i64 0), .d (.slc true [])])).set (St.empty.n + 1) (.cells [.d (newN g).N.esD, .d (slD (newX g).en), .d (slD (newX g).lv)])).set (St.empty.n + 2) (.cells [.d (.int .i64 (s : Int)), .d (.slc zb (intsD (natsI B)))])).get (St.empty.n + 2) = .cells [.d (.int .i64 (s : Int)), .d (.slc zb (intsD (natsI B)))] := St.get_set_eq
    generalize (((((St.empty.push (.cells g.c)).push (.cells [.d (.slc true []), .d (.slc true []), .d (.slc true [])])).push (.cells [.d (.int .i64 0), .d (.slc true [])])).set (St.empty.n + 1) (.cells [.d (newN g).N.esD, .d (slD (newX g).en), .d (slD (newX g).lv)])).set (St.empty.n + 2) (.cells [.d (.int .i64 (s : Int)), .d (.slc zb (intsD (natsI B)))])) = τ0 at hpv
    refine Ev.loop_ind (fun k tm τ W => ∃ i : Nat, k = l.length - i ∧ i ≤ l.length ∧ W = [] ∧ τ = τ0 ∧ tm.at 2 = .d (.slc z (intsD l)) ∧ tm.at 7 = simA (newN g).N (newX g) ∧ tm.at 9 = .ptr (St.empty.n + 2) 0 ∧ tm.at 10 = .d (.int .i64 ((farV l (newN g).N (newX g) s B : Nat) : Int)) ∧ tm.at 12 = .d (.int .i64 (i : Int))) ?_ l.length _ _ _ ⟨0, rfl, Nat.zero_le _, rfl, rfl, ?_, ?_, ?_, ?_, ?_⟩
    · rintro k tm τ W ⟨i, rfl, hi, rfl, rfl, t2, t7, t9, t10, t12⟩ ih
      have hlen : ∀ ρ : St, sliceLen ρ (.d (.slc z (intsD l))) = some l.length := fun ρ => len_ints
      by_cases hli : i < l.length
      · have hi2 : i ≤ l.length := hi
        have ht : (l.take i).length ≤ 30 := by rw [List.length_take]; omega
        have hv2 := hv τ z (l.take i) ht
        have he : farV (l.take i) (newN g).N (newX g) s B = min i (farV l (newN g).N (newX g) s B) := hv2.1.eq hall.fewer
        have c1 : (((min i (farV l (newN g).N (newX g) s B) : Nat) : Int) != ((min i (farV l (newN g).N (newX g) s B) : Nat) : Int)) = false := by simp
        have hmm := minA (a := i) (b := farV l (newN g).N (newX g) s B)
        simp only [go_sem, ↓reduceIte, Int.reduceEq, Nat.reduceBEq, Int.reduceBEq, Nat.reduceAdd, Nat.reduceEqDiff, Nat.reduceLT, Nat.reduceSub, t2, t7, t9, t10, t12, hlen, dec_lt' hli, hpv, hi2]
        refine ⟨_, _, _, hv2.2, ?_⟩
        simp only [go_sem, ↓reduceIte, Int.reduceEq, Nat.reduceBEq, Int.reduceBEq, Nat.reduceAdd, Nat.reduceEqDiff, Nat.reduceLT, Nat.reduceSub, viaV, he]
        refine ⟨drawOk_rel [5] [] rfl (by kernel_rfl) rfl (by simp), ?_⟩
        simp only [go_sem, ↓reduceIte, Int.reduceEq, Nat.reduceBEq, Int.reduceBEq, Nat.reduceAdd, Nat.reduceEqDiff, Nat.reduceLT, Nat.reduceSub, t10, t12, c0, hmm, c1, wrap_succ' hli (show l.length < 1000000000 by omega)]
        refine ih _ _ _ _ (by omega) ⟨i + 1, rfl, hli, rfl, rfl, ?_, ?_, ?_, ?_, ?_⟩
        all_goals (simp only [go_sem, ↓reduceIte, Int.reduceEq, Nat.reduceBEq, Int.reduceBEq, Nat.reduceAdd, Nat.reduceEqDiff, Nat.reduceLT, Nat.reduceSub, t2, t7, t9, t10])
      · simp only [go_sem, ↓reduceIte, Int.reduceEq, Nat.reduceBEq, Int.reduceBEq, Nat.reduceAdd, Nat.reduceEqDiff, Nat.reduceLT, Nat.reduceSub, t2, t7, t9, t10, t12, hlen, dec_ge' hli]
    all_goals first | rfl | (simp only [go_sem, ↓reduceIte, Int.reduceEq, Nat.reduceBEq, Int.reduceBEq, Nat.reduceAdd, Nat.reduceEqDiff, Nat.reduceLT, Nat.reduceSub]; done) | (simp only [go_sem, ↓reduceIte, Int.reduceEq, Nat.reduceBEq, Int.reduceBEq, Nat.reduceAdd, Nat.reduceEqDiff, Nat.reduceLT, Nat.reduceSub]; rfl)
end Go.Am

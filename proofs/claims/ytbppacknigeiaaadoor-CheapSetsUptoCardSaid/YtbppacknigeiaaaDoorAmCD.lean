/- Part CD of a proof that runs a program's calls on a small machine whose values bear no addresses: no conditions. -/
import Derived.Test.YtbppacknigeiaaaDoorAmCA
import Derived.Test.YtbppacknigeiaaaDoorAmJ1
import Derived.Test.YtbppacknigeiaaaDoorAmHH
import Derived.Test.YtbppacknigeiaaaDoorAmJ4
import Derived.Test.YtbppacknigeiaaaDoorAmHF
set_option autoImplicit false
set_option linter.unusedSimpArgs false
set_option linter.unusedVariables false
set_option linter.unusedSectionVars false
namespace Go.Am
open Go Go.Proofs
variable {fz : Nat → Md}
structure ListAt (σ : St) (v : A) (l : List Int) : Prop where
  len : sliceLen σ v = some l.length
  at_ : ∀ (i : Nat) (h : i < l.length), ∃ P R R2, indexK σ 1 v (.d (.int .i64 (i : Int))) = .val P σ [] R ∧ loadK σ (some { kind := TK.int IntKind.i64, size := 1, bytes := 8, zero := some [A.d (D.int IntKind.i64 0)], zval := A.d (D.int IntKind.i64 0) }) P = .val (.d (.int .i64 l[i])) σ [] R2
theorem ListAt.d {σ : St} {z : Bool} {l : List Int} : ListAt σ (.d (.slc z (intsD l))) l := ⟨len_ints, fun i h => ⟨_, _, _, index_ints h, rfl⟩⟩
theorem ListAt.row {σ : St} {k : Nat} {l : List Int} (hk : σ.get k = .cells (((intsD l).flatMap id).map A.d)) : ListAt σ (.row k 0 l.length 1) l := by
  have hfl : ((intsD l).flatMap id).map A.d = l.map fun n => A.d (.int .i64 n) := by
    clear hk
    induction l with
    | nil => rfl
    | cons a r ih => simp [intsD, List.flatMap_cons] at ih ⊢; exact ih
  rw [hfl] at hk
  refine ⟨by rw [sliceLen_row, hk]; rfl, fun i h => ⟨.ptr k i, [k], [k], ?_, ?_⟩⟩
  · rw [indexK_row, hk, indexR_nat h]; simp
  · have hc : (l.map fun n => A.d (.int .i64 n))[i]? = some (.d (.int .i64 l[i])) := by simp [h]
    simp only [go_sem, ↓reduceIte, Int.reduceEq, Nat.reduceBEq, Int.reduceBEq, Nat.reduceAdd, Nat.reduceEqDiff, Nat.reduceLT, Nat.reduceSub, hk, hc]
theorem IL.at_ {lo kx : Nat} {σ : St} {v : A} {l : List Int} (h : IL lo kx σ v l) : ListAt σ v l := by
  rcases h with ⟨rfl, -⟩ | ⟨k, rfl, h2, -⟩
  · exact .d
  · exact .row h2
set_option maxHeartbeats 4000000 in
theorem eqInts_g (h21 : fz 21 = .cut) {v w : A} {a b : List Int} {σ : St} (hv : ListAt σ v a) (hw : ListAt σ w b) (ha : a.length < 1000000000) : CallsTo (XX fz) (.func 21 []) [v, w] σ (.d (.bool (eqI a b))) σ [] := by
  refine CallsTo.cut0 h21 fn21 (by simp) rfl ?_
  simp only [Tryd.f21, Option.getD_some]
  have l1 := hv.len
  have l2 := hw.len
  by_cases hl : a.length = b.length
  · have c : ((a.length : Int) != (b.length : Int)) = false := by rw [hl]; simp
    simp only [go_sem, ↓reduceIte, Int.reduceEq, Nat.reduceBEq, Int.reduceBEq, Nat.reduceAdd, Nat.reduceEqDiff, Nat.reduceLT, Nat.reduceSub, l1, l2, c]
    refine Ev.loop_ind (fun m tm τ W => ∃ i : Nat, m = a.length - i ∧ i ≤ a.length ∧ W = [] ∧ τ = σ ∧ eqI (a.drop i) (b.drop i) = eqI a b ∧ tm.at 0 = v ∧ tm.at 1 = w ∧ tm.at 5 = .d (.int .i64 i)) ?_ a.length _ _ _ ⟨0, rfl, by omega, rfl, rfl, rfl, ?_, ?_, ?_⟩
    · rintro m tm τ W ⟨i, rfl, hi, rfl, rfl, he, t0, t1, t5⟩ ih
      by_cases hia : i < a.length
      · have hib : i < b.length := by omega
        obtain ⟨P1, R1, S1, x1, y1⟩ := hv.at_ i hia
        obtain ⟨P2, R2, S2, x2, y2⟩ := hw.at_ i hib
        rw [List.drop_eq_getElem_cons hia, List.drop_eq_getElem_cons hib] at he
        cases hne : (a[i] != b[i]) with
        | true =>
          have hne' : a[i] ≠ b[i] := by simpa using hne
          have : eqI (a[i] :: a.drop (i + 1)) (b[i] :: b.drop (i + 1)) = false := decide_eq_false fun q => hne' (by injection q)
          rw [this] at he
          simp only [go_sem, ↓reduceIte, Int.reduceEq, Nat.reduceBEq, Int.reduceBEq, Nat.reduceAdd, Nat.reduceEqDiff, Nat.reduceLT, Nat.reduceSub, t0, t1, t5, l1, l2, dec_lt' hia, x1, y1, x2, y2, hne, ← he]
          exact drawOk_rel [] [] rfl (by kernel_rfl) rfl (by simp)
        | false =>
          have heq : a[i] = b[i] := by simpa using hne
          have : eqI (a[i] :: a.drop (i + 1)) (b[i] :: b.drop (i + 1)) = eqI (a.drop (i + 1)) (b.drop (i + 1)) := by
            unfold eqI
            rw [Bool.eq_iff_iff, decide_eq_true_iff, decide_eq_true_iff, heq]
            exact ⟨fun q => by injection q, fun q => by rw [q]⟩
          rw [this] at he
          simp only [go_sem, ↓reduceIte, Int.reduceEq, Nat.reduceBEq, Int.reduceBEq, Nat.reduceAdd, Nat.reduceEqDiff, Nat.reduceLT, Nat.reduceSub, t0, t1, t5, l1, l2, dec_lt' hia, x1, y1, x2, y2, hne, wrap_succ' hia ha]
          refine ⟨drawOk_rel [] [] rfl (by kernel_rfl) rfl (by simp), ?_⟩
          refine ih _ _ _ _ (by omega) ⟨i + 1, rfl, hia, rfl, rfl, he, ?_, ?_, ?_⟩
          all_goals (simp only [go_sem, ↓reduceIte, Int.reduceEq, Nat.reduceBEq, Int.reduceBEq, Nat.reduceAdd, Nat.reduceEqDiff, Nat.reduceLT, Nat.reduceSub, t0, t1])
      · rw [List.drop_eq_nil_of_le (by omega), List.drop_eq_nil_of_le (by omega)] at he
        simp only [go_sem, ↓reduceIte, Int.reduceEq, Nat.reduceBEq, Int.reduceBEq, Nat.reduceAdd, Nat.reduceEqDiff, Nat.reduceLT, Nat.reduceSub, t0, t1, t5, l1, l2, dec_ge' hia, ← he]
        rfl
    all_goals first | rfl | (simp only [go_sem, ↓reduceIte, Int.reduceEq, Nat.reduceBEq, Int.reduceBEq, Nat.reduceAdd, Nat.reduceEqDiff, Nat.reduceLT, Nat.reduceSub]; done) | (simp only [go_sem, ↓reduceIte, Int.reduceEq, Nat.reduceBEq, Int.reduceBEq, Nat.reduceAdd, Nat.reduceEqDiff, Nat.reduceLT, Nat.reduceSub]; rfl)
  · have c : ((a.length : Int) != (b.length : Int)) = true := by rw [bne_iff_ne]; omega
    have : eqI a b = false := decide_eq_false fun q => hl (by rw [q])
    simp only [go_sem, ↓reduceIte, Int.reduceEq, Nat.reduceBEq, Int.reduceBEq, Nat.reduceAdd, Nat.reduceEqDiff, Nat.reduceLT, Nat.reduceSub, l1, l2, c, this]
structure ListsAt (σ : St) (a : A) (ls : List (List Int)) : Prop where
  len : sliceLen σ a = some ls.length
  at_ : ∀ (i : Nat) (h : i < ls.length), ∃ P R R2 v, indexK σ 1 a (.d (.int .i64 (i : Int))) = .val P σ [] R ∧ loadK σ (some { kind := TK.slc 3, size := 1, bytes := 24, zero := some [A.d (D.slc true [])], zval := A.d (D.slc true []) }) P = .val v σ [] R2 ∧ ListAt σ v ls[i]
theorem ListsAt.nil {σ : St} : ListsAt σ (.d (.slc true [])) [] := ⟨rfl, fun i h => by simp at h⟩
def setsL (F : List Nat) : List (List Int) := F.map bitsI
theorem setsL_len (F : List Nat) : (setsL F).length = F.length := by simp [setsL]
theorem ListsAt.sets {σ : St} {z : Bool} {F : List Nat} : ListsAt σ (.d (.slc z (setsR F))) (setsL F) := by
  refine ⟨by rw [setsL_len]; exact len_sets, fun i h => ?_⟩
  rw [setsL_len] at h
  refine ⟨_, _, _, .d (slD (bitsI (F.getD i 0))), index_sets h, rfl, ?_⟩
  have : (setsL F)[i]'(by rw [setsL_len]; exact h) = bitsI (F.getD i 0) := by simp [setsL, h]
  rw [this]; exact ListAt.d
theorem LKept.lists {F : List Nat} {σ σ' : St} {a : A} {k : Nat} {vs : List A} (h : LKept F σ a σ' k vs) : ListsAt σ' a (setsL F) := by
  rcases h.row with ⟨rfl, rfl⟩ | ⟨-, rfl, hk, -⟩
  · have := h.len
    have hF : F = [] := by cases F with | nil => rfl | cons _ _ => simp at this
    subst hF; exact ListsAt.nil
  · refine ⟨by rw [sliceLen_row, hk, setsL_len, ← h.len]; rfl, fun i hi => ?_⟩
    rw [setsL_len] at hi
    have hvi : i < vs.length := by rw [h.len]; exact hi
    have hg : vs[i]? = some vs[i] := List.getElem?_eq_getElem hvi
    have hs : (setsL F)[i]'(by rw [setsL_len]; exact hi) = bitsI (F.getD i 0) := by simp [setsL, hi]
    refine ⟨.ptr k i, [k], [k], vs[i], ?_, ?_, ?_⟩
    · rw [indexK_row, hk, indexR_nat hvi]; simp
    · simp only [go_sem, ↓reduceIte, Int.reduceEq, Nat.reduceBEq, Int.reduceBEq, Nat.reduceAdd, Nat.reduceEqDiff, Nat.reduceLT, Nat.reduceSub, hk, hg]
    · rw [hs]; exact (h.at_ i _ hg).at_
set_option maxHeartbeats 4000000 in
theorem same_c (h17 : fz 17 = .cut) (h21 : fz 21 = .cut) {a b : A} {ls : List (List Int)} {σ : St} (ha : ListsAt σ a ls) (hb : ListsAt σ b ls) (hl : ls.length < 1000000000) (hll : ∀ l ∈ ls, l.length < 1000000000) : CallsTo (XX fz) (.func 17 []) [a, b] σ (.d (.bool true)) σ [] := by
  refine CallsTo.cut0 h17 fn17 (by simp) rfl ?_
  simp only [Tryd.f17, Option.getD_some]
  have l1 := ha.len
  have l2 := hb.len
  have c : ((ls.length : Int) != (ls.length : Int)) = false := by simp
  simp only [go_sem, ↓reduceIte, Int.reduceEq, Nat.reduceBEq, Int.reduceBEq, Nat.reduceAdd, Nat.reduceEqDiff, Nat.reduceLT, Nat.reduceSub, l1, l2, c]
  refine Ev.loop_ind (fun m tm τ W => ∃ i : Nat, m = ls.length - i ∧ i ≤ ls.length ∧ W = [] ∧ τ = σ ∧ tm.at 0 = a ∧ tm.at 1 = b ∧ tm.at 5 = .d (.int .i64 i)) ?_ ls.length _ _ _ ⟨0, rfl, by omega, rfl, rfl, ?_, ?_, ?_⟩
  · rintro m tm τ W ⟨i, rfl, hi, rfl, rfl, t0, t1, t5⟩ ih
    by_cases hia : i < ls.length
    · obtain ⟨P1, R1, S1, v1, x1, y1, z1⟩ := ha.at_ i hia
      obtain ⟨P2, R2, S2, v2, x2, y2, z2⟩ := hb.at_ i hia
      simp only [go_sem, ↓reduceIte, Int.reduceEq, Nat.reduceBEq, Int.reduceBEq, Nat.reduceAdd, Nat.reduceEqDiff, Nat.reduceLT, Nat.reduceSub, t0, t1, t5, l1, l2, dec_lt' hia, x1, y1, x2, y2]
      refine ⟨_, _, _, eqInts_g h21 z1 z2 (hll _ (List.getElem_mem hia)), ?_⟩
      have he : eqI ls[i] ls[i] = true := decide_eq_true rfl
      rw [he]
      simp only [go_sem, ↓reduceIte, Int.reduceEq, Nat.reduceBEq, Int.reduceBEq, Nat.reduceAdd, Nat.reduceEqDiff, Nat.reduceLT, Nat.reduceSub, t5, wrap_succ' hia hl]
      refine ⟨drawOk_rel [] [] rfl (by kernel_rfl) rfl (by simp), ?_⟩
      refine ih _ _ _ _ (by omega) ⟨i + 1, rfl, hia, rfl, rfl, ?_, ?_, ?_⟩
      all_goals (simp only [go_sem, ↓reduceIte, Int.reduceEq, Nat.reduceBEq, Int.reduceBEq, Nat.reduceAdd, Nat.reduceEqDiff, Nat.reduceLT, Nat.reduceSub, t0, t1])
    · simp only [go_sem, ↓reduceIte, Int.reduceEq, Nat.reduceBEq, Int.reduceBEq, Nat.reduceAdd, Nat.reduceEqDiff, Nat.reduceLT, Nat.reduceSub, t0, t1, t5, l1, l2, dec_ge' hia]
  all_goals first | rfl | (simp only [go_sem, ↓reduceIte, Int.reduceEq, Nat.reduceBEq, Int.reduceBEq, Nat.reduceAdd, Nat.reduceEqDiff, Nat.reduceLT, Nat.reduceSub]; done) | (simp only [go_sem, ↓reduceIte, Int.reduceEq, Nat.reduceBEq, Int.reduceBEq, Nat.reduceAdd, Nat.reduceEqDiff, Nat.reduceLT, Nat.reduceSub]; rfl)
end Go.Am
namespace Go.Am
open Go Go.Proofs
section
variable (F : List Nat) (nl : List Bool)
mutual
theorem bgE_cp : ∀ x : Ex, bgE F nl x.cp = bgE F nl x
  | .mk k n z l => by rw [Ex.cp, bgE, bgE, bgS_cp l 0, bgA_cp l 0]
theorem bgS_cp : ∀ (l : List Ex) (a : Nat), bgS F nl (Ex.cpL l) a = bgS F nl l a
  | [], a => by rw [Ex.cpL]
  | x :: l, a => by rw [Ex.cpL, bgS, bgS, bgE_cp x, bgS_cp l]
theorem bgA_cp : ∀ (l : List Ex) (a : Nat) (b : Bool), bgA F nl (Ex.cpL l) a b = bgA F nl l a b
  | [], a, b => by rw [Ex.cpL]
  | x :: l, a, b => by rw [Ex.cpL, bgA, bgA, bgE_cp x, bgA_cp l]
end
mutual
theorem bhE_cp : ∀ (x : Ex) (b : Nat) (s : HR), bhE F nl x.cp b s = bhE F nl x b s
  | .mk k n z l, b, s => by rw [Ex.cp, bhE, bhE, bhS_cp l b s, bhH_cp l b s, bhA_cp l b s false]
theorem bhS_cp : ∀ (l : List Ex) (b : Nat) (s : HR), bhS F nl (Ex.cpL l) b s = bhS F nl l b s
  | [], b, s => by rw [Ex.cpL]
  | x :: l, b, s => by rw [Ex.cpL, bhS, bhS, bhS_cp l b s, bhE_cp x, bgE_cp F nl x]
theorem bhH_cp : ∀ (l : List Ex) (b : Nat) (s : HR), bhH F nl (Ex.cpL l) b s = bhH F nl l b s
  | [], b, s => by rw [Ex.cpL]
  | x :: l, b, s => by rw [Ex.cpL, bhH, bhH, bhE_cp x, bgE_cp F nl x]
theorem bhA_cp : ∀ (l : List Ex) (b : Nat) (s : HR) (f : Bool), bhA F nl (Ex.cpL l) b s f = bhA F nl l b s f
  | [], b, s, f => by rw [Ex.cpL]
  | x :: l, b, s, f => by rw [Ex.cpL, bhA, bhA, bhE_cp x, bhA_cp l]
end
theorem mdAt_cp : ∀ (l : List Ex) (F : List Nat) (i : Nat), mdAt nl F i (l.map Ex.cp) = mdAt nl F i l
  | [], F, i => rfl
  | x :: l, F, i => by rw [List.map_cons, mdAt, mdAt, bgE_cp, mdAt_cp l]
theorem mdRun_cp (l : List Ex) : ∀ (n : Nat) (F : List Nat), mdRun nl (l.map Ex.cp) n F = mdRun nl l n F
  | 0, F => rfl
  | n + 1, F => by
    rw [mdRun, mdRun, mdAt_cp]
    cases mdAt nl F 0 l with
    | none => rfl
    | some G => exact mdRun_cp l n G
theorem fwAt_cp (s : HR) : ∀ (l : List Ex) (i : Nat), fwAt F nl s i (l.map Ex.cp) = fwAt F nl s i l
  | [], i => rfl
  | x :: l, i => by rw [List.map_cons, fwAt, fwAt, bhE_cp, fwAt_cp s l]
theorem fwRun_cp (l : List Ex) : ∀ (n : Nat) (s : HR), fwRun F nl (l.map Ex.cp) n s = fwRun F nl l n s
  | 0, s => rfl
  | n + 1, s => by
    rw [fwRun, fwRun, fwAt_cp]
    cases fwAt F nl s 0 l with
    | none => rfl
    | some G => exact fwRun_cp l n G
end
theorem null_cp {g : Gr} (hc : checkP g = 0) : g.cp.null = g.null := by
  rw [← null_is (g := g) (by rw [chk_is]; exact hc), ← null_is (g := g.cp) (by rw [chk_is, checkP_cp]; exact hc), cp_bodies, rndP_cp]
theorem frG_cp {g : Gr} (hc : checkP g = 0) : frG g.cp = frG g := by
  unfold frG; rw [null_cp hc, cp_bodies, mdRun_cp, List.length_map]
theorem fwG_cp {g : Gr} (hc : checkP g = 0) : fwG g.cp = fwG g := by
  unfold fwG; rw [null_cp hc, frG_cp hc, cp_bodies, fwRun_cp, List.length_map]
theorem followV_cp (g : Gr) : followV g.cp = followV g := by
  unfold followV
  rw [checkP_cp]
  split
  · rename_i hc; rw [fwG_cp hc]
  · rfl
end Go.Am
namespace Go.Am
open Go Go.Proofs
def mdG : Nat → Md := fun f => match f with
  | 11 => .ora F11 | 22 => .ora F35 | 94 => .ora F94 | 15 => .ora F15
  | 28 | 51 | 12 | 36 | 14 | 40 | 77 | 16 | 74 => .ice
  | 13 | 37 | 38 | 70 | 41 | 43 => .keep
  | _ => .cut
theorem oraG' : ∀ f F, oraOf (mdG f) = some F → OraS Tryd.prog f F := by
  intro f F h
  unfold mdG at h
  split at h <;> cases h
  · exact ora11
  · exact ora35
  · exact ora94
  · exact ora15
theorem works_G (σ : St) : CallsTo (XX mdG) (.func 11 []) [] σ (.d (.bool true)) σ [] := CallsTo.ora (F := F11) rfl fn11 rfl rfl rfl
theorem check_G (g : Gr) (σ : St) (h : SmallG g) : CallsTo (XX mdG) (.func 22 []) [g.a] σ (.d (.int .i64 (checkP g))) σ [] := CallsTo.ora (F := F35) rfl fn22 rfl (F35_at h) rfl
theorem tz_G (k : Nat) (σ : St) (h : k < 2 ^ 64) : CallsTo (XX mdG) (.func 94 []) [.d (.int .u64 (k : Int))] σ (.d (.int .i64 (Lib.ctz 64 k : Int))) σ [] := CallsTo.ora (F := F94) rfl fn94 rfl (F94_at h) rfl
theorem follow_G (g : Gr) (σ : St) (h : SmallG g) : CallsTo (XX mdG) (.func 15 []) [g.a] σ (.tup [.d (followV g), .d (.int .i64 (checkP g))]) σ [] := CallsTo.ora (F := F15) rfl fn15 rfl (F15_at h) rfl
theorem fzG : FzR mdG := ⟨rfl, rfl, rfl, rfl, rfl, rfl, rfl, rfl, rfl, rfl⟩
set_option maxHeartbeats 1000000 in
theorem nullable_G (g : Gr) (σ : St) (h : SmallG g) : CallsTo (XX mdG) (.func 28 []) [g.a] σ (.tup [.d (nullD g), .d (.int .i64 (checkP g))]) σ [] := by
  refine CallsTo.ice0 rfl fn28 (by simp) ?_
  simp only [Tryd.f28, Option.getD_some]
  simp only [go_sem, ↓reduceIte, Int.reduceEq, Nat.reduceBEq, Int.reduceBEq, Nat.reduceAdd, Nat.reduceEqDiff, Nat.reduceLT, Nat.reduceSub, Gr.a]
  refine ⟨_, _, _, check_G g _ h, ?_⟩
  unfold nullD
  cases hc : (checkP g != 0) with
  | true =>
    have hc' : checkP g ≠ 0 := by simpa using hc
    simp only [go_sem, ↓reduceIte, Int.reduceEq, Nat.reduceBEq, Int.reduceBEq, Nat.reduceAdd, Nat.reduceEqDiff, Nat.reduceLT, Nat.reduceSub, hc, if_neg hc']; try rfl
  | false =>
    have hc' : checkP g = 0 := by simpa using hc
    have hk := chk_iff.1 hc'
    simp only [go_sem, ↓reduceIte, Int.reduceEq, Nat.reduceBEq, Int.reduceBEq, Nat.reduceAdd, Nat.reduceEqDiff, Nat.reduceLT, Nat.reduceSub, hc, if_pos hc']
    have hle := hk.le
    refine ⟨_, _, _, grows_call (fz := mdG) rfl rfl rfl rfl rfl rfl rfl g false _ (by omega) (fun r hr => ⟨h r hr, (hk.ok _ (List.mem_map.2 ⟨r, hr, rfl⟩)).calls⟩), ?_⟩
    simp only [go_sem, ↓reduceIte, Int.reduceEq, Nat.reduceBEq, Int.reduceBEq, Nat.reduceAdd, Nat.reduceEqDiff, Nat.reduceLT, Nat.reduceSub, hc']
    rfl
structure Rws (lo ka : Nat) (vs : List A) (σ : St) : Prop where
  at_ : ∀ (i : Nat) (v : A), vs[i]? = some v → v = .d (.slc true []) ∨ ∃ kv cs, v = .row kv 0 cs.length 1 ∧ σ.get kv = .cells cs ∧ lo ≤ kv ∧ kv ≠ ka ∧ cs.length ≤ 64
theorem Rws.set {lo ka : Nat} {vs : List A} {σ : St} (h : Rws lo ka vs σ) {k : Nat} {cs : List A} (hk : σ.get k = .cells cs) {j : Nat} {a : A} : Rws lo ka vs (σ.set k (.cells (cs.set j a))) := ⟨fun i v hv => by
  rcases h.at_ i v hv with h | ⟨kv, cs', h1, h2, h3, h4, h5⟩
  · exact .inl h
  · by_cases e : kv = k
    · subst e
      rw [hk] at h2; cases h2
      exact .inr ⟨kv, cs.set j a, by rw [List.length_set]; exact h1, St.get_set_eq, h3, h4, by rw [List.length_set]; exact h5⟩
    · exact .inr ⟨kv, cs', h1, by rw [St.get_set_ne e]; exact h2, h3, h4, h5⟩⟩
theorem LKept.rws {F : List Nat} {σ σ' : St} {a : A} {k : Nat} {vs : List A} (h : LKept F σ a σ' k vs) : Rws σ.n k vs σ' := ⟨fun i v hv => by
  rcases h.at_ i v hv with ⟨h1, h2⟩ | ⟨kv, h1, h2, h3, h4, h5⟩
  · rw [h2] at h1; exact .inl h1
  · have hl : (((intsD (bitsI (F.getD i 0))).flatMap id).map A.d).length = (bitsI (F.getD i 0)).length := by
      rw [List.length_map, flat_len (es := 1) (intsD_one _), intsD_len, Nat.mul_one]
    refine .inr ⟨kv, _, ?_, h2, h3, h5, ?_⟩
    · rw [h1]; congr 1; exact hl.symm
    · rw [hl]; exact totN_le.bitsI_len' _⟩
end Go.Am
namespace Go.Am
open Go Go.Proofs
theorem setsL_small (F : List Nat) : ∀ l ∈ setsL F, l.length < 1000000000 := fun l hl => by
  obtain ⟨k, -, rfl⟩ := List.mem_map.1 hl
  have := totN_le.bitsI_len' k
  omega
def tellL (g : Gr) (F : List Nat) : List (List Int) := if checkP g = 0 then setsL F else []
theorem firstV_at (g : Gr) (σ : St) : ListsAt σ (.d (firstV g)) (tellL g (frG g)) := by
  unfold firstV tellL
  split
  · exact ListsAt.sets
  · exact ListsAt.nil
theorem followV_at (g : Gr) (σ : St) : ListsAt σ (.d (followV g)) (tellL g (fwG g).1) := by
  unfold followV tellL
  split
  · exact ListsAt.sets
  · exact ListsAt.nil
theorem tell_len {g : Gr} {F : List Nat} (hF : F.length ≤ 1000) : (tellL g F).length < 1000000000 := by
  unfold tellL; split
  · rw [setsL_len]; omega
  · simp
theorem tell_small {g : Gr} {F : List Nat} : ∀ l ∈ tellL g F, l.length < 1000000000 := by
  unfold tellL; split
  · exact setsL_small F
  · simp
structure FKc (g : Gr) (σ : St) (a : A) (σ' : St) : Prop where
  n : σ.n ≤ σ'.n
  same : ∀ j, j < σ.n → σ'.get j = σ.get j
  at_ : ListsAt σ' a (tellL g (frG g))
  rw : (a = .d (.slc true []) ∧ tellL g (frG g) = []) ∨ ∃ k vs, a = .row k 0 vs.length 1 ∧ σ'.get k = .cells vs ∧ σ.n ≤ k ∧ Rws σ.n k vs σ'
theorem first_Gc (g : Gr) (hg : SmallG g) (σ : St) : ∃ a σ', CallsTo (XX mdG) (.func 13 []) [g.cp.a] σ (.tup [a, .d (.int .i64 (checkP g))]) σ' [] ∧ FKc g σ a σ' := by
  obtain ⟨r, σ', T, h1, rfl, a, rfl, h2⟩ := first_k (fz := mdG) rfl rfl rfl rfl rfl tz_G nullable_G g.cp (cp_small hg) σ
  rw [checkP_cp] at h1
  refine ⟨a, σ', h1, h2.n, h2.same, ?_, ?_⟩
  · unfold tellL
    split
    · rename_i hc
      obtain ⟨k, vs, hL⟩ := h2.ok (by rw [checkP_cp]; exact hc)
      rw [frG_cp hc] at hL
      exact hL.lists
    · rename_i hc
      rw [h2.no (by rw [checkP_cp]; exact hc)]; exact ListsAt.nil
  · unfold tellL
    split
    · rename_i hc
      obtain ⟨k, vs, hL⟩ := h2.ok (by rw [checkP_cp]; exact hc)
      rw [frG_cp hc] at hL
      rcases hL.row with ⟨h3, h4⟩ | ⟨h3, h4, h5, -⟩
      · refine .inl ⟨h4, ?_⟩
        have := hL.len
        rw [h3] at this
        have hF : frG g = [] := by cases hq : frG g with | nil => rfl | cons _ _ => rw [hq] at this; simp at this
        rw [hF]; rfl
      · exact .inr ⟨k, vs, h4, h5, hL.lo h3, hL.rws⟩
    · rename_i hc
      exact .inl ⟨h2.no (by rw [checkP_cp]; exact hc), rfl⟩
theorem Ev.mid2 {X : X} {f nt lo : Nat} {ro : Option Nat} {c d : Item} {rest : List Item} {tm : Tm} {σ : St} {W : List Nat} {Q : Out → Prop} (I : Tm → St → List Nat → Prop) (h2 : ∀ rest, (∀ tm σ W, I tm σ W → Ev X f nt ro lo rest tm σ W Q) → Ev X f nt ro lo (c :: d :: rest) tm σ W Q) (h1 : ∀ tm σ W, I tm σ W → Ev X f nt ro lo rest tm σ W Q) : Ev X f nt ro lo (c :: d :: rest) tm σ W Q := h2 rest h1
set_option maxHeartbeats 16000000 in
theorem sets_call (g : Gr) (hg : SmallG g) (hL : g.rules.length < 1000000000) : ∃ σ' T, CallsTo (XX mdG) (.func 3 []) [g.a] St.empty (.d (.bool true)) σ' T := by
  refine ⟨St.empty, [], CallsTo.cut0 rfl fn3 (by simp) rfl ?_⟩
  simp only [Tryd.f3, Option.getD_some]
  simp only [go_sem, ↓reduceIte, Int.reduceEq, Nat.reduceBEq, Int.reduceBEq, Nat.reduceAdd, Nat.reduceEqDiff, Nat.reduceLT, Nat.reduceSub, Gr.a]
  refine ⟨_, _, _, deepG_call rfl rfl g _ hg hL, ?_⟩
  cases hd : deepG g with
  | true =>
    simp only [go_sem, ↓reduceIte, Int.reduceEq, Nat.reduceBEq, Int.reduceBEq, Nat.reduceAdd, Nat.reduceEqDiff, Nat.reduceLT, Nat.reduceSub]
    refine ⟨_, _, _, works_G _, ?_⟩
    simp only [go_sem, ↓reduceIte, Int.reduceEq, Nat.reduceBEq, Int.reduceBEq, Nat.reduceAdd, Nat.reduceEqDiff, Nat.reduceLT, Nat.reduceSub]
  | false =>
  simp only [go_sem, ↓reduceIte, Int.reduceEq, Nat.reduceBEq, Int.reduceBEq, Nat.reduceAdd, Nat.reduceEqDiff, Nat.reduceLT, Nat.reduceSub]
  refine ⟨_, _, _, cpG_call rfl rfl g _ hg hL, ?_⟩
  simp only [go_sem, ↓reduceIte, Int.reduceEq, Nat.reduceBEq, Int.reduceBEq, Nat.reduceAdd, Nat.reduceEqDiff, Nat.reduceLT, Nat.reduceSub, Gr.a]
  generalize hσ1 : ((St.empty.push (.cells g.c)).push (.cells [.d (.int .i64 0), .d (.slc true [])])).set (St.empty.n + 1) (.cells g.cp.c) = σ1
  have n1 : σ1.n = St.empty.n + 2 := by rw [← hσ1]; simp only [St.n_set, St.n_push]
  have g0 : σ1.get St.empty.n = .cells g.c := by rw [← hσ1, St.get_set_ne (by omega), St.get_push_ne (by rw [St.n_push]; omega), St.get_push_eq]
  have g1 : σ1.get (St.empty.n + 1) = .cells g.cp.c := by rw [← hσ1, St.get_set_eq]
  clear hσ1
  obtain ⟨a, σ2, hc1, hK⟩ := first_Gc g hg σ1
  refine ⟨_, _, _, hc1, ?_⟩
  have hKn := hK.n
  have k0 : σ2.get St.empty.n = .cells g.c := (hK.same _ (by omega)).trans g0
  have k1 : σ2.get (St.empty.n + 1) = .cells g.cp.c := (hK.same _ (by omega)).trans g1
  have fz1 : FzR mdG := fzG
  simp only [go_sem, ↓reduceIte, Int.reduceEq, Nat.reduceBEq, Int.reduceBEq, Nat.reduceAdd, Nat.reduceEqDiff, Nat.reduceLT, Nat.reduceSub, k0, k1]
  refine ⟨_, _, _, first14_c rfl rfl rfl rfl rfl rfl fz1 g hg hL σ2, ?_⟩
  simp only [go_sem, ↓reduceIte, Int.reduceEq, Nat.reduceBEq, Int.reduceBEq, Nat.reduceAdd, Nat.reduceEqDiff, Nat.reduceLT, Nat.reduceSub, k0, k1]
  refine ⟨_, _, _, follow_G g.cp σ2 (cp_small hg), ?_⟩
  rw [followV_cp, checkP_cp]
  simp only [go_sem, ↓reduceIte, Int.reduceEq, Nat.reduceBEq, Int.reduceBEq, Nat.reduceAdd, Nat.reduceEqDiff, Nat.reduceLT, Nat.reduceSub, k0, k1]
  refine ⟨_, _, _, follow16_c rfl rfl rfl rfl rfl rfl rfl rfl rfl fz1 g hg hL σ2, ?_⟩
  have hlen : ∀ F : List Nat, F = frG g ∨ F = (fwG g).1 → checkP g = 0 → F.length ≤ 1000 := fun F h hc => by
    have hgk := GOk.of hc
    have := hgk.le
    rcases h with rfl | rfl
    · rw [frG_len hgk]; omega
    · rw [(fwG_ok hgk).1.hl]; omega
  have htl : ∀ F : List Nat, F = frG g ∨ F = (fwG g).1 → (tellL g F).length < 1000000000 := fun F h => by
    by_cases hc : checkP g = 0
    · exact tell_len (hlen F h hc)
    · unfold tellL; rw [if_neg hc]; simp
  simp only [go_sem, ↓reduceIte, Int.reduceEq, Nat.reduceBEq, Int.reduceBEq, Nat.reduceAdd, Nat.reduceEqDiff, Nat.reduceLT, Nat.reduceSub]
  refine ⟨_, _, _, same_c rfl rfl hK.at_ (firstV_at g σ2) (htl _ (.inl rfl)) tell_small, ?_⟩
  have ne1 : ∀ z : Int, (z != z) = false := fun z => by simp
  simp only [go_sem, ↓reduceIte, Int.reduceEq, Nat.reduceBEq, Int.reduceBEq, Nat.reduceAdd, Nat.reduceEqDiff, Nat.reduceLT, Nat.reduceSub, ne1]
  refine ⟨_, _, _, same_c rfl rfl (followV_at g σ2) (followV_at g σ2) (htl _ (.inr rfl)) tell_small, ?_⟩
  simp only [go_sem, ↓reduceIte, Int.reduceEq, Nat.reduceBEq, Int.reduceBEq, Nat.reduceAdd, Nat.reduceEqDiff, Nat.reduceLT, Nat.reduceSub, ne1, k0, k1]
  refine ⟨_, _, _, sameG_call rfl rfl g σ2 hg hL, ?_⟩
  simp only [go_sem, ↓reduceIte, Int.reduceEq, Nat.reduceBEq, Int.reduceBEq, Nat.reduceAdd, Nat.reduceEqDiff, Nat.reduceLT, Nat.reduceSub]
  generalize htm : FT.set _ 12 (A.d (D.int IntKind.i64 0)) = tm
  have u1 : Tm.at tm 1 = .ptr St.empty.n 0 := by rw [← htm]; simp only [go_sem, ↓reduceIte, Int.reduceEq, Nat.reduceBEq, Int.reduceBEq, Nat.reduceAdd, Nat.reduceEqDiff, Nat.reduceLT, Nat.reduceSub]
  have u3 : Tm.at tm 3 = .ptr (St.empty.n + 1) 0 := by rw [← htm]; simp only [go_sem, ↓reduceIte, Int.reduceEq, Nat.reduceBEq, Int.reduceBEq, Nat.reduceAdd, Nat.reduceEqDiff, Nat.reduceLT, Nat.reduceSub]
  have u4 : Tm.at tm 4 = a := by rw [← htm]; simp only [go_sem, ↓reduceIte, Int.reduceEq, Nat.reduceBEq, Int.reduceBEq, Nat.reduceAdd, Nat.reduceEqDiff, Nat.reduceLT, Nat.reduceSub]
  have u6 : Tm.at tm 6 = .d (firstV g) := by rw [← htm]; simp only [go_sem, ↓reduceIte, Int.reduceEq, Nat.reduceBEq, Int.reduceBEq, Nat.reduceAdd, Nat.reduceEqDiff, Nat.reduceLT, Nat.reduceSub]
  have u7 : Tm.at tm 7 = .d (.int .i64 (checkP g)) := by rw [← htm]; simp only [go_sem, ↓reduceIte, Int.reduceEq, Nat.reduceBEq, Int.reduceBEq, Nat.reduceAdd, Nat.reduceEqDiff, Nat.reduceLT, Nat.reduceSub]
  have u12 : Tm.at tm 12 = .d (.int .i64 0) := by rw [← htm]; simp only [go_sem, ↓reduceIte, Int.reduceEq, Nat.reduceBEq, Int.reduceBEq, Nat.reduceAdd, Nat.reduceEqDiff, Nat.reduceLT, Nat.reduceSub]
  clear htm
  refine Ev.mid2 (fun tm τ W => W = [] ∧ St.empty.n + 2 ≤ τ.n ∧ τ.get St.empty.n = .cells g.c ∧ τ.get (St.empty.n + 1) = .cells g.cp.c ∧ tm.at 1 = .ptr St.empty.n 0 ∧ tm.at 3 = .ptr (St.empty.n + 1) 0 ∧ tm.at 6 = .d (firstV g) ∧ tm.at 7 = .d (.int .i64 (checkP g))) (fun rest hrest => ?_) ?_
  · rcases hK.rw with ⟨rfl, -⟩ | ⟨k, vs, rfl, hk, hlo, hrw⟩
    · refine Ev.loop_ind (fun m tm τ W => m = 0 ∧ W = [] ∧ τ = σ2 ∧ tm.at 1 = .ptr St.empty.n 0 ∧ tm.at 3 = .ptr (St.empty.n + 1) 0 ∧ tm.at 4 = .d (.slc true []) ∧ tm.at 6 = .d (firstV g) ∧ tm.at 7 = .d (.int .i64 (checkP g)) ∧ tm.at 12 = .d (.int .i64 0)) ?_ 0 _ _ _ ⟨rfl, rfl, rfl, u1, u3, u4, u6, u7, u12⟩
      rintro m tm τ W ⟨rfl, rfl, rfl, t1, t3, t4, t6, t7, t12⟩ ih
      have c : decide ((0 : Int) < ((0 : Nat) : Int)) = false := rfl
      have l0 : ∀ ρ : St, sliceLen ρ (.d (.slc true [])) = some 0 := fun ρ => rfl
      simp only [go_sem, ↓reduceIte, Int.reduceEq, Nat.reduceBEq, Int.reduceBEq, Nat.reduceAdd, Nat.reduceEqDiff, Nat.reduceLT, Nat.reduceSub, t1, t3, t4, t6, t7, t12, l0, c]
      refine hrest _ _ _ ⟨rfl, by omega, k0, k1, ?_, ?_, ?_, ?_⟩
      all_goals (simp only [go_sem, ↓reduceIte, Int.reduceEq, Nat.reduceBEq, Int.reduceBEq, Nat.reduceAdd, Nat.reduceEqDiff, Nat.reduceLT, Nat.reduceSub, t1, t3, t6, t7])
    · have low0 : ∀ T, low St.empty.n T = [] := fun T => low_all fun j _ => Nat.zero_le j
      have hvl : vs.length < 1000000000 := by
        have h1 := hK.at_.len
        rw [sliceLen_row, hk] at h1
        have h2 : vs.length = (tellL g (frG g)).length := Option.some.inj h1
        rw [h2]; exact htl _ (.inl rfl)
      refine Ev.loop_ind (fun m tm τ W => ∃ i : Nat, m = vs.length - i ∧ i ≤ vs.length ∧ W = [] ∧ τ.n = σ2.n ∧ τ.get St.empty.n = .cells g.c ∧ τ.get (St.empty.n + 1) = .cells g.cp.c ∧ τ.get k = .cells vs ∧ Rws σ1.n k vs τ ∧ tm.at 1 = .ptr St.empty.n 0 ∧ tm.at 3 = .ptr (St.empty.n + 1) 0 ∧ tm.at 4 = .row k 0 vs.length 1 ∧ tm.at 6 = .d (firstV g) ∧ tm.at 7 = .d (.int .i64 (checkP g)) ∧ tm.at 12 = .d (.int .i64 (i : Int))) ?_ vs.length _ _ _ ⟨0, rfl, by omega, rfl, rfl, k0, k1, hk, hrw, u1, u3, u4, u6, u7, u12⟩
      rintro m tm τ W ⟨i, rfl, hi, rfl, hn, q0, q1, qk, hr, t1, t3, t4, t6, t7, t12⟩ ih
      have hlr : ∀ ρ : St, ρ.get k = .cells vs → sliceLen ρ (.row k 0 vs.length 1) = some vs.length := fun ρ h => by rw [sliceLen_row, h]; rfl
      by_cases hil : i < vs.length
      · simp only [go_sem, ↓reduceIte, Int.reduceEq, Nat.reduceBEq, Int.reduceBEq, Nat.reduceAdd, Nat.reduceEqDiff, Nat.reduceLT, Nat.reduceSub, t1, t3, t4, t6, t7, t12, hlr τ qk, qk, dec_lt' hil]
        obtain ⟨len, hlen2⟩ : ∃ len : Nat, ∀ τ, Rws σ1.n k vs τ → vs[i] = .d (.slc true []) ∧ len = 0 ∨ ∃ kv cs, vs[i] = .row kv 0 len 1 ∧ τ.get kv = .cells cs ∧ cs.length = len ∧ σ1.n ≤ kv ∧ kv ≠ k ∧ len ≤ 64 := by
          rcases hr.at_ i vs[i] (List.getElem?_eq_getElem hil) with h | ⟨kv, cs, h1, h2, h3, h4, h5⟩
          · exact ⟨0, fun τ _ => .inl ⟨h, rfl⟩⟩
          · refine ⟨cs.length, fun τ' h' => ?_⟩
            rcases h'.at_ i vs[i] (List.getElem?_eq_getElem hil) with h | ⟨kv', cs', e1, e2, e3, e4, e6⟩
            · rw [h1] at h; cases h
            · rw [h1] at e1
              have e5 : kv = kv' ∧ cs.length = cs'.length := by injection e1 with a b c d; exact ⟨a, c⟩
              exact .inr ⟨kv, cs', h1, by rw [e5.1]; exact e2, e5.2.symm, by rw [e5.1]; exact e3, by rw [e5.1]; exact e4, h5⟩
        have hls : len < 1000000000 := by
          rcases hlen2 τ hr with ⟨-, h⟩ | ⟨-, -, -, -, -, -, -, h⟩ <;> omega
        have ix := fun (ρ : St) (cs : List A) => indexR_nat (σ := ρ) (k := k) (off := 0) (s := 1) (cs := cs) hil
        simp only [Nat.zero_add, Nat.mul_one] at ix
        have hcell : vs[i]? = some vs[i] := List.getElem?_eq_getElem hil
        refine Ev.loop_ind (fun m tm τ W => ∃ j : Nat, m = len - j ∧ j ≤ len ∧ W = [] ∧ τ.n = σ2.n ∧ τ.get St.empty.n = .cells g.c ∧ τ.get (St.empty.n + 1) = .cells g.cp.c ∧ τ.get k = .cells vs ∧ Rws σ1.n k vs τ ∧ tm.at 1 = .ptr St.empty.n 0 ∧ tm.at 3 = .ptr (St.empty.n + 1) 0 ∧ tm.at 4 = .row k 0 vs.length 1 ∧ tm.at 6 = .d (firstV g) ∧ tm.at 7 = .d (.int .i64 (checkP g)) ∧ tm.at 12 = .d (.int .i64 (i : Int)) ∧ tm.at 13 = .d (.int .i64 (j : Int))) ?_ len _ _ _ ⟨0, rfl, by omega, rfl, hn, q0, q1, qk, hr, ?_, ?_, ?_, ?_, ?_, ?_, ?_⟩
        · clear t1 t3 t4 t6 t7 t12 q0 q1 qk hr hn
          rintro m tm τ W ⟨j, rfl, hj, rfl, hn, q0, q1, qk, hr, t1, t3, t4, t6, t7, t12, t13⟩ ih2
          rcases hlen2 τ hr with ⟨hv, rfl⟩ | ⟨kv, cs, hv, hkv, hcl, hlo2, hne, -⟩
          · have hj0 : j = 0 := by omega
            subst hj0
            have c : decide (((0 : Nat) : Int) < ((0 : Nat) : Int)) = false := rfl
            have l0 : ∀ ρ : St, sliceLen ρ (.d (.slc true [])) = some 0 := fun ρ => rfl
            simp only [go_sem, ↓reduceIte, Int.reduceEq, Nat.reduceBEq, Int.reduceBEq, Nat.reduceAdd, Nat.reduceEqDiff, Nat.reduceLT, Nat.reduceSub, t1, t3, t4, t6, t7, t12, t13, qk, ix, hcell, hv, l0, c, wrap_succ' hil hvl]
            refine ih _ _ _ _ (by omega) ⟨i + 1, rfl, hil, rfl, hn, q0, q1, qk, hr, ?_, ?_, ?_, ?_, ?_, ?_⟩
            all_goals (simp only [go_sem, ↓reduceIte, Int.reduceEq, Nat.reduceBEq, Int.reduceBEq, Nat.reduceAdd, Nat.reduceEqDiff, Nat.reduceLT, Nat.reduceSub, t1, t3, t4, t6, t7])
          · have hlv : sliceLen τ (.row kv 0 len 1) = some len := by rw [sliceLen_row, hkv]; rfl
            by_cases hjl : j < len
            · have ix2 := fun (ρ : St) (cs : List A) => indexR_nat (σ := ρ) (k := kv) (off := 0) (s := 1) (cs := cs) hjl
              simp only [Nat.zero_add, Nat.mul_one] at ix2
              have hjc : j < cs.length := by omega
              simp only [go_sem, ↓reduceIte, Int.reduceEq, Nat.reduceBEq, Int.reduceBEq, Nat.reduceAdd, Nat.reduceEqDiff, Nat.reduceLT, Nat.reduceSub, t1, t3, t4, t6, t7, t12, t13, qk, ix, hcell, hv, hlv, dec_lt' hjl, hkv, ix2, hjc, low0, wrap_succ' hjl hls]
              refine ih2 _ _ _ _ (by omega) ⟨j + 1, rfl, hjl, rfl, by rw [St.n_set]; exact hn, by rw [St.get_set_ne (by omega)]; exact q0, by rw [St.get_set_ne (by omega)]; exact q1, by rw [St.get_set_ne (Ne.symm hne)]; exact qk, hr.set hkv, ?_, ?_, ?_, ?_, ?_, ?_, ?_⟩
              all_goals (simp only [go_sem, ↓reduceIte, Int.reduceEq, Nat.reduceBEq, Int.reduceBEq, Nat.reduceAdd, Nat.reduceEqDiff, Nat.reduceLT, Nat.reduceSub, t1, t3, t4, t6, t7, t12])
            · simp only [go_sem, ↓reduceIte, Int.reduceEq, Nat.reduceBEq, Int.reduceBEq, Nat.reduceAdd, Nat.reduceEqDiff, Nat.reduceLT, Nat.reduceSub, t1, t3, t4, t6, t7, t12, t13, qk, ix, hcell, hv, hlv, hkv, dec_ge' hjl, wrap_succ' hil hvl]
              refine ih _ _ _ _ (by omega) ⟨i + 1, rfl, hil, rfl, hn, q0, q1, qk, hr, ?_, ?_, ?_, ?_, ?_, ?_⟩
              all_goals (simp only [go_sem, ↓reduceIte, Int.reduceEq, Nat.reduceBEq, Int.reduceBEq, Nat.reduceAdd, Nat.reduceEqDiff, Nat.reduceLT, Nat.reduceSub, t1, t3, t4, t6, t7])
        all_goals (simp only [go_sem, ↓reduceIte, Int.reduceEq, Nat.reduceBEq, Int.reduceBEq, Nat.reduceAdd, Nat.reduceEqDiff, Nat.reduceLT, Nat.reduceSub, t1, t3, t4, t6, t7, t12]; try rfl)
      · simp only [go_sem, ↓reduceIte, Int.reduceEq, Nat.reduceBEq, Int.reduceBEq, Nat.reduceAdd, Nat.reduceEqDiff, Nat.reduceLT, Nat.reduceSub, t1, t3, t4, t6, t7, t12, hlr τ qk, qk, dec_ge' hil]
        refine hrest _ _ _ ⟨rfl, by omega, q0, q1, ?_, ?_, ?_, ?_⟩
        all_goals (simp only [go_sem, ↓reduceIte, Int.reduceEq, Nat.reduceBEq, Int.reduceBEq, Nat.reduceAdd, Nat.reduceEqDiff, Nat.reduceLT, Nat.reduceSub, t1, t3, t6, t7])
  · rintro tm τ W ⟨rfl, hn, q0, q1, t1, t3, t6, t7⟩
    obtain ⟨a2, σ3, hc2, hK2⟩ := first_Gc g hg τ
    simp only [go_sem, ↓reduceIte, Int.reduceEq, Nat.reduceBEq, Int.reduceBEq, Nat.reduceAdd, Nat.reduceEqDiff, Nat.reduceLT, Nat.reduceSub, t1, t3, t6, t7, q0, q1]
    refine ⟨_, _, _, hc2, ?_⟩
    simp only [go_sem, ↓reduceIte, Int.reduceEq, Nat.reduceBEq, Int.reduceBEq, Nat.reduceAdd, Nat.reduceEqDiff, Nat.reduceLT, Nat.reduceSub, t1, t3, t6, t7]
    refine ⟨_, _, _, same_c rfl rfl hK2.at_ (firstV_at g σ3) (htl _ (.inl rfl)) tell_small, ?_⟩
    simp only [go_sem, ↓reduceIte, Int.reduceEq, Nat.reduceBEq, Int.reduceBEq, Nat.reduceAdd, Nat.reduceEqDiff, Nat.reduceLT, Nat.reduceSub, t1, t3, t6, t7]
    refine ⟨_, _, _, works_G _, ?_⟩
    simp only [go_sem, ↓reduceIte, Int.reduceEq, Nat.reduceBEq, Int.reduceBEq, Nat.reduceAdd, Nat.reduceEqDiff, Nat.reduceLT, Nat.reduceSub]
end Go.Am

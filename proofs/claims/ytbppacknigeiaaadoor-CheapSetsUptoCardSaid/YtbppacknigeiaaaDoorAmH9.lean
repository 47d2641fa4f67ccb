/- Part H9 of a proof that runs a program's calls on a small machine whose values bear no addresses: no conditions. -/
import Derived.Test.YtbppacknigeiaaaDoorAmH7
set_option autoImplicit false
set_option linter.unusedSimpArgs false
set_option linter.unusedVariables false
set_option linter.unusedSectionVars false
namespace Go.Am
open Go Go.Proofs
variable {fz : Nat → Md}
theorem bh_end {g : Gr} {nl : List Bool} {ks k1 k2 k3 : Nat} {F : List Nat} {s : HR} {r : HR × Bool} {a : A} {σ σ0 τ τ' : St} {T : List Nat} (hm : SM g nl ks k1 k2 k3 F s.1 s.2 σ) (o0 : ∀ k, k < σ.n → σ0.get k = σ.get k) (tM : Mod σ0 τ T) (n0 : σ.n ≤ σ0.n) (tw : ∀ k ∈ T, k = k2 ∨ k = k3)
    (tsm : SM g nl ks k1 k2 k3 F r.1.1 r.1.2 τ) (ho : ∀ k, k < σ.n → τ'.get k = τ.get k) (hn : σ.n ≤ τ'.n) (ha : a = .d (.bool r.2)) : BhK g nl ks k1 k2 k3 F r σ a τ' (low σ.n T) where
  eq := ha
  m := ⟨hn, fun k hk h => by rw [ho k hk, tM.same k (by omega) fun q => h (mem_low.2 ⟨q, hk⟩)]; exact o0 k hk, fun k hk => (mem_low.1 hk).2⟩
  w := fun k hk => tw k (mem_low.1 hk).1
  sm := ⟨(ho _ hm.ls).trans tsm.s, (ho _ hm.l1).trans tsm.f, (ho _ hm.l2).trans tsm.h, (ho _ hm.l3).trans tsm.r, tsm.fl, tsm.hl, tsm.rl, tsm.nl, Nat.lt_of_lt_of_le hm.ls hn, Nat.lt_of_lt_of_le hm.l1 hn, Nat.lt_of_lt_of_le hm.l2 hn, Nat.lt_of_lt_of_le hm.l3 hn⟩
set_option maxHeartbeats 8000000 in
theorem behind_star (h42 : fz 42 = .cut) (h69 : fz 69 = .cut) {g : Gr} {nl : List Bool} {ks k1 k2 k3 : Nat} {F : List Nat} (hF : Lt64 F) (ht : g.tokens ≤ 64) (hd : Apart ks k1 k2 k3) (x : Ex) (hx : SmallE x) (ho : okE g.tokens g.rules.length x) (kx : x.kind = 5)
    (ih : ∀ y ∈ x.l, BhC fz g nl ks k1 k2 k3 F y) : BhC fz g nl ks k1 k2 k3 F x := by
  intro b s σ hb hs hm
  refine bh_of h42 hm ?_
  have hls := hm.ls
  have hl1 := hm.l1
  have hl2 := hm.l2
  have hl3 := hm.l3
  obtain ⟨y, hy⟩ := ho.star (.inl kx)
  have hmem : y ∈ x.l := by rw [hy]; simp
  have e2 : (x.kind == 2) = false := by simp [kx]
  have e3 : (x.kind == 3) = false := by simp [kx]
  have e5 : (x.kind == 5) = true := by simp [kx]
  have hget : x.l[0]? = some y := by rw [hy]; rfl
  have hix : ∀ (ρ : St) (kd : IntKind), indexK ρ 3 x.ld (.d (.int kd 0)) = .val (.d (.vptr y.cs 0)) ρ [] [] := fun ρ kd => Ex.index_ld (i := 0) hget
  have hlt := bgE_lt hF ht (nl := nl) _ (ho.sub hmem)
  have how := or_w hb hlt
  have m1 : ks ≠ σ.n := by omega
  have m2 : ks ≠ σ.n + 1 := by omega
  have m3 : ks ≠ σ.n + 2 := by omega
  have m4 : ks ≠ σ.n + 3 := by omega
  have e : bhE F nl x b s = bhE F nl y (b ||| (bgE F nl y).1) s := by
    rw [bhE_eq, if_neg (by omega), if_neg (by omega), if_pos kx, hy, bhH]
  generalize hK : BhK g nl ks k1 k2 k3 F (bhE F nl x b s) σ = K
  simp only [Tryd.f42, Option.getD_some]
  simp only [go_sem, ↓reduceIte, Int.reduceEq, Nat.reduceBEq, Int.reduceBEq, Nat.reduceAdd, Nat.reduceEqDiff, Nat.reduceLT, Nat.reduceSub, Ex.a, e2, e3, e5, hix]
  generalize hσ0 : ((((σ.push (Blk.cells [A.ptr ks 0])).push (Blk.cells x.c)).push (Blk.cells [A.d (D.int IntKind.u64 ↑b)])).push (Blk.cells [A.d (D.bool false)])) = σ0
  have n0 : σ0.n = σ.n + 4 := by rw [← hσ0]; simp only [St.n_push]
  have o0 : ∀ k, k < σ.n → σ0.get k = σ.get k := fun k hk => by
    rw [← hσ0, St.get_push_ne (by simp only [St.n_push]; omega), St.get_push_ne (by simp only [St.n_push]; omega), St.get_push_ne (by simp only [St.n_push]; omega), St.get_push_ne hk]
  have b0 : σ0.get σ.n = .cells [.ptr ks 0] := by rw [← hσ0]; simp only [go_sem, ↓reduceIte, Int.reduceEq, Nat.reduceBEq, Int.reduceBEq, Nat.reduceAdd, Nat.reduceEqDiff, Nat.reduceLT, Nat.reduceSub]
  have b1 : σ0.get (σ.n + 1) = .cells x.c := by rw [← hσ0]; simp only [go_sem, ↓reduceIte, Int.reduceEq, Nat.reduceBEq, Int.reduceBEq, Nat.reduceAdd, Nat.reduceEqDiff, Nat.reduceLT, Nat.reduceSub]
  have b2 : σ0.get (σ.n + 2) = .cells [.d (.int .u64 b)] := by rw [← hσ0]; simp only [go_sem, ↓reduceIte, Int.reduceEq, Nat.reduceBEq, Int.reduceBEq, Nat.reduceAdd, Nat.reduceEqDiff, Nat.reduceLT, Nat.reduceSub]
  have b3 : σ0.get (σ.n + 3) = .cells [.d (.bool false)] := by rw [← hσ0]; simp only [go_sem, ↓reduceIte, Int.reduceEq, Nat.reduceBEq, Int.reduceBEq, Nat.reduceAdd, Nat.reduceEqDiff, Nat.reduceLT, Nat.reduceSub]
  clear hσ0
  have hm0 := hm.stay (τ := σ0) (by omega) o0
  refine ⟨_, _, _, begin_c h69 hF ht y σ0 (hx.sub hmem) (ho.sub hmem) hm0, ?_⟩
  simp only [go_sem, ↓reduceIte, Int.reduceEq, Nat.reduceBEq, Int.reduceBEq, Nat.reduceAdd, Nat.reduceEqDiff, Nat.reduceLT, Nat.reduceSub]
  refine ⟨drawOk_rel [5] [] rfl (by kernel_rfl) rfl (by simp), ?_⟩
  simp only [go_sem, ↓reduceIte, Int.reduceEq, Nat.reduceBEq, Int.reduceBEq, Nat.reduceAdd, Nat.reduceEqDiff, Nat.reduceLT, Nat.reduceSub, Ex.a, e2, e3, e5, hix, b0, b1, b2, b3]
  obtain ⟨τ, T, hc, tn, tM, tw, tsm⟩ := ih y hmem (b ||| (bgE F nl y).1) s σ0 (or_lt hb hlt) hs hm0
  have hc2 : CallsTo (XX fz) (.func 42 []) [.ptr ks 0, y.a, .d (.int .u64 (IntKind.u64.wrap ((BitVec.ofInt 64 (b : Int) ||| BitVec.ofInt 64 ((bgE F nl y).1 : Int)).toNat : Int)))] σ0 (.d (.bool (bhE F nl y (b ||| (bgE F nl y).1) s).2)) τ T := by rw [how]; exact hc
  have keep : ∀ k, k < σ0.n → k ≠ k2 → k ≠ k3 → τ.get k = σ0.get k := fun k hk h2 h3 => tM.same k hk fun q => by
    rcases tw k q with q | q
    · exact h2 q
    · exact h3 q
  refine ⟨_, _, _, hc2, ?_⟩
  have c3 : τ.get (σ.n + 3) = .cells [.d (.bool false)] := by rw [keep _ (by omega) (by omega) (by omega)]; exact b3
  simp only [go_sem, ↓reduceIte, Int.reduceEq, Nat.reduceBEq, Int.reduceBEq, Nat.reduceAdd, Nat.reduceEqDiff, Nat.reduceLT, Nat.reduceSub, c3]
  refine ⟨drawOk_rel [8, 9] [] rfl (by kernel_rfl) rfl (by simp), ?_⟩
  rw [← hK, e]
  refine bh_end hm o0 tM (by omega) tw tsm (fun k hk => ?_) ?_ rfl
  · rw [St.get_set_ne (by omega)]
  · simp only [St.n_set]; omega
set_option maxHeartbeats 8000000 in
theorem behind_rest (h42 : fz 42 = .cut) {g : Gr} {nl : List Bool} {ks k1 k2 k3 : Nat} {F : List Nat} (hF : Lt64 F) (ht : g.tokens ≤ 64) (hd : Apart ks k1 k2 k3) (x : Ex) (hx : SmallE x) (ho : okE g.tokens g.rules.length x) (n2 : x.kind ≠ 2) (n3 : x.kind ≠ 3) (n5 : x.kind ≠ 5)
    (ih : ∀ y ∈ x.l, BhC fz g nl ks k1 k2 k3 F y) : BhC fz g nl ks k1 k2 k3 F x := by
  intro b s σ hb hs hm
  refine bh_of h42 hm ?_
  have hls := hm.ls
  have hl1 := hm.l1
  have hl2 := hm.l2
  have hl3 := hm.l3
  have hlen := hx.len
  have e2 : (x.kind == 2) = false := by simpa using n2
  have e3 : (x.kind == 3) = false := by simpa using n3
  have e5 : (x.kind == 5) = false := by simpa using n5
  have e : bhE F nl x b s = bhA F nl x.l b s false := by
    rw [bhE_eq, if_neg n2, if_neg n3, if_neg n5]
  generalize hK : BhK g nl ks k1 k2 k3 F (bhE F nl x b s) σ = K
  simp only [Tryd.f42, Option.getD_some]
  simp only [go_sem, ↓reduceIte, Int.reduceEq, Nat.reduceBEq, Int.reduceBEq, Nat.reduceAdd, Nat.reduceEqDiff, Nat.reduceLT, Nat.reduceSub, Ex.a, e2, e3, e5]
  generalize hσ0 : ((((σ.push (Blk.cells [A.ptr ks 0])).push (Blk.cells x.c)).push (Blk.cells [A.d (D.int IntKind.u64 ↑b)])).push (Blk.cells [A.d (D.bool false)])) = σ0
  have n0 : σ0.n = σ.n + 4 := by rw [← hσ0]; simp only [St.n_push]
  have o0 : ∀ k, k < σ.n → σ0.get k = σ.get k := fun k hk => by
    rw [← hσ0, St.get_push_ne (by simp only [St.n_push]; omega), St.get_push_ne (by simp only [St.n_push]; omega), St.get_push_ne (by simp only [St.n_push]; omega), St.get_push_ne hk]
  have b0 : σ0.get σ.n = .cells [.ptr ks 0] := by rw [← hσ0]; simp only [go_sem, ↓reduceIte, Int.reduceEq, Nat.reduceBEq, Int.reduceBEq, Nat.reduceAdd, Nat.reduceEqDiff, Nat.reduceLT, Nat.reduceSub]
  have b2 : σ0.get (σ.n + 2) = .cells [.d (.int .u64 b)] := by rw [← hσ0]; simp only [go_sem, ↓reduceIte, Int.reduceEq, Nat.reduceBEq, Int.reduceBEq, Nat.reduceAdd, Nat.reduceEqDiff, Nat.reduceLT, Nat.reduceSub]
  have b3 : σ0.get (σ.n + 3) = .cells [.d (.bool false)] := by rw [← hσ0]; simp only [go_sem, ↓reduceIte, Int.reduceEq, Nat.reduceBEq, Int.reduceBEq, Nat.reduceAdd, Nat.reduceEqDiff, Nat.reduceLT, Nat.reduceSub]
  clear hσ0
  have hm0 := hm.stay (τ := σ0) (by omega) o0
  refine Ev.loop_ind (fun k tm τ W => ∃ (i : Nat) (s' : HR) (f : Bool), k = x.l.length - i ∧ i ≤ x.l.length ∧ (∀ k ∈ W, k = k2 ∨ k = k3) ∧ Mod σ τ W ∧ σ.n + 4 ≤ τ.n ∧ SM g nl ks k1 k2 k3 F s'.1 s'.2 τ ∧ HrI g.rules.length s' ∧ bhA F nl (x.l.drop i) b s' f = bhA F nl x.l b s false ∧
      τ.get σ.n = .cells [.ptr ks 0] ∧ τ.get (σ.n + 2) = .cells [.d (.int .u64 b)] ∧ τ.get (σ.n + 3) = .cells [.d (.bool f)] ∧
      tm.at 3 = .ptr σ.n 0 ∧ tm.at 5 = .ptr (σ.n + 2) 0 ∧ tm.at 6 = .ptr (σ.n + 3) 0 ∧ tm.at 18 = x.ld ∧ tm.at 19 = .d (.int .i64 (x.l.length : Int)) ∧ tm.at 20 = .d (.int .i64 i)) ?_ x.l.length _ _ _ ⟨0, s, false, rfl, by omega, by simp, ⟨by omega, fun k hk _ => o0 k hk, by simp⟩, by omega, hm0, hs, rfl, b0, b2, b3, ?_, ?_, ?_, ?_, ?_, ?_⟩
  · clear hm0 b0 b2 b3 o0 n0
    rintro k tm τ W ⟨i, s', f, rfl, hi, hw, hM, hn, hm1, hs1, he, b0, b2, b3, t3, t5, t6, t18, t19, t20⟩ ihl
    by_cases hl : i < x.l.length
    · have hget : x.l[i]? = some x.l[i] := by simp [hl]
      have hmem : x.l[i] ∈ x.l := List.getElem_mem hl
      rw [List.drop_eq_getElem_cons hl, bhA] at he
      have u0 : σ.n ≠ τ.n := by omega
      have u2 : σ.n + 2 ≠ τ.n := by omega
      have u3 : σ.n + 3 ≠ τ.n := by omega
      simp only [go_sem, ↓reduceIte, Int.reduceEq, Nat.reduceBEq, Int.reduceBEq, Nat.reduceAdd, Nat.reduceEqDiff, Nat.reduceLT, Nat.reduceSub, t3, t5, t6, t18, t19, t20, dec_lt' hl, Ex.index_ld hget, u0, u2, u3, b0, b2, b3]
      have lz : low σ.n [τ.n] = [] := by rw [low_cons_ge (by omega)]; rfl
      generalize hτ1 : (τ.push (.cells [.d (.int .i64 0), .d (.int .i64 0), .d (.slc true [])])).set τ.n (.cells x.l[i].c) = τ1
      have n1 : τ1.n = τ.n + 1 := by rw [← hτ1]; simp only [St.n_set, St.n_push]
      have o1 : ∀ k, k < τ.n → τ1.get k = τ.get k := fun k hk => by rw [← hτ1, St.get_set_ne (by omega), St.get_push_ne hk]
      have hm2 := hm1.stay (τ := τ1) (by omega) o1
      have hM2 : Mod σ τ1 W := ⟨by omega, fun k hk h => by rw [o1 k (by omega)]; exact hM.same k hk h, hM.lt⟩
      have hho := bhE_ok (nl := nl) hF ht x.l[i] b s' (ho.sub hmem) hb hs1
      obtain ⟨ρ, T, hc, rn, rM, rw', rsm⟩ := ih _ hmem b s' τ1 hb hs1 hm2
      refine ⟨_, _, _, hc, ?_⟩
      have keep : ∀ k, k < τ.n → k ≠ k2 → k ≠ k3 → ρ.get k = τ.get k := fun k hk h2 h3 => by
        rw [rM.same k (by omega) fun q => by
          rcases rw' k q with q | q
          · exact h2 q
          · exact h3 q]
        exact o1 k hk
      have d0 : ρ.get σ.n = .cells [.ptr ks 0] := (keep _ (by omega) (by omega) (by omega)).trans b0
      have d2 : ρ.get (σ.n + 2) = .cells [.d (.int .u64 b)] := (keep _ (by omega) (by omega) (by omega)).trans b2
      have d3 : ρ.get (σ.n + 3) = .cells [.d (.bool f)] := (keep _ (by omega) (by omega) (by omega)).trans b3
      have lz3 : low σ.n [σ.n + 3] = [] := by rw [low_cons_ge (by omega)]; rfl
      have hM3 : Mod σ ρ (W ++ low σ.n T) := hM2.call rM
      have fin : ∀ (f' : Bool) (ρ' : St), f' = ((bhE F nl x.l[i] b s').2 || f) → ρ' = ρ.set (σ.n + 3) (.cells [.d (.bool f')]) → (∀ k ∈ W ++ low σ.n T, k = k2 ∨ k = k3) ∧ Mod σ ρ' (W ++ low σ.n T) ∧ σ.n + 4 ≤ ρ'.n ∧ SM g nl ks k1 k2 k3 F (bhE F nl x.l[i] b s').1.1 (bhE F nl x.l[i] b s').1.2 ρ' ∧ HrI g.rules.length (bhE F nl x.l[i] b s').1 ∧ bhA F nl (x.l.drop (i + 1)) b (bhE F nl x.l[i] b s').1 f' = bhA F nl x.l b s false ∧
          ρ'.get σ.n = .cells [.ptr ks 0] ∧ ρ'.get (σ.n + 2) = .cells [.d (.int .u64 b)] ∧ ρ'.get (σ.n + 3) = .cells [.d (.bool f')] := by
        rintro f' ρ' rfl rfl
        refine ⟨fun k hk => ?_, hM3.set (by omega), by simp only [St.n_set]; omega, ?_, hho.i, he, ?_, ?_, St.get_set_eq⟩
        · rcases List.mem_append.1 hk with q | q
          · exact hw k q
          · exact rw' k (mem_low.1 q).1
        · exact ⟨by rw [St.get_set_ne (by omega)]; exact rsm.s, by rw [St.get_set_ne (by omega)]; exact rsm.f, by rw [St.get_set_ne (by omega)]; exact rsm.h, by rw [St.get_set_ne (by omega)]; exact rsm.r, rsm.fl, rsm.hl, rsm.rl, rsm.nl, rsm.ls, rsm.l1, rsm.l2, rsm.l3⟩
        · rw [St.get_set_ne (by omega)]; exact d0
        · rw [St.get_set_ne (by omega)]; exact d2
      have hw1 := wrap_succ' hl hlen
      cases hf : (bhE F nl x.l[i] b s').2 with
      | true =>
        simp only [go_sem, ↓reduceIte, Int.reduceEq, Nat.reduceBEq, Int.reduceBEq, Nat.reduceAdd, Nat.reduceEqDiff, Nat.reduceLT, Nat.reduceSub, t3, t5, t6, t18, t19, t20, lz, lz3, d3, hw1]
        obtain ⟨q1, q2, q3, q4, q5, q6, q7, q8, q9⟩ := fin true _ (by rw [hf]; rfl) rfl
        refine ihl _ _ _ _ (by omega) ⟨i + 1, _, true, rfl, hl, q1, q2, q3, q4, q5, q6, q7, q8, q9, ?_, ?_, ?_, ?_, ?_, ?_⟩
        all_goals (simp only [go_sem, ↓reduceIte, Int.reduceEq, Nat.reduceBEq, Int.reduceBEq, Nat.reduceAdd, Nat.reduceEqDiff, Nat.reduceLT, Nat.reduceSub, t3, t5, t6, t18, t19])
      | false =>
        simp only [go_sem, ↓reduceIte, Int.reduceEq, Nat.reduceBEq, Int.reduceBEq, Nat.reduceAdd, Nat.reduceEqDiff, Nat.reduceLT, Nat.reduceSub, t3, t5, t6, t18, t19, t20, lz, lz3, d3, hw1]
        obtain ⟨q1, q2, q3, q4, q5, q6, q7, q8, q9⟩ := fin f _ (by rw [hf]; rfl) rfl
        refine ihl _ _ _ _ (by omega) ⟨i + 1, _, f, rfl, hl, q1, q2, q3, q4, q5, q6, q7, q8, q9, ?_, ?_, ?_, ?_, ?_, ?_⟩
        all_goals (simp only [go_sem, ↓reduceIte, Int.reduceEq, Nat.reduceBEq, Int.reduceBEq, Nat.reduceAdd, Nat.reduceEqDiff, Nat.reduceLT, Nat.reduceSub, t3, t5, t6, t18, t19])
    · rw [List.drop_eq_nil_of_le (by omega), bhA] at he
      have lz3 : low σ.n [σ.n + 3] = [] := by rw [low_cons_ge (by omega)]; rfl
      simp only [go_sem, ↓reduceIte, Int.reduceEq, Nat.reduceBEq, Int.reduceBEq, Nat.reduceAdd, Nat.reduceEqDiff, Nat.reduceLT, Nat.reduceSub, t3, t5, t6, t18, t19, t20, dec_ge' hl, b3, lz3]
      rw [← hK, e, ← he]
      refine ⟨rfl, hM.set (by omega), hw, ?_⟩
      exact ⟨by rw [St.get_set_ne (by omega)]; exact hm1.s, by rw [St.get_set_ne (by omega)]; exact hm1.f, by rw [St.get_set_ne (by omega)]; exact hm1.h, by rw [St.get_set_ne (by omega)]; exact hm1.r, hm1.fl, hm1.hl, hm1.rl, hm1.nl, hm1.ls, hm1.l1, hm1.l2, hm1.l3⟩
  all_goals first | rfl | (simp only [go_sem, ↓reduceIte, Int.reduceEq, Nat.reduceBEq, Int.reduceBEq, Nat.reduceAdd, Nat.reduceEqDiff, Nat.reduceLT, Nat.reduceSub]; done) | (simp only [go_sem, ↓reduceIte, Int.reduceEq, Nat.reduceBEq, Int.reduceBEq, Nat.reduceAdd, Nat.reduceEqDiff, Nat.reduceLT, Nat.reduceSub]; rfl)
end Go.Am

/- Part KC of a proof that runs a program's calls on a small machine whose values bear no addresses: no conditions. -/
import Derived.Test.YtlcadkgpojjokaaAmKB
import Derived.Test.YtlcadkgpojjokaaAmM6
import Derived.Test.YtlcadkgpojjokaaAmK9
set_option autoImplicit false
set_option linter.unusedSimpArgs false
set_option linter.unusedVariables false
set_option linter.unusedSectionVars false
namespace Go.Am
open Go Go.Proofs
set_option maxRecDepth 1000000
def mdP : Nat → Md := fun f => match f with
  | 11 => .ora F35
  | 16 | 20 | 21 | 62 | 64 | 65 | 83 | 73 => .ice
  | 60 | 61 | 81 | 82 | 76 | 85 => .keep
  | _ => .cut
theorem oraMP : ∀ f F, oraOf (mdP f) = some F → OraS Try.prog f F := by
  intro f F h
  unfold mdP at h
  split at h <;> cases h
  · exact ora35
theorem new_any {md : Nat → Md} (hck : ∀ (g : Gr) (σ : St), SmallG g → CallsTo (XX md) (.func 11 []) [g.a] σ (.d (.int .i64 (checkP g))) σ []) (h62 : md 62 = .ice) (h83 : md 83 = .ice) (h84 : md 84 = .cut) (h87 : md 87 = .cut) (h88 : md 88 = .cut) (h89 : md 89 = .cut) (h64 : md 64 = .ice)
    (h20 : md 20 = .ice) (h61 : md 61 = .keep) (h82 : md 82 = .keep) (h60 : md 60 = .keep) (h81 : md 81 = .keep) (g : Gr) (σ : St) (h : SmallG g) : CallsTo (XX md) (.func 20 []) [g.a] σ (.tup [.d (newV g).1, .d (.int .i64 (newV g).2)]) σ [] :=
  new_call hck (fun g σ rule h => short_call hck h62 h83 h64 h84 h87 h88 h89 (fun g h => ⟨(GOk.of h).ok, (GOk.of h).tok, (GOk.of h).le⟩) g h rule σ) h20 h61 h82 h60 h81 (fun g h => by
    have k := GOk.of h
    refine ⟨k.ok, k.pos, k.le, fun y hy => ?_⟩
    have := szL_mem hy
    have := k.sz
    rw [szS_eq]; omega) g h σ
theorem check_P (g : Gr) (σ : St) (h : SmallG g) : CallsTo (XX mdP) (.func 11 []) [g.a] σ (.d (.int .i64 (checkP g))) σ [] := CallsTo.ora (F := F35) rfl fn11 rfl (F35_at h) rfl
theorem simnew_P (g : Gr) (σ : St) (h : SmallG g) : CallsTo (XX mdP) (.func 16 []) [g.a] σ (.tup [.d (simV g).1, .d (.int .i64 (simV g).2)]) σ [] :=
  simnew_c (fun g σ h => new_any check_P rfl rfl rfl rfl rfl rfl rfl rfl rfl rfl rfl rfl g σ h) rfl rfl rfl rfl rfl rfl rfl g h σ
def F16 : List A → Option A
  | [a] => (decG a).map fun g => .tup [.d (simV g).1, .d (.int .i64 (simV g).2)]
  | _ => none
theorem ora16 : OraS Try.prog 16 F16 := by
  refine oraS_of (fz := mdP) oraMP mixedT fun args r h => ?_
  unfold F16 at h
  split at h
  · rename_i a
    cases hd : decG a with
    | none => rw [hd] at h; cases h
    | some g =>
      rw [hd] at h; cases h
      obtain ⟨rfl, hs⟩ := decG_sound hd
      exact ⟨rfl, _, _, simnew_P g St.empty hs⟩
  · cases h
end Go.Am
namespace Go.Am
open Go Go.Proofs
abbrev S3 := List (Nat × Nat) × List (Nat × Nat) × Nat
def rchP (st : S3) (s p : Nat) : S3 := if st.1.any (fun x => x.1 == s && x.2 == p) then st else (st.1 ++ [(s, p)], st.2.1 ++ [(s, p)], max st.2.2 p)
def rchPs (s : Nat) : List Nat → S3 → S3
  | [], st => st
  | j :: js, st => rchPs s js (rchP st s j)
def goE (ev : Nat → Nat → Option (List Nat × Nat)) (l : List Int) (p : Nat) : List Eg → S3 → Option S3
  | [], st => some st
  | e :: es, st => if e.kind = 0 then goE ev l p es (rchP st e.to p) else if e.kind = 1 then (if l[p]? = some e.num then goE ev l p es (rchP st e.to (p + 1)) else goE ev l p es st)
    else match ev e.num.toNat p with
      | none => none
      | some (js, f) => goE ev l p es (rchPs e.to js (st.1, st.2.1, max st.2.2 f))
def goL (ev : Nat → Nat → Option (List Nat × Nat)) (N : Nv) (l : List Int) (b : Nat) : Nat → S3 → List Nat → Option (List Nat × Nat)
  | 0, _, _ => none
  | n + 1, (S, todo, f), out => match todo with
    | [] => some (out, f)
    | (s, p) :: todo => match N.es[s]? with
      | none => none
      | some r => match goE ev l p r (S, todo, f) with
        | none => none
        | some st => goL ev N l b n st (if s = b then out ++ [p] else out)
def goA (N : Nv) (X : Nx) (l : List Int) : Nat → Nat → Nat → Nat → Option (List Nat × Nat)
  | 0, _, _, _ => none
  | m + 1, a, b, i => goL (fun n p => goA N X l m (X.ent n) (X.lve n) p) N l b 100000 ([(a, i)], [(a, i)], i) []
section
variable {l : List Int} {N : Nv} {X : Nx} {a : Nat} {ps : List Nat} {b f0 f : Nat} {S todo : List (Nat × Nat)} {out : List Nat}
structure Stp (l : List Int) (N : Nv) (X : Nx) (a : Nat) (ps : List Nat) (b f0 : Nat) (out : List Nat) (st st' : S3) : Prop where
  B : AlB l N X a ps b f0 st'.2.2 st'.1 st'.2.1 out
  s : ∀ x ∈ st.1, x ∈ st'.1
  n : ∀ x ∈ st'.1, x ∈ st.1 ∨ x ∈ st'.2.1
  t : ∀ x ∈ st.2.1, x ∈ st'.2.1
  f : st.2.2 ≤ st'.2.2
theorem Stp.refl {st : S3} (h : AlB l N X a ps b f0 st.2.2 st.1 st.2.1 out) : Stp l N X a ps b f0 out st st := ⟨h, fun _ h => h, fun _ h => .inl h, fun _ h => h, Nat.le_refl _⟩
theorem Stp.trans {st st1 st2 : S3} (h : Stp l N X a ps b f0 out st st1) (k : Stp l N X a ps b f0 out st1 st2) : Stp l N X a ps b f0 out st st2 :=
  ⟨k.B, fun x hx => k.s x (h.s x hx), fun x hx => by
    rcases k.n x hx with q | q
    · rcases h.n x q with q | q
      · exact .inl q
      · exact .inr (k.t x q)
    · exact .inr q, fun x hx => k.t x (h.t x hx), Nat.le_trans h.f k.f⟩
theorem rchP_ok {st : S3} (h : AlB l N X a ps b f0 st.2.2 st.1 st.2.1 out) {s p : Nat} (hs : s < N.es.length) (hp : p ≤ l.length) (hr : ∃ p0 ∈ ps, Rn l N X a p0 s p) : Stp l N X a ps b f0 out st (rchP st s p) ∧ (s, p) ∈ (rchP st s p).1 := by
  unfold rchP
  split
  · rename_i q
    rw [List.any_eq_true] at q
    obtain ⟨⟨x, y⟩, q1, q2⟩ := q
    simp at q2
    obtain ⟨rfl, rfl⟩ := q2
    exact ⟨.refl h, q1⟩
  · rename_i q
    have hn : (s, p) ∉ st.1 := fun e => q (List.any_eq_true.2 ⟨(s, p), e, by simp⟩)
    exact ⟨⟨h.reach hs hp hr hn, fun x hx => List.mem_append_left _ hx, fun x hx => by
      rcases List.mem_append.1 hx with q | q
      · exact .inl q
      · exact .inr (List.mem_append_right _ q), fun x hx => List.mem_append_left _ hx, Nat.le_max_left _ _⟩, by simp⟩
theorem rchPs_ok {s : Nat} (hs : s < N.es.length) : ∀ (js : List Nat) {st : S3}, AlB l N X a ps b f0 st.2.2 st.1 st.2.1 out → (∀ j ∈ js, j ≤ l.length ∧ ∃ p0 ∈ ps, Rn l N X a p0 s j) → Stp l N X a ps b f0 out st (rchPs s js st) ∧ ∀ j ∈ js, (s, j) ∈ (rchPs s js st).1
  | [], st, h, _ => ⟨.refl h, fun j hj => by cases hj⟩
  | j :: js, st, h, hj => by
    obtain ⟨h1, h2⟩ := rchP_ok h hs (hj j (by simp)).1 (hj j (by simp)).2
    obtain ⟨h3, h4⟩ := rchPs_ok hs js h1.B fun k hk => hj k (by simp [hk])
    rw [rchPs]
    refine ⟨h1.trans h3, fun k hk => ?_⟩
    rcases List.mem_cons.1 hk with rfl | hk
    · exact h3.s _ h2
    · exact h4 k hk
def EvOk (l : List Int) (N : Nv) (X : Nx) (R : Nat) (ev : Nat → Nat → Option (List Nat × Nat)) : Prop := ∀ n p js f, ev n p = some (js, f) → n < R → p ≤ l.length → AOk l N X (X.ent n) [p] (X.lve n) js f ∧ f ≤ l.length ∧ Pg l N X (X.ent n) p f
theorem goE_ok {R : Nat} (hN : NetG N X R) {ev : Nat → Nat → Option (List Nat × Nat)} (hev : EvOk l N X R ev) {s p : Nat} {r : List Eg} (hr : N.es[s]? = some r) (hp : p ≤ l.length) (hR : ∃ p0 ∈ ps, Rn l N X a p0 s p) :
    ∀ (es : List Eg) {st st' : S3}, (∀ e ∈ es, e ∈ r) → AlB l N X a ps b f0 st.2.2 st.1 st.2.1 out → goE ev l p es st = some st' → Stp l N X a ps b f0 out st st' ∧ ∀ e ∈ es, EDn l N X st'.1 st'.2.2 e p
  | [], st, st', _, h, e => by
    rw [goE] at e; cases e
    exact ⟨.refl h, fun e he => by cases he⟩
  | e :: es, st, st', hm, h, he => by
    obtain ⟨p0, hp0, hRp⟩ := hR
    have hem := hm e (by simp)
    obtain ⟨k1, k2, k3, k4, k5, k6⟩ := hN.ed s _ hr _ hem
    have rest := fun {st1 : S3} (h1 : Stp l N X a ps b f0 out st st1) (q : goE ev l p es st1 = some st') (hd : EDn l N X st1.1 st1.2.2 e p) => show Stp l N X a ps b f0 out st st' ∧ ∀ e' ∈ e :: es, EDn l N X st'.1 st'.2.2 e' p from by
      obtain ⟨h2, h3⟩ := goE_ok hN hev hr hp ⟨p0, hp0, hRp⟩ es (fun e he => hm e (by simp [he])) h1.B q
      refine ⟨h1.trans h2, fun e' he' => ?_⟩
      rcases List.mem_cons.1 he' with rfl | he'
      · exact hd.mono h2.s h2.f
      · exact h3 e' he'
    rw [goE] at he
    split at he
    · rename_i c0
      obtain ⟨h1, h2⟩ := rchP_ok h k4 hp ⟨p0, hp0, .free hRp hr hem c0⟩
      exact rest h1 he ⟨fun _ => h2, fun q => by omega, fun q => by omega⟩
    rename_i c0
    split at he
    · rename_i c1
      split at he
      · rename_i c2
        have hlt := (List.getElem?_eq_some_iff.1 c2).1
        obtain ⟨h1, h2⟩ := rchP_ok (p := p + 1) h k4 hlt ⟨p0, hp0, .tok hRp hr hem c1 c2⟩
        exact rest h1 he ⟨fun q => by omega, fun _ _ => h2, fun q => by omega⟩
      · rename_i c2
        exact rest (.refl h) he ⟨fun q => by omega, fun _ q => absurd q c2, fun q => by omega⟩
    rename_i c1
    have c2 : e.kind = 2 := by omega
    cases hq : ev e.num.toNat p with
    | none => rw [hq] at he; cases he
    | some v =>
      obtain ⟨js, f1⟩ := v
      rw [hq] at he
      dsimp only at he
      obtain ⟨a1, a2, a3⟩ := hev _ _ _ _ hq (k6 c2) hp
      have hB1 : AlB l N X a ps b f0 (max st.2.2 f1) st.1 st.2.1 out := h.called (Nat.le_max_left _ _) (by have := h.fl; omega) (by
        rcases Nat.le_total st.2.2 f1 with q | q
        · rw [Nat.max_eq_right q]; exact .inr ⟨p0, hp0, .call hRp hr hem c2 a3⟩
        · exact .inl (Nat.max_eq_left q))
      obtain ⟨h1, h2⟩ := rchPs_ok (st := (st.1, st.2.1, max st.2.2 f1)) k4 js hB1 fun j hj => by
        obtain ⟨p1, hp1, hj⟩ := a1.snd j hj
        simp at hp1; rw [hp1] at hj
        exact ⟨hj.len hp, p0, hp0, .call hRp hr hem c2 hj⟩
      have h3 : Stp l N X a ps b f0 out st (rchPs e.to js (st.1, st.2.1, max st.2.2 f1)) := ⟨h1.B, h1.s, h1.n, h1.t, Nat.le_trans (Nat.le_max_left _ _) h1.f⟩
      have h4 : f1 ≤ (rchPs e.to js (st.1, st.2.1, max st.2.2 f1)).2.2 := Nat.le_trans (Nat.le_max_right _ _) h1.f
      exact rest h3 he ⟨fun q => by omega, fun q => by omega, fun _ hlt => ⟨fun k hk => h2 k (a1.cmp (by omega) p (by simp) k hk), fun k hk => Nat.le_trans (a1.far (by omega) p (by simp) k hk) h4⟩⟩
theorem goL_ok {R : Nat} (hN : NetG N X R) {ev : Nat → Nat → Option (List Nat × Nat)} (hev : EvOk l N X R ev) :
    ∀ (n : Nat) {st : S3} {out js : List Nat} {f : Nat}, AlB l N X a ps b f0 st.2.2 st.1 st.2.1 out → (∀ p ∈ ps, (a, p) ∈ st.1) → (∀ x ∈ st.1, x ∈ st.2.1 ∨ AFin l N X b st.1 st.2.2 out x) → goL ev N l b n st out = some (js, f) → AOk l N X a ps b js f ∧ f ≤ l.length ∧ f0 ≤ f ∧ (f = f0 ∨ ∃ p ∈ ps, Pg l N X a p f)
  | 0, _, _, _, _, _, _, _, e => by cases e
  | n + 1, (S, todo, f1), out, js, f, h, hs, hf, e => by
    unfold goL at e
    cases todo with
    | nil =>
      cases e
      exact ⟨h.done hs fun _ x hx => (hf x hx).resolve_left (by simp), h.fl, h.fo, h.fs⟩
    | cons x todo =>
      obtain ⟨s, p⟩ := x
      dsimp only at e h hs hf
      obtain ⟨h1, h2, h3⟩ := h.in_ (s, p) (h.td _ (by simp))
      dsimp only at h1 h2 h3
      cases hr : N.es[s]? with
      | none => rw [hr] at e; cases e
      | some r =>
        rw [hr] at e
        dsimp only at e
        cases hg : goE ev l p r (S, todo, f1) with
        | none => rw [hg] at e; cases e
        | some st =>
          rw [hg] at e
          dsimp only at e
          have hB : AlB l N X a ps b f0 f1 S todo (if s = b then out ++ [p] else out) := by
            split
            · rename_i q; subst q; exact h.popO
            · exact h.pop
          obtain ⟨q1, q2⟩ := goE_ok hN hev hr h2 h3 r (st := (S, todo, f1)) (fun _ h => h) hB hg
          refine goL_ok hN hev n q1.B (fun p hp => q1.s _ (hs p hp)) (fun x hx => ?_) e
          have hout : ∀ j ∈ out, j ∈ (if s = b then out ++ [p] else out) := fun j hj => by
            split
            · exact List.mem_append_left _ hj
            · exact hj
          rcases q1.n x hx with q | q
          · rcases hf x q with q | q
            · rcases List.mem_cons.1 q with q | q
              · rw [q]
                refine .inr ⟨fun e => ?_, fun r' hr' e he => ?_⟩
                · dsimp only at e; rw [if_pos e]; simp
                · dsimp only at hr'; rw [hr] at hr'; cases hr'; exact q2 e he
              · exact .inl (q1.t x q)
            · exact .inr (q.mono q1.s q1.f hout)
          · exact .inl q
theorem goA_ok {R : Nat} (hN : NetG N X R) : ∀ (m : Nat) {a b i : Nat} {js : List Nat} {f : Nat}, a < N.es.length → i ≤ l.length → goA N X l m a b i = some (js, f) → AOk l N X a [i] b js f ∧ f ≤ l.length ∧ Pg l N X a i f
  | 0, _, _, _, _, _, _, _, e => by cases e
  | m + 1, a, b, i, js, f, ha, hi, e => by
    rw [goA] at e
    obtain ⟨h1, h2, h3, h4⟩ := goL_ok (a := a) (ps := [i]) (f0 := i) hN (fun n p js f e hn hp => goA_ok hN m (hN.en n hn).1 hp e) 100000 (st := ([(a, i)], [(a, i)], i)) (out := [])
      ⟨fun x hx => by simp at hx; subst hx; exact ⟨ha, hi, i, by simp, .refl _ _⟩, fun _ h => h, (fun x hx => by cases hx), hi, Nat.le_refl _, .inl rfl, fun x hx => by simp at hx; subst hx; exact Nat.le_refl _, by simp, Nat.le_refl _⟩ (fun p hp => by simp at hp; subst hp; simp) (fun x hx => .inl hx) e
    refine ⟨h1, h2, ?_⟩
    rcases h4 with q | ⟨p, hp, q⟩
    · rw [q]; exact .here (.refl _ _)
    · simp at hp; rw [hp] at q; exact q
def farX (N : Nv) (X : Nx) (l : List Int) (a : Nat) : Option Nat := (goA N X l 1000 a (lvS N X a) 0).map (·.2)
theorem farX_ok {R : Nat} (hN : NetG N X R) {a m : Nat} (ha : a < N.es.length) (h : farX N X l a = some m) : farV l N X a [] = m := by
  unfold farX at h
  rw [Option.map_eq_some_iff] at h
  obtain ⟨⟨js, f⟩, h1, rfl⟩ := h
  obtain ⟨q1, q2, q3⟩ := goA_ok hN 1000 ha (Nat.zero_le _) h1
  refine IsFar.eq ⟨q3, fun k hk => ?_⟩
  rcases Nat.lt_or_ge f l.length with q | q
  · exact q1.far q 0 (by simp) k hk
  · have := Pg.len hk (Nat.zero_le _)
    dsimp only; omega
end
end Go.Am
namespace Go.Am
open Go Go.Proofs
set_option maxRecDepth 1000000
mutual
def beqD : D → D → Bool
  | .bool a, .bool b => a == b
  | .int k a, .int j b => decide (k = j) && decide (a = b)
  | .slc z xs, .slc y ys => (z == y) && beqLL xs ys
  | _, _ => false
def beqL : List D → List D → Bool
  | [], [] => true
  | a :: l, b :: r => beqD a b && beqL l r
  | _, _ => false
def beqLL : List (List D) → List (List D) → Bool
  | [], [] => true
  | a :: l, b :: r => beqL a b && beqLL l r
  | _, _ => false
end
mutual
theorem beqD_eq : ∀ (a b : D), beqD a b = true → a = b
  | .bool a, .bool b, h => by rw [beqD, beq_iff_eq] at h; rw [h]
  | .int k a, .int j b, h => by rw [beqD, Bool.and_eq_true, decide_eq_true_eq, decide_eq_true_eq] at h; rw [h.1, h.2]
  | .slc z xs, .slc y ys, h => by rw [beqD, Bool.and_eq_true, beq_iff_eq] at h; rw [h.1, beqLL_eq xs ys h.2]
  | .bool _, .int _ _, h => by simp [beqD] at h
  | .bool _, .slc _ _, h => by simp [beqD] at h
  | .int _ _, .bool _, h => by simp [beqD] at h
  | .int _ _, .slc _ _, h => by simp [beqD] at h
  | .slc _ _, .bool _, h => by simp [beqD] at h
  | .slc _ _, .int _ _, h => by simp [beqD] at h
  | .str _, b, h => by cases b <;> simp [beqD] at h
  | .vptr _ _, b, h => by cases b <;> simp [beqD] at h
  | .nptr, b, h => by cases b <;> simp [beqD] at h
  | .nmap, b, h => by cases b <;> simp [beqD] at h
  | .nfunc, b, h => by cases b <;> simp [beqD] at h
  | .bool _, .str _, h => by simp [beqD] at h
  | .bool _, .vptr _ _, h => by simp [beqD] at h
  | .bool _, .nptr, h => by simp [beqD] at h
  | .bool _, .nmap, h => by simp [beqD] at h
  | .bool _, .nfunc, h => by simp [beqD] at h
  | .int _ _, .str _, h => by simp [beqD] at h
  | .int _ _, .vptr _ _, h => by simp [beqD] at h
  | .int _ _, .nptr, h => by simp [beqD] at h
  | .int _ _, .nmap, h => by simp [beqD] at h
  | .int _ _, .nfunc, h => by simp [beqD] at h
  | .slc _ _, .str _, h => by simp [beqD] at h
  | .slc _ _, .vptr _ _, h => by simp [beqD] at h
  | .slc _ _, .nptr, h => by simp [beqD] at h
  | .slc _ _, .nmap, h => by simp [beqD] at h
  | .slc _ _, .nfunc, h => by simp [beqD] at h
theorem beqL_eq : ∀ (a b : List D), beqL a b = true → a = b
  | [], [], _ => rfl
  | a :: l, b :: r, h => by rw [beqL, Bool.and_eq_true] at h; rw [beqD_eq a b h.1, beqL_eq l r h.2]
  | [], _ :: _, h => by simp [beqL] at h
  | _ :: _, [], h => by simp [beqL] at h
theorem beqLL_eq : ∀ (a b : List (List D)), beqLL a b = true → a = b
  | [], [], _ => rfl
  | a :: l, b :: r, h => by rw [beqLL, Bool.and_eq_true] at h; rw [beqL_eq a b h.1, beqLL_eq l r h.2]
  | [], _ :: _, h => by simp [beqLL] at h
  | _ :: _, [], h => by simp [beqLL] at h
end
theorem spok0 {g : Gr} (h : checkP g = 0) (h1 : (newN g).N.rule 0 = 0) : SpOk (newN g).N 0 [] := by
  have hN := newN_G (GOk.of h)
  have hp := (hN.en 0 (GOk.of h).pos).1
  exact ⟨by omega, (fun b hb => by cases hb), h1, Nat.zero_le _⟩
def F12 : List A → Option A
  | [.d (.vptr cs 0), .agg [.d (.int .i64 st), .d (.slc z [])], .d (.slc _ ts)] => match decI ts with
    | some l => if st = 0 ∧ z = true ∧ l.length ≤ 1000 ∧ beqL cs (simC (newN miniG).N (newX miniG) (clD (newN miniG).N)) = true then (farX (newN miniG).N (newX miniG) l 0).map fun (m : Nat) => .tup [.d (.int .i64 (m : Int)), .d (.int .i64 0)] else none
    | none => none
  | _ => none
theorem mini_ok : checkP miniG = 0 := by kernel_rfl
theorem mini_0 : (newN miniG).N.rule 0 = 0 := by kernel_rfl
theorem mini_small : SmallG miniG := by
  have h : decG miniG.aS = some miniG := by kernel_rfl
  exact (decG_sound h).2
theorem ora12 : OraS Try.prog 12 F12 := by
  refine oraS_of (fz := mdP) oraMP mixedT fun args r h => ?_
  unfold F12 at h
  split at h
  · rename_i cs st z z2 ts
    split at h
    · rename_i l hl
      split at h
      · rename_i hq
        obtain ⟨rfl, rfl, q3, q4⟩ := hq
        cases hf : farX (newN miniG).N (newX miniG) l 0 with
        | none => rw [hf] at h; cases h
        | some m =>
          rw [hf] at h; cases h
          obtain rfl := decI_sound hl
          obtain rfl := beqL_eq _ _ q4
          have hs := spok0 mini_ok mini_0
          have hm := farX_ok (newN_G (GOk.of mini_ok)) hs.st hf
          have := (viable_c (fz := mdP) (kr := 0) (kM := 0) (zt := z2) rfl rfl rfl rfl rfl rfl rfl rfl rfl rfl rfl rfl mini_small mini_ok q3 hs (σ := St.empty) (.inl ⟨true, rfl⟩)).2
          rw [viaV, hm] at this
          exact ⟨rfl, _, _, this⟩
      · cases h
    · cases h
  · cases h
def mdW2 : Nat → Md := fun f => match f with
  | 19 => .ora F28 | 16 => .ora F16 | 12 => .ora F12
  | _ => .cut
theorem oraMW2 : ∀ f F, oraOf (mdW2 f) = some F → OraS Try.prog f F := by
  intro f F h
  unfold mdW2 at h
  split at h <;> cases h
  · exact ora28
  · exact ora16
  · exact ora12
theorem works_run : (callA (XX mdW2) 1000 (.func 8 []) [] St.empty).map (·.1) = some (.d (.bool true)) := by kernel_rfl
def F8 : List A → Option A
  | [] => some (.d (.bool true))
  | _ => none
theorem ora8 : OraS Try.prog 8 F8 := by
  refine oraS_of (fz := mdW2) oraMW2 mixedT fun args r h => ?_
  unfold F8 at h
  split at h
  · cases h
    refine ⟨rfl, ?_⟩
    have := works_run
    cases hc : callA (XX mdW2) 1000 (.func 8 []) [] St.empty with
    | none => rw [hc] at this; cases this
    | some q =>
      obtain ⟨a, σ', T⟩ := q
      rw [hc] at this; cases this
      exact ⟨σ', T, 1000, hc⟩
  · cases h
end Go.Am

/- Part R1 of a proof that runs a program's calls on a small machine whose values bear no addresses: no conditions. -/
import Derived.Test.YtbppacknigeiaaaDoorAmQ4
import Derived.Test.YtbppacknigeiaaaDoorAmA6
set_option autoImplicit false
set_option linter.unusedSimpArgs false
set_option linter.unusedVariables false
set_option linter.unusedSectionVars false
namespace Go.Am
open Go Go.Proofs
variable {fz : Nat → Md}

/-! Grammars read out of data. -/
mutual
def decE : List D → Option Ex
  | [.int .i64 k, .int .i64 n, .slc z l] => if z && !l.isEmpty then none else match decL l with
    | some m => some (.mk k n z m)
    | none => none
  | _ => none
def decL : List (List D) → Option (List Ex)
  | [] => some []
  | x :: l => match decE x, decL l with
    | some a, some b => some (a :: b)
    | _, _ => none
end
mutual
def Ex.strip : Ex → Ex
  | .mk k n z l => .mk k n (z && l.isEmpty) (stripL l)
def Ex.stripL : List Ex → List Ex
  | [] => []
  | x :: l => x.strip :: stripL l
end
theorem stripL_map (l : List Ex) : Ex.stripL l = l.map Ex.strip := by
  induction l with
  | nil => rfl
  | cons x l ih => rw [Ex.stripL, ih]; rfl
theorem strip_cs : ∀ x : Ex, x.strip.cs = x.cs
  | .mk k n z l => by
    rw [Ex.strip, Ex.cs, Ex.cs, stripL_map]
    have : (l.map Ex.strip).map Ex.cs = l.map Ex.cs := by
      rw [List.map_map]; exact List.map_congr_left fun y hy => strip_cs y
    rw [this]; simp
theorem strip_sz : ∀ x : Ex, x.strip.sz = x.sz
  | .mk k n z l => by
    rw [Ex.strip, Ex.sz, Ex.sz, stripL_map]
    have : (l.map Ex.strip).map Ex.sz = l.map Ex.sz := by
      rw [List.map_map]; exact List.map_congr_left fun y hy => strip_sz y
    rw [this]
mutual
theorem decE_cs : ∀ x : Ex, decE x.cs = some x.strip
  | .mk k n z l => by
    rw [Ex.cs, Ex.strip, decE, decL_cs l]
    cases z <;> cases l <;> simp
theorem decL_cs : ∀ l : List Ex, decL (l.map Ex.cs) = some (Ex.stripL l)
  | [] => by rw [Ex.stripL, List.map_nil, decL]
  | x :: l => by rw [List.map_cons, decL, decE_cs x, decL_cs l, Ex.stripL]
end
mutual
theorem decE_sound : ∀ (cs : List D) (x : Ex), decE cs = some x → x.cs = cs
  | [.int .i64 k, .int .i64 n, .slc z l], x, h => by
    rw [decE] at h
    split at h
    · cases h
    · rename_i hz
      split at h
      · rename_i m hm
        cases h
        have := decL_sound l m hm
        have hl : m.isEmpty = l.isEmpty := by rw [← this]; cases m <;> rfl
        rw [Ex.cs, this, hl]
        cases z <;> cases l <;> simp_all
      · cases h
  | [], x, h => by simp [decE] at h
  | [a], x, h => by simp [decE] at h
  | [a, b], x, h => by simp [decE] at h
  | a :: b :: c :: d :: e, x, h => by simp [decE] at h
  | [.bool _, _, _], x, h => by simp [decE] at h
  | [.str _, _, _], x, h => by simp [decE] at h
  | [.slc _ _, _, _], x, h => by simp [decE] at h
  | [.vptr _ _, _, _], x, h => by simp [decE] at h
  | [.nptr, _, _], x, h => by simp [decE] at h
  | [.nmap, _, _], x, h => by simp [decE] at h
  | [.nfunc, _, _], x, h => by simp [decE] at h
  | [.int k _, b, c], x, h => by
    unfold decE at h
    split at h
    · rename_i e
      simp only [List.cons.injEq, D.int.injEq] at e
      obtain ⟨⟨rfl, rfl⟩, rfl, rfl, -⟩ := e
      rename_i k n z l
      split at h
      · cases h
      · rename_i hz
        split at h
        · rename_i m hm
          cases h
          have := decL_sound l m hm
          have hl : m.isEmpty = l.isEmpty := by rw [← this]; cases m <;> rfl
          rw [Ex.cs, this, hl]
          cases z <;> cases l <;> simp_all
        · cases h
    · cases h
theorem decL_sound : ∀ (l : List (List D)) (m : List Ex), decL l = some m → m.map Ex.cs = l
  | [], m, h => by rw [decL] at h; cases h; rfl
  | x :: l, m, h => by
    rw [decL] at h
    split at h
    · rename_i a b h1 h2
      cases h
      rw [List.map_cons, decE_sound x a h1, decL_sound l b h2]
    · cases h
end
def decR : List D → Option Ru
  | .str s :: r => (decE r).map fun x => ⟨s, x⟩
  | _ => none
def Ru.strip (r : Ru) : Ru := ⟨r.name, r.body.strip⟩
theorem decR_cs (r : Ru) : decR r.cs = some r.strip := by rw [Ru.cs, decR, decE_cs]; rfl
theorem decR_sound {cs : List D} {r : Ru} (h : decR cs = some r) : r.cs = cs := by
  unfold decR at h
  split at h
  · rename_i s t
    cases he : decE t with
    | none => rw [he] at h; cases h
    | some x => rw [he] at h; cases h; rw [Ru.cs, decE_sound t x he]
  · cases h
def decRs : List (List D) → Option (List Ru)
  | [] => some []
  | x :: l => match decR x, decRs l with
    | some a, some b => some (a :: b)
    | _, _ => none
theorem decRs_cs : ∀ l : List Ru, decRs (l.map Ru.cs) = some (l.map Ru.strip)
  | [] => rfl
  | x :: l => by rw [List.map_cons, decRs, decR_cs x, decRs_cs l]; rfl
theorem decRs_sound : ∀ {l : List (List D)} {m : List Ru}, decRs l = some m → m.map Ru.cs = l
  | [], m, h => by rw [decRs] at h; cases h; rfl
  | x :: l, m, h => by
    rw [decRs] at h
    split at h
    · rename_i a b h1 h2
      cases h
      rw [List.map_cons, decR_sound h1, decRs_sound h2]
    · cases h
mutual
def Ex.szS : Ex → Nat
  | .mk _ _ _ l => 1 + szSL l
def Ex.szSL : List Ex → Nat
  | [] => 0
  | x :: l => x.szS + szSL l
end
mutual
theorem szS_eq : ∀ x : Ex, x.szS = x.sz
  | .mk k n z l => by rw [Ex.szS, Ex.sz, szSL_eq l]
theorem szSL_eq : ∀ l : List Ex, Ex.szSL l = (l.map Ex.sz).sum
  | [] => by rw [Ex.szSL]; rfl
  | x :: l => by rw [Ex.szSL, szS_eq x, szSL_eq l]; simp
end
mutual
def Ex.csS : Ex → List D
  | .mk k n z l => [.int .i64 k, .int .i64 n, .slc (z && l.isEmpty) (csSL l)]
def Ex.csSL : List Ex → List (List D)
  | [] => []
  | x :: l => x.csS :: csSL l
end
mutual
theorem csS_eq : ∀ x : Ex, x.csS = x.cs
  | .mk k n z l => by rw [Ex.csS, Ex.cs, csSL_eq l]
theorem csSL_eq : ∀ l : List Ex, Ex.csSL l = l.map Ex.cs
  | [] => by rw [Ex.csSL, List.map_nil]
  | x :: l => by rw [Ex.csSL, csS_eq x, csSL_eq l]; simp
end
/-- a grammar's value, worked out -/
def Gr.aS (g : Gr) : A := .agg [.d (.int .i64 g.tokens), .d (.slc (g.z && g.rules.isEmpty) (g.rules.map fun r => .str r.name :: r.body.csS))]
theorem Gr.aS_eq (g : Gr) : g.aS = g.a := by
  have : (g.rules.map fun r => D.str r.name :: r.body.csS) = g.rules.map Ru.cs := List.map_congr_left fun r _ => by rw [csS_eq]; rfl
  simp only [Gr.aS, Gr.a, Gr.c, Gr.rd, this]
def smallE (x : Ex) : Bool := decide (x.szS < 1000000000)
theorem smallE_iff {x : Ex} : smallE x = true ↔ SmallE x := by simp [smallE, SmallE, szS_eq]
def decG : A → Option Gr
  | .agg [.d (.int .i64 t), .d (.slc z l)] => if z && !l.isEmpty then none else match decRs l with
    | some m => if m.all fun r => smallE r.body then some ⟨t, z, m⟩ else none
    | none => none
  | _ => none
def Gr.strip (g : Gr) : Gr := ⟨g.tokens, g.z && g.rules.isEmpty, g.rules.map Ru.strip⟩
theorem Gr.strip_a (g : Gr) : g.strip.a = g.a := by
  have : (g.rules.map Ru.strip).map Ru.cs = g.rules.map Ru.cs := by
    rw [List.map_map]; exact List.map_congr_left fun y hy => by simp [Ru.strip, Ru.cs, strip_cs]
  simp only [Gr.a, Gr.c, Gr.rd, Gr.strip, this]
  simp
theorem Gr.strip_small {g : Gr} (h : SmallG g) : SmallG g.strip := fun r hr => by
  obtain ⟨r', h1, rfl⟩ := List.mem_map.1 hr
  have := h r' h1
  unfold SmallE at this ⊢
  rw [Ru.strip, strip_sz]; exact this
theorem decG_a {g : Gr} (h : SmallG g) : decG g.a = some g.strip := by
  have h1 : ((g.rules.map Ru.strip).all fun r => smallE r.body) = true := List.all_eq_true.2 fun r hr => by
    have := Gr.strip_small h r hr
    exact smallE_iff.2 this
  simp only [Gr.a, Gr.c, Gr.rd, decG, decRs_cs, h1]
  cases hz : g.z <;> cases hr : g.rules <;> simp [Gr.strip, hz, hr]
theorem decG_sound {a : A} {g : Gr} (h : decG a = some g) : g.a = a ∧ SmallG g := by
  unfold decG at h
  split at h
  · split at h
    · cases h
    · split at h
      · rename_i t z l hz _ m hm
        split at h
        · rename_i hs
          cases h
          have := decRs_sound hm
          have hl : m.isEmpty = l.isEmpty := by rw [← this]; cases m <;> rfl
          refine ⟨?_, fun r hr => ?_⟩
          · simp only [Gr.a, Gr.c, Gr.rd, this, hl]
            cases z <;> cases l <;> simp_all
          · have := List.all_eq_true.1 hs r hr
            exact smallE_iff.1 this
        · cases h
      · cases h
  · cases h
def decI : List (List D) → Option (List Int)
  | [] => some []
  | [.int .i64 n] :: l => (decI l).map (n :: ·)
  | _ => none
theorem decI_ints (l : List Int) : decI (intsD l) = some l := by
  induction l with
  | nil => rfl
  | cons n l ih => rw [show intsD (n :: l) = [.int .i64 n] :: intsD l from rfl, decI, ih]; rfl
theorem decI_sound : ∀ {xs : List (List D)} {l : List Int}, decI xs = some l → xs = intsD l
  | [], l, h => by rw [decI] at h; cases h; rfl
  | x :: xs, l, h => by
    unfold decI at h
    split at h
    · rename_i e; cases e
    · rename_i n l' e
      cases e
      cases hd : decI xs with
      | none => rw [hd] at h; cases h
      | some m => rw [hd] at h; cases h; rw [decI_sound hd]; rfl
    · cases h

/-! What a part can be, worked out. -/
section
variable (bs : List Ex) (l : List Int)
/-- from some places on, up to a place -/
def fromF (g : Nat → Option Nat) (P : Nat) : Nat → Nat → Option Nat
  | 0, acc => some acc
  | n + 1, acc => match fromF g P n acc with
    | some a => if P.testBit n then (g n).map (a ||| ·) else some a
    | none => none
/-- a star: n places, from a place on -/
def starF (g : Nat → Option Nat) : Nat → Nat → Nat → Option Nat
  | 0, _, acc => some acc
  | n + 1, at_, acc => if acc.testBit at_ then match g at_ with
      | some p => starF g n (at_ + 1) (acc ||| p)
      | none => none
    else starF g n (at_ + 1) acc
def anyF (f : Ex → Option Nat) : List Ex → Nat → Option Nat
  | [], acc => some acc
  | y :: r, acc => match f y with
    | some p => anyF f r (acc ||| p)
    | none => none
def seqF (f : Ex → Nat → Option Nat) : List Ex → Nat → Option Nat
  | [], P => some P
  | y :: r, P => match fromF (f y) P (l.length + 1) 0 with
    | some p => seqF f r p
    | none => none
def endF : Nat → Ex → Nat → Option Nat
  | 0, _, _ => none
  | f + 1, x, i =>
    if x.kind = 1 then some (if l[i]? = some x.num then 2 ^ (i + 1) else 0)
    else if x.kind = 2 then match bs[x.num.toNat]? with
      | some y => endF f y i
      | none => some 0
    else if x.kind = 4 then anyF (fun y => endF f y i) x.l 0
    else if x.kind = 6 then match x.l with
      | [y] => (endF f y i).map (2 ^ i ||| ·)
      | _ => some (2 ^ i)
    else if x.kind = 5 then match x.l with
      | [y] => starF (endF f y) (l.length + 1 - i) i (2 ^ i)
      | _ => some (2 ^ i)
    else seqF l (endF f) x.l (2 ^ i)
end
section
variable {bs : List Ex} {l : List Int}
theorem fromF_ok {g : Nat → Option Nat} {E : Nat → Nat → Prop} (hg : ∀ n p, g n = some p → ∀ j, p.testBit j = true ↔ E n j) {P : Nat} : ∀ (n acc : Nat) (p : Nat), fromF g P n acc = some p →
    ∀ j, p.testBit j = true ↔ acc.testBit j = true ∨ ∃ k, k < n ∧ P.testBit k = true ∧ E k j
  | 0, acc, p, h, j => by rw [fromF] at h; cases h; simp
  | n + 1, acc, p, h, j => by
    rw [fromF] at h
    split at h
    · rename_i a ha
      have ih := fromF_ok hg n acc a ha j
      split at h
      · rename_i hP
        cases hgn : g n with
        | none => rw [hgn] at h; cases h
        | some q =>
          rw [hgn] at h; cases h
          rw [bit_or, ih, hg n q hgn j]
          constructor
          · rintro ((h | ⟨k, h1, h2⟩) | h)
            · exact .inl h
            · exact .inr ⟨k, by omega, h2⟩
            · exact .inr ⟨n, by omega, hP, h⟩
          · rintro (h | ⟨k, h1, h2, h3⟩)
            · exact .inl (.inl h)
            · by_cases e : k = n
              · subst e; exact .inr h3
              · exact .inl (.inr ⟨k, by omega, h2, h3⟩)
      · rename_i hP
        cases h
        rw [ih]
        constructor
        · rintro (h | ⟨k, h1, h2⟩)
          · exact .inl h
          · exact .inr ⟨k, by omega, h2⟩
        · rintro (h | ⟨k, h1, h2, h3⟩)
          · exact .inl h
          · by_cases e : k = n
            · subst e; exact absurd h2 hP
            · exact .inr ⟨k, by omega, h2, h3⟩
    · cases h
theorem starF_ok {g : Nat → Option Nat} {E : Nat → Nat → Prop} (hg : ∀ n p, g n = some p → ∀ j, p.testBit j = true ↔ E n j) (hle : ∀ n j, E n j → n ≤ j) : ∀ (n a acc p : Nat), starF g n a acc = some p →
    (∀ j, acc.testBit j = true → p.testBit j = true) ∧ (∀ m j, a ≤ m → m < a + n → p.testBit m = true → E m j → p.testBit j = true) ∧
    (∀ S : Nat → Prop, (∀ j, acc.testBit j = true → S j) → (∀ m j, S m → E m j → S j) → ∀ j, p.testBit j = true → S j) ∧ (∀ j, j ≤ a → p.testBit j = acc.testBit j ∨ (j = a ∧ p.testBit j = true ∧ acc.testBit j = true))
  | 0, a, acc, p, h => by
    rw [starF] at h; cases h
    exact ⟨fun _ h => h, fun m j h1 h2 => by omega, fun S h1 _ j hj => h1 j hj, fun j _ => .inl rfl⟩
  | n + 1, a, acc, p, h => by
    rw [starF] at h
    split at h
    · rename_i hb
      cases hgn : g a with
      | none => rw [hgn] at h; cases h
      | some q =>
        rw [hgn] at h
        obtain ⟨h1, h2, h3, h4⟩ := starF_ok hg hle n (a + 1) (acc ||| q) p h
        refine ⟨fun j hj => h1 j (bit_or.2 (.inl hj)), fun m j g1 g2 g3 g4 => ?_, fun S s1 s2 j hj => h3 S (fun j hj => ?_) s2 j hj, fun j hj => ?_⟩
        · by_cases e : m = a
          · subst e; exact h1 j (bit_or.2 (.inr ((hg _ _ hgn j).2 g4)))
          · exact h2 m j (by omega) (by omega) g3 g4
        · rcases bit_or.1 hj with hj | hj
          · exact s1 j hj
          · exact s2 a j (s1 a hb) ((hg _ _ hgn j).1 hj)
        · by_cases e : j = a
          · subst e; exact .inr ⟨rfl, h1 _ (bit_or.2 (.inl hb)), hb⟩
          · rcases h4 j (by omega) with h4 | ⟨h4, -⟩
            · left
              rw [h4, Nat.testBit_or]
              have : q.testBit j = false := by
                cases hq : q.testBit j with
                | false => rfl
                | true => have := hle _ _ ((hg _ _ hgn j).1 hq); omega
              rw [this, Bool.or_false]
            · omega
    · rename_i hb
      obtain ⟨h1, h2, h3, h4⟩ := starF_ok hg hle n (a + 1) acc p h
      refine ⟨h1, fun m j g1 g2 g3 g4 => ?_, h3, fun j hj => ?_⟩
      · by_cases e : m = a
        · subst e
          rcases h4 m (by omega) with h4 | ⟨h4, -⟩
          · rw [h4] at g3; exact absurd g3 hb
          · omega
        · exact h2 m j (by omega) (by omega) g3 g4
      · rcases h4 j (by omega) with h4 | ⟨h4, -⟩
        · exact .inl h4
        · omega
theorem anyF_ok {f : Ex → Option Nat} {E : Ex → Nat → Prop} : ∀ (r : List Ex) (acc p : Nat), (∀ y ∈ r, ∀ p, f y = some p → ∀ j, p.testBit j = true ↔ E y j) → anyF f r acc = some p → ∀ j, p.testBit j = true ↔ acc.testBit j = true ∨ ∃ y ∈ r, E y j
  | [], acc, p, _, h, j => by rw [anyF] at h; cases h; simp
  | y :: r, acc, p, hf, h, j => by
    rw [anyF] at h
    cases hy : f y with
    | none => rw [hy] at h; cases h
    | some q =>
      rw [hy] at h
      rw [anyF_ok r _ p (fun z hz => hf z (by simp [hz])) h j, bit_or, hf y (by simp) q hy j]
      constructor
      · rintro ((h | h) | ⟨z, h1, h2⟩)
        · exact .inl h
        · exact .inr ⟨y, by simp, h⟩
        · exact .inr ⟨z, by simp [h1], h2⟩
      · rintro (h | ⟨z, h1, h2⟩)
        · exact .inl (.inl h)
        · rcases List.mem_cons.1 h1 with rfl | h1
          · exact .inl (.inr h2)
          · exact .inr ⟨z, h1, h2⟩
theorem seqF_ok {f : Ex → Nat → Option Nat} : ∀ (r : List Ex) (P p : Nat), (∀ y ∈ r, ∀ n p, n ≤ l.length → f y n = some p → IsEnd bs l y n p) → (∀ j, P.testBit j = true → j ≤ l.length) → seqF l f r P = some p → ∀ j, p.testBit j = true ↔ ∃ k, P.testBit k = true ∧ DerL bs l r k j
  | [], P, p, _, _, h, j => by
    rw [seqF] at h; cases h
    constructor
    · exact fun h => ⟨j, h, .nil⟩
    · rintro ⟨k, h1, h2⟩; cases h2; exact h1
  | y :: r, P, p, hf, hP, h, j => by
    rw [seqF] at h
    cases hy : fromF (f y) P (l.length + 1) 0 with
    | none => rw [hy] at h; cases h
    | some q =>
      rw [hy] at h
      have hq : ∀ j, q.testBit j = true ↔ ∃ k, P.testBit k = true ∧ Der bs l y k j := fun j => by
        have key : ∀ (n acc p : Nat), n ≤ l.length + 1 → fromF (f y) P n acc = some p → ∀ j, p.testBit j = true ↔ acc.testBit j = true ∨ ∃ k, k < n ∧ P.testBit k = true ∧ Der bs l y k j := by
          intro n acc p hn hh j
          have := fromF_ok (g := fun n => if n ≤ l.length then f y n else none) (E := fun k j => Der bs l y k j) (fun n p hg j => by
            split at hg
            · rename_i hnl; exact hf y (by simp) n p hnl hg j
            · cases hg) (P := P) n acc p
          refine this ?_ j
          rw [← hh]
          clear hh this
          induction n with
          | zero => rfl
          | succ n ih => rw [fromF, fromF, ih (by omega)]; simp only [if_pos (show n ≤ l.length by omega)]
        rw [key _ 0 q (Nat.le_refl _) hy j]
        simp only [Nat.zero_testBit, Bool.false_eq_true, false_or]
        constructor
        · rintro ⟨k, _, h2⟩; exact ⟨k, h2⟩
        · rintro ⟨k, h1, h2⟩; exact ⟨k, by have := hP k h1; omega, h1, h2⟩
      rw [seqF_ok r q p (fun z hz => hf z (by simp [hz])) (fun j hj => by
        obtain ⟨k, h1, h2⟩ := (hq j).1 hj; exact h2.len (hP k h1)) h j]
      constructor
      · rintro ⟨k, h1, h2⟩
        obtain ⟨m, h3, h4⟩ := (hq k).1 h1
        exact ⟨m, h3, .cons h4 h2⟩
      · rintro ⟨k, h1, h2⟩
        cases h2 with
        | cons a b => exact ⟨_, (hq _).2 ⟨k, h1, a⟩, b⟩
theorem endF_ok : ∀ (n : Nat) (x : Ex) (i P : Nat), i ≤ l.length → endF bs l n x i = some P → IsEnd bs l x i P
  | 0, x, i, P, _, h => by rw [endF] at h; cases h
  | n + 1, x, i, P, hi, h => by
    rw [endF] at h
    have ih := endF_ok n
    by_cases k1 : x.kind = 1
    · rw [if_pos k1] at h; cases h
      intro j
      rw [der_1 k1]
      split
      · rename_i e; rw [bit_pow]; exact ⟨fun h => ⟨h, e⟩, fun h => h.1⟩
      · rename_i e; rw [Nat.zero_testBit]; exact ⟨fun h => absurd h (by simp), fun h => absurd h.2 e⟩
    rw [if_neg k1] at h
    by_cases k2 : x.kind = 2
    · rw [if_pos k2] at h
      split at h
      · rename_i y hy
        intro j
        rw [der_2 k2 hy]; exact ih y i P hi h j
      · rename_i hy
        cases h
        refine IsEnd.none fun j hj => ?_
        unfold Der at hj
        cases hj with
        | call _ h1 _ => rw [hy] at h1; cases h1
        | seq h => exact absurd k2 h.2.1
        | _ => omega
    rw [if_neg k2] at h
    by_cases k4 : x.kind = 4
    · rw [if_pos k4] at h
      intro j
      rw [der_4 k4, anyF_ok (E := fun y j => Der bs l y i j) x.l 0 P (fun y _ p hp j => ih y i p hi hp j) h j]
      simp
    rw [if_neg k4] at h
    by_cases k6 : x.kind = 6
    · rw [if_pos k6] at h
      split at h
      · rename_i y hy
        cases he : endF bs l n y i with
        | none => rw [he] at h; cases h
        | some q =>
          rw [he] at h; cases h
          intro j
          rw [der_6 k6 hy, bit_or, bit_pow, ih y i q hi he j]
      · rename_i hy
        cases h
        intro j
        rw [bit_pow]
        constructor
        · rintro rfl; exact .opt0 k6
        · intro hj
          unfold Der at hj
          cases hj with
          | opt0 _ => rfl
          | opt1 _ h1 _ => exact absurd h1 (hy _)
          | seq h => exact absurd k6 h.2.2.2.2
          | _ => omega
    rw [if_neg k6] at h
    by_cases k5 : x.kind = 5
    · rw [if_pos k5] at h
      split at h
      · rename_i y hy
        obtain ⟨h1, h2, h3, h4⟩ := starF_ok (g := fun m => if m ≤ l.length then endF bs l n y m else none) (E := fun m j => Der bs l y m j) (fun m p hp j => by
          split at hp
          · rename_i hm; exact ih y m p hm hp j
          · cases hp) (fun m j hj => hj.le) (l.length + 1 - i) i (2 ^ i) P (by
            rw [← h]
            have : ∀ (k a acc : Nat), a + k ≤ l.length + 1 → starF (fun m => if m ≤ l.length then endF bs l n y m else none) k a acc = starF (endF bs l n y) k a acc := by
              intro k
              induction k with
              | zero => intro a acc _; rfl
              | succ k ihk =>
                intro a acc hk
                rw [starF, starF, if_pos (show a ≤ l.length by omega), ihk (a + 1) acc (by omega)]
                split
                · split
                  · exact ihk _ _ (by omega)
                  · rfl
                · rfl
            exact this _ _ _ (by omega))
        intro j
        constructor
        · refine h3 (fun j => Der bs l x i j) (fun j hj => ?_) (fun m j hm hj => .star1 k5 hy hm hj) j
          rw [bit_pow] at hj; rw [hj]; exact .star0 k5
        · intro hj
          have : P.testBit j = true ∧ i ≤ j ∧ j ≤ l.length := by
            refine star_closed k5 hy (fun j => P.testBit j = true ∧ i ≤ j ∧ j ≤ l.length) ⟨h1 i (bit_pow.2 rfl), Nat.le_refl _, hi⟩ (fun m j hm hmj => ?_) hj
            exact ⟨h2 m j hm.2.1 (by omega) hm.1 hmj, by have := hmj.le; omega, hmj.len hm.2.2⟩
          exact this.1
      · rename_i hy
        cases h
        intro j
        rw [bit_pow]
        constructor
        · rintro rfl; exact .star0 k5
        · intro hj
          unfold Der at hj
          cases hj with
          | star0 _ => rfl
          | star1 _ h1 _ _ => exact absurd h1 (hy _)
          | seq h => exact absurd k5 h.2.2.2.1
          | _ => omega
    rw [if_neg k5] at h
    intro j
    rw [der_s ⟨k1, k2, k4, k5, k6⟩, seqF_ok (bs := bs) x.l (2 ^ i) P (fun y _ m p hm hp => ih y m p hm hp) (fun j hj => by rw [bit_pow] at hj; omega) h j]
    constructor
    · rintro ⟨k, h1, h2⟩; rw [bit_pow] at h1; subst h1; exact h2
    · exact fun h => ⟨i, bit_pow.2 rfl, h⟩
end
end Go.Am
namespace Go.Am
open Go Go.Proofs

/-- modes without anything that is told by itself -/
def mdB : Nat → Md := fun f => match f with
  | 91 => .keep | 51 => .ice | 28 => .ice
  | _ => .cut
theorem noOra {P : Program} : ∀ f F, oraOf (mdB f) = some F → OraS P f F := by
  intro f F h
  unfold mdB at h
  split at h <;> cases h
theorem fz20B : Fz20 mdB := ⟨rfl, rfl, rfl, rfl, rfl, rfl, rfl, rfl, rfl, rfl, rfl, rfl, rfl, rfl, rfl, rfl, rfl, rfl, rfl, rfl, rfl, rfl, rfl, rfl, rfl, rfl, rfl⟩
theorem mixedT : Tryd.prog.follows .mixedOrders = true := by kernel_rfl

theorem CallsTo.det {X : X} {f : A} {args : List A} {σ σ1 σ2 : St} {r1 r2 : A} {W1 W2 : List Nat} (h1 : CallsTo X f args σ r1 σ1 W1) (h2 : CallsTo X f args σ r2 σ2 W2) : r1 = r2 := by
  obtain ⟨n, h1⟩ := h1
  obtain ⟨m, h2⟩ := h2
  have a := (mono_le (Nat.le_max_left n m)).2.2 _ _ _ _ h1
  have b := (mono_le (Nat.le_max_right n m)).2.2 _ _ _ _ h2
  rw [a] at b; cases b; rfl

/-! Check -/
def F35 : List A → Option A
  | [a] => (decG a).map fun g => .d (.int .i64 (checkP g))
  | _ => none
theorem F35_at {g : Gr} (h : SmallG g) : F35 [g.a] = some (.d (.int .i64 (checkP g))) := by
  have h1 := check_c fz20B g h St.empty
  have h2 := check_c fz20B g.strip (Gr.strip_small h) St.empty
  rw [Gr.strip_a] at h2
  have := CallsTo.det h1 h2
  simp only [F35, decG_a h, Option.map_some]
  rw [this]
theorem ora35 : OraS Tryd.prog 22 F35 := by
  refine oraS_of (fz := mdB) noOra mixedT fun args r h => ?_
  unfold F35 at h
  split at h
  · rename_i a
    cases hd : decG a with
    | none => rw [hd] at h; cases h
    | some g =>
      rw [hd] at h; cases h
      obtain ⟨rfl, hs⟩ := decG_sound hd
      exact ⟨rfl, _, _, check_c fz20B g hs St.empty⟩
  · cases h

/-! Derives -/
def derC (g : Gr) (rule : Int) (l : List Int) : Option Bool :=
  if (checkP g != 0) = true then some false else if (decide (rule < 0) || decide (rule ≥ (g.rules.length : Int))) = true then some false else if decide ((l.length : Int) > 64) = true then some false else
  (endF g.bodies l 1000000 (g.bodies.getD rule.toNat (.mk 0 0 true [])) 0).map fun P => P.testBit l.length
theorem derC_ok {g : Gr} {rule : Int} {l : List Int} {b : Bool} (h : derC g rule l = some b) : derV g rule l = b := by
  unfold derC at h
  unfold derV
  split at h
  · rename_i e; cases h; rw [if_pos e]
  rename_i e1; rw [if_neg e1]
  split at h
  · rename_i e; cases h; rw [if_pos e]
  rename_i e2; rw [if_neg e2]
  split at h
  · rename_i e; cases h; rw [if_pos e]
  rename_i e3; rw [if_neg e3]
  cases he : endF g.bodies l 1000000 (g.bodies.getD rule.toNat (.mk 0 0 true [])) 0 with
  | none => rw [he] at h; cases h
  | some P =>
    rw [he] at h; cases h
    rw [Bool.eq_iff_iff, derB_iff]
    exact (endF_ok 1000000 _ 0 P (Nat.zero_le _) he _).symm
def F31 : List A → Option A
  | [a, .d (.int .i64 rule), .d (.slc _ ts)] => match decG a, decI ts with
    | some g, some l => if l.length < 1000000000 then (derC g rule l).map fun b => .tup [.d (.bool b), .d (.int .i64 (derE g rule l))] else none
    | _, _ => none
  | _ => none
theorem ora31 : OraS Tryd.prog 68 F31 := by
  refine oraS_of (fz := mdB) noOra mixedT fun args r h => ?_
  unfold F31 at h
  split at h
  · rename_i a rule z ts
    split at h
    · rename_i g l hg hl
      split at h
      · rename_i hll
        cases hd : derC g rule l with
        | none => rw [hd] at h; cases h
        | some b =>
          rw [hd] at h; cases h
          obtain ⟨rfl, hs⟩ := decG_sound hg
          obtain rfl := decI_sound hl
          rw [← derC_ok hd]
          exact ⟨rfl, _, _, derives_call fz20B g hs rule _ l hll St.empty (.inl ⟨z, rfl⟩)⟩
      · cases h
    · cases h
  · cases h

/-! MiniLang's grammar -/
def mdI : Nat → Md := fun f => match f with
  | 30 => .ice | 9030 => .ice
  | _ => .keep
theorem noOraI {P : Program} : ∀ f F, oraOf (mdI f) = some F → OraS P f F := by
  intro f F h
  unfold mdI at h
  split at h <;> cases h
/-- MiniLang's grammar -/
def miniG : Gr := ⟨29, false, [
  ⟨⟨#[112, 114, 111, 103, 114, 97, 109]⟩, (.mk 3 0 false [(.mk 5 0 false [(.mk 3 0 false [(.mk 2 1 true [])])]), (.mk 1 0 true [])])⟩,
  ⟨⟨#[105, 116, 101, 109]⟩, (.mk 4 0 false [(.mk 3 0 false [(.mk 1 4 true []), (.mk 1 1 true []), (.mk 1 12 true []), (.mk 6 0 false [(.mk 3 0 false [(.mk 1 1 true []), (.mk 5 0 false [(.mk 3 0 false [(.mk 1 16 true []), (.mk 1 1 true [])])])])]), (.mk 1 13 true []), (.mk 2 2 true [])]), (.mk 3 0 false [(.mk 2 3 true [])])])⟩,
  ⟨⟨#[98, 108, 111, 99, 107]⟩, (.mk 3 0 false [(.mk 1 14 true []), (.mk 5 0 false [(.mk 3 0 false [(.mk 2 3 true [])])]), (.mk 1 15 true [])])⟩,
  ⟨⟨#[115, 116, 97, 116, 101, 109, 101, 110, 116]⟩, (.mk 4 0 false [(.mk 3 0 false [(.mk 1 5 true []), (.mk 1 1 true []), (.mk 1 18 true []), (.mk 2 7 true []), (.mk 1 17 true [])]), (.mk 3 0 false [(.mk 2 4 true [])]), (.mk 3 0 false [(.mk 1 8 true []), (.mk 2 7 true []), (.mk 2 2 true [])]), (.mk 3 0 false [(.mk 1 9 true []), (.mk 6 0 false [(.mk 3 0 false [(.mk 2 7 true [])])]), (.mk 1 17 true [])]), (.mk 3 0 false [(.mk 2 2 true [])]), (.mk 3 0 false [(.mk 2 5 true []), (.mk 1 18 true []), (.mk 2 7 true []), (.mk 1 17 true [])]), (.mk 3 0 false [(.mk 2 5 true []), (.mk 1 12 true []), (.mk 6 0 false [(.mk 3 0 false [(.mk 2 6 true [])])]), (.mk 1 13 true []), (.mk 1 17 true [])])])⟩,
  ⟨⟨#[98, 114, 97, 110, 99, 104]⟩, (.mk 3 0 false [(.mk 1 6 true []), (.mk 2 7 true []), (.mk 2 2 true []), (.mk 6 0 false [(.mk 3 0 false [(.mk 1 7 true []), (.mk 4 0 false [(.mk 3 0 false [(.mk 2 2 true [])]), (.mk 3 0 false [(.mk 2 4 true [])])])])])])⟩,
  ⟨⟨#[112, 97, 116, 104]⟩, (.mk 3 0 false [(.mk 1 1 true []), (.mk 5 0 false [(.mk 3 0 false [(.mk 1 19 true []), (.mk 1 1 true [])])])])⟩,
  ⟨⟨#[97, 114, 103, 115]⟩, (.mk 3 0 false [(.mk 2 7 true []), (.mk 5 0 false [(.mk 3 0 false [(.mk 1 16 true []), (.mk 2 7 true [])])])])⟩,
  ⟨⟨#[101, 120, 112, 114]⟩, (.mk 3 0 false [(.mk 2 8 true []), (.mk 6 0 false [(.mk 3 0 false [(.mk 4 0 false [(.mk 3 0 false [(.mk 1 24 true [])]), (.mk 3 0 false [(.mk 1 25 true [])]), (.mk 3 0 false [(.mk 1 26 true [])])]), (.mk 2 8 true [])])])])⟩,
  ⟨⟨#[115, 117, 109]⟩, (.mk 3 0 false [(.mk 2 9 true []), (.mk 5 0 false [(.mk 3 0 false [(.mk 4 0 false [(.mk 3 0 false [(.mk 1 20 true [])]), (.mk 3 0 false [(.mk 1 21 true [])])]), (.mk 2 9 true [])])])])⟩,
  ⟨⟨#[116, 101, 114, 109]⟩, (.mk 3 0 false [(.mk 2 10 true []), (.mk 5 0 false [(.mk 3 0 false [(.mk 4 0 false [(.mk 3 0 false [(.mk 1 22 true [])]), (.mk 3 0 false [(.mk 1 23 true [])])]), (.mk 2 10 true [])])])])⟩,
  ⟨⟨#[102, 97, 99, 116, 111, 114]⟩, (.mk 4 0 false [(.mk 3 0 false [(.mk 1 2 true [])]), (.mk 3 0 false [(.mk 1 3 true [])]), (.mk 3 0 false [(.mk 1 10 true [])]), (.mk 3 0 false [(.mk 1 11 true [])]), (.mk 3 0 false [(.mk 1 12 true []), (.mk 2 7 true []), (.mk 1 13 true [])]), (.mk 3 0 false [(.mk 1 21 true []), (.mk 2 10 true [])]), (.mk 3 0 false [(.mk 1 27 true []), (.mk 2 10 true [])]), (.mk 3 0 false [(.mk 2 5 true []), (.mk 6 0 false [(.mk 3 0 false [(.mk 1 12 true []), (.mk 6 0 false [(.mk 3 0 false [(.mk 2 6 true [])])]), (.mk 1 13 true [])])])])])⟩
]⟩
theorem mini_run : (callA (XX mdI) 3000 (.func 30 []) [] St.empty).map (·.1) = some miniG.aS := by kernel_rfl
def F28 : List A → Option A
  | [] => some miniG.aS
  | _ => none
theorem ora28 : OraS Tryd.prog 30 F28 := by
  refine oraS_of (fz := mdI) noOraI mixedT fun args r h => ?_
  unfold F28 at h
  split at h
  · cases h
    refine ⟨rfl, ?_⟩
    have := mini_run
    cases hc : callA (XX mdI) 3000 (.func 30 []) [] St.empty with
    | none => rw [hc] at this; cases this
    | some q =>
      obtain ⟨a, σ', T⟩ := q
      rw [hc] at this; cases this
      exact ⟨σ', T, 3000, hc⟩
  · cases h
end Go.Am

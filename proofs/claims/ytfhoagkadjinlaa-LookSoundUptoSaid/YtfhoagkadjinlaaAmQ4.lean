/- Part Q4 of a proof that runs a program's calls on a small machine whose values bear no addresses: no conditions. -/
import Derived.Test.YtfhoagkadjinlaaAmQ3
set_option autoImplicit false
set_option linter.unusedSimpArgs false
set_option linter.unusedVariables false
set_option linter.unusedSectionVars false
namespace Go.Am
open Go Go.Proofs
variable {fz:Nat→Md}
structure SwEnv (bs:List Ex) (l:List Int) (T:Nat→Rl) (kc lo:Nat) (σ:St) (kp i:Nat) (τ:St) (W:List Nat) (tm:Tm):Prop where
 fr:Fr bs l T kc lo σ τ W
 n:σ.n+4≤τ.n
 g6:τ.get σ.n=.cells (plC 0)
 g9:τ.get (σ.n+2)=.cells (plC (2 ^ i))
 t0:tm.at 0=.ptr kc 0
 t1:tm.at 1=.ptr kp 0
 t2:tm.at 2=.d (.int .i64 (i:Int))
 t6:tm.at 6=.ptr σ.n 0
 t9:tm.at 9=.ptr (σ.n+2) 0
 t10:tm.at 10=.ptr (σ.n+3) 0
section
variable {bs:List Ex} {l:List Int} {T:Nat→Rl} {kc lo:Nat} {σ:St} {kp i:Nat} {x:Ex}
theorem IsEnd.none (h:∀ j,¬ Der bs l x i j):IsEnd bs l x i 0:=fun j => by
 rw [Nat.zero_testBit]; exact ⟨fun e => absurd e (by simp),fun e => absurd e (h j)⟩
theorem SwEnv.call {τ τ':St} {W S:List Nat} {tm:Tm} (hE:SwEnv bs l T kc lo σ kp i τ W tm) (hlo:lo≤σ.n) (hFr:Fr bs l T kc lo τ τ' S) (hn':τ'.n=τ.n):SwEnv bs l T kc lo σ kp i τ' (W ++ low σ.n S) tm where
 fr:=hE.fr.call hFr
 n:=by rw [hn']; exact hE.n
 g6:=by have:=hE.n; rw [hFr.keep (by omega) (by omega)]; exact hE.g6
 g9:=by have:=hE.n; rw [hFr.keep (by omega) (by omega)]; exact hE.g9
 t0:=hE.t0
 t1:=hE.t1
 t2:=hE.t2
 t6:=hE.t6
 t9:=hE.t9
 t10:=hE.t10
theorem SwEnv.out {τ:St} {W:List Nat} {tm:Tm} {b:Blk} (hE:SwEnv bs l T kc lo σ kp i τ W tm) (hlo:lo≤σ.n):SwEnv bs l T kc lo σ kp i (τ.set (σ.n+3) b) W tm :=
 ⟨hE.fr.set hlo (by omega),by rw [St.n_set]; exact hE.n,by rw [St.get_set_ne (by omega)]; exact hE.g6,by rw [St.get_set_ne (by omega)]; exact hE.g9,hE.t0,hE.t1,hE.t2,hE.t6,hE.t9,hE.t10⟩
theorem Fr.meets {τ:St} {S:List Nat} (h:Fr bs l T kc lo σ τ S) {k:Nat} (hk:lo≤k):Am.meets S [k]=false:=by
 unfold Am.meets; rw [List.any_eq_false]; intro j hj
 have:=(h.maps j hj).1; simp; omega
end
structure Ranked (bs:List Ex) (q:Int→Bool) (t:Int) (rk:Nat→Nat) (R:Nat):Prop where
 ok:∀ y ∈ bs,okE t bs.length y
 small:∀ y ∈ bs,SmallE y
 cl:∀ (n:Int) (y:Ex),0≤n→bs[n.toNat]?=some y→canE false q y=true→q n=true
 rank:∀ n y,bs[n]?=some y→∀ m,Beg q y m→rk m < rk n
 top:∀ n,rk n < R
end Go.Am
namespace Go.Am
open Go Go.Proofs
variable {fz:Nat→Md}
theorem pass_fix (tok:Bool):∀ (l:List Ex) (i:Nat) (out:List Bool) (more:Bool),(growPass tok l i out more).2=false→more=false∧(growPass tok l i out more).1=out∧∀ k x,l[k]?=some x→canE tok (qOf out) x=true→out.getD (i+k) false=true
 | [],_,_,_ => fun h => ⟨h,rfl,by simp⟩
 | x :: l,i,out,more => by
  intro h
  rw [growPass] at h ⊢
  split at h
  · have:=(pass_fix tok l (i+1) (out.set i true) true h).1
    cases this
  · rename_i hc
    rw [if_neg hc]
    obtain ⟨h1,h2,h3⟩:=pass_fix tok l (i+1) out more h
    refine ⟨h1,h2,fun k y hk hy => ?_⟩
    cases k with
    | zero =>
     simp at hk; subst hk
     have hy':canE tok (fun n => out.getD n.toNat false) x=true:=hy
     rw [hy',Bool.and_true] at hc
     simpa using hc
    | succ k =>
     have:=h3 k y (by simpa using hk) hy
     rw [show i+(k+1)=i+1+k by omega]; exact this
theorem growF_fix (tok:Bool) (l:List Ex):∀ (n:Nat) (out:List Bool),out.count false < n→l.length≤out.length→(growPass tok l 0 (growF tok l n out) false).2=false
 | 0,out,h,_ => by omega
 | n+1,out,h,hl => by
  rw [growF]
  have hc:=pass_count tok l 0 out false (by omega)
  split
  · rename_i h2
    have:=hc.2 rfl h2
    exact growF_fix tok l n _ (by omega) (by rw [pass_len]; exact hl)
  · rename_i h2
    have h2':(growPass tok l 0 out false).2=false:=by simpa using h2
    rw [(pass_fix tok l 0 out false h2').2.1]; exact h2'
theorem growsP_fix (tok:Bool) (l:List Ex):(growPass tok l 0 (growsP tok l) false).2=false:=by
 unfold growsP
 refine growF_fix tok l _ _ ?_ (by simp)
 have:=List.count_le_length (a:=false) (l:=List.replicate l.length false)
 rw [List.length_replicate] at this; omega
theorem growsP_closed (tok:Bool) (l:List Ex) {n:Nat} {x:Ex} (hn:l[n]?=some x) (h:canE tok (qOf (growsP tok l)) x=true):(growsP tok l).getD n false=true:=by
 have:=(pass_fix tok l 0 _ false (growsP_fix tok l)).2.2 n x hn h
 rwa [Nat.zero_add] at this
section
variable (bs:List Ex) (q:Int→Bool)
def ClosedB (S:Nat→Prop):Prop:=∀ n y m,S n→bs[n]?=some y→Beg q y m→S m
structure DF (s s':List Bool) (D:Nat→Prop):Prop where
 len:s'.length=s.length
 mono:∀ j,s.getD j false=true→s'.getD j false=true
 direct:∀ n,D n→s'.getD n false=true
 clos:∀ n y m,s'.getD n false=true→s.getD n false=false→bs[n]?=some y→Beg q y m→s'.getD m false=true
 min:∀ S:Nat→Prop,(∀ n,D n→S n)→ClosedB bs q S→∀ n,s'.getD n false=true→s.getD n false=true∨S n
def BegL (k:Int) (l:List Ex) (n:Nat):Prop:=∃ pre y post,l=pre ++ y :: post∧(k=3→∀ z ∈ pre,canE false q z=true)∧Beg q y n
end
section
variable {bs:List Ex} {q:Int→Bool}
theorem beg_iff {x:Ex} {n:Nat}:Beg q x n ↔ (x.kind=2∧n=x.num.toNat)∨BegL q x.kind x.l n:=by
 constructor
 · intro h
   cases h with
   | call h => exact .inl ⟨h,rfl⟩
   | sub h1 h2 h3 =>
    obtain ⟨pre,post,e⟩:=List.append_of_mem h2
    exact .inr ⟨pre,_,post,e,fun e => absurd e h1,h3⟩
   | seq h1 h2 h3 => exact .inr ⟨_,_,_,h1,fun _ => h2,h3⟩
 · rintro (⟨h,rfl⟩ | ⟨pre,y,post,e,h,hb⟩)
   · exact .call h
   · by_cases k:x.kind=3
     · exact .seq e (h k) hb
     · exact .sub k (by rw [e]; simp) hb
theorem DF.refl {s:List Bool} {D:Nat→Prop} (h:∀ n,D n→s.getD n false=true):DF bs q s s D :=
 ⟨rfl,fun _ h => h,h,(fun n y m h1 h2 _ _ => by rw [h1] at h2; cases h2),fun _ _ _ n h => Or.inl h⟩
theorem DF.comp {s s' s'':List Bool} {D1 D2 D:Nat→Prop} (h1:DF bs q s s' D1) (h2:DF bs q s' s'' D2) (hD:∀ n,D n ↔ D1 n∨D2 n):DF bs q s s'' D where
 len:=h2.len.trans h1.len
 mono j h:=h2.mono j (h1.mono j h)
 direct n h:=by
  rcases (hD n).1 h with h | h
  · exact h2.mono n (h1.direct n h)
  · exact h2.direct n h
 clos n y m a b c d:=by
  cases e:s'.getD n false with
  | true => exact h2.mono m (h1.clos n y m e b c d)
  | false => exact h2.clos n y m a e c d
 min S hS hC n h:=by
  rcases h2.min S (fun n h => hS n ((hD n).2 (.inr h))) hC n h with h | h
  · exact h1.min S (fun n h => hS n ((hD n).2 (.inl h))) hC n h
  · exact .inr h
theorem getD_set {s:List Bool} {n j:Nat} (hn:n < s.length):(s.set n true).getD j false=if j=n then true else s.getD j false:=by
 rw [List.getD_eq_getElem?_getD,List.getD_eq_getElem?_getD,List.getElem?_set]
 by_cases e:n=j
 · subst e; simp [hn]
 · rw [if_neg e,if_neg (fun h => e h.symm)]
theorem DF.step {s s':List Bool} {n:Nat} {y:Ex} (hn:n < s.length) (hs:s.getD n false=false) (hy:bs[n]?=some y) (h:DF bs q (s.set n true) s' (Beg q y)):DF bs q s s' (·=n) where
 len:=by rw [h.len]; simp
 mono j hj:=h.mono j (by rw [getD_set hn]; split <;> simp_all)
 direct j hj:=by subst hj; exact h.mono _ (by rw [getD_set hn,if_pos rfl])
 clos j z m a b c d:=by
  by_cases e:j=n
  · subst e; rw [hy] at c; cases c; exact h.direct m d
  · exact h.clos j z m a (by rw [getD_set hn,if_neg e]; exact b) c d
 min S hS hC j hj:=by
  rcases h.min S (fun m hm => hC n y m (hS n rfl) hy hm) hC j hj with h | h
  · rw [getD_set hn] at h
    split at h
    · rename_i e; exact .inr (hS j e)
    · exact .inl h
  · exact .inr h
mutual
theorem firstE_df {t:Int} (hok:∀ y ∈ bs,okE t bs.length y) (f:Nat) (go:Nat→List Bool→List Bool) (hgo:∀ n y s,bs[n]?=some y→s.length=bs.length→s.count false < f→DF bs q s (go n s) (Beg q y)) (hles:∀ n s,Les s (go n s)) :
 ∀ (x:Ex) (s:List Bool),okE t bs.length x→s.length=bs.length→s.count false≤f→DF bs q s (firstE go q x s) (Beg q x)
 | .mk k n z l,s,ho,hs,hf => by
  rw [firstE]
  have hsub:∀ y ∈ l,okE t bs.length y:=fun y hy => ho.sub (x:=.mk k n z l) hy
  by_cases hc:k=2∧s.getD n.toNat false=false
  · rw [if_pos hc]
    obtain ⟨i,hi⟩:=Int.eq_ofNat_of_zero_le (ho.call (x:=.mk k n z l) hc.1).1
    have hlt:=(ho.call (x:=.mk k n z l) hc.1).2
    simp only [Ex.num] at hi hlt
    subst hi
    have hlt':i < bs.length:=by omega
    have hs0:s.getD i false=false:=by simpa using hc.2
    have hcs:=count_set (out:=s) (i:=i) (by omega) hs0
    have h1:=hgo i bs[i] (s.set i true) (by simp [hlt']) (by simpa using hs) (by omega)
    have h2:=h1.step (n:=i) (by omega) hs0 (by simp [hlt'])
    have hl2:=hles i (s.set i true)
    have h3:=firstL_df hok f go hgo hles k l (go i (s.set i true)) hsub (by rw [hl2.1]; simpa using hs) (by have:=hl2.2; omega)
    simp only [Int.toNat_natCast]
    refine h2.comp h3 fun m => ?_
    rw [beg_iff]
    simp only [Ex.kind,Ex.num,Ex.l,hc.1,true_and,Int.toNat_natCast]
  · rw [if_neg hc]
    have h3:=firstL_df hok f go hgo hles k l s hsub hs hf
    have h0:DF bs q s s (fun m => k=2∧m=n.toNat):=DF.refl fun m hm => by
     rw [hm.2]
     cases e:s.getD n.toNat false with
     | true => rfl
     | false => exact absurd ⟨hm.1,e⟩ hc
    exact h0.comp h3 fun m => by rw [beg_iff]; rfl
theorem firstL_df {t:Int} (hok:∀ y ∈ bs,okE t bs.length y) (f:Nat) (go:Nat→List Bool→List Bool) (hgo:∀ n y s,bs[n]?=some y→s.length=bs.length→s.count false < f→DF bs q s (go n s) (Beg q y)) (hles:∀ n s,Les s (go n s)) (k:Int) :
 ∀ (l:List Ex) (s:List Bool),(∀ y ∈ l,okE t bs.length y)→s.length=bs.length→s.count false≤f→DF bs q s (firstL go q k l s) (BegL q k l)
 | [],s,_,_,_ => by
  rw [firstL]
  exact DF.refl fun n h => by obtain ⟨pre,y,post,e,-⟩:=h; cases pre <;> cases e
 | y :: l,s,ho,hs,hf => by
  rw [firstL]
  have h1:=firstE_df hok f go hgo hles y s (ho y (by simp)) hs hf
  split
  · rename_i hc
    refine h1.comp (D2:=fun _ => False) (DF.refl fun _ h => h.elim) fun n => ?_
    simp only [or_false]
    constructor
    · rintro ⟨pre,z,post,e,hp,hb⟩
      cases pre with
      | nil => cases e; exact hb
      | cons a pre =>
       simp at e
       have:=hp hc.1 a (by simp)
       rw [← e.1,hc.2] at this; cases this
    · intro h; exact ⟨[],y,l,rfl,by simp,h⟩
  · rename_i hc
    have hl1:=firstE_les hles (q:=q) y s
    have h2:=firstL_df hok f go hgo hles k l (firstE go q y s) (fun z hz => ho z (by simp [hz])) (by rw [hl1.1]; exact hs) (by have:=hl1.2; omega)
    refine h1.comp h2 fun n => ?_
    constructor
    · rintro ⟨pre,z,post,e,hp,hb⟩
      cases pre with
      | nil => cases e; exact .inl hb
      | cons a pre =>
       simp at e
       obtain ⟨rfl,rfl⟩:=e
       exact .inr ⟨pre,z,post,rfl,fun hk w hw => hp hk w (by simp [hw]),hb⟩
    · rintro (h | ⟨pre,z,post,rfl,hp,hb⟩)
      · exact ⟨[],y,l,rfl,by simp,h⟩
      · refine ⟨y :: pre,z,post,rfl,fun hk w hw => ?_,hb⟩
        rcases List.mem_cons.1 hw with rfl | hw
        · cases e:canE false q w with
          | true => rfl
          | false => exact absurd ⟨hk,e⟩ hc
        · exact hp hk w hw
end
theorem goF_df {t:Int} (hok:∀ y ∈ bs,okE t bs.length y):∀ (f n:Nat) (y:Ex) (s:List Bool),bs[n]?=some y→s.length=bs.length→s.count false < f→DF bs q s (goF bs q f n s) (Beg q y)
 | 0,_,_,_,_,_,h => by omega
 | f+1,n,y,s,hy,hs,h => by
  rw [goF,hy]; dsimp only
  exact firstE_df hok f (goF bs q f) (goF_df hok f) (goF_les bs q f) y s (hok y (List.mem_of_getElem? hy)) hs (by omega)
def begs (bs:List Ex) (q:Int→Bool) (x:Ex):List Bool:=firstE (goF bs q bs.length) q x (List.replicate bs.length false)
theorem begs_df {t:Int} (hok:∀ y ∈ bs,okE t bs.length y) {x:Ex} (hx:okE t bs.length x):DF bs q (List.replicate bs.length false) (begs bs q x) (Beg q x):=by
 refine firstE_df hok bs.length _ (goF_df hok _) (goF_les bs q _) x _ hx (by simp) ?_
 have:=List.count_le_length (a:=false) (l:=List.replicate bs.length false)
 rw [List.length_replicate] at this; exact this
theorem rep_getD {m j:Nat}:(List.replicate m false).getD j false=false:=by
 rw [List.getD_eq_getElem?_getD,List.getElem?_replicate]; split <;> rfl
theorem countT_lt:∀ {s s':List Bool} {m:Nat},s'.length=s.length→(∀ j,s.getD j false=true→s'.getD j false=true)→s'.getD m false=true→s.getD m false=false→s.count true < s'.count true:=by
 have hle:∀ {s s':List Bool},s'.length=s.length→(∀ j,s.getD j false=true→s'.getD j false=true)→s.count true≤s'.count true:=by
  intro s
  induction s with
  | nil => intro s' _ _; simp
  | cons b s ih =>
   intro s' hl h
   cases s' with
   | nil => simp at hl
   | cons b' s' =>
    have h0:=h 0
    have:=ih (by simpa using hl) fun j hj => by simpa using h (j+1) (by simpa using hj)
    cases b <;> cases b' <;> simp_all <;> omega
 intro s
 induction s with
 | nil => intro s' m hl _ h1; cases s' with | nil => simp at h1 | cons _ _ => simp at hl
 | cons b s ih =>
  intro s' m hl h h1 h2
  cases s' with
  | nil => simp at hl
  | cons b' s' =>
   have hl':s'.length=s.length:=by simpa using hl
   have ht:∀ j,s.getD j false=true→s'.getD j false=true:=fun j hj => by simpa using h (j+1) (by simpa using hj)
   have h0:=h 0
   cases m with
   | zero =>
    simp at h1 h2; subst h1 h2
    have:=hle hl' ht
    simp; omega
   | succ m =>
    have:=ih hl' ht (by simpa using h1) (by simpa using h2)
    cases b <;> cases b' <;> simp_all <;> omega
theorem beg_lt {t:Int} {r:Nat} {x:Ex} {n:Nat} (h:Beg q x n) (ho:okE t r x):n < r:=by
 induction h with
 | call k => have:=ho.call k; omega
 | sub _ hy _ ih => exact ih (ho.sub hy)
 | seq e _ _ ih => exact ih (ho.sub (by rw [e]; simp))
theorem leftL_iff {i:Nat} {l:List Ex}:leftL bs q i l=false ↔ ∀ k x,l[k]?=some x→(begs bs q x).getD (i+k) false=false:=by
 induction l generalizing i with
 | nil => simp [leftL]
 | cons x l ih =>
  rw [leftL,Bool.or_eq_false_iff,ih]
  constructor
  · rintro ⟨h1,h2⟩ k y hk
    cases k with
    | zero => simp at hk; subst hk; exact h1
    | succ k => rw [show i+(k+1)=i+1+k by omega]; exact h2 k y (by simpa using hk)
  · intro h
    refine ⟨h 0 x rfl,fun k y hk => ?_⟩
    rw [show i+1+k=i+(k+1) by omega]
    exact h (k+1) y (by simpa using hk)
def rkOf (bs:List Ex) (q:Int→Bool) (n:Nat):Nat:=match bs[n]? with
 | some y => (begs bs q y).count true
 | none => 0
theorem rank_of {t:Int} (hok:∀ y ∈ bs,okE t bs.length y) (hl:leftL bs q 0 bs=false) {n:Nat} {y:Ex} (hy:bs[n]?=some y) {m:Nat} (hb:Beg q y m):rkOf bs q m < rkOf bs q n:=by
 have hoy:=hok y (List.mem_of_getElem? hy)
 have hm:=beg_lt hb hoy
 have hz:bs[m]?=some bs[m]:=by simp [hm]
 have hoz:=hok _ (List.getElem_mem hm)
 have d1:=begs_df (q:=q) hok hoy
 have d2:=begs_df (q:=q) hok hoz
 unfold rkOf
 rw [hy,hz]; dsimp only
 have hcl:ClosedB bs q fun k => (begs bs q y).getD k false=true:=fun a b c h1 h2 h3 => d1.clos a b c h1 rep_getD h2 h3
 refine countT_lt (m:=m) (by rw [d1.len,d2.len]) (fun j hj => ?_) (d1.direct m hb) ?_
 · rcases d2.min (fun k => (begs bs q y).getD k false=true) (fun k hk => hcl m _ k (d1.direct m hb) hz hk) hcl j hj with h | h
   · rw [rep_getD] at h; cases h
   · exact h
 · have:=leftL_iff.1 hl m _ hz
   rwa [Nat.zero_add] at this
theorem ranked_of {t:Int} (hok:∀ y ∈ bs,okE t bs.length y) (hs:∀ y ∈ bs,SmallE y) (hl:leftL bs (qOf (growsP false bs)) 0 bs=false):Ranked bs (qOf (growsP false bs)) t (rkOf bs (qOf (growsP false bs))) (bs.length+1) where
 ok:=hok
 small:=hs
 cl n y h0 h1 h2:=growsP_closed false bs h1 h2
 rank n y hy m hb:=rank_of hok hl hy hb
 top n:=by
  unfold rkOf
  split
  · rename_i y hy
    have:=List.count_le_length (a:=true) (l:=begs bs (qOf (growsP false bs)) y)
    rw [(begs_df (q:=qOf (growsP false bs)) hok (hok y (List.mem_of_getElem? hy))).len,List.length_replicate] at this
    omega
  · omega
end
theorem Ranked.of_check {g:Gr} (hs:SmallG g) (h:checkP g=0):Ranked g.bodies (qOf g.null) g.tokens (rkOf g.bodies (qOf g.null)) (g.bodies.length+1)∧0 < g.rules.length∧g.rules.length≤32:=by
 have hbl:g.bodies.length=g.rules.length:=by rw [Gr.bodies,List.length_map]
 unfold checkP at h
 split at h
 · omega
 rename_i h1
 split at h
 · omega
 split at h
 · omega
 rename_i h3
 split at h
 · omega
 rename_i h4
 have h4':g.bodies.all (rightE g.tokens g.rules.length)=true:=by simpa using h4
 rw [List.all_eq_true] at h4'
 unfold check2P at h
 split at h
 · omega
 split at h
 · omega
 rename_i h6
 refine ⟨ranked_of (fun y hy => by rw [hbl]; exact h4' y hy) (fun y hy => ?_) (by have:=h6; simp only [Bool.not_eq_true] at this; exact this),?_,?_⟩
 · obtain ⟨r,hr,rfl⟩:=List.mem_map.1 hy
   exact hs r hr
 · cases e:g.rules with
   | nil => simp [e] at h3
   | cons a r => simp
 · simp at h1; omega
end Go.Am
namespace Go.Am
open Go Go.Proofs
variable {fz:Nat→Md}
structure Fz20 (fz:Nat→Md):Prop where
 h31:fz 9017=.cut
 h35:fz 24=.cut
 h69:fz 9050=.keep
 h70:fz 9051=.cut
 h71:fz 9052=.cut
 h75:fz 47=.cut
 h76:fz 48=.cut
 h77:fz 49=.ice
 h78:fz 50=.cut
 h79:fz 51=.cut
 h80:fz 52=.cut
 h81:fz 53=.cut
 h82:fz 54=.cut
 h83:fz 55=.cut
 h84:fz 56=.cut
 h85:fz 57=.cut
 h86:fz 58=.cut
 h97:fz 9078=.cut
 h98:fz 9079=.cut
 h99:fz 9080=.cut
 h102:fz 79=.cut
 h103:fz 80=.cut
 h104:fz 81=.cut
 h105:fz 82=.cut
 h106:fz 83=.cut
 h107:fz 84=.cut
 h108:fz 85=.cut
theorem check_c (hz:Fz20 fz) (g:Gr) (hg:SmallG g) (σ:St):CallsTo (XX fz) (.func 24 []) [g.a] σ (.d (.int .i64 (checkP g))) σ [] :=
 check_call hz.h35 hz.h75 hz.h76 hz.h102 hz.h83 hz.h107 hz.h84 hz.h108 hz.h85 hz.h81 hz.h77 hz.h103 hz.h86 hz.h78 hz.h80 hz.h79 hz.h104 hz.h105 hz.h82 hz.h106 g hg σ
end Go.Am

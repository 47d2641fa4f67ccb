/- Part L1 of a proof that runs a program's calls on a small machine whose values bear no addresses: no conditions. -/
import Derived.Test.YtfhoagkadjinlaaAmK3
import Derived.Test.YtfhoagkadjinlaaAmK1
set_option autoImplicit false
set_option linter.unusedSimpArgs false
set_option linter.unusedVariables false
set_option linter.unusedSectionVars false
namespace Go.Am
open Go Go.Proofs
abbrev S3:=List (Nat × Nat) × List (Nat × Nat) × Nat
def rchP (st:S3) (s p:Nat):S3:=if st.1.any (fun x => x.1 == s && x.2 == p) then st else (st.1 ++ [(s,p)],st.2.1 ++ [(s,p)],max st.2.2 p)
def rchPs (s:Nat):List Nat→S3→S3
 | [],st => st
 | j :: js,st => rchPs s js (rchP st s j)
def goE (ev:Nat→Nat→Option (List Nat × Nat)) (l:List Int) (p:Nat):List Eg→S3→Option S3
 | [],st => some st
 | e :: es,st => if e.kind=0 then goE ev l p es (rchP st e.to p) else if e.kind=1 then (if l[p]?=some e.num then goE ev l p es (rchP st e.to (p+1)) else goE ev l p es st)
  else match ev e.num.toNat p with
   | none => none
   | some (js,f) => goE ev l p es (rchPs e.to js (st.1,st.2.1,max st.2.2 f))
def goL (ev:Nat→Nat→Option (List Nat × Nat)) (N:Nv) (l:List Int) (b:Nat):Nat→S3→List Nat→Option (List Nat × Nat)
 | 0,_,_ => none
 | n+1,(S,todo,f),out => match todo with
  | [] => some (out,f)
  | (s,p) :: todo => match N.es[s]? with
   | none => none
   | some r => match goE ev l p r (S,todo,f) with
    | none => none
    | some st => goL ev N l b n st (if s=b then out ++ [p] else out)
def goA (N:Nv) (X:Nx) (l:List Int):Nat→Nat→Nat→Nat→Option (List Nat × Nat)
 | 0,_,_,_ => none
 | m+1,a,b,i => goL (fun n p => goA N X l m (X.ent n) (X.lve n) p) N l b 100000 ([(a,i)],[(a,i)],i) []
section
variable {l:List Int} {N:Nv} {X:Nx} {a:Nat} {ps:List Nat} {b f0 f:Nat} {S todo:List (Nat × Nat)} {out:List Nat}
structure Stp (l:List Int) (N:Nv) (X:Nx) (a:Nat) (ps:List Nat) (b f0:Nat) (out:List Nat) (st st':S3):Prop where
 B:AlB l N X a ps b f0 st'.2.2 st'.1 st'.2.1 out
 s:∀ x ∈ st.1,x ∈ st'.1
 n:∀ x ∈ st'.1,x ∈ st.1∨x ∈ st'.2.1
 t:∀ x ∈ st.2.1,x ∈ st'.2.1
 f:st.2.2≤st'.2.2
theorem Stp.refl {st:S3} (h:AlB l N X a ps b f0 st.2.2 st.1 st.2.1 out):Stp l N X a ps b f0 out st st:=⟨h,fun _ h => h,fun _ h => .inl h,fun _ h => h,Nat.le_refl _⟩
theorem Stp.trans {st st1 st2:S3} (h:Stp l N X a ps b f0 out st st1) (k:Stp l N X a ps b f0 out st1 st2):Stp l N X a ps b f0 out st st2 :=
 ⟨k.B,fun x hx => k.s x (h.s x hx),fun x hx => by
  rcases k.n x hx with q | q
  · rcases h.n x q with q | q
    · exact .inl q
    · exact .inr (k.t x q)
  · exact .inr q,fun x hx => k.t x (h.t x hx),Nat.le_trans h.f k.f⟩
theorem rchP_ok {st:S3} (h:AlB l N X a ps b f0 st.2.2 st.1 st.2.1 out) {s p:Nat} (hs:s < N.es.length) (hp:p≤l.length) (hr:∃ p0 ∈ ps,Rn l N X a p0 s p):Stp l N X a ps b f0 out st (rchP st s p)∧(s,p) ∈ (rchP st s p).1:=by
 unfold rchP
 split
 · rename_i q
   rw [List.any_eq_true] at q
   obtain ⟨⟨x,y⟩,q1,q2⟩:=q
   simp at q2
   obtain ⟨rfl,rfl⟩:=q2
   exact ⟨.refl h,q1⟩
 · rename_i q
   have hn:(s,p) ∉ st.1:=fun e => q (List.any_eq_true.2 ⟨(s,p),e,by simp⟩)
   exact ⟨⟨h.reach hs hp hr hn,fun x hx => List.mem_append_left _ hx,fun x hx => by
    rcases List.mem_append.1 hx with q | q
    · exact .inl q
    · exact .inr (List.mem_append_right _ q),fun x hx => List.mem_append_left _ hx,Nat.le_max_left _ _⟩,by simp⟩
theorem rchPs_ok {s:Nat} (hs:s < N.es.length):∀ (js:List Nat) {st:S3},AlB l N X a ps b f0 st.2.2 st.1 st.2.1 out→(∀ j ∈ js,j≤l.length∧∃ p0 ∈ ps,Rn l N X a p0 s j)→Stp l N X a ps b f0 out st (rchPs s js st)∧∀ j ∈ js,(s,j) ∈ (rchPs s js st).1
 | [],st,h,_ => ⟨.refl h,fun j hj => by cases hj⟩
 | j :: js,st,h,hj => by
  obtain ⟨h1,h2⟩:=rchP_ok h hs (hj j (by simp)).1 (hj j (by simp)).2
  obtain ⟨h3,h4⟩:=rchPs_ok hs js h1.B fun k hk => hj k (by simp [hk])
  rw [rchPs]
  refine ⟨h1.trans h3,fun k hk => ?_⟩
  rcases List.mem_cons.1 hk with rfl | hk
  · exact h3.s _ h2
  · exact h4 k hk
def EvOk (l:List Int) (N:Nv) (X:Nx) (R:Nat) (ev:Nat→Nat→Option (List Nat × Nat)):Prop:=∀ n p js f,ev n p=some (js,f)→n < R→p≤l.length→AOk l N X (X.ent n) [p] (X.lve n) js f∧f≤l.length∧Pg l N X (X.ent n) p f
theorem goE_ok {R:Nat} (hN:NetG N X R) {ev:Nat→Nat→Option (List Nat × Nat)} (hev:EvOk l N X R ev) {s p:Nat} {r:List Eg} (hr:N.es[s]?=some r) (hp:p≤l.length) (hR:∃ p0 ∈ ps,Rn l N X a p0 s p) :
 ∀ (es:List Eg) {st st':S3},(∀ e ∈ es,e ∈ r)→AlB l N X a ps b f0 st.2.2 st.1 st.2.1 out→goE ev l p es st=some st'→Stp l N X a ps b f0 out st st'∧∀ e ∈ es,EDn l N X st'.1 st'.2.2 e p
 | [],st,st',_,h,e => by
  rw [goE] at e; cases e
  exact ⟨.refl h,fun e he => by cases he⟩
 | e :: es,st,st',hm,h,he => by
  obtain ⟨p0,hp0,hRp⟩:=hR
  have hem:=hm e (by simp)
  obtain ⟨k1,k2,k3,k4,k5,k6⟩:=hN.ed s _ hr _ hem
  have rest:=fun {st1:S3} (h1:Stp l N X a ps b f0 out st st1) (q:goE ev l p es st1=some st') (hd:EDn l N X st1.1 st1.2.2 e p) => show Stp l N X a ps b f0 out st st'∧∀ e' ∈ e :: es,EDn l N X st'.1 st'.2.2 e' p from by
   obtain ⟨h2,h3⟩:=goE_ok hN hev hr hp ⟨p0,hp0,hRp⟩ es (fun e he => hm e (by simp [he])) h1.B q
   refine ⟨h1.trans h2,fun e' he' => ?_⟩
   rcases List.mem_cons.1 he' with rfl | he'
   · exact hd.mono h2.s h2.f
   · exact h3 e' he'
  rw [goE] at he
  split at he
  · rename_i c0
    obtain ⟨h1,h2⟩:=rchP_ok h k4 hp ⟨p0,hp0,.free hRp hr hem c0⟩
    exact rest h1 he ⟨fun _ => h2,fun q => by omega,fun q => by omega⟩
  rename_i c0
  split at he
  · rename_i c1
    split at he
    · rename_i c2
      have hlt:=(List.getElem?_eq_some_iff.1 c2).1
      obtain ⟨h1,h2⟩:=rchP_ok (p:=p+1) h k4 hlt ⟨p0,hp0,.tok hRp hr hem c1 c2⟩
      exact rest h1 he ⟨fun q => by omega,fun _ _ => h2,fun q => by omega⟩
    · rename_i c2
      exact rest (.refl h) he ⟨fun q => by omega,fun _ q => absurd q c2,fun q => by omega⟩
  rename_i c1
  have c2:e.kind=2:=by omega
  cases hq:ev e.num.toNat p with
  | none => rw [hq] at he; cases he
  | some v =>
   obtain ⟨js,f1⟩:=v
   rw [hq] at he
   dsimp only at he
   obtain ⟨a1,a2,a3⟩:=hev _ _ _ _ hq (k6 c2) hp
   have hB1:AlB l N X a ps b f0 (max st.2.2 f1) st.1 st.2.1 out:=h.called (Nat.le_max_left _ _) (by have:=h.fl; omega) (by
    rcases Nat.le_total st.2.2 f1 with q | q
    · rw [Nat.max_eq_right q]; exact .inr ⟨p0,hp0,.call hRp hr hem c2 a3⟩
    · exact .inl (Nat.max_eq_left q))
   obtain ⟨h1,h2⟩:=rchPs_ok (st:=(st.1,st.2.1,max st.2.2 f1)) k4 js hB1 fun j hj => by
    obtain ⟨p1,hp1,hj⟩:=a1.snd j hj
    simp at hp1; rw [hp1] at hj
    exact ⟨hj.len hp,p0,hp0,.call hRp hr hem c2 hj⟩
   have h3:Stp l N X a ps b f0 out st (rchPs e.to js (st.1,st.2.1,max st.2.2 f1)):=⟨h1.B,h1.s,h1.n,h1.t,Nat.le_trans (Nat.le_max_left _ _) h1.f⟩
   have h4:f1≤(rchPs e.to js (st.1,st.2.1,max st.2.2 f1)).2.2:=Nat.le_trans (Nat.le_max_right _ _) h1.f
   exact rest h3 he ⟨fun q => by omega,fun q => by omega,fun _ hlt => ⟨fun k hk => h2 k (a1.cmp (by omega) p (by simp) k hk),fun k hk => Nat.le_trans (a1.far (by omega) p (by simp) k hk) h4⟩⟩
theorem goL_ok {R:Nat} (hN:NetG N X R) {ev:Nat→Nat→Option (List Nat × Nat)} (hev:EvOk l N X R ev) :
 ∀ (n:Nat) {st:S3} {out js:List Nat} {f:Nat},AlB l N X a ps b f0 st.2.2 st.1 st.2.1 out→(∀ p ∈ ps,(a,p) ∈ st.1)→(∀ x ∈ st.1,x ∈ st.2.1∨AFin l N X b st.1 st.2.2 out x)→goL ev N l b n st out=some (js,f)→AOk l N X a ps b js f∧f≤l.length∧f0≤f∧(f=f0∨∃ p ∈ ps,Pg l N X a p f)
 | 0,_,_,_,_,_,_,_,e => by cases e
 | n+1,(S,todo,f1),out,js,f,h,hs,hf,e => by
  unfold goL at e
  cases todo with
  | nil =>
   cases e
   exact ⟨h.done hs fun _ x hx => (hf x hx).resolve_left (by simp),h.fl,h.fo,h.fs⟩
  | cons x todo =>
   obtain ⟨s,p⟩:=x
   dsimp only at e h hs hf
   obtain ⟨h1,h2,h3⟩:=h.in_ (s,p) (h.td _ (by simp))
   dsimp only at h1 h2 h3
   cases hr:N.es[s]? with
   | none => rw [hr] at e; cases e
   | some r =>
    rw [hr] at e
    dsimp only at e
    cases hg:goE ev l p r (S,todo,f1) with
    | none => rw [hg] at e; cases e
    | some st =>
     rw [hg] at e
     dsimp only at e
     have hB:AlB l N X a ps b f0 f1 S todo (if s=b then out ++ [p] else out):=by
      split
      · rename_i q; subst q; exact h.popO
      · exact h.pop
     obtain ⟨q1,q2⟩:=goE_ok hN hev hr h2 h3 r (st:=(S,todo,f1)) (fun _ h => h) hB hg
     refine goL_ok hN hev n q1.B (fun p hp => q1.s _ (hs p hp)) (fun x hx => ?_) e
     have hout:∀ j ∈ out,j ∈ (if s=b then out ++ [p] else out):=fun j hj => by
      split
      · exact List.mem_append_left _ hj
      · exact hj
     rcases q1.n x hx with q | q
     · rcases hf x q with q | q
       · rcases List.mem_cons.1 q with q | q
         · rw [q]
           refine .inr ⟨fun e => ?_,fun r' hr' e he => ?_⟩
           · dsimp only at e; rw [if_pos e]; simp
           · dsimp only at hr'; rw [hr] at hr'; cases hr'; exact q2 e he
         · exact .inl (q1.t x q)
       · exact .inr (q.mono q1.s q1.f hout)
     · exact .inl q
theorem goA_ok {R:Nat} (hN:NetG N X R):∀ (m:Nat) {a b i:Nat} {js:List Nat} {f:Nat},a < N.es.length→i≤l.length→goA N X l m a b i=some (js,f)→AOk l N X a [i] b js f∧f≤l.length∧Pg l N X a i f
 | 0,_,_,_,_,_,_,_,e => by cases e
 | m+1,a,b,i,js,f,ha,hi,e => by
  rw [goA] at e
  obtain ⟨h1,h2,h3,h4⟩:=goL_ok (a:=a) (ps:=[i]) (f0:=i) hN (fun n p js f e hn hp => goA_ok hN m (hN.en n hn).1 hp e) 100000 (st:=([(a,i)],[(a,i)],i)) (out:=[])
   ⟨fun x hx => by simp at hx; subst hx; exact ⟨ha,hi,i,by simp,.refl _ _⟩,fun _ h => h,(fun x hx => by cases hx),hi,Nat.le_refl _,.inl rfl,fun x hx => by simp at hx; subst hx; exact Nat.le_refl _,by simp,Nat.le_refl _⟩ (fun p hp => by simp at hp; subst hp; simp) (fun x hx => .inl hx) e
  refine ⟨h1,h2,?_⟩
  rcases h4 with q | ⟨p,hp,q⟩
  · rw [q]; exact .here (.refl _ _)
  · simp at hp; rw [hp] at q; exact q
end
end Go.Am
namespace Go.Am
open Go Go.Proofs
section
variable {l:List Int} {N:Nv} {X:Nx}
theorem Gw.le {s i k:Nat} {B:List Nat} (h:Gw l N X s B i k):i≤k:=by
 induction h with
 | here => exact Nat.le_refl _
 | tok _ _ _ _ _ ih => omega
 | free _ _ _ _ ih => exact ih
 | call _ _ _ _ ih => exact ih
 | leave _ _ ih => exact ih
theorem Gw.len {s i k:Nat} {B:List Nat} (h:Gw l N X s B i k):i≤l.length→k≤l.length:=by
 induction h with
 | here => exact id
 | tok _ _ _ ht _ ih => intro _; exact ih (List.getElem?_eq_some_iff.1 ht).1
 | free _ _ _ _ ih => exact ih
 | call _ _ _ _ ih => exact ih
 | leave _ _ ih => exact ih
theorem Gw.takeTo {m s i k:Nat} {B:List Nat} (h:Gw l N X s B i k):k≤m→Gw (l.take m) N X s B i k:=by
 induction h with
 | here => exact fun _ => .here _ _ _
 | tok h1 h2 h3 h4 h5 ih => intro hk; exact .tok h1 h2 h3 (by rw [List.getElem?_take_of_lt (by have:=h5.le; omega)]; exact h4) (ih hk)
 | free h1 h2 h3 _ ih => exact fun hk => .free h1 h2 h3 (ih hk)
 | call h1 h2 h3 _ ih => exact fun hk => .call h1 h2 h3 (ih hk)
 | leave h1 _ ih => exact fun hk => .leave h1 (ih hk)
theorem Gw.ofTake {m s i k:Nat} {B:List Nat} (h:Gw (l.take m) N X s B i k):Gw l N X s B i k:=by
 induction h with
 | here => exact .here _ _ _
 | @tok s i k B r e h1 h2 h3 h4 _ ih =>
  have hi:i < m:=by
   have:=(List.getElem?_eq_some_iff.1 h4).1; rw [List.length_take] at this; omega
  exact .tok h1 h2 h3 (by rw [List.getElem?_take_of_lt hi] at h4; exact h4) ih
 | free h1 h2 h3 _ ih => exact .free h1 h2 h3 ih
 | call h1 h2 h3 _ ih => exact .call h1 h2 h3 ih
 | leave h1 _ ih => exact .leave h1 ih
theorem Gw.mid {m s i k:Nat} {B:List Nat} (h:Gw l N X s B i k):i≤m→m≤k→Gw l N X s B i m:=by
 induction h with
 | here => intro h1 h2; rw [Nat.le_antisymm h2 h1]; exact .here _ _ _
 | @tok s i k B r e h1 h2 h3 h4 _ ih =>
  intro q1 q2
  rcases Nat.lt_or_ge i m with q | q
  · exact .tok h1 h2 h3 h4 (ih q q2)
  · rw [Nat.le_antisymm q q1]; exact .here _ _ _
 | free h1 h2 h3 _ ih => exact fun q1 q2 => .free h1 h2 h3 (ih q1 q2)
 | call h1 h2 h3 _ ih => exact fun q1 q2 => .call h1 h2 h3 (ih q1 q2)
 | leave h1 _ ih => exact fun q1 q2 => .leave h1 (ih q1 q2)
theorem Gw.dropTo {s i k:Nat} {B:List Nat} (h:Gw (l.drop 1) N X s B i k):Gw l N X s B (i+1) (k+1):=by
 induction h with
 | here => exact .here _ _ _
 | tok h1 h2 h3 h4 _ ih => exact .tok h1 h2 h3 (by rw [List.getElem?_drop,Nat.add_comm] at h4; exact h4) ih
 | free h1 h2 h3 _ ih => exact .free h1 h2 h3 ih
 | call h1 h2 h3 _ ih => exact .call h1 h2 h3 ih
 | leave h1 _ ih => exact .leave h1 ih
theorem Gw.ofDrop {s j k:Nat} {B:List Nat} (h:Gw l N X s B j k):1≤j→Gw (l.drop 1) N X s B (j - 1) (k - 1):=by
 induction h with
 | here => exact fun _ => .here _ _ _
 | @tok s i k B r e h1 h2 h3 h4 _ ih =>
  intro q
  have:=ih (by omega)
  rw [show i+1 - 1=i - 1+1 by omega] at this
  exact .tok h1 h2 h3 (by rw [List.getElem?_drop,show 1+(i - 1)=i by omega]; exact h4) this
 | free h1 h2 h3 _ ih => exact fun q => .free h1 h2 h3 (ih q)
 | call h1 h2 h3 _ ih => exact fun q => .call h1 h2 h3 (ih q)
 | leave h1 _ ih => exact fun q => .leave h1 (ih q)
def IsG (l:List Int) (N:Nv) (X:Nx) (a:Nat) (B:List Nat) (m:Nat):Prop:=Gw l N X a B 0 m∧∀ k,Gw l N X a B 0 k→k≤m
theorem IsG.eq {a m n:Nat} {B:List Nat} (h:IsG l N X a B m) (k:IsG l N X a B n):m=n:=Nat.le_antisymm (k.2 _ h.1) (h.2 _ k.1)
theorem IsG.fewer {a m f:Nat} {B:List Nat} (h:IsG l N X a B f):IsG (l.take m) N X a B (min m f) :=
 ⟨(h.1.mid (Nat.zero_le _) (Nat.min_le_right _ _)).takeTo (Nat.min_le_left _ _),fun k hk => by
  have h1:=h.2 k hk.ofTake
  have h2:=hk.len (Nat.zero_le _)
  rw [List.length_take] at h2
  omega⟩
end
end Go.Am
namespace Go.Am
open Go Go.Proofs
inductive Lk (l:List Int) (N:Nv) (X:Nx) (lv:Nat→Nat→List (Nat × Nat)) (F:List (Nat × Nat)):Nat→Nat→Prop
 | start {s p:Nat}:(s,p) ∈ F→Lk l N X lv F s p
 | free {s p:Nat} {r:List Eg} {e:Eg}:Lk l N X lv F s p→N.es[s]?=some r→e ∈ r→e.kind=0→Lk l N X lv F e.to p
 | tok {s p:Nat} {r:List Eg} {e:Eg}:Lk l N X lv F s p→N.es[s]?=some r→e ∈ r→e.kind=1→l[p]?=some e.num→Lk l N X lv F e.to (p+1)
 | call {s p k:Nat} {r:List Eg} {e:Eg}:Lk l N X lv F s p→N.es[s]?=some r→e ∈ r→e.kind=2→Rn l N X (X.ent e.num.toNat) p (X.lve e.num.toNat) k→Lk l N X lv F e.to k
 | leave {s p:Nat} {x:Nat × Nat}:Lk l N X lv F s p→s=lvS N X s→x ∈ lv (N.rule s).toNat p→Lk l N X lv F x.1 x.2
def LkP (l:List Int) (N:Nv) (X:Nx) (lv:Nat→Nat→List (Nat × Nat)) (F:List (Nat × Nat)) (k:Nat):Prop :=
 ∃ s p,Lk l N X lv F s p∧(p=k∨∃ r e,N.es[s]?=some r∧e ∈ r∧e.kind=2∧Pg l N X (X.ent e.num.toNat) p k)
section
variable {l:List Int} {N:Nv} {X:Nx} {lv:Nat→Nat→List (Nat × Nat)} {F:List (Nat × Nat)}
theorem Rn.takeTo {m a i s p:Nat} (h:Rn l N X a i s p):p≤m→Rn (l.take m) N X a i s p:=by
 induction h with
 | refl => exact fun _ => .refl _ _
 | free _ h1 h2 h3 ih => exact fun hk => .free (ih hk) h1 h2 h3
 | tok _ h1 h2 h3 h4 ih => intro hk; exact .tok (ih (by omega)) h1 h2 h3 (by rw [List.getElem?_take_of_lt (by omega)]; exact h4)
 | call _ h1 h2 h3 h4 ih1 ih2 => intro hk; have:=h4.le; exact .call (ih1 (by omega)) h1 h2 h3 (ih2 hk)
theorem Lk.len {s p:Nat} (hlv:∀ n p x,x ∈ lv n p→x.2=p) (hF:∀ x ∈ F,x.2≤l.length) (h:Lk l N X lv F s p):p≤l.length:=by
 induction h with
 | start h => exact hF _ h
 | free _ _ _ _ ih => exact ih
 | tok _ _ _ _ ht ih => have:=(List.getElem?_eq_some_iff.1 ht).1; omega
 | call _ _ _ _ h4 ih => exact h4.len ih
 | leave _ _ h3 ih => rw [hlv _ _ _ h3]; exact ih
theorem Lk.one {s p:Nat} (h:Lk l N X lv F s p):∃ x ∈ F,Lk l N X lv [x] s p:=by
 induction h with
 | start h => exact ⟨_,h,.start (by simp)⟩
 | free _ h1 h2 h3 ih => obtain ⟨x,hx,h⟩:=ih; exact ⟨x,hx,.free h h1 h2 h3⟩
 | tok _ h1 h2 h3 h4 ih => obtain ⟨x,hx,h⟩:=ih; exact ⟨x,hx,.tok h h1 h2 h3 h4⟩
 | call _ h1 h2 h3 h4 ih => obtain ⟨x,hx,h⟩:=ih; exact ⟨x,hx,.call h h1 h2 h3 h4⟩
 | leave _ h1 h2 ih => obtain ⟨x,hx,h⟩:=ih; exact ⟨x,hx,.leave h h1 h2⟩
theorem Lk.more {F':List (Nat × Nat)} (hF:∀ x ∈ F,x ∈ F') {s p:Nat} (h:Lk l N X lv F s p):Lk l N X lv F' s p:=by
 induction h with
 | start h => exact .start (hF _ h)
 | free _ h1 h2 h3 ih => exact .free ih h1 h2 h3
 | tok _ h1 h2 h3 h4 ih => exact .tok ih h1 h2 h3 h4
 | call _ h1 h2 h3 h4 ih => exact .call ih h1 h2 h3 h4
 | leave _ h1 h2 ih => exact .leave ih h1 h2
theorem LkP.one {k:Nat} (h:LkP l N X lv F k):∃ x ∈ F,LkP l N X lv [x] k:=by
 obtain ⟨s,p,h1,h2⟩:=h
 obtain ⟨x,hx,h1⟩:=h1.one
 exact ⟨x,hx,s,p,h1,h2⟩
theorem LkP.more {F':List (Nat × Nat)} (hF:∀ x ∈ F,x ∈ F') {k:Nat} (h:LkP l N X lv F k):LkP l N X lv F' k:=by
 obtain ⟨s,p,h1,h2⟩:=h
 exact ⟨s,p,h1.more hF,h2⟩
end
def lvB (bh:Nat→List Nat) (n p:Nat):List (Nat × Nat):=(bh n).map fun s => (s,p)
theorem lvB_at (bh:Nat→List Nat):∀ n p x,x ∈ lvB bh n p→x.2=p:=fun n p x hx => by
 obtain ⟨s,-,rfl⟩:=List.mem_map.1 hx; rfl
def AlwP (l:List Int) (N:Nv) (X:Nx) (bh:Nat→List Nat) (e:Eg):Prop :=
 (e.kind=0∧LkP l N X (lvB bh) [(e.to,0)] l.length)∨(e.kind≠0∧l.length=0) ∨
 (e.kind=2∧(Pg l N X (X.ent e.num.toNat) 0 l.length∨∃ k,Rn l N X (X.ent e.num.toNat) 0 (X.lve e.num.toNat) k∧LkP l N X (lvB bh) [(e.to,k)] l.length)) ∨
 (e.kind≠0∧e.kind≠2∧l[0]?=some e.num∧LkP l N X (lvB bh) [(e.to,1)] l.length)
noncomputable def waysP (l:List Int) (N:Nv) (X:Nx) (bh:Nat→List Nat) (rch:Nat→Bool) (s:Nat):List Nat:=by
 classical
 exact if rch (N.rule s).toNat=true then (List.range ((N.es[s]?).getD []).length).filter fun i => decide (∃ e,((N.es[s]?).getD [])[i]?=some e∧AlwP l N X bh e) else []
theorem waysP_mem {l:List Int} {N:Nv} {X:Nx} {bh:Nat→List Nat} {rch:Nat→Bool} {s i:Nat}:i ∈ waysP l N X bh rch s ↔ rch (N.rule s).toNat=true∧∃ r e,N.es[s]?=some r∧r[i]?=some e∧AlwP l N X bh e:=by
 classical
 unfold waysP
 split
 · rename_i h
   rw [List.mem_filter,List.mem_range,decide_eq_true_eq]
   constructor
   · rintro ⟨h1,e,h2,h3⟩
     refine ⟨h,?_⟩
     cases hs:N.es[s]? with
     | none => rw [hs] at h1; simp at h1
     | some r => rw [hs] at h2; exact ⟨r,e,rfl,h2,h3⟩
   · rintro ⟨-,r,e,h1,h2,h3⟩
     rw [h1]
     exact ⟨(List.getElem?_eq_some_iff.1 h2).1,e,h2,h3⟩
 · rename_i h
   exact ⟨(fun q => by cases q),fun q => absurd q.1 h⟩
theorem waysP_inc {l:List Int} {N:Nv} {X:Nx} {bh:Nat→List Nat} {rch:Nat→Bool} {s:Nat}:(waysP l N X bh rch s).Pairwise (· < ·):=by
 classical
 unfold waysP
 split
 · exact List.Pairwise.filter _ List.pairwise_lt_range
 · exact .nil
end Go.Am
namespace Go.Am
open Go Go.Proofs
abbrev S2:=List (Nat × Nat) × List (Nat × Nat)
def addP (st:S2) (s p:Nat):S2:=if st.1.any (fun x => x.1 == s && x.2 == p) then st else (st.1 ++ [(s,p)],st.2 ++ [(s,p)])
def addPs:List (Nat × Nat)→S2→S2
 | [],st => st
 | x :: xs,st => addPs xs (addP st x.1 x.2)
def edK (ev:Nat→Nat→Option (List Nat × Nat)) (l:List Int) (p:Nat):List Eg→S2→Option (Option S2)
 | [],st => some (some st)
 | e :: es,st => if e.kind=0 then edK ev l p es (addP st e.to p) else if e.kind=1 then (if l[p]?=some e.num then edK ev l p es (addP st e.to (p+1)) else edK ev l p es st)
  else match ev e.num.toNat p with
   | none => none
   | some (js,f) => if f=l.length then some none else edK ev l p es (addPs (js.map fun j => (e.to,j)) st)
def goK (ev:Nat→Nat→Option (List Nat × Nat)) (N:Nv) (X:Nx) (l:List Int) (lv:Nat→Nat→List (Nat × Nat)):Nat→S2→Option Bool
 | 0,_ => none
 | n+1,(S,todo) => match todo with
  | [] => some false
  | (s,p) :: todo => if p=l.length then some true else match N.es[s]? with
   | none => none
   | some r => match edK ev l p r (if s=lvS N X s then addPs (lv (N.rule s).toNat p) (S,todo) else (S,todo)) with
    | none => none
    | some none => some true
    | some (some st) => goK ev N X l lv n st
section
variable {l:List Int} {N:Nv} {X:Nx} {lv:Nat→Nat→List (Nat × Nat)} {F:List (Nat × Nat)}
structure KB (l:List Int) (N:Nv) (X:Nx) (lv:Nat→Nat→List (Nat × Nat)) (F:List (Nat × Nat)) (st:S2):Prop where
 in_:∀ x ∈ st.1,x.1 < N.es.length∧x.2≤l.length∧Lk l N X lv F x.1 x.2
 td:∀ x ∈ st.2,x ∈ st.1
structure KS (l:List Int) (N:Nv) (X:Nx) (lv:Nat→Nat→List (Nat × Nat)) (F:List (Nat × Nat)) (st st':S2):Prop where
 B:KB l N X lv F st'
 s:∀ x ∈ st.1,x ∈ st'.1
 n:∀ x ∈ st'.1,x ∈ st.1∨x ∈ st'.2
 t:∀ x ∈ st.2,x ∈ st'.2
theorem KS.refl {st:S2} (h:KB l N X lv F st):KS l N X lv F st st:=⟨h,fun _ h => h,fun _ h => .inl h,fun _ h => h⟩
theorem KS.trans {st st1 st2:S2} (h:KS l N X lv F st st1) (k:KS l N X lv F st1 st2):KS l N X lv F st st2 :=
 ⟨k.B,fun x hx => k.s x (h.s x hx),fun x hx => by
  rcases k.n x hx with q | q
  · rcases h.n x q with q | q
    · exact .inl q
    · exact .inr (k.t x q)
  · exact .inr q,fun x hx => k.t x (h.t x hx)⟩
theorem addP_ok {st:S2} (h:KB l N X lv F st) {s p:Nat} (hs:s < N.es.length) (hp:p≤l.length) (hr:Lk l N X lv F s p):KS l N X lv F st (addP st s p)∧(s,p) ∈ (addP st s p).1:=by
 unfold addP
 split
 · rename_i q
   rw [List.any_eq_true] at q
   obtain ⟨⟨x,y⟩,q1,q2⟩:=q
   simp at q2
   obtain ⟨rfl,rfl⟩:=q2
   exact ⟨.refl h,q1⟩
 · exact ⟨⟨⟨fun x hx => by
    rcases List.mem_append.1 hx with q | q
    · exact h.in_ x q
    · simp at q; subst q; exact ⟨hs,hp,hr⟩,fun x hx => by
    rcases List.mem_append.1 hx with q | q
    · exact List.mem_append_left _ (h.td x q)
    · exact List.mem_append_right _ q⟩,fun x hx => List.mem_append_left _ hx,fun x hx => by
    rcases List.mem_append.1 hx with q | q
    · exact .inl q
    · exact .inr (List.mem_append_right _ q),fun x hx => List.mem_append_left _ hx⟩,by simp⟩
theorem addPs_ok:∀ (xs:List (Nat × Nat)) {st:S2},KB l N X lv F st→(∀ x ∈ xs,x.1 < N.es.length∧x.2≤l.length∧Lk l N X lv F x.1 x.2)→KS l N X lv F st (addPs xs st)∧∀ x ∈ xs,x ∈ (addPs xs st).1
 | [],st,h,_ => ⟨.refl h,fun x hx => by cases hx⟩
 | x :: xs,st,h,hx => by
  obtain ⟨a1,a2,a3⟩:=hx x (by simp)
  obtain ⟨h1,h2⟩:=addP_ok h a1 a2 a3
  obtain ⟨h3,h4⟩:=addPs_ok xs h1.B fun y hy => hx y (by simp [hy])
  rw [addPs]
  refine ⟨h1.trans h3,fun y hy => ?_⟩
  rcases List.mem_cons.1 hy with rfl | hy
  · exact h3.s _ h2
  · exact h4 y hy
def EdK (l:List Int) (N:Nv) (X:Nx) (S:List (Nat × Nat)) (e:Eg) (p:Nat):Prop :=
 (e.kind=0→(e.to,p) ∈ S)∧(e.kind=1→l[p]?=some e.num→(e.to,p+1) ∈ S) ∧
 (e.kind=2→(∀ k,Rn l N X (X.ent e.num.toNat) p (X.lve e.num.toNat) k→(e.to,k) ∈ S)∧¬ Pg l N X (X.ent e.num.toNat) p l.length)
theorem EdK.mono {S S':List (Nat × Nat)} {e:Eg} {p:Nat} (h:EdK l N X S e p) (hS:∀ x ∈ S,x ∈ S'):EdK l N X S' e p :=
 ⟨fun q => hS _ (h.1 q),fun q1 q2 => hS _ (h.2.1 q1 q2),fun q => ⟨fun k hk => hS _ ((h.2.2 q).1 k hk),(h.2.2 q).2⟩⟩
def FnK (l:List Int) (N:Nv) (X:Nx) (lv:Nat→Nat→List (Nat × Nat)) (S:List (Nat × Nat)) (x:Nat × Nat):Prop :=
 x.2≠l.length∧(x.1=lvS N X x.1→∀ y ∈ lv (N.rule x.1).toNat x.2,y ∈ S)∧∀ r,N.es[x.1]?=some r→∀ e ∈ r,EdK l N X S e x.2
theorem FnK.mono {S S':List (Nat × Nat)} {x:Nat × Nat} (h:FnK l N X lv S x) (hS:∀ x ∈ S,x ∈ S'):FnK l N X lv S' x :=
 ⟨h.1,fun q y hy => hS _ (h.2.1 q y hy),fun r hr e he => (h.2.2 r hr e he).mono hS⟩
theorem fnK_not {S:List (Nat × Nat)} (hF:∀ x ∈ F,x ∈ S) (hS:∀ x ∈ S,FnK l N X lv S x) {R:Nat} (hN:NetG N X R):¬ LkP l N X lv F l.length:=by
 have key:∀ {s p:Nat},Lk l N X lv F s p→(s,p) ∈ S:=fun {s p} h => by
  induction h with
  | start h => exact hF _ h
  | free _ h1 h2 h3 ih => exact ((hS _ ih).2.2 _ h1 _ h2).1 h3
  | tok _ h1 h2 h3 h4 ih => exact ((hS _ ih).2.2 _ h1 _ h2).2.1 h3 h4
  | call _ h1 h2 h3 h4 ih => exact (((hS _ ih).2.2 _ h1 _ h2).2.2 h3).1 _ h4
  | leave _ h1 h2 ih => exact (hS _ ih).2.1 h1 _ h2
 rintro ⟨s,p,h1,h2⟩
 have h3:=hS _ (key h1)
 rcases h2 with rfl | ⟨r,e,g1,g2,g3,g4⟩
 · exact h3.1 rfl
 · exact ((h3.2.2 r g1 e g2).2.2 g3).2 g4
theorem edK_ok {R:Nat} (hN:NetG N X R) {ev:Nat→Nat→Option (List Nat × Nat)} (hev:EvOk l N X R ev) {s p:Nat} {r:List Eg} (hr:N.es[s]?=some r) (hp:p≤l.length) (hR:Lk l N X lv F s p) :
 ∀ (es:List Eg) {st:S2} {o:Option S2},(∀ e ∈ es,e ∈ r)→KB l N X lv F st→edK ev l p es st=some o→(o=none→LkP l N X lv F l.length)∧∀ st',o=some st'→KS l N X lv F st st'∧∀ e ∈ es,EdK l N X st'.1 e p
 | [],st,o,_,h,e => by
  rw [edK] at e; cases e
  exact ⟨(fun q => by cases q),fun st' q => by cases q; exact ⟨.refl h,fun e he => by cases he⟩⟩
 | e :: es,st,o,hm,h,he => by
  have hem:=hm e (by simp)
  obtain ⟨k1,k2,k3,k4,k5,k6⟩:=hN.ed s _ hr _ hem
  have rest:=fun {st1:S2} (h1:KS l N X lv F st st1) (q:edK ev l p es st1=some o) (hd:EdK l N X st1.1 e p) => show (o=none→LkP l N X lv F l.length)∧∀ st',o=some st'→KS l N X lv F st st'∧∀ e' ∈ e :: es,EdK l N X st'.1 e' p from by
   obtain ⟨q1,q2⟩:=edK_ok hN hev hr hp hR es (fun e he => hm e (by simp [he])) h1.B q
   refine ⟨q1,fun st' hst => ?_⟩
   obtain ⟨h2,h3⟩:=q2 st' hst
   refine ⟨h1.trans h2,fun e' he' => ?_⟩
   rcases List.mem_cons.1 he' with rfl | he'
   · exact hd.mono h2.s
   · exact h3 e' he'
  rw [edK] at he
  split at he
  · rename_i c0
    obtain ⟨h1,h2⟩:=addP_ok h k4 hp (.free hR hr hem c0)
    exact rest h1 he ⟨fun _ => h2,fun q => by omega,fun q => by omega⟩
  rename_i c0
  split at he
  · rename_i c1
    split at he
    · rename_i c2
      have hlt:=(List.getElem?_eq_some_iff.1 c2).1
      obtain ⟨h1,h2⟩:=addP_ok (p:=p+1) h k4 hlt (.tok hR hr hem c1 c2)
      exact rest h1 he ⟨fun q => by omega,fun _ _ => h2,fun q => by omega⟩
    · rename_i c2
      exact rest (.refl h) he ⟨fun q => by omega,fun _ q => absurd q c2,fun q => by omega⟩
  rename_i c1
  have c2:e.kind=2:=by omega
  cases hq:ev e.num.toNat p with
  | none => rw [hq] at he; cases he
  | some v =>
   obtain ⟨js,f1⟩:=v
   rw [hq] at he
   dsimp only at he
   obtain ⟨a1,a2,a3⟩:=hev _ _ _ _ hq (k6 c2) hp
   split at he
   · rename_i q
     cases he
     refine ⟨fun _ => ⟨s,p,hR,.inr ⟨r,e,hr,hem,c2,q ▸ a3⟩⟩,fun st' q => by cases q⟩
   · rename_i q
     have hlt:f1 < l.length:=by omega
     obtain ⟨h1,h2⟩:=addPs_ok (js.map fun j => (e.to,j)) h fun x hx => by
      obtain ⟨j,hj,rfl⟩:=List.mem_map.1 hx
      obtain ⟨p1,hp1,hj⟩:=a1.snd j hj
      simp at hp1; rw [hp1] at hj
      exact ⟨k4,hj.len hp,.call hR hr hem c2 hj⟩
     exact rest h1 he ⟨fun q => by omega,fun q => by omega,fun _ => ⟨fun k hk => h2 _ (List.mem_map.2 ⟨k,a1.cmp hlt p (by simp) k hk,rfl⟩),fun hpg => by have:=a1.far hlt p (by simp) _ hpg; omega⟩⟩
theorem goK_ok {R:Nat} (hN:NetG N X R) {ev:Nat→Nat→Option (List Nat × Nat)} (hev:EvOk l N X R ev) (hlv:∀ n p x,x ∈ lv n p→x.2=p∧x.1 < N.es.length) :
 ∀ (n:Nat) {st:S2} {o:Bool},KB l N X lv F st→(∀ x ∈ F,x ∈ st.1)→(∀ x ∈ st.1,x ∈ st.2∨FnK l N X lv st.1 x)→goK ev N X l lv n st=some o→(o=true ↔ LkP l N X lv F l.length)
 | 0,_,_,_,_,_,e => by cases e
 | n+1,(S,todo),o,h,hF,hfin,e => by
  unfold goK at e
  cases todo with
  | nil =>
   cases e
   have:=fnK_not hF (fun x hx => (hfin x hx).resolve_left (by simp)) hN
   exact ⟨(fun q => by cases q),fun q => absurd q this⟩
  | cons x todo =>
   obtain ⟨s,p⟩:=x
   dsimp only at e h hF hfin
   obtain ⟨h1,h2,h3⟩:=h.in_ (s,p) (h.td _ (by simp))
   dsimp only at h1 h2 h3
   split at e
   · rename_i q
     cases e
     exact ⟨fun _ => ⟨s,p,h3,.inl q⟩,fun _ => rfl⟩
   rename_i hpl
   cases hr:N.es[s]? with
   | none => rw [hr] at e; cases e
   | some r =>
    rw [hr] at e
    dsimp only at e
    have hB:KB l N X lv F (S,todo):=⟨h.in_,fun x hx => h.td x (List.mem_cons_of_mem _ hx)⟩
    obtain ⟨st1,hst1,k1,k2⟩:∃ st1,st1=(if s=lvS N X s then addPs (lv (N.rule s).toNat p) (S,todo) else (S,todo))∧KS l N X lv F (S,todo) st1∧(s=lvS N X s→∀ y ∈ lv (N.rule s).toNat p,y ∈ st1.1):=by
     refine ⟨_,rfl,?_⟩
     split
     · rename_i q
       obtain ⟨a1,a2⟩:=addPs_ok (lv (N.rule s).toNat p) hB fun x hx => by
        obtain ⟨b1,b2⟩:=hlv _ _ _ hx
        exact ⟨b2,by omega,.leave h3 q hx⟩
       exact ⟨a1,fun _ => a2⟩
     · rename_i q
       exact ⟨.refl hB,fun e => absurd e q⟩
    rw [← hst1] at e
    cases hg:edK ev l p r st1 with
    | none => rw [hg] at e; cases e
    | some o2 =>
     rw [hg] at e
     obtain ⟨q1,q2⟩:=edK_ok hN hev hr h2 h3 r (fun _ h => h) k1.B hg
     cases o2 with
     | none => cases e; exact ⟨fun _ => q1 rfl,fun _ => rfl⟩
     | some st2 =>
      dsimp only at e
      obtain ⟨u1,u2⟩:=q2 st2 rfl
      have u:=k1.trans u1
      refine goK_ok hN hev hlv n u1.B (fun x hx => u.s x (hF x hx)) (fun x hx => ?_) e
      rcases u.n x hx with q | q
      · rcases hfin x q with q | q
        · rcases List.mem_cons.1 q with q | q
          · rw [q]
            exact .inr ⟨hpl,fun e y hy => u1.s _ (k2 e y hy),fun r' hr' e he => by dsimp only at hr'; rw [hr] at hr'; cases hr'; exact u2 e he⟩
          · exact .inl (u.t x q)
        · exact .inr (q.mono u.s)
      · exact .inl q
end
section
variable {l:List Int} {N:Nv} {X:Nx} {bh:Nat→List Nat}
def stX (N:Nv) (X:Nx) (l:List Int) (bh:Nat→List Nat) (F:List (Nat × Nat)):Option Bool:=goK (fun n p => goA N X l 1000 (X.ent n) (X.lve n) p) N X l (lvB bh) 100000 (F,F)
def alwX (N:Nv) (X:Nx) (l:List Int) (bh:Nat→List Nat) (e:Eg):Option Bool :=
 if e.kind=0 then stX N X l bh [(e.to,0)] else if l.length=0 then some true
 else if e.kind=2 then match goA N X l 1000 (X.ent e.num.toNat) (X.lve e.num.toNat) 0 with
  | none => none
  | some (js,f) => if f=l.length then some true else stX N X l bh (js.map fun j => (e.to,j))
 else if l[0]?=some e.num then stX N X l bh [(e.to,1)] else some false
theorem stX_ok {R:Nat} (hN:NetG N X R) (hb:∀ n,∀ s ∈ bh n,s < N.es.length) {F:List (Nat × Nat)} (hF:∀ x ∈ F,x.1 < N.es.length∧x.2≤l.length) {b:Bool} (h:stX N X l bh F=some b):b=true ↔ LkP l N X (lvB bh) F l.length :=
 goK_ok (lv:=lvB bh) (F:=F) hN (fun n p js f e hn hp => goA_ok hN 1000 (hN.en n hn).1 hp e) (fun n p x hx => ⟨lvB_at bh n p x hx,by obtain ⟨s,hs,rfl⟩:=List.mem_map.1 hx; exact hb n s hs⟩) 100000
  ⟨fun x hx => ⟨(hF x hx).1,(hF x hx).2,.start hx⟩,fun _ h => h⟩ (fun _ h => h) (fun x hx => .inl hx) h
theorem alwX_ok {R:Nat} (hN:NetG N X R) (hb:∀ n,∀ s ∈ bh n,s < N.es.length) {s:Nat} {r:List Eg} {e:Eg} (hr:N.es[s]?=some r) (he:e ∈ r) {b:Bool} (h:alwX N X l bh e=some b):b=true ↔ AlwP l N X bh e:=by
 obtain ⟨k1,k2,k3,k4,k5,k6⟩:=hN.ed s _ hr _ he
 unfold alwX at h
 unfold AlwP
 split at h
 · rename_i c0
   rw [stX_ok hN hb (by simp; exact k4) h]
   exact ⟨fun q => .inl ⟨c0,q⟩,fun q => by
    rcases q with ⟨-,q⟩ | ⟨q,-⟩ | ⟨q,-⟩ | ⟨q,-⟩
    · exact q
    all_goals omega⟩
 rename_i c0
 split at h
 · rename_i c1
   cases h
   exact ⟨fun _ => .inr (.inl ⟨c0,c1⟩),fun _ => rfl⟩
 rename_i c1
 split at h
 · rename_i c2
   split at h
   · cases h
   · rename_i js f hq
     obtain ⟨a1,a2,a3⟩:=goA_ok hN 1000 (hN.en _ (k6 c2)).1 (Nat.zero_le _) hq
     split at h
     · rename_i q
       cases h
       exact ⟨fun _ => .inr (.inr (.inl ⟨c2,.inl (q ▸ a3)⟩)),fun _ => rfl⟩
     · rename_i q
       have hlt:f < l.length:=by omega
       rw [stX_ok hN hb (fun x hx => by
        obtain ⟨j,hj,rfl⟩:=List.mem_map.1 hx
        obtain ⟨p1,hp1,hj⟩:=a1.snd j hj
        simp at hp1; rw [hp1] at hj
        exact ⟨k4,hj.len (Nat.zero_le _)⟩) h]
       constructor
       · intro u
         obtain ⟨x,hx,u⟩:=u.one
         obtain ⟨j,hj,rfl⟩:=List.mem_map.1 hx
         obtain ⟨p1,hp1,hj⟩:=a1.snd j hj
         simp at hp1; rw [hp1] at hj
         exact .inr (.inr (.inl ⟨c2,.inr ⟨j,hj,u⟩⟩))
       · intro u
         rcases u with ⟨u,-⟩ | ⟨-,u⟩ | ⟨-,u⟩ | ⟨-,u,-⟩
         · exact absurd u c0
         · exact absurd u c1
         · rcases u with u | ⟨k,u1,u2⟩
           · have:=a1.far hlt 0 (by simp) _ u; omega
           · exact u2.more fun x hx => by
              simp at hx; subst hx
              exact List.mem_map.2 ⟨k,a1.cmp hlt 0 (by simp) k u1,rfl⟩
         · exact absurd c2 u
 · rename_i c2
   split at h
   · rename_i c3
     rw [stX_ok hN hb (by simp; exact ⟨k4,by omega⟩) h]
     exact ⟨fun q => .inr (.inr (.inr ⟨c0,c2,c3,q⟩)),fun q => by
      rcases q with ⟨q,-⟩ | ⟨-,q⟩ | ⟨q,-⟩ | ⟨-,-,-,q⟩
      · exact absurd q c0
      · exact absurd q c1
      · exact absurd q c2
      · exact q⟩
   · rename_i c3
     cases h
     exact ⟨(fun q => by cases q),fun q => by
      rcases q with ⟨q,-⟩ | ⟨-,q⟩ | ⟨q,-⟩ | ⟨-,-,q,-⟩
      · exact absurd q c0
      · exact absurd q c1
      · exact absurd q c2
      · exact absurd q c3⟩
def waysX (N:Nv) (X:Nx) (l:List Int) (bh:Nat→List Nat):List Eg→Nat→Option (List Nat)
 | [],_ => some []
 | e :: es,i => match alwX N X l bh e,waysX N X l bh es (i+1) with
  | some b,some r => some (if b then i :: r else r)
  | _,_ => none
theorem waysX_go {R:Nat} (hN:NetG N X R) (hb:∀ n,∀ s ∈ bh n,s < N.es.length) {s:Nat} {r:List Eg} (hr:N.es[s]?=some r):∀ (es:List Eg) (i:Nat) (js:List Nat),r.drop i=es→waysX N X l bh es i=some js →
 js.Pairwise (· < ·)∧∀ j,j ∈ js ↔ i≤j∧∃ e,r[j]?=some e∧AlwP l N X bh e
 | [],i,js,hd,h => by
  rw [waysX] at h; cases h
  refine ⟨.nil,fun j => ⟨(fun q => by cases q),?_⟩⟩
  rintro ⟨h1,e,h2,-⟩
  have:=(List.getElem?_eq_some_iff.1 h2).1
  rw [List.drop_eq_nil_iff] at hd; omega
 | e :: es,i,js,hd,h => by
  have hil:i < r.length:=by
   rcases Nat.lt_or_ge i r.length with q | q
   · exact q
   · rw [List.drop_eq_nil_of_le q] at hd; cases hd
  have hd2:=hd
  rw [List.drop_eq_getElem_cons hil] at hd2
  injection hd2 with he hes
  have hge:r[i]?=some e:=by rw [List.getElem?_eq_getElem hil,he]
  rw [waysX] at h
  split at h
  · rename_i b jr h1 h2
    obtain ⟨q1,q2⟩:=waysX_go hN hb hr es (i+1) jr hes h2
    have hb1:=alwX_ok hN hb hr (List.mem_of_getElem? hge) h1
    cases h
    cases b with
    | true =>
     rw [if_pos rfl]
     refine ⟨List.pairwise_cons.2 ⟨fun j hj => ((q2 j).1 hj).1,q1⟩,fun j => ?_⟩
     rw [List.mem_cons,q2]
     constructor
     · rintro (rfl | ⟨h1,h2⟩)
       · exact ⟨Nat.le_refl _,e,hge,hb1.1 rfl⟩
       · exact ⟨by omega,h2⟩
     · rintro ⟨h1,h2⟩
       rcases Nat.lt_or_ge i j with q | q
       · exact .inr ⟨q,h2⟩
       · exact .inl (by omega)
    | false =>
     rw [if_neg (by simp)]
     refine ⟨q1,fun j => ?_⟩
     rw [q2]
     constructor
     · rintro ⟨h1,h2⟩; exact ⟨by omega,h2⟩
     · rintro ⟨u1,e',u2,u3⟩
       rcases Nat.lt_or_ge i j with q | q
       · exact ⟨q,e',u2,u3⟩
       · exfalso
         have hji:j=i:=by omega
         rw [hji,hge] at u2; cases u2
         have:=hb1.2 u3
         cases this
  · cases h
theorem inc_ext:∀ {a b:List Nat},a.Pairwise (· < ·)→b.Pairwise (· < ·)→(∀ j,j ∈ a ↔ j ∈ b)→a=b
 | [],[],_,_,_ => rfl
 | [],y :: b,_,_,h => absurd ((h y).2 (by simp)) (by simp)
 | x :: a,[],_,_,h => absurd ((h x).1 (by simp)) (by simp)
 | x :: a,y :: b,h1,h2,h => by
  rw [List.pairwise_cons] at h1 h2
  have hxy:x=y:=by
   have q1:=(h x).1 (by simp)
   have q2:=(h y).2 (by simp)
   rw [List.mem_cons] at q1 q2
   rcases q1 with q1 | q1
   · exact q1
   · rcases q2 with q2 | q2
     · exact q2.symm
     · have:=h2.1 _ q1; have:=h1.1 _ q2; omega
  subst hxy
  congr 1
  refine inc_ext h1.2 h2.2 fun j => ⟨fun hj => ?_,fun hj => ?_⟩
  · have:=(h j).1 (by simp [hj])
    rw [List.mem_cons] at this
    rcases this with q | q
    · have:=h1.1 _ hj; omega
    · exact q
  · have:=(h j).2 (by simp [hj])
    rw [List.mem_cons] at this
    rcases this with q | q
    · have:=h2.1 _ hj; omega
    · exact q
theorem waysX_ok {R:Nat} (hN:NetG N X R) (hb:∀ n,∀ s ∈ bh n,s < N.es.length) {rch:Nat→Bool} {s:Nat} {r:List Eg} (hr:N.es[s]?=some r) (hc:rch (N.rule s).toNat=true) {js:List Nat} (h:waysX N X l bh r 0=some js):waysP l N X bh rch s=js:=by
 obtain ⟨q1,q2⟩:=waysX_go hN hb hr r 0 js rfl h
 refine inc_ext waysP_inc q1 fun j => ?_
 rw [waysP_mem,q2]
 constructor
 · rintro ⟨-,r',e,h1,h2,h3⟩
   rw [hr] at h1; cases h1
   exact ⟨Nat.zero_le _,e,h2,h3⟩
 · rintro ⟨-,e,h2,h3⟩; exact ⟨hc,r,e,hr,h2,h3⟩
end
end Go.Am

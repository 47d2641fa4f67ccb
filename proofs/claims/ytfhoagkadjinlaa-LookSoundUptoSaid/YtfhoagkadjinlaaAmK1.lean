/- Part K1 of a proof that runs a program's calls on a small machine whose values bear no addresses: no conditions. -/
import Derived.Test.YtfhoagkadjinlaaAmD1
set_option autoImplicit false
set_option linter.unusedSimpArgs false
set_option linter.unusedVariables false
set_option linter.unusedSectionVars false
namespace Go.Am
open Go Go.Proofs
def Nx.ent (X:Nx) (n:Nat):Nat:=(X.en.getD n 0).toNat
def Nx.lve (X:Nx) (n:Nat):Nat:=(X.lv.getD n 0).toNat
def lvS (N:Nv) (X:Nx) (s:Nat):Nat:=X.lve (N.rule s).toNat
inductive Rn (l:List Int) (N:Nv) (X:Nx):Nat→Nat→Nat→Nat→Prop
 | refl (s i:Nat):Rn l N X s i s i
 | free {a i s p:Nat} {r:List Eg} {e:Eg}:Rn l N X a i s p→N.es[s]?=some r→e ∈ r→e.kind=0→Rn l N X a i e.to p
 | tok {a i s p:Nat} {r:List Eg} {e:Eg}:Rn l N X a i s p→N.es[s]?=some r→e ∈ r→e.kind=1→l[p]?=some e.num→Rn l N X a i e.to (p+1)
 | call {a i s p k:Nat} {r:List Eg} {e:Eg}:Rn l N X a i s p→N.es[s]?=some r→e ∈ r→e.kind=2→Rn l N X (X.ent e.num.toNat) p (X.lve e.num.toNat) k→Rn l N X a i e.to k
inductive Pg (l:List Int) (N:Nv) (X:Nx):Nat→Nat→Nat→Prop
 | here {a i s p:Nat}:Rn l N X a i s p→Pg l N X a i p
 | call {a i s p k:Nat} {r:List Eg} {e:Eg}:Rn l N X a i s p→N.es[s]?=some r→e ∈ r→e.kind=2→Pg l N X (X.ent e.num.toNat) p k→Pg l N X a i k
def PgB (l:List Int) (N:Nv) (X:Nx):Nat→List Nat→Nat→Nat→Prop
 | a,[],i,k => Pg l N X a i k
 | a,b :: B,i,k => Pg l N X a i k∨∃ j,Rn l N X a i (lvS N X a) j∧PgB l N X b B j k
inductive Gw (l:List Int) (N:Nv) (X:Nx):Nat→List Nat→Nat→Nat→Prop
 | here (s:Nat) (B:List Nat) (i:Nat):Gw l N X s B i i
 | free {s i k:Nat} {B:List Nat} {r:List Eg} {e:Eg}:N.es[s]?=some r→e ∈ r→e.kind=0→Gw l N X e.to B i k→Gw l N X s B i k
 | tok {s i k:Nat} {B:List Nat} {r:List Eg} {e:Eg}:N.es[s]?=some r→e ∈ r→e.kind=1→l[i]?=some e.num→Gw l N X e.to B (i+1) k→Gw l N X s B i k
 | call {s i k:Nat} {B:List Nat} {r:List Eg} {e:Eg}:N.es[s]?=some r→e ∈ r→e.kind=2→Gw l N X (X.ent e.num.toNat) (e.to :: B) i k→Gw l N X s B i k
 | leave {s b i k:Nat} {B:List Nat}:s=lvS N X s→Gw l N X b B i k→Gw l N X s (b :: B) i k
structure NetG (N:Nv) (X:Nx) (R:Nat):Prop where
 ed:∀ (s:Nat) (r:List Eg),N.es[s]?=some r→∀ e ∈ r,0≤e.kind∧e.kind≤2∧0≤e.num∧e.to < N.es.length∧N.rule e.to=N.rule s∧(e.kind=2→e.num.toNat < R)
 en:∀ k,k < R→X.ent k < N.es.length∧X.en.getD k 0=(X.ent k:Int)∧N.rule (X.ent k)=k
 lv:∀ k,k < R→X.lve k < N.es.length∧X.lv.getD k 0=(X.lve k:Int)∧N.rule (X.lve k)=k
 lv0:∀ k,k < R→N.es[X.lve k]?=some []
 row:∀ s,N.es[s]?=some []→s=lvS N X s
 rr:∀ s,s < N.es.length→0≤N.rule s∧(N.rule s).toNat < R
 one:∀ (s:Nat) (r:List Eg),N.es[s]?=some r→r.length≤1∨∀ e ∈ r,e.kind=0
 enl:X.en.length=R
 lvl:X.lv.length=R
 rl:N.rs.length=N.es.length
theorem newN_G {g:Gr} (h:GOk g):NetG (newN g).N (newX g) g.rules.length:=by
 have w:=newN_W h
 have hbl:g.bodies.length=g.rules.length:=by rw [Gr.bodies,List.length_map]
 have hx:∀ k,k < g.rules.length→(newX g).ent k < (newN g).N.es.length∧(newX g).en.getD k 0=((newX g).ent k:Int)∧(newN g).N.rule ((newX g).ent k)=k:=fun k hk => by
  obtain ⟨s,h1,h2,h3⟩:=w.ene k hk
  have:(newX g).ent k=s:=by unfold Nx.ent; rw [show (newX g).en=(newN g).en from rfl,h2]; rfl
  rw [this]
  exact ⟨h1,h2,h3⟩
 have hy:∀ k,k < g.rules.length→(newX g).lve k < (newN g).N.es.length∧(newX g).lv.getD k 0=((newX g).lve k:Int)∧(newN g).N.rule ((newX g).lve k)=k∧(newN g).N.es[(newX g).lve k]?=some []:=fun k hk => by
  obtain ⟨s,h1,h2,h3,h4⟩:=w.lve k hk
  have:(newX g).lve k=s:=by unfold Nx.lve; rw [show (newX g).lv=(newN g).lv from rfl,h2]; rfl
  rw [this]
  exact ⟨h1,h2,h3,h4⟩
 refine ⟨fun s r hs e he => ?_,hx,fun k hk => ⟨(hy k hk).1,(hy k hk).2.1,(hy k hk).2.2.1⟩,fun k hk => (hy k hk).2.2.2,fun s hs => ?_,fun s hs => ?_,fun s r hs => (w.row s r hs).2.1,w.enl,w.lvl,w.rl⟩
 · obtain ⟨-,-,h3⟩:=w.row s r hs
   obtain ⟨⟨a1,a2,a3,a4,a5⟩,h4,h5⟩:=h3 e he
   exact ⟨a1,a2,a3,h4,h5,fun hk => by have:=a4 hk; omega⟩
 · have h1:=(w.row s [] hs).1 rfl
   unfold lvS Nx.lve
   rw [show (newX g).lv=(newN g).lv from rfl,← h1]; rfl
 · have:=w.rr s hs
   omega
section
variable {l:List Int} {N:Nv} {X:Nx}
theorem Rn.le {a i s p:Nat} (h:Rn l N X a i s p):i≤p:=by
 induction h with
 | refl => exact Nat.le_refl _
 | free _ _ _ _ ih => exact ih
 | tok _ _ _ _ _ ih => omega
 | call _ _ _ _ _ ih1 ih2 => omega
theorem Rn.len {a i s p:Nat} (h:Rn l N X a i s p):i≤l.length→p≤l.length:=by
 induction h with
 | refl => exact id
 | free _ _ _ _ ih => exact ih
 | tok _ _ _ _ ht ih => intro _; have:=(List.getElem?_eq_some_iff.1 ht).1; omega
 | call _ _ _ _ _ ih1 ih2 => exact fun hi => ih2 (ih1 hi)
theorem Rn.trans {a i s p t k:Nat} (h:Rn l N X a i s p) (h2:Rn l N X s p t k):Rn l N X a i t k:=by
 induction h2 with
 | refl => exact h
 | free _ h1 h2 h3 ih => exact .free (ih h) h1 h2 h3
 | tok _ h1 h2 h3 h4 ih => exact .tok (ih h) h1 h2 h3 h4
 | call _ h1 h2 h3 h4 ih _ => exact .call (ih h) h1 h2 h3 h4
theorem Rn.rule {R:Nat} (hN:NetG N X R) {a i s p:Nat} (h:Rn l N X a i s p):N.rule s=N.rule a:=by
 induction h with
 | refl => rfl
 | free _ h1 h2 h3 ih => rw [(hN.ed _ _ h1 _ h2).2.2.2.2.1,ih]
 | tok _ h1 h2 h3 h4 ih => rw [(hN.ed _ _ h1 _ h2).2.2.2.2.1,ih]
 | call _ h1 h2 h3 h4 ih _ => rw [(hN.ed _ _ h1 _ h2).2.2.2.2.1,ih]
theorem Rn.lt {R:Nat} (hN:NetG N X R) {a i s p:Nat} (h:Rn l N X a i s p) (ha:a < N.es.length):s < N.es.length:=by
 cases h with
 | refl => exact ha
 | free _ h1 h2 h3 => exact (hN.ed _ _ h1 _ h2).2.2.2.1
 | tok _ h1 h2 h3 h4 => exact (hN.ed _ _ h1 _ h2).2.2.2.1
 | call _ h1 h2 h3 h4 => exact (hN.ed _ _ h1 _ h2).2.2.2.1
theorem Pg.le {a i k:Nat} (h:Pg l N X a i k):i≤k:=by
 induction h with
 | here h => exact h.le
 | call h _ _ _ _ ih => have:=h.le; omega
theorem Pg.len {a i k:Nat} (h:Pg l N X a i k):i≤l.length→k≤l.length:=by
 induction h with
 | here h => exact h.len
 | call h _ _ _ _ ih => exact fun hi => ih (h.len hi)
theorem Pg.pre {a i s p k:Nat} (h:Rn l N X a i s p) (h2:Pg l N X s p k):Pg l N X a i k:=by
 cases h2 with
 | here h2 => exact .here (h.trans h2)
 | call h2 h3 h4 h5 h6 => exact .call (h.trans h2) h3 h4 h5 h6
theorem PgB.pre {R:Nat} (hN:NetG N X R) {a i s p k:Nat} (h:Rn l N X a i s p):∀ {B:List Nat},PgB l N X s B p k→PgB l N X a B i k
 | [],h2 => Pg.pre h h2
 | b :: B,.inl h2 => .inl (h2.pre h)
 | b :: B,.inr ⟨j,h2,h3⟩ => .inr ⟨j,by
  have e:lvS N X s=lvS N X a:=by unfold lvS; rw [h.rule hN]
  rw [e] at h2; exact h.trans h2,h3⟩
theorem Gw.to {R:Nat} (hN:NetG N X R) {s i k:Nat} {B:List Nat} (h:Gw l N X s B i k):PgB l N X s B i k:=by
 induction h with
 | here s B i =>
  cases B with
  | nil => exact Pg.here (.refl s i)
  | cons b B => exact .inl (Pg.here (.refl s i))
 | free h1 h2 h3 _ ih => exact ih.pre hN (.free (.refl _ _) h1 h2 h3)
 | tok h1 h2 h3 h4 _ ih => exact ih.pre hN (.tok (.refl _ _) h1 h2 h3 h4)
 | @call s i k B r e h1 h2 h3 _ ih =>
  have hr:=(hN.ed _ _ h1 _ h2).2.2.2.2.2 h3
  rcases ih with ih | ⟨j,ih1,ih2⟩
  · have q:Pg l N X s i k:=.call (.refl _ _) h1 h2 h3 ih
    cases B with
    | nil => exact q
    | cons b B => exact .inl q
  · have e1:lvS N X (X.ent e.num.toNat)=X.lve e.num.toNat:=by unfold lvS; rw [(hN.en _ hr).2.2]; rfl
    rw [e1] at ih1
    exact ih2.pre hN (.call (.refl _ _) h1 h2 h3 ih1)
 | @leave s b i k B h1 _ ih => exact .inr ⟨i,by rw [← h1]; exact .refl _ _,ih⟩
theorem Gw.run {R:Nat} (hN:NetG N X R) {a i s p:Nat} (h:Rn l N X a i s p):∀ (B:List Nat) (k:Nat),Gw l N X s B p k→Gw l N X a B i k:=by
 induction h with
 | refl => exact fun _ _ h => h
 | free _ h1 h2 h3 ih => exact fun B k h => ih B k (.free h1 h2 h3 h)
 | tok _ h1 h2 h3 h4 ih => exact fun B k h => ih B k (.tok h1 h2 h3 h4 h)
 | @call a i s p j r e _ h1 h2 h3 h4 ih1 ih2 =>
  intro B k h
  have hr:=(hN.ed _ _ h1 _ h2).2.2.2.2.2 h3
  have e1:lvS N X (X.lve e.num.toNat)=X.lve e.num.toNat:=by unfold lvS; rw [(hN.lv _ hr).2.2]; rfl
  exact ih1 B k (.call h1 h2 h3 (ih2 _ _ (.leave e1.symm h)))
theorem Gw.pg {R:Nat} (hN:NetG N X R) {a i k:Nat} (h:Pg l N X a i k):∀ B:List Nat,Gw l N X a B i k:=by
 induction h with
 | here h => exact fun B => Gw.run hN h B _ (.here _ _ _)
 | call h h1 h2 h3 _ ih => exact fun B => Gw.run hN h B _ (.call h1 h2 h3 (ih _))
theorem Gw.of {R:Nat} (hN:NetG N X R) {k:Nat}:∀ {B:List Nat} {a i:Nat},a < N.es.length→(∀ b ∈ B,b < N.es.length)→PgB l N X a B i k→Gw l N X a B i k
 | [],a,i,_,_,h => Gw.pg hN h []
 | b :: B,a,i,_,_,.inl h => Gw.pg hN h _
 | b :: B,a,i,ha,hB,.inr ⟨j,h1,h2⟩ => by
  refine Gw.run hN h1 _ _ (.leave ?_ (Gw.of hN (hB b (by simp)) (fun b' hb => hB b' (by simp [hb])) h2))
  have hr:=(hN.rr a ha).2
  show lvS N X a=lvS N X (lvS N X a)
  unfold lvS
  rw [(hN.lv _ hr).2.2,Int.toNat_natCast]
end
end Go.Am

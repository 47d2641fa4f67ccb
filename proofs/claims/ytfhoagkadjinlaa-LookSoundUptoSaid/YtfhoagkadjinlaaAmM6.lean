/- Part M6 of a proof that runs a program's calls on a small machine whose values bear no addresses: no conditions. -/
import Derived.Test.YtfhoagkadjinlaaAmM5
set_option autoImplicit false
set_option linter.unusedSimpArgs false
set_option linter.unusedVariables false
set_option linter.unusedSectionVars false
namespace Go.Am
structure Frag (G:Eg→Prop) (N:Nv) (f t:Nat) (N':Nv) (o:List Eg) (P:(Nat→Int)→Prop):Prop where
 fl:f < N.es.length
 tl:t < N.es.length
 rl:N.rs.length=N.es.length
 len:N.es.length≤N'.es.length
 rs:N'.rs=N.rs ++ List.replicate (N'.es.length - N.es.length) (N.rule f)
 old:∀ s,s < N.es.length→s≠f→N'.es[s]?=N.es[s]?
 out:∀ r,N.es[f]?=some r→N'.es[f]?=some (r ++ o)
 og:∀ e ∈ o,G e∧(e.to=t∨e.to=f∨(N.es.length≤e.to∧e.to < N'.es.length))
 new:∀ s,N.es.length≤s→s < N'.es.length→∃ r,N'.es[s]?=some r∧r≠[]∧(r.length=1∨∀ e ∈ r,e.kind=0)∧∀ e ∈ r,G e∧(e.to=t∨e.to=f∨(N.es.length≤e.to∧e.to < N'.es.length))
 loc:∀ ρ ρ':Nat→Int,ρ f=ρ' f→ρ t=ρ' t→P ρ→P ρ'
 pot:∀ ρ0,P ρ0→∃ ρ:Nat→Int,(∀ s,s < N.es.length→ρ s=ρ0 s)∧(∀ e ∈ o,e.kind=0→ρ e.to < ρ f)∧∀ s r,N.es.length≤s→N'.es[s]?=some r→∀ e ∈ r,e.kind=0→ρ e.to < ρ s
section
variable {G:Eg→Prop} {N N1 N2 N3:Nv} {f t s:Nat} {o o1 o2:List Eg} {P P1 P2:(Nat→Int)→Prop}
theorem Frag.rl' (h:Frag G N f t N1 o P):N1.rs.length=N1.es.length:=by
 rw [h.rs,List.length_append,List.length_replicate,h.rl]; have:=h.len; omega
theorem Frag.mono (h:Frag G N f t N1 o P) {Q:(Nat→Int)→Prop} (hl:∀ ρ ρ':Nat→Int,ρ f=ρ' f→ρ t=ρ' t→Q ρ→Q ρ') (hq:∀ ρ,Q ρ→P ρ):Frag G N f t N1 o Q :=
 { h with loc:=hl,pot:=fun ρ0 h0 => h.pot ρ0 (hq ρ0 h0) }
theorem frag_edge {k n:Int} (hf:f < N.es.length) (ht:t < N.es.length) (hr:N.rs.length=N.es.length) (hg:G ⟨k,n,t⟩):Frag G N f t (N.edge f k n t) [⟨k,n,t⟩] (fun ρ => k=0→ρ t < ρ f) where
 fl:=hf
 tl:=ht
 rl:=hr
 len:=by rw [Nv.es_edge]; exact Nat.le_refl _
 rs:=by rw [Nv.es_edge,Nat.sub_self]; simp [Nv.edge]
 old s hs hne:=by simp [Nv.edge,List.getElem?_modify,Ne.symm hne]
 out r hr:=by simp [Nv.edge,List.getElem?_modify,hr]
 og e he:=by simp at he; subst he; exact ⟨hg,.inl rfl⟩
 new s h1 h2:=by rw [Nv.es_edge] at h2; omega
 loc ρ ρ' h1 h2 h:=by rw [← h1,← h2]; exact h
 pot ρ0 h:=⟨ρ0,fun _ _ => rfl,fun e he hk => by simp at he; subst he; exact h hk,fun s r h1 h2 => by
  have:=(List.getElem?_eq_some_iff.1 h2).1; rw [Nv.es_edge] at this; omega⟩
theorem frag_par {t1 t2:Nat} (h1:Frag G N f t1 N1 o1 P1) (h2:Frag G N1 f t2 N2 o2 P2) (e1:t1=t∨t1=f) (e2:t2=t∨t2=f) (ht:t < N.es.length):Frag G N f t N2 (o1 ++ o2) (fun ρ => P1 ρ∧P2 ρ) where
 fl:=h1.fl
 tl:=ht
 rl:=h1.rl
 len:=Nat.le_trans h1.len h2.len
 rs:=by
  have hr:N1.rule f=N.rule f:=by
   unfold Nv.rule
   rw [h1.rs,List.getD_eq_getElem?_getD,List.getElem?_append_left (by rw [h1.rl]; exact h1.fl),← List.getD_eq_getElem?_getD]
  rw [h2.rs,h1.rs,List.append_assoc,hr]
  have a:=h1.len; have b:=h2.len
  rw [List.replicate_append_replicate,show N1.es.length - N.es.length+(N2.es.length - N1.es.length)=N2.es.length - N.es.length by omega]
 old s hs hne:=by rw [h2.old s (Nat.lt_of_lt_of_le hs h1.len) hne,h1.old s hs hne]
 out r hr:=by rw [h2.out _ (h1.out r hr),List.append_assoc]
 og e he:=by
  have a:=h1.len; have b:=h2.len
  rcases List.mem_append.1 he with he | he
  · obtain ⟨g1,g2⟩:=h1.og e he
    refine ⟨g1,?_⟩
    rcases g2 with g | g | g
    · rcases e1 with e1 | e1 <;> rw [e1] at g <;> omega
    · omega
    · omega
  · obtain ⟨g1,g2⟩:=h2.og e he
    refine ⟨g1,?_⟩
    rcases g2 with g | g | g
    · rcases e2 with e2 | e2 <;> rw [e2] at g <;> omega
    · omega
    · omega
 new s hs1 hs2:=by
  have a:=h1.len; have b:=h2.len
  rcases Nat.lt_or_ge s N1.es.length with h | h
  · obtain ⟨r,r1,r2,r3,r4⟩:=h1.new s hs1 h
    refine ⟨r,by rw [h2.old s h (by have:=h1.fl; omega)]; exact r1,r2,r3,fun e he => ?_⟩
    obtain ⟨g1,g2⟩:=r4 e he
    refine ⟨g1,?_⟩
    rcases g2 with g | g | g
    · rcases e1 with e1 | e1 <;> rw [e1] at g <;> omega
    · omega
    · omega
  · obtain ⟨r,r1,r2,r3,r4⟩:=h2.new s h hs2
    refine ⟨r,r1,r2,r3,fun e he => ?_⟩
    obtain ⟨g1,g2⟩:=r4 e he
    refine ⟨g1,?_⟩
    rcases g2 with g | g | g
    · rcases e2 with e2 | e2 <;> rw [e2] at g <;> omega
    · omega
    · omega
 loc ρ ρ' hf ht h:=⟨h1.loc ρ ρ' hf (by rcases e1 with e | e <;> rw [e] <;> assumption) h.1,h2.loc ρ ρ' hf (by rcases e2 with e | e <;> rw [e] <;> assumption) h.2⟩
 pot ρ0 h:=by
  have hfl:=h1.fl
  obtain ⟨ρ1,a1,a2,a3⟩:=h1.pot ρ0 h.1
  obtain ⟨ρ2,b1,b2,b3⟩:=h2.pot ρ1 (h2.loc ρ0 ρ1 (a1 _ h1.fl).symm (by rcases e2 with e | e <;> rw [e] <;> exact (a1 _ (by omega)).symm) h.2)
  have hlen:=h1.len
  have tgt:∀ e:Eg,(e.to=t1∨e.to=f∨(N.es.length≤e.to∧e.to < N1.es.length))→ρ2 e.to=ρ1 e.to:=fun e g => b1 _ (by
   rcases g with g | g | g
   · rcases e1 with e | e <;> omega
   · omega
   · omega)
  refine ⟨ρ2,fun s hs => (b1 s (by omega)).trans (a1 s hs),fun e he hk => ?_,fun s r hs1 hs2 e he hk => ?_⟩
  · rcases List.mem_append.1 he with he | he
    · rw [tgt e (h1.og e he).2,b1 f (by omega)]; exact a2 e he hk
    · exact b2 e he hk
  · rcases Nat.lt_or_ge s N1.es.length with hs | hs
    · obtain ⟨r',r1,r2,r3,r4⟩:=h1.new s hs1 hs
      rw [h2.old s hs (by omega),r1] at hs2
      cases hs2
      rw [tgt e (r4 e he).2,b1 s hs]; exact a3 s _ hs1 r1 e he hk
    · exact b3 s r hs hs2 e he hk
def upd (ρ:Nat→Int) (s:Nat) (m:Int):Nat→Int:=fun j => if j=s then m else ρ j
theorem upd_eq {ρ:Nat→Int} {m:Int}:upd ρ s m s=m:=if_pos rfl
theorem upd_ne {ρ:Nat→Int} {m:Int} {j:Nat} (h:j≠s):upd ρ s m j=ρ j:=if_neg h
theorem frag_seq (h1:Frag G (N.fresh (N.rule f)) f N.es.length N1 o1 P1) (h2:Frag G N1 N.es.length t N2 o2 P2) (hr:N.rs.length=N.es.length) (hf:f < N.es.length) (ht:t < N.es.length) (h0:o2≠[]) (hg:o2.length=1∨∀ e ∈ o2,e.kind=0) :
 Frag G N f t N2 o1 (fun ρ => ∃ m,P1 (upd ρ N.es.length m)∧P2 (upd ρ N.es.length m)):=by
 have l0:=Nv.es_fresh N (N.rule f)
 have l1:=h1.len
 have l2:=h2.len
 have ges:∀ s,s < N.es.length→(N.fresh (N.rule f)).es[s]?=N.es[s]?:=fun s hs => by
  simp only [Nv.fresh]; rw [List.getElem?_append_left hs]
 have gnew:(N.fresh (N.rule f)).es[N.es.length]?=some []:=by
  simp [Nv.fresh]
 have gs1:N1.es[N.es.length]?=some []:=by rw [h1.old _ (by omega) (by omega)]; exact gnew
 have gs2:N2.es[N.es.length]?=some o2:=by rw [h2.out _ gs1]; rfl
 refine ⟨hf,ht,hr,by omega,?_,fun s hs hne => ?_,fun r hr' => ?_,fun e he => ?_,fun s hs1 hs2 => ?_,fun ρ ρ' e1 e2 h => ?_,fun ρ0 h => ?_⟩
 · have r1:(N.fresh (N.rule f)).rule f=N.rule f:=by
    unfold Nv.rule Nv.fresh
    dsimp only
    rw [List.getD_eq_getElem?_getD,List.getElem?_append_left (by omega),← List.getD_eq_getElem?_getD]
   have r2:N1.rule N.es.length=N.rule f:=by
    unfold Nv.rule
    rw [h1.rs,List.getD_eq_getElem?_getD,List.getElem?_append_left (by simp [Nv.fresh,hr])]
    simp only [Nv.fresh]
    rw [List.getElem?_append_right (by omega),hr,Nat.sub_self]; rfl
   rw [h2.rs,h1.rs,r1,r2]
   have:(N.fresh (N.rule f)).rs=N.rs ++ List.replicate 1 (N.rule f):=rfl
   rw [this,List.append_assoc,List.append_assoc,List.replicate_append_replicate,List.replicate_append_replicate,l0]
   congr 2
   omega
 · rw [h2.old s (by omega) (by omega),h1.old s (by omega) hne,ges s hs]
 · rw [h2.old f (by omega) (by omega)]
   exact h1.out r (by rw [ges f hf]; exact hr')
 · obtain ⟨g1,g2⟩:=h1.og e he
   exact ⟨g1,by rcases g2 with g | g | g <;> omega⟩
 · rcases Nat.lt_or_ge s N1.es.length with h | h
   · by_cases hsn:s=N.es.length
     · subst hsn
       refine ⟨o2,gs2,h0,hg,fun e he => ?_⟩
       obtain ⟨g1,g2⟩:=h2.og e he
       exact ⟨g1,by rcases g2 with g | g | g <;> omega⟩
     · obtain ⟨r,r1,r2,r3,r4⟩:=h1.new s (by omega) h
       refine ⟨r,by rw [h2.old s h hsn]; exact r1,r2,r3,fun e he => ?_⟩
       obtain ⟨g1,g2⟩:=r4 e he
       exact ⟨g1,by rcases g2 with g | g | g <;> omega⟩
   · obtain ⟨r,r1,r2,r3,r4⟩:=h2.new s h hs2
     refine ⟨r,r1,r2,r3,fun e he => ?_⟩
     obtain ⟨g1,g2⟩:=r4 e he
     exact ⟨g1,by rcases g2 with g | g | g <;> omega⟩
 · obtain ⟨m,m1,m2⟩:=h
   exact ⟨m,h1.loc _ _ (by rw [upd_ne (by omega),upd_ne (by omega)]; exact e1) (by rw [upd_eq,upd_eq]) m1,h2.loc _ _ (by rw [upd_eq,upd_eq]) (by rw [upd_ne (by omega),upd_ne (by omega)]; exact e2) m2⟩
 · obtain ⟨m,m1,m2⟩:=h
   obtain ⟨ρ1,a1,a2,a3⟩:=h1.pot _ m1
   obtain ⟨ρ2,b1,b2,b3⟩:=h2.pot ρ1 (h2.loc _ _ (a1 _ (by omega)).symm (a1 _ (by omega)).symm m2)
   have tgt:∀ e:Eg,(e.to=N.es.length∨e.to=f∨((N.fresh (N.rule f)).es.length≤e.to∧e.to < N1.es.length))→ρ2 e.to=ρ1 e.to:=fun e g => b1 _ (by rcases g with g | g | g <;> omega)
   refine ⟨ρ2,fun s hs => by rw [b1 s (by omega),a1 s (by omega),upd_ne (by omega)],fun e he hk => ?_,fun s r hs1 hs2 e he hk => ?_⟩
   · rw [tgt e (h1.og e he).2,b1 f (by omega)]; exact a2 e he hk
   · rcases Nat.lt_or_ge s N1.es.length with hs | hs
     · by_cases hsn:s=N.es.length
       · subst hsn
         rw [gs2] at hs2
         cases hs2
         exact b2 e he hk
       · obtain ⟨r',r1,r2,r3,r4⟩:=h1.new s (by omega) hs
         rw [h2.old s hs hsn,r1] at hs2
         cases hs2
         rw [tgt e (r4 e he).2,b1 s hs]; exact a3 s _ (by omega) r1 e he hk
     · exact b3 s r hs hs2 e he hk
end
end Go.Am
namespace Go.Am
open Go Go.Proofs
mutual
def dOkE:Ex→Nat→Bool
 | .mk _ _ _ l,d => match d with
  | 0 => false
  | d+1 => dOkL l d
def dOkL:List Ex→Nat→Bool
 | [],_ => true
 | x :: l,d => dOkE x d && dOkL l d
end
def szL (l:List Ex):Nat:=(l.map Ex.sz).sum
theorem szL_cons (x:Ex) (l:List Ex):szL (x :: l)=x.sz+szL l:=by simp [szL]
theorem sz_mk (k n:Int) (z:Bool) (l:List Ex):(Ex.mk k n z l).sz=1+szL l:=by rw [Ex.sz]; rfl
theorem wrapS {n:Int} (h1:-1000000≤n) (h2:n≤1000000):IntKind.i64.wrap n=n:=wrap_small (by omega) (by omega)
mutual
theorem sizeE_is:∀ (x:Ex) (deep left:Nat),1≤deep→deep≤33→left≤512→sizeE x deep left=if dOkE x (33 - deep)=true∧x.sz≤left then ((left - x.sz:Nat):Int) else -1
 | .mk k n z l,deep,left,h1,h2,h3 => by
  rw [sizeE,sz_mk,wrapS (by omega) (by omega)]
  by_cases hd:deep=33
  · subst hd
    rw [if_pos (Or.inl (by omega)),if_neg]
    rintro ⟨h,-⟩
    rw [show 33 - 33=0 from rfl,dOkE] at h; cases h
  · obtain ⟨e,he⟩:∃ e,33 - deep=e+1:=⟨33 - deep - 1,by omega⟩
    by_cases hl:left=0
    · subst hl
      rw [if_pos (Or.inr (by omega)),if_neg (by omega)]
    · rw [if_neg (by omega),wrapS (by omega) (by omega),he,dOkE]
      have h4:((deep:Int)+1)=((deep+1:Nat):Int):=rfl
      have h5:((left:Int) - 1)=((left - 1:Nat):Int):=by omega
      rw [h4,h5,sizeEL_is l (deep+1) (left - 1) (by omega) (by omega) (by omega),show 33 - (deep+1)=e by omega]
      by_cases c:dOkL l e=true∧szL l≤left - 1
      · rw [if_pos c,if_pos ⟨c.1,by omega⟩]; congr 1; omega
      · rw [if_neg c,if_neg (fun h => c ⟨h.1,by omega⟩)]
theorem sizeEL_is:∀ (l:List Ex) (deep left:Nat),1≤deep→deep≤33→left≤512→sizeEL l deep left=if dOkL l (33 - deep)=true∧szL l≤left then ((left - szL l:Nat):Int) else -1
 | [],deep,left,_,_,_ => by rw [sizeEL,dOkL,if_pos ⟨rfl,by simp [szL]⟩]; simp [szL]
 | x :: l,deep,left,h1,h2,h3 => by
  rw [sizeEL,sizeE_is x deep left h1 h2 h3,dOkL,szL_cons]
  by_cases c:dOkE x (33 - deep)=true∧x.sz≤left
  · rw [if_pos c,if_neg (by omega),sizeEL_is l deep (left - x.sz) h1 h2 (by omega)]
    by_cases c2:dOkL l (33 - deep)=true∧szL l≤left - x.sz
    · rw [if_pos c2,if_pos ⟨by rw [c.1,c2.1]; rfl,by omega⟩]; congr 1; omega
    · rw [if_neg c2,if_neg]
      rintro ⟨h,h'⟩
      rw [Bool.and_eq_true] at h
      exact c2 ⟨h.2,by omega⟩
  · rw [if_neg c,if_pos (by omega),if_neg]
    rintro ⟨h,h'⟩
    rw [Bool.and_eq_true] at h
    exact c ⟨h.1,by omega⟩
end
theorem sizesL_is:∀ (l:List Ex) (left:Nat),left≤512→(sizesL l left < 0 ↔ ¬ (dOkL l 32=true∧szL l≤left))
 | [],left,_ => by rw [sizesL,dOkL]; simp [szL]
 | x :: l,left,h => by
  rw [sizesL,show (1:Int)=((1:Nat):Int) from rfl,sizeE_is x 1 left (by omega) (by omega) h,dOkL,szL_cons]
  by_cases c:dOkE x (33 - 1)=true∧x.sz≤left
  · rw [if_pos c,if_neg (by omega),sizesL_is l (left - x.sz) (by omega)]
    have c1:dOkE x 32=true:=c.1
    rw [c1,Bool.true_and]
    constructor
    · rintro h ⟨a,b⟩; exact h ⟨a,by omega⟩
    · rintro h ⟨a,b⟩; exact h ⟨a,by omega⟩
  · rw [if_neg c,if_pos (by omega)]
    refine ⟨fun _ ⟨a,b⟩ => c ⟨by rw [Bool.and_eq_true] at a; exact a.1,by omega⟩,fun _ => by omega⟩
theorem szL_mem:∀ {l:List Ex} {y:Ex},y ∈ l→y.sz≤szL l
 | x :: l,y,h => by
  rw [szL_cons]
  rcases List.mem_cons.1 h with rfl | h
  · omega
  · have:=szL_mem h; omega
structure GOk (g:Gr):Prop where
 ok:∀ y ∈ g.bodies,okE g.tokens g.bodies.length y
 pos:0 < g.rules.length
 le:g.rules.length≤32
 tok:g.tokens≤64
 sz:szL g.bodies≤512
 vain:∀ y ∈ g.bodies,vainE (qOf g.null) y=false
theorem GOk.of {g:Gr} (h:checkP g=0):GOk g:=by
 have hbl:g.bodies.length=g.rules.length:=by rw [Gr.bodies,List.length_map]
 unfold checkP at h
 split at h
 · omega
 rename_i h1
 split at h
 · omega
 rename_i h2
 split at h
 · omega
 rename_i h3
 split at h
 · omega
 rename_i h4
 have h4':g.bodies.all (rightE g.tokens g.rules.length)=true:=by simpa using h4
 rw [List.all_eq_true] at h4'
 unfold check2P at h
 split at h
 · omega
 rename_i h5
 have h7:∀ r ∈ g.rules,vainE (qOf g.null) r.body=false:=by
  intro r hr
  cases e:vainE (qOf g.null) r.body with
  | false => rfl
  | true => exact absurd (by rw [Bool.or_eq_true]; exact .inr (List.any_eq_true.2 ⟨r,hr,e⟩)) h5
 have h8:¬ ¬ (dOkL g.bodies 32=true∧szL g.bodies≤512):=fun h => h2 ((sizesL_is g.bodies 512 (by omega)).2 h)
 refine ⟨fun y hy => by rw [hbl]; exact h4' y hy,?_,by simp at h1; omega,by simp at h1; omega,?_,fun y hy => ?_⟩
 · cases e:g.rules with
   | nil => simp [e] at h3
   | cons a r => simp
 · exact (Classical.not_not.1 h8).2
 · obtain ⟨r,hr,rfl⟩:=List.mem_map.1 hy
   exact h7 r hr
end Go.Am
namespace Go.Am
open Go Go.Proofs
def GoodE (tk:Int) (r:Nat) (e:Eg):Prop:=0≤e.kind∧e.kind≤2∧0≤e.num∧(e.kind=2→e.num < r)∧(e.kind=1→e.num < tk)
theorem goodE_free (tk:Int) (r t:Nat):GoodE tk r ⟨0,0,t⟩:=⟨Int.le_refl 0,(by show (0:Int)≤2; decide),Int.le_refl 0,(fun h => by cases h),(fun h => by cases h)⟩
def GoodO (o:List Eg):Prop:=o≠[]∧(o.length=1∨∀ e ∈ o,e.kind=0)
section
variable {tk:Int} {r:Nat} {q:Int→Bool}
def LF (tk:Int) (r:Nat) (q:Int→Bool) (y:Ex):Prop:=∀ (N:Nv) (f t:Nat),f < N.es.length→t < N.es.length→N.rs.length=N.es.length →
 ∃ o P,Frag (GoodE tk r) N f t (layE y f t N) o P∧GoodO o∧∀ ρ:Nat→Int,(canE false q y=true→ρ t+2 * y.szS≤ρ f)→P ρ
theorem layW_frag {y:Ex} (h:LF tk r q y) (N:Nv) (f t:Nat) (hf:f < N.es.length) (ht:t < N.es.length) (hr:N.rs.length=N.es.length) :
 ∃ P,Frag (GoodE tk r) N f t (layW y f t N) [⟨0,0,N.es.length⟩] P∧∀ ρ:Nat→Int,(canE false q y=true→ρ t+2 * y.szS+1≤ρ f)→P ρ:=by
 have l0:=Nv.es_fresh N (N.rule f)
 have lr:(N.fresh (N.rule f)).rs.length=(N.fresh (N.rule f)).es.length:=by simp [Nv.fresh,hr]
 have h1:=frag_edge (G:=GoodE tk r) (N:=N.fresh (N.rule f)) (f:=f) (t:=N.es.length) (k:=0) (n:=0) (by omega) (by omega) lr (goodE_free _ _ _)
 have l1:=Nv.es_edge (N.fresh (N.rule f)) f 0 0 N.es.length
 obtain ⟨o,P,h2,⟨h3,h4⟩,h5⟩:=h ((N.fresh (N.rule f)).edge f 0 0 N.es.length) N.es.length t (by omega) (by omega) h1.rl'
 refine ⟨_,frag_seq h1 h2 hr hf ht h3 h4,fun ρ hρ => ⟨ρ f - 1,fun _ => ?_,h5 _ fun hc => ?_⟩⟩
 · rw [upd_eq,upd_ne (by omega)]; omega
 · rw [upd_eq,upd_ne (by omega)]; have:=hρ hc; omega
theorem layS_frag:∀ (l:List Ex),(∀ y ∈ l,LF tk r q y)→l≠[]→∀ (N:Nv) (f t:Nat),f < N.es.length→t < N.es.length→N.rs.length=N.es.length →
 ∃ o P,Frag (GoodE tk r) N f t (layS l f t N) o P∧GoodO o∧∀ ρ:Nat→Int,(l.all (canE false q)=true→ρ t+2 * Ex.szSL l≤ρ f)→P ρ
 | [],_,h,_,_,_,_,_,_ => absurd rfl h
 | [x],hl,_,N,f,t,hf,ht,hr => by
  obtain ⟨o,P,h1,h2,h3⟩:=hl x (by simp) N f t hf ht hr
  rw [layS_one]
  refine ⟨o,P,h1,h2,fun ρ hρ => h3 ρ fun hc => ?_⟩
  have:=hρ (by simp [hc])
  rw [Ex.szSL,Ex.szSL] at this; omega
 | x :: y :: l,hl,_,N,f,t,hf,ht,hr => by
  rw [layS_cons2]
  have l0:=Nv.es_fresh N (N.rule f)
  have lr:(N.fresh (N.rule f)).rs.length=(N.fresh (N.rule f)).es.length:=by simp [Nv.fresh,hr]
  obtain ⟨o1,P1,h1,h2,h3⟩:=hl x (by simp) (N.fresh (N.rule f)) f N.es.length (by omega) (by omega) lr
  have l1:=h1.len
  obtain ⟨o2,P2,g1,⟨g2,g2'⟩,g3⟩:=layS_frag (y :: l) (fun z hz => hl z (by simp [hz])) (by simp) (layE x f N.es.length (N.fresh (N.rule f))) N.es.length t (by omega) (by omega) h1.rl'
  refine ⟨o1,_,frag_seq h1 g1 hr hf ht g2 g2',h2,fun ρ hρ => ?_⟩
  cases hx:canE false q x with
  | true =>
   refine ⟨ρ f - 2 * x.szS,h3 _ fun _ => ?_,g3 _ fun hc => ?_⟩
   · rw [upd_eq,upd_ne (by omega)]; omega
   · rw [upd_eq,upd_ne (by omega)]
     have:=hρ (by rw [List.all_cons,hx,hc]; rfl)
     rw [Ex.szSL] at this; omega
  | false =>
   refine ⟨ρ t+2 * Ex.szSL (y :: l),h3 _ fun hc => ?_,g3 _ fun _ => ?_⟩
   · rw [hx] at hc; cases hc
   · rw [upd_eq,upd_ne (by omega)]; omega
theorem layA_frag:∀ (l:List Ex),(∀ y ∈ l,LF tk r q y)→l≠[]→∀ (N:Nv) (f t:Nat),f < N.es.length→t < N.es.length→N.rs.length=N.es.length →
 ∃ o P,Frag (GoodE tk r) N f t (layA l f t N) o P∧o≠[]∧(∀ e ∈ o,e.kind=0)∧∀ ρ:Nat→Int,(l.any (canE false q)=true→ρ t+2 * Ex.szSL l+1≤ρ f)→P ρ
 | [],_,h,_,_,_,_,_,_ => absurd rfl h
 | [x],hl,_,N,f,t,hf,ht,hr => by
  obtain ⟨P,h1,h2⟩:=layW_frag (hl x (by simp)) N f t hf ht hr
  rw [layA_cons,layA]
  refine ⟨_,P,h1,by simp,by simp,fun ρ hρ => h2 ρ fun hc => ?_⟩
  have:=hρ (by simp [hc])
  rw [Ex.szSL,Ex.szSL] at this; omega
 | x :: y :: l,hl,_,N,f,t,hf,ht,hr => by
  rw [layA_cons]
  obtain ⟨P1,h1,h2⟩:=layW_frag (hl x (by simp)) N f t hf ht hr
  have l1:=h1.len
  obtain ⟨o2,P2,g1,g2,g3,g4⟩:=layA_frag (y :: l) (fun z hz => hl z (by simp [hz])) (by simp) (layW x f t N) f t (by omega) (by omega) h1.rl'
  refine ⟨_,_,frag_par h1 g1 (.inl rfl) (.inl rfl) ht,by simp,fun e he => ?_,fun ρ hρ => ⟨h2 ρ fun hc => ?_,g4 ρ fun hc => ?_⟩⟩
  · rcases List.mem_append.1 he with he | he
    · simp at he; subst he; rfl
    · exact g3 e he
  · have:=hρ (by rw [List.any_cons,hc]; rfl)
    rw [Ex.szSL] at this; omega
  · have:=hρ (by rw [List.any_cons,hc,Bool.or_true])
    have hp:=x.szS_pos
    rw [Ex.szSL] at this; omega
theorem okE.tok {t:Int} {r:Nat} {x:Ex} (h:okE t r x) (k:x.kind=1):0≤x.num∧x.num < t:=by
 have:=h.c
 simp [rightN,k,rightC] at this; omega
theorem okE.alt {t:Int} {r:Nat} {x:Ex} (h:okE t r x) (k:x.kind=4):x.l≠[]:=by
 have:=h.c
 intro h0
 simp [rightN,k,rightC,h0] at this
theorem layE_frag:∀ (x:Ex),okE tk r x→vainE q x=false→LF tk r q x:=fun x ho hv N f t hf ht hr => by
 have hsub:∀ y ∈ x.l,LF tk r q y:=fun y hy => layE_frag y (ho.sub hy) (by
  rw [vainE_eq,Bool.or_eq_false_iff] at hv
  exact List.any_eq_false.1 hv.2 y hy |> fun h => by simpa using h)
 have hsz:=x.szS_l
 rw [layE_eq]
 split
 · rename_i k1
   exact ⟨_,_,frag_edge hf ht hr ⟨by show (0:Int)≤1; decide,by show (1:Int)≤2; decide,(ho.tok k1).1,(fun h => by cases h),(fun _ => (ho.tok k1).2)⟩,⟨by simp,.inl rfl⟩,fun ρ _ h => by cases h⟩
 rename_i k1
 split
 · rename_i k2
   exact ⟨_,_,frag_edge hf ht hr ⟨by show (0:Int)≤2; decide,by show (2:Int)≤2; decide,(ho.call k2).1,(fun _ => (ho.call k2).2),(fun h => by cases h)⟩,⟨by simp,.inl rfl⟩,fun ρ _ h => by cases h⟩
 rename_i k2
 have hc4:x.kind≠4→x.kind≠3→canE false q x=true:=fun h4 h3 => by rw [canE_eq,if_neg k1,if_neg k2,if_neg h4,if_neg h3]
 split
 · rename_i k3
   by_cases h0:x.l=[]
   · rw [h0,layS]
     refine ⟨_,_,frag_edge hf ht hr (goodE_free _ _ _),⟨by simp,.inl rfl⟩,fun ρ hρ _ => ?_⟩
     have:=hρ (by rw [canE_eq,if_neg k1,if_neg k2,if_neg (by omega),if_pos k3,h0]; rfl)
     omega
   · obtain ⟨o,P,h1,h2,h3⟩:=layS_frag x.l hsub h0 N f t hf ht hr
     refine ⟨o,P,h1,h2,fun ρ hρ => h3 ρ fun hc => ?_⟩
     have:=hρ (by
      rw [canE_eq,if_neg k1,if_neg k2,if_neg (by omega),if_pos k3,Bool.not_eq_true',List.any_eq_false]
      intro y hy; rw [List.all_eq_true] at hc; rw [hc y hy]; simp)
     omega
 rename_i k3
 split
 · rename_i k4
   obtain ⟨o,P,h1,h2,h3,h4⟩:=layA_frag x.l hsub (ho.alt k4) N f t hf ht hr
   refine ⟨o,P,h1,⟨h2,.inr h3⟩,fun ρ hρ => h4 ρ fun hc => ?_⟩
   have:=hρ (by rw [canE_eq,if_neg k1,if_neg k2,if_pos k4]; exact hc)
   omega
 rename_i k4
 split
 · rename_i k5
   obtain ⟨z,hz⟩:=ho.star (.inl k5)
   have hcz:canE false q z=false:=by
    rw [vainE_eq,Bool.or_eq_false_iff] at hv
    have:=hv.1
    rw [hz,headB] at this
    simpa [k5] using this
   have hLz:=hsub z (by rw [hz]; simp)
   have l0:=Nv.es_fresh N (N.rule f)
   have lr:(N.fresh (N.rule f)).rs.length=(N.fresh (N.rule f)).es.length:=by simp [Nv.fresh,hr]
   have h1:=frag_edge (G:=GoodE tk r) (N:=N.fresh (N.rule f)) (f:=f) (t:=N.es.length) (k:=0) (n:=0) (by omega) (by omega) lr (goodE_free _ _ _)
   have l1:=Nv.es_edge (N.fresh (N.rule f)) f 0 0 N.es.length
   have hr1:=h1.rl'
   generalize hN1:(N.fresh (N.rule f)).edge f 0 0 N.es.length=N1 at h1 l1 hr1
   obtain ⟨P2,h2,g2⟩:=layW_frag hLz N1 N.es.length N.es.length (by omega) (by omega) hr1
   have l2:=h2.len
   have h3:=frag_edge (G:=GoodE tk r) (N:=layW z N.es.length N.es.length N1) (f:=N.es.length) (t:=t) (k:=0) (n:=0) (by omega) (by omega) h2.rl' (goodE_free _ _ _)
   have h4:=frag_par (t:=t) h2 h3 (.inr rfl) (.inl rfl) (by omega)
   rw [hz,layH_cons]
   refine ⟨_,_,frag_seq h1 h4 hr hf ht (by simp) (.inr (by simp)),⟨by simp,.inl rfl⟩,fun ρ hρ => ⟨ρ f - 1,fun _ => ?_,g2 _ fun hc => ?_,fun _ => ?_⟩⟩
   · rw [upd_eq,upd_ne (by omega)]; omega
   · rw [hcz] at hc; cases hc
   · rw [upd_eq,upd_ne (by omega)]
     have:=hρ (hc4 k4 k3)
     omega
 rename_i k5
 split
 · rename_i k6
   obtain ⟨z,hz⟩:=ho.star (.inr k6)
   have hLz:=hsub z (by rw [hz]; simp)
   obtain ⟨P2,h2,g2⟩:=layW_frag hLz N f t hf ht hr
   have l2:=h2.len
   have h3:=frag_edge (G:=GoodE tk r) (N:=layW z f t N) (f:=f) (t:=t) (k:=0) (n:=0) (by omega) (by omega) h2.rl' (goodE_free _ _ _)
   have h4:=frag_par (t:=t) h2 h3 (.inl rfl) (.inl rfl) ht
   have hzs:Ex.szSL x.l=z.szS:=by rw [hz,Ex.szSL,Ex.szSL]; omega
   rw [hz,layH_cons]
   refine ⟨_,_,h4,⟨by simp,.inr (by simp)⟩,fun ρ hρ => ?_⟩
   have:=hρ (hc4 k4 k3)
   exact ⟨g2 _ fun hc => by omega,fun _ => by omega⟩
 · refine ⟨_,_,frag_edge hf ht hr (goodE_free _ _ _),⟨by simp,.inl rfl⟩,fun ρ hρ _ => ?_⟩
   have:=hρ (hc4 k4 k3)
   omega
termination_by x => x
decreasing_by exact Ex.sub_lt hy
end
end Go.Am
namespace Go.Am
open Go Go.Proofs
structure NetW (g:Gr) (i:Nat) (S:Ns):Prop where
 rl:S.N.rs.length=S.N.es.length
 enl:S.en.length=i
 lvl:S.lv.length=i
 rr:∀ s,s < S.N.es.length→0≤S.N.rule s∧S.N.rule s < i
 ene:∀ k,k < i→∃ s:Nat,s < S.N.es.length∧S.en.getD k 0=(s:Int)∧S.N.rule s=k
 lve:∀ k,k < i→∃ s:Nat,s < S.N.es.length∧S.lv.getD k 0=(s:Int)∧S.N.rule s=k∧S.N.es[s]?=some []
 row:∀ (s:Nat) (r:List Eg),S.N.es[s]?=some r→(r=[]→(s:Int)=S.lv.getD (S.N.rule s).toNat 0)∧(r.length≤1∨∀ e ∈ r,e.kind=0)∧∀ e ∈ r,GoodE g.tokens g.bodies.length e∧e.to < S.N.es.length∧S.N.rule e.to=S.N.rule s
 pot:∃ ρ:Nat→Int,∀ (s:Nat) (r:List Eg),S.N.es[s]?=some r→∀ e ∈ r,e.kind=0→ρ e.to < ρ s
theorem getD_app {l:List Int} {x:Int} {k:Nat} (h:k < l.length):(l ++ [x]).getD k 0=l.getD k 0:=by
 rw [List.getD_eq_getElem?_getD,List.getElem?_append_left h,← List.getD_eq_getElem?_getD]
theorem getD_end {l:List Int} {x:Int}:(l ++ [x]).getD l.length 0=x:=by
 rw [List.getD_eq_getElem?_getD,List.getElem?_append_right (Nat.le_refl _),Nat.sub_self]; rfl
theorem NetW.step {g:Gr} {i:Nat} {S:Ns} (h:NetW g i S) {b:Ex} (ho:okE g.tokens g.bodies.length b) (hv:vainE (qOf g.null) b=false) :
 NetW g (i+1) ⟨layE b S.N.es.length (S.N.es.length+1) ((S.N.fresh i).fresh i),S.en ++ [(S.N.es.length:Int)],S.lv ++ [((S.N.es.length+1:Nat):Int)]⟩:=by
 obtain ⟨N,en,lv⟩:=S
 obtain ⟨rl,enl,lvl,rr,ene,lve,row,ρ0,pot⟩:=h
 dsimp only at *
 have l1:((N.fresh (i:Int)).fresh (i:Int)).es.length=N.es.length+2:=by rw [Nv.es_fresh,Nv.es_fresh]
 have hN1:((N.fresh (i:Int)).fresh (i:Int)).rs=N.rs ++ [(i:Int),(i:Int)]:=by simp [Nv.fresh]
 have hE1:((N.fresh (i:Int)).fresh (i:Int)).es=N.es ++ [[],[]]:=by simp [Nv.fresh]
 obtain ⟨o,P,F,⟨ho1,ho2⟩,hP⟩:=layE_frag (q:=qOf g.null) b ho hv ((N.fresh (i:Int)).fresh (i:Int)) N.es.length (N.es.length+1) (by omega) (by omega) (by rw [hN1,hE1]; simp [rl])
 generalize layE b N.es.length (N.es.length+1) ((N.fresh (i:Int)).fresh (i:Int))=N' at F
 have fl:=F.len
 rw [l1] at fl
 have r1:∀ s,s < N.es.length→((N.fresh (i:Int)).fresh (i:Int)).rule s=N.rule s:=fun s hs => by
  unfold Nv.rule; rw [hN1,List.getD_eq_getElem?_getD,List.getElem?_append_left (by omega),← List.getD_eq_getElem?_getD]
 have r2:∀ s,N.es.length≤s→s < N.es.length+2→((N.fresh (i:Int)).fresh (i:Int)).rule s=(i:Int):=fun s h1 h2 => by
  unfold Nv.rule; rw [hN1,List.getD_eq_getElem?_getD,List.getElem?_append_right (by omega),rl]
  rcases (show s - N.es.length=0∨s - N.es.length=1 by omega) with e | e <;> rw [e] <;> rfl
 have R1:∀ s,s < N.es.length+2→N'.rule s=((N.fresh (i:Int)).fresh (i:Int)).rule s:=fun s hs => by
  unfold Nv.rule; rw [F.rs,List.getD_eq_getElem?_getD,List.getElem?_append_left (by rw [F.rl,l1]; omega),← List.getD_eq_getElem?_getD]
 have Rold:∀ s,s < N.es.length→N'.rule s=N.rule s:=fun s hs => (R1 s (by omega)).trans (r1 s hs)
 have Rnew:∀ s,N.es.length≤s→s < N'.es.length→N'.rule s=(i:Int):=fun s h1 h2 => by
  rcases Nat.lt_or_ge s (N.es.length+2) with h3 | h3
  · rw [R1 s h3,r2 s h1 h3]
  · unfold Nv.rule
    rw [F.rs,List.getD_eq_getElem?_getD,List.getElem?_append_right (by rw [F.rl,l1]; exact h3),List.getElem?_replicate,F.rl,l1,if_pos (by omega),r2 _ (Nat.le_refl _) (by omega)]; rfl
 have Eold:∀ s,s < N.es.length→N'.es[s]?=N.es[s]?:=fun s hs => by rw [F.old s (by omega) (by omega),hE1,List.getElem?_append_left hs]
 have Ea:N'.es[N.es.length]?=some o:=by rw [F.out [] (by rw [hE1]; simp)]; rfl
 have Eb:N'.es[N.es.length+1]?=some []:=by
  rw [F.old _ (by omega) (by omega),hE1,List.getElem?_append_right (by omega),show N.es.length+1 - N.es.length=1 by omega]; rfl
 have tgt:∀ e:Eg,(e.to=N.es.length+1∨e.to=N.es.length∨(((N.fresh (i:Int)).fresh (i:Int)).es.length≤e.to∧e.to < N'.es.length))→N.es.length≤e.to∧e.to < N'.es.length:=fun e h => by
  rw [l1] at h; rcases h with h | h | h <;> omega
 obtain ⟨ρ,p1,p2,p3⟩:=F.pot (fun s => if s < N.es.length then ρ0 s else if s=N.es.length then 2 * (b.szS:Int) else 0) (hP _ fun _ => by
  rw [if_neg (by omega),if_neg (by omega),if_neg (by omega),if_pos rfl]; omega)
 show NetW g (i+1) ⟨N',en ++ [(N.es.length:Int)],lv ++ [((N.es.length+1:Nat):Int)]⟩
 refine ⟨F.rl',by simp [enl],by simp [lvl],fun s (hs:s < N'.es.length) => ?_,fun k hk => ?_,fun k hk => ?_,fun s r hs => ?_,ρ,fun s r hs e he hk => ?_⟩
 · rcases Nat.lt_or_ge s N.es.length with h | h
   · have:=rr s h; rw [Rold s h]; omega
   · rw [Rnew s h hs]; omega
 · rcases Nat.lt_or_ge k i with h | h
   · obtain ⟨s,h1,h2,h3⟩:=ene k h
     exact ⟨s,(show s < N'.es.length by omega),by dsimp only; rw [getD_app (by omega)]; exact h2,by rw [Rold s h1]; exact h3⟩
   · obtain rfl:k=i:=by omega
     refine ⟨N.es.length,(show N.es.length < N'.es.length by omega),?_,Rnew _ (Nat.le_refl _) (by omega)⟩
     dsimp only
     rw [← enl,getD_end]
 · rcases Nat.lt_or_ge k i with h | h
   · obtain ⟨s,h1,h2,h3,h4⟩:=lve k h
     exact ⟨s,(show s < N'.es.length by omega),by dsimp only; rw [getD_app (by omega)]; exact h2,by rw [Rold s h1]; exact h3,by rw [Eold s h1]; exact h4⟩
   · obtain rfl:k=i:=by omega
     refine ⟨N.es.length+1,(show N.es.length+1 < N'.es.length by omega),?_,Rnew _ (by omega) (by omega),Eb⟩
     dsimp only
     rw [← lvl,getD_end]
 · have hsl:s < N'.es.length:=(List.getElem?_eq_some_iff.1 hs).1
   rcases Nat.lt_or_ge s N.es.length with h | h
   · rw [Eold s h] at hs
     obtain ⟨q1,q2,q3⟩:=row s r hs
     refine ⟨fun h0 => ?_,q2,fun e he => ?_⟩
     · rw [Rold s h]
       have:=rr s h
       dsimp only
       rw [getD_app (by omega)]; exact q1 h0
     · obtain ⟨g1,g2,g3⟩:=q3 e he
       exact ⟨g1,(show e.to < N'.es.length by omega),by rw [Rold _ g2,Rold s h]; exact g3⟩
   · have hrs:N'.rule s=(i:Int):=Rnew s h hsl
     rcases Nat.lt_or_ge s (N.es.length+2) with h3 | h3
     · rcases (show s=N.es.length∨s=N.es.length+1 by omega) with rfl | rfl
       · rw [Ea] at hs
         cases hs
         refine ⟨fun h0 => absurd h0 ho1,ho2.imp (fun e => by omega) id,fun e he => ?_⟩
         obtain ⟨g1,g2⟩:=F.og e he
         have:=tgt e g2
         exact ⟨g1,this.2,by rw [hrs]; exact Rnew _ this.1 this.2⟩
       · rw [Eb] at hs
         cases hs
         refine ⟨fun _ => ?_,.inl (by simp),fun e he => by cases he⟩
         rw [hrs]
         dsimp only
         rw [Int.toNat_natCast,← lvl,getD_end]
     · obtain ⟨r',q1,q2,q3,q4⟩:=F.new s (by omega) hsl
       rw [q1] at hs
       cases hs
       refine ⟨fun h0 => absurd h0 q2,q3.imp (fun e => by omega) id,fun e he => ?_⟩
       obtain ⟨g1,g2⟩:=q4 e he
       have:=tgt e g2
       exact ⟨g1,this.2,by rw [hrs]; exact Rnew _ this.1 this.2⟩
 · have hsl:s < N'.es.length:=(List.getElem?_eq_some_iff.1 hs).1
   rcases Nat.lt_or_ge s N.es.length with h | h
   · rw [Eold s h] at hs
     have:=((row s r hs).2.2 e he).2.1
     rw [p1 _ (by omega),p1 _ (by omega),if_pos this,if_pos h]
     exact pot s r hs e he hk
   · rcases Nat.lt_or_ge s (N.es.length+2) with h3 | h3
     · rcases (show s=N.es.length∨s=N.es.length+1 by omega) with rfl | rfl
       · rw [Ea] at hs
         cases hs
         exact p2 e he hk
       · rw [Eb] at hs
         cases hs; cases he
     · exact p3 s r (by omega) hs e he hk
theorem newF_W {g:Gr}:∀ (bs:List Ex) (i:Nat) (S:Ns),NetW g i S→(∀ y ∈ bs,okE g.tokens g.bodies.length y)→(∀ y ∈ bs,vainE (qOf g.null) y=false)→NetW g (i+bs.length) (newF bs i S)
 | [],i,S,h,_,_ => h
 | b :: bs,i,S,h,h1,h2 => by
  rw [newF,List.length_cons,show i+(bs.length+1)=i+1+bs.length by omega]
  exact newF_W bs (i+1) _ (h.step (h1 b (by simp)) (h2 b (by simp))) (fun y hy => h1 y (by simp [hy])) (fun y hy => h2 y (by simp [hy]))
theorem newN_W {g:Gr} (h:GOk g):NetW g g.rules.length (newN g):=by
 have:=newF_W (g:=g) g.bodies 0 ⟨⟨[],[]⟩,[],[]⟩ ⟨rfl,rfl,rfl,(fun s hs => by simp at hs),(fun k hk => by omega),(fun k hk => by omega),(fun s r hs => by simp at hs),fun _ => 0,fun s r hs => by simp at hs⟩ h.ok h.vain
 rw [Nat.zero_add,Gr.bodies,List.length_map] at this
 exact this
theorem newF_fits:∀ (bs:List Ex) (i B:Nat) (S:Ns),S.N.Fits B→(newF bs i S).N.Fits (B+5 * szL bs+2 * bs.length)
 | [],i,B,S,h => h.mono (by omega)
 | b :: bs,i,B,S,h => by
  rw [newF]
  have h1:=(layE_fits b S.N.es.length (S.N.es.length+1) _ _ ((h.fresh i).fresh i)).1
  refine (newF_fits bs (i+1) _ _ h1).mono ?_
  rw [szL_cons,List.length_cons,← szS_eq]
  have:=b.szS_pos
  omega
theorem newN_fits {g:Gr} (h:GOk g):(newN g).N.Fits 10000:=by
 refine (newF_fits g.bodies 0 0 ⟨⟨[],[]⟩,[],[]⟩ ⟨by simp,rfl,by simp⟩).mono ?_
 have h1:=h.sz; have h2:=h.le
 have:g.bodies.length=g.rules.length:=by rw [Gr.bodies,List.length_map]
 omega
theorem newN_sound {g:Gr} (h:GOk g):SndN (newN g).N (newX g) g:=by
 have w:=newN_W h
 have hbl:g.bodies.length=g.rules.length:=by rw [Gr.bodies,List.length_map]
 refine ⟨w.enl,w.lvl,fun i hi => ?_,fun i hi => ?_,fun r hr e he => ?_⟩
 · obtain ⟨s,h1,h2,-⟩:=w.ene i (by have:=w.enl; have:(newX g).en.length=g.rules.length:=w.enl; omega)
   show 0≤(newN g).en.getD i 0∧(newN g).en.getD i 0 < _
   rw [h2]; omega
 · obtain ⟨s,h1,h2,-⟩:=w.lve i (by have:(newX g).lv.length=g.rules.length:=w.lvl; omega)
   show 0≤(newN g).lv.getD i 0∧(newN g).lv.getD i 0 < _
   rw [h2]; omega
 · obtain ⟨s,hs,rfl⟩:=List.mem_iff_getElem.1 hr
   obtain ⟨-,-,h3⟩:=w.row s ((newN g).N.es[s]) (by simp [hs])
   obtain ⟨⟨a1,a2,a3,a4,a5⟩,h4,-⟩:=h3 e he
   exact ⟨a1,a2,a3,h4,fun hk => by have:=a4 hk; omega,a5⟩
theorem newN_ne {g:Gr} (h:GOk g):(newN g).N.es≠[]:=by
 intro h0
 obtain ⟨s,h1,-⟩:=(newN_W h).ene 0 h.pos
 rw [h0] at h1; simp at h1
end Go.Am

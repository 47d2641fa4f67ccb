/- Part D1 of a proof that runs a program's calls on a small machine whose values bear no addresses: no conditions. -/
import Derived.Test.YtfhoagkadjinlaaAmM6
set_option autoImplicit false
set_option linter.unusedSimpArgs false
set_option linter.unusedVariables false
set_option linter.unusedSectionVars false
namespace Go.Am
open Go Go.Proofs
structure Walk (α:Type) where
 st:Int→Int→α→α→Prop
 ck:Int→Int→α→Prop
section
variable {α:Type} (K:Walk α)
def stp (k n:Int) (F T:α→Prop):Prop:=∀ a,F a→K.ck k n a∧∀ b,K.st k n a b→T b
def Clo (Z:Nat→α→Prop) (F:α→Prop) (r:List Eg):Prop:=∀ e ∈ r,stp K e.kind e.num F (Z e.to)
structure FragD (N:Nv) (f t:Nat) (N':Nv) (o:List Eg) (Q:(α→Prop)→(α→Prop)→Prop):Prop where
 A:∀ Z:Nat→α→Prop,Clo K Z (Z f) o→(∀ (s:Nat) (r:List Eg),N.es.length≤s→N'.es[s]?=some r→Clo K Z (Z s) r)→Q (Z f) (Z t)
 B:∀ Z0:Nat→α→Prop,Q (Z0 f) (Z0 t)→∃ Z:Nat→α→Prop,(∀ s,s < N.es.length→Z s=Z0 s)∧Clo K Z (Z f) o∧∀ (s:Nat) (r:List Eg),N.es.length≤s→N'.es[s]?=some r→Clo K Z (Z s) r
variable {K} {G:Eg→Prop} {N N1 N2:Nv} {f t:Nat} {o o1 o2:List Eg} {Q Q1 Q2:(α→Prop)→(α→Prop)→Prop} {P P1 P2:(Nat→Int)→Prop}
theorem FragD.iff (h:FragD K N f t N1 o Q) (hq:∀ F T,Q1 F T ↔ Q F T):FragD K N f t N1 o Q1:=⟨fun Z h1 h2 => (hq _ _).2 (h.A Z h1 h2),fun Z0 h0 => h.B Z0 ((hq _ _).1 h0)⟩
theorem Clo.congr {Z Z':Nat→α→Prop} {F:α→Prop} {r:List Eg} (h:Clo K Z F r) (he:∀ e ∈ r,Z' e.to=Z e.to):Clo K Z' F r:=fun e h1 => by rw [he e h1]; exact h e h1
theorem fd_edge {k n:Int}:FragD K N f t (N.edge f k n t) [⟨k,n,t⟩] (stp K k n) where
 A Z h _:=h ⟨k,n,t⟩ (by simp)
 B Z0 h:=⟨Z0,fun _ _ => rfl,fun e he => by simp at he; subst he; exact h,fun s r h1 h2 => by
  have:=(List.getElem?_eq_some_iff.1 h2).1; rw [Nv.es_edge] at this; omega⟩
theorem fd_par {t1 t2:Nat} (h1:Frag G N f t1 N1 o1 P1) (h2:Frag G N1 f t2 N2 o2 P2) (w1:FragD K N f t1 N1 o1 Q1) (w2:FragD K N1 f t2 N2 o2 Q2) (ht2:t2 < N.es.length) :
 (∀ Z:Nat→α→Prop,Clo K Z (Z f) (o1 ++ o2)→(∀ (s:Nat) (r:List Eg),N.es.length≤s→N2.es[s]?=some r→Clo K Z (Z s) r)→Q1 (Z f) (Z t1)∧Q2 (Z f) (Z t2)) ∧
 ∀ Z0:Nat→α→Prop,Q1 (Z0 f) (Z0 t1)→Q2 (Z0 f) (Z0 t2)→∃ Z:Nat→α→Prop,(∀ s,s < N.es.length→Z s=Z0 s)∧Clo K Z (Z f) (o1 ++ o2)∧∀ (s:Nat) (r:List Eg),N.es.length≤s→N2.es[s]?=some r→Clo K Z (Z s) r:=by
 have hl:=h1.len
 have hf:=h1.fl
 have ht1:=h1.tl
 refine ⟨fun Z ho hn => ⟨w1.A Z (fun e he => ho e (by simp [he])) fun s r hs hr => ?_,w2.A Z (fun e he => ho e (by simp [he])) fun s r hs hr => hn s r (by omega) hr⟩,fun Z0 hq1 hq2 => ?_⟩
 · have hsl:=(List.getElem?_eq_some_iff.1 hr).1
   exact hn s r hs (by rw [h2.old s hsl (by omega)]; exact hr)
 obtain ⟨Z1,a2,a3,a4⟩:=w1.B Z0 hq1
 obtain ⟨Z2,b2,b3,b4⟩:=w2.B Z1 (by rw [a2 f hf,a2 t2 ht2]; exact hq2)
 have tgt:∀ e:Eg,(e.to=t1∨e.to=f∨(N.es.length≤e.to∧e.to < N1.es.length))→Z2 e.to=Z1 e.to:=fun e g => b2 _ (by rcases g with g | g | g <;> omega)
 refine ⟨Z2,fun s hs => (b2 s (by omega)).trans (a2 s hs),fun e he => ?_,fun s r hs hr => ?_⟩
 · rcases List.mem_append.1 he with he | he
   · have:=a3 e he
     rw [← b2 f (by omega),← tgt e (h1.og e he).2] at this; exact this
   · exact b3 e he
 · rcases Nat.lt_or_ge s N1.es.length with h | h
   · obtain ⟨r',r1,r2,r3,r4⟩:=h1.new s hs h
     rw [h2.old s h (by omega),r1] at hr
     cases hr
     rw [b2 s h]
     exact (a4 s _ hs r1).congr fun e he => tgt e (r4 e he).2
   · exact b4 s r h hr
def updZ (Z:Nat→α→Prop) (s:Nat) (M:α→Prop):Nat→α→Prop:=fun j => if j=s then M else Z j
theorem fd_seq (h1:Frag G (N.fresh (N.rule f)) f N.es.length N1 o1 P1) (h2:Frag G N1 N.es.length t N2 o2 P2) (w1:FragD K (N.fresh (N.rule f)) f N.es.length N1 o1 Q1) (w2:FragD K N1 N.es.length t N2 o2 Q2)
 (hf:f < N.es.length) (ht:t < N.es.length):FragD K N f t N2 o1 (fun F T => ∃ M,Q1 F M∧Q2 M T):=by
 have l0:=Nv.es_fresh N (N.rule f)
 have l1:=h1.len
 have gnew:(N.fresh (N.rule f)).es[N.es.length]?=some []:=by simp [Nv.fresh]
 have gs1:N1.es[N.es.length]?=some []:=by rw [h1.old _ (by omega) (by omega)]; exact gnew
 have gs2:N2.es[N.es.length]?=some o2:=by rw [h2.out _ gs1]; rfl
 constructor
 · intro Z ho hn
   refine ⟨Z N.es.length,w1.A Z ho fun s r hs hr => ?_,w2.A Z (hn _ _ (Nat.le_refl _) gs2) fun s r hs hr => hn s r (by omega) hr⟩
   have hsl:=(List.getElem?_eq_some_iff.1 hr).1
   exact hn s r (by omega) (by rw [h2.old s hsl (by omega)]; exact hr)
 · rintro Z0 ⟨M,m1,m2⟩
   obtain ⟨Z1,a2,a3,a4⟩:=w1.B (updZ Z0 N.es.length M) (by unfold updZ; rw [if_neg (by omega),if_pos rfl]; exact m1)
   have u0:Z1 N.es.length=M:=by rw [a2 _ (by omega)]; exact if_pos rfl
   have u0t:Z1 t=Z0 t:=by rw [a2 _ (by omega)]; exact if_neg (by omega)
   obtain ⟨Z2,b2,b3,b4⟩:=w2.B Z1 (by rw [u0,u0t]; exact m2)
   have tgt:∀ e:Eg,(e.to=N.es.length∨e.to=f∨((N.fresh (N.rule f)).es.length≤e.to∧e.to < N1.es.length))→Z2 e.to=Z1 e.to:=fun e g => b2 _ (by rcases g with g | g | g <;> omega)
   refine ⟨Z2,fun s hs => by rw [b2 s (by omega),a2 s (by omega)]; exact if_neg (by omega),fun e he => ?_,fun s r hs hr => ?_⟩
   · have:=a3 e he
     rw [← b2 f (by omega),← tgt e (h1.og e he).2] at this; exact this
   · rcases Nat.lt_or_ge s N1.es.length with h | h
     · by_cases hsn:s=N.es.length
       · subst hsn
         rw [gs2] at hr
         cases hr
         exact b3
       · obtain ⟨r',r1,r2,r3,r4⟩:=h1.new s (by omega) h
         rw [h2.old s h hsn,r1] at hr
         cases hr
         rw [b2 s h]
         exact (a4 s _ (by omega) r1).congr fun e he => tgt e (r4 e he).2
     · exact b4 s r h hr
end
mutual
/-- what a part asks of the places at its begin and at its end -/
def QE {α:Type} (K:Walk α):Ex→(α→Prop)→(α→Prop)→Prop
 | .mk k n _ l,F,T =>
  if k=1 then stp K 1 n F T else if k=2 then stp K 2 n F T
  else if k=3 then QS K l F T
  else if k=4 then QA K l F T
  else if k=5 then ∃ M,stp K 0 0 F M∧QH K l M M∧stp K 0 0 M T
  else if k=6 then QH K l F T∧stp K 0 0 F T
  else stp K 0 0 F T
def QS {α:Type} (K:Walk α):List Ex→(α→Prop)→(α→Prop)→Prop
 | [],F,T => stp K 0 0 F T
 | x :: l,F,T => match l with
  | [] => QE K x F T
  | _ :: _ => ∃ M,QE K x F M∧QS K l M T
def QA {α:Type} (K:Walk α):List Ex→(α→Prop)→(α→Prop)→Prop
 | [],_,_ => True
 | x :: l,F,T => (∃ M,stp K 0 0 F M∧QE K x M T)∧QA K l F T
def QH {α:Type} (K:Walk α):List Ex→(α→Prop)→(α→Prop)→Prop
 | [],_,_ => True
 | x :: _,F,T => ∃ M,stp K 0 0 F M∧QE K x M T
end
section
variable {α:Type} {K:Walk α} {tk:Int} {r:Nat}
theorem QE_eq (x:Ex) (F T:α→Prop):QE K x F T=
 if x.kind=1 then stp K 1 x.num F T else if x.kind=2 then stp K 2 x.num F T
 else if x.kind=3 then QS K x.l F T
 else if x.kind=4 then QA K x.l F T
 else if x.kind=5 then ∃ M,stp K 0 0 F M∧QH K x.l M M∧stp K 0 0 M T
 else if x.kind=6 then QH K x.l F T∧stp K 0 0 F T
 else stp K 0 0 F T:=by cases x; rw [QE]; rfl
theorem QS_cons2 (x y:Ex) (l:List Ex) (F T:α→Prop):QS K (x :: y :: l) F T=∃ M,QE K x F M∧QS K (y :: l) M T:=by rw [QS]
theorem QS_one (x:Ex) (F T:α→Prop):QS K [x] F T=QE K x F T:=by rw [QS]
def LD (K:Walk α) (tk:Int) (r:Nat) (y:Ex):Prop:=∀ (N:Nv) (f t:Nat),f < N.es.length→t < N.es.length→N.rs.length=N.es.length →
 ∃ o P,Frag (GoodE tk r) N f t (layE y f t N) o P∧GoodO o∧FragD K N f t (layE y f t N) o (QE K y)
theorem layW_fd {y:Ex} (h:LD K tk r y) (N:Nv) (f t:Nat) (hf:f < N.es.length) (ht:t < N.es.length) (hr:N.rs.length=N.es.length) :
 ∃ P,Frag (GoodE tk r) N f t (layW y f t N) [⟨0,0,N.es.length⟩] P∧FragD K N f t (layW y f t N) [⟨0,0,N.es.length⟩] (fun F T => ∃ M,stp K 0 0 F M∧QE K y M T):=by
 have l0:=Nv.es_fresh N (N.rule f)
 have lr:(N.fresh (N.rule f)).rs.length=(N.fresh (N.rule f)).es.length:=by simp [Nv.fresh,hr]
 have h1:=frag_edge (G:=GoodE tk r) (N:=N.fresh (N.rule f)) (f:=f) (t:=N.es.length) (k:=0) (n:=0) (by omega) (by omega) lr (goodE_free _ _ _)
 have v1:FragD K (N.fresh (N.rule f)) f N.es.length ((N.fresh (N.rule f)).edge f 0 0 N.es.length) [⟨0,0,N.es.length⟩] (stp K 0 0):=fd_edge
 have l1:=Nv.es_edge (N.fresh (N.rule f)) f 0 0 N.es.length
 obtain ⟨o,P,h2,⟨h3,h4⟩,v2⟩:=h ((N.fresh (N.rule f)).edge f 0 0 N.es.length) N.es.length t (by omega) (by omega) h1.rl'
 exact ⟨_,frag_seq h1 h2 hr hf ht h3 h4,fd_seq h1 h2 v1 v2 hf ht⟩
theorem layS_fd:∀ (l:List Ex),(∀ y ∈ l,LD K tk r y)→l≠[]→∀ (N:Nv) (f t:Nat),f < N.es.length→t < N.es.length→N.rs.length=N.es.length →
 ∃ o P,Frag (GoodE tk r) N f t (layS l f t N) o P∧GoodO o∧FragD K N f t (layS l f t N) o (QS K l)
 | [],_,h,_,_,_,_,_,_ => absurd rfl h
 | [x],hl,_,N,f,t,hf,ht,hr => by
  obtain ⟨o,P,h1,h2,v⟩:=hl x (by simp) N f t hf ht hr
  rw [layS_one]
  exact ⟨o,P,h1,h2,v.iff fun F T => by rw [QS_one]⟩
 | x :: y :: l,hl,_,N,f,t,hf,ht,hr => by
  rw [layS_cons2]
  have l0:=Nv.es_fresh N (N.rule f)
  have lr:(N.fresh (N.rule f)).rs.length=(N.fresh (N.rule f)).es.length:=by simp [Nv.fresh,hr]
  obtain ⟨o1,P1,h1,h2,v1⟩:=hl x (by simp) (N.fresh (N.rule f)) f N.es.length (by omega) (by omega) lr
  have l1:=h1.len
  obtain ⟨o2,P2,g1,⟨g2,g2'⟩,v2⟩:=layS_fd (y :: l) (fun z hz => hl z (by simp [hz])) (by simp) (layE x f N.es.length (N.fresh (N.rule f))) N.es.length t (by omega) (by omega) h1.rl'
  exact ⟨o1,_,frag_seq h1 g1 hr hf ht g2 g2',h2,(fd_seq h1 g1 v1 v2 hf ht).iff fun F T => by rw [QS_cons2]⟩
theorem layA_fd:∀ (l:List Ex),(∀ y ∈ l,LD K tk r y)→l≠[]→∀ (N:Nv) (f t:Nat),f < N.es.length→t < N.es.length→N.rs.length=N.es.length →
 ∃ o P,Frag (GoodE tk r) N f t (layA l f t N) o P∧o≠[]∧(∀ e ∈ o,e.kind=0)∧FragD K N f t (layA l f t N) o (QA K l)
 | [],_,h,_,_,_,_,_,_ => absurd rfl h
 | [x],hl,_,N,f,t,hf,ht,hr => by
  obtain ⟨P,h1,v1⟩:=layW_fd (hl x (by simp)) N f t hf ht hr
  rw [layA_cons,layA]
  exact ⟨_,P,h1,by simp,by simp,v1.iff fun F T => by rw [QA,QA]; exact ⟨fun h => h.1,fun h => ⟨h,trivial⟩⟩⟩
 | x :: y :: l,hl,_,N,f,t,hf,ht,hr => by
  rw [layA_cons]
  obtain ⟨P1,h1,v1⟩:=layW_fd (hl x (by simp)) N f t hf ht hr
  have l1:=h1.len
  obtain ⟨o2,P2,g1,g2,g3,v2⟩:=layA_fd (y :: l) (fun z hz => hl z (by simp [hz])) (by simp) (layW x f t N) f t (by omega) (by omega) h1.rl'
  obtain ⟨pA,pB⟩:=fd_par h1 g1 v1 v2 ht
  refine ⟨_,_,frag_par h1 g1 (.inl rfl) (.inl rfl) ht,by simp,fun e he => ?_,⟨fun Z ho hn => ?_,fun Z0 h0 => ?_⟩⟩
  · rcases List.mem_append.1 he with he | he
    · simp at he; subst he; rfl
    · exact g3 e he
  · rw [QA]; exact pA Z ho hn
  · rw [QA] at h0; exact pB Z0 h0.1 h0.2
theorem layE_fd:∀ (x:Ex),okE tk r x→LD K tk r x:=fun x ho N f t hf ht hr => by
 have hsub:∀ y ∈ x.l,LD K tk r y:=fun y hy => layE_fd y (ho.sub hy)
 rw [layE_eq]
 have hq:=QE_eq (K:=K) x
 split
 · rename_i k1
   exact ⟨_,_,frag_edge hf ht hr ⟨by show (0:Int)≤1; decide,by show (1:Int)≤2; decide,(ho.tok k1).1,(fun h => by cases h),(fun _ => (ho.tok k1).2)⟩,⟨by simp,.inl rfl⟩,fd_edge.iff fun F T => by rw [hq,if_pos k1]⟩
 rename_i k1
 split
 · rename_i k2
   exact ⟨_,_,frag_edge hf ht hr ⟨by show (0:Int)≤2; decide,by show (2:Int)≤2; decide,(ho.call k2).1,(fun _ => (ho.call k2).2),(fun h => by cases h)⟩,⟨by simp,.inl rfl⟩,fd_edge.iff fun F T => by rw [hq,if_neg k1,if_pos k2]⟩
 rename_i k2
 split
 · rename_i k3
   by_cases h0:x.l=[]
   · rw [h0,layS]
     exact ⟨_,_,frag_edge hf ht hr (goodE_free _ _ _),⟨by simp,.inl rfl⟩,fd_edge.iff fun F T => by rw [hq,if_neg k1,if_neg k2,if_pos k3,h0,QS]⟩
   · obtain ⟨o,P,h1,h2,v⟩:=layS_fd x.l hsub h0 N f t hf ht hr
     exact ⟨o,P,h1,h2,v.iff fun F T => by rw [hq,if_neg k1,if_neg k2,if_pos k3]⟩
 rename_i k3
 split
 · rename_i k4
   obtain ⟨o,P,h1,h2,h3,v⟩:=layA_fd x.l hsub (ho.alt k4) N f t hf ht hr
   exact ⟨o,P,h1,⟨h2,.inr h3⟩,v.iff fun F T => by rw [hq,if_neg k1,if_neg k2,if_neg k3,if_pos k4]⟩
 rename_i k4
 split
 · rename_i k5
   obtain ⟨z,hz⟩:=ho.star (.inl k5)
   have hLz:=hsub z (by rw [hz]; simp)
   have l0:=Nv.es_fresh N (N.rule f)
   have lr:(N.fresh (N.rule f)).rs.length=(N.fresh (N.rule f)).es.length:=by simp [Nv.fresh,hr]
   have h1:=frag_edge (G:=GoodE tk r) (N:=N.fresh (N.rule f)) (f:=f) (t:=N.es.length) (k:=0) (n:=0) (by omega) (by omega) lr (goodE_free _ _ _)
   have v1:FragD K (N.fresh (N.rule f)) f N.es.length ((N.fresh (N.rule f)).edge f 0 0 N.es.length) [⟨0,0,N.es.length⟩] (stp K 0 0):=fd_edge
   have l1:=Nv.es_edge (N.fresh (N.rule f)) f 0 0 N.es.length
   have hr1:=h1.rl'
   generalize hN1:(N.fresh (N.rule f)).edge f 0 0 N.es.length=N1 at h1 v1 l1 hr1
   obtain ⟨P2,h2,v2⟩:=layW_fd hLz N1 N.es.length N.es.length (by omega) (by omega) hr1
   have l2:=h2.len
   have h3:=frag_edge (G:=GoodE tk r) (N:=layW z N.es.length N.es.length N1) (f:=N.es.length) (t:=t) (k:=0) (n:=0) (by omega) (by omega) h2.rl' (goodE_free _ _ _)
   have v3:FragD K (layW z N.es.length N.es.length N1) N.es.length t ((layW z N.es.length N.es.length N1).edge N.es.length 0 0 t) [⟨0,0,t⟩] (stp K 0 0):=fd_edge
   have h4:=frag_par (t:=t) h2 h3 (.inr rfl) (.inl rfl) (by omega)
   obtain ⟨pA,pB⟩:=fd_par h2 h3 v2 v3 (by omega)
   have v4:FragD K N1 N.es.length t ((layW z N.es.length N.es.length N1).edge N.es.length 0 0 t) ([⟨0,0,N1.es.length⟩] ++ [⟨0,0,t⟩]) (fun F T => (∃ M,stp K 0 0 F M∧QE K z M F)∧stp K 0 0 F T):=⟨pA,fun Z0 h0 => pB Z0 h0.1 h0.2⟩
   rw [hz,layH_cons]
   refine ⟨_,_,frag_seq h1 h4 hr hf ht (by simp) (.inr (by simp)),⟨by simp,.inl rfl⟩,(fd_seq h1 h4 v1 v4 hf ht).iff fun F T => ?_⟩
   rw [hq,if_neg k1,if_neg k2,if_neg k3,if_neg k4,if_pos k5,hz]
   simp only [QH]
 rename_i k5
 split
 · rename_i k6
   obtain ⟨z,hz⟩:=ho.star (.inr k6)
   have hLz:=hsub z (by rw [hz]; simp)
   obtain ⟨P2,h2,v2⟩:=layW_fd hLz N f t hf ht hr
   have l2:=h2.len
   have h3:=frag_edge (G:=GoodE tk r) (N:=layW z f t N) (f:=f) (t:=t) (k:=0) (n:=0) (by omega) (by omega) h2.rl' (goodE_free _ _ _)
   have v3:FragD K (layW z f t N) f t ((layW z f t N).edge f 0 0 t) [⟨0,0,t⟩] (stp K 0 0):=fd_edge
   have h4:=frag_par (t:=t) h2 h3 (.inl rfl) (.inl rfl) ht
   obtain ⟨pA,pB⟩:=fd_par h2 h3 v2 v3 ht
   rw [hz,layH_cons]
   refine ⟨_,_,h4,⟨by simp,.inr (by simp)⟩,⟨fun Z ho hn => ?_,fun Z0 h0 => ?_⟩⟩
   · rw [hq,if_neg k1,if_neg k2,if_neg k3,if_neg k4,if_neg k5,if_pos k6,hz]
     simp only [QH]
     exact pA Z ho hn
   · rw [hq,if_neg k1,if_neg k2,if_neg k3,if_neg k4,if_neg k5,if_pos k6,hz] at h0
     simp only [QH] at h0
     exact pB Z0 h0.1 h0.2
 · rename_i k6
   exact ⟨_,_,frag_edge hf ht hr (goodE_free _ _ _),⟨by simp,.inl rfl⟩,fd_edge.iff fun F T => by rw [hq,if_neg k1,if_neg k2,if_neg k3,if_neg k4,if_neg k5,if_neg k6]⟩
termination_by x => x
decreasing_by exact Ex.sub_lt hy
end
end Go.Am
namespace Go.Am
open Go Go.Proofs
section
variable (bs:List Ex) (l:List Int)
def posW:Walk Nat where
 st k n a b:=if k=0 then b=a else if k=1 then l[a]?=some n∧b=a+1 else ∃ y,bs[n.toNat]?=some y∧Der bs l y a b
 ck _ _ _:=True
variable {bs l}
theorem stp0 {F T:Nat→Prop} {n:Int}:stp (posW bs l) 0 n F T ↔ ∀ i,F i→T i :=
 ⟨fun h i hi => (h i hi).2 i rfl,fun h i hi => ⟨trivial,fun j hj => by have:j=i:=hj; subst this; exact h j hi⟩⟩
theorem star_ind {M:Nat→Prop} {x y:Ex} (hx:x.kind=5) (hl:x.l=[y]) (hc:∀ i j,M i→Der bs l y i j→M j) {w:Ex ⊕ List Ex} {i j:Nat} (h:Dx bs l w i j):w=.inl x→M i→M j:=by
 induction h with
 | star0 _ => intro _ h; exact h
 | star1 h1 h2 h3 h4 ih1 ih2 =>
  intro e hm
  cases e
  rw [hl] at h2; cases h2
  exact hc _ _ (ih1 rfl hm) h4
 | tok h1 _ => intro e; cases e; omega
 | call h1 _ _ _ => intro e; cases e; omega
 | alt h1 _ _ _ => intro e; cases e; omega
 | opt0 h1 => intro e; cases e; omega
 | opt1 h1 _ _ _ => intro e; cases e; omega
 | seq h1 _ _ => intro e; cases e; omega
 | nil => intro e; cases e
 | cons _ _ _ _ => intro e; cases e
def QD (x:Ex):Prop:=∀ F T:Nat→Prop,QE (posW bs l) x F T ↔ ∀ i j,F i→Der bs l x i j→T j
theorem QW_der {y:Ex} (h:QD (bs:=bs) (l:=l) y) (F T:Nat→Prop):(∃ M,stp (posW bs l) 0 0 F M∧QE (posW bs l) y M T) ↔ ∀ i j,F i→Der bs l y i j→T j:=by
 constructor
 · rintro ⟨M,m1,m2⟩ i j hi hd
   exact (h M T).1 m2 i j (stp0.1 m1 i hi) hd
 · intro hh
   exact ⟨F,stp0.2 fun _ h => h,(h F T).2 hh⟩
theorem QS_der:∀ (ls:List Ex),(∀ y ∈ ls,QD (bs:=bs) (l:=l) y)→∀ F T:Nat→Prop,QS (posW bs l) ls F T ↔ ∀ i j,F i→DerL bs l ls i j→T j
 | [],_,F,T => by
  rw [QS,stp0]
  constructor
  · intro h i j hi hd; cases hd; exact h i hi
  · intro h i hi; exact h i i hi .nil
 | [x],h,F,T => by
  rw [QS_one,h x (by simp) F T]
  constructor
  · intro hh i j hi hd
    cases hd with
    | cons a b => cases b; exact hh i j hi a
  · intro hh i j hi hd; exact hh i j hi (.cons hd .nil)
 | x :: y :: ls,h,F,T => by
  rw [QS_cons2]
  constructor
  · rintro ⟨M,m1,m2⟩ i j hi hd
    cases hd with
    | cons a b => exact (QS_der (y :: ls) (fun z hz => h z (by simp [hz])) M T).1 m2 _ _ ((h x (by simp) F M).1 m1 _ _ hi a) b
  · intro hh
    refine ⟨fun k => ∃ i,F i∧Der bs l x i k,(h x (by simp) F _).2 fun i j hi hd => ⟨i,hi,hd⟩,(QS_der (y :: ls) (fun z hz => h z (by simp [hz])) _ T).2 ?_⟩
    rintro k j ⟨i,hi,hd⟩ hd2
    exact hh i j hi (.cons hd hd2)
theorem QA_der:∀ (ls:List Ex),(∀ y ∈ ls,QD (bs:=bs) (l:=l) y)→∀ F T:Nat→Prop,QA (posW bs l) ls F T ↔ ∀ y ∈ ls,∀ i j,F i→Der bs l y i j→T j
 | [],_,F,T => by rw [QA]; exact ⟨(fun _ y hy => by cases hy),fun _ => trivial⟩
 | x :: ls,h,F,T => by
  rw [QA,QW_der (h x (by simp)),QA_der ls (fun z hz => h z (by simp [hz]))]
  constructor
  · rintro ⟨h1,h2⟩ y hy
    rcases List.mem_cons.1 hy with rfl | hy
    · exact h1
    · exact h2 y hy
  · intro hh; exact ⟨hh x (by simp),fun y hy => hh y (by simp [hy])⟩
theorem QE_der {t:Int}:∀ x:Ex,okE t bs.length x→QD (bs:=bs) (l:=l) x:=fun x ho F T => by
 have hsub:∀ y ∈ x.l,QD (bs:=bs) (l:=l) y:=fun y hy => QE_der y (ho.sub hy)
 rw [QE_eq]
 split
 · rename_i k1
   constructor
   · intro h i j hi hd
     cases hd with
     | tok h1 h2 => exact (h i hi).2 _ ⟨h2,rfl⟩
     | seq h1 _ => omega
     | _ => omega
   · intro h i hi
     refine ⟨trivial,fun b hb => ?_⟩
     have hb:l[i]?=some x.num∧b=i+1:=hb
     obtain ⟨h1,rfl⟩:=hb
     exact h i _ hi (.tok k1 h1)
 rename_i k1
 split
 · rename_i k2
   constructor
   · intro h i j hi hd
     cases hd with
     | call h1 h2 h3 => exact (h i hi).2 _ ⟨_,h2,h3⟩
     | seq h1 _ => omega
     | _ => omega
   · intro h i hi
     refine ⟨trivial,fun b hb => ?_⟩
     obtain ⟨y,h1,h2⟩:=(show ∃ y,bs[x.num.toNat]?=some y∧Der bs l y i b from hb)
     exact h i b hi (.call k2 h1 h2)
 rename_i k2
 split
 · rename_i k3
   rw [QS_der x.l hsub F T]
   constructor
   · intro h i j hi hd
     cases hd with
     | seq h1 h2 => exact h i j hi h2
     | _ => omega
   · intro h i j hi hd
     exact h i j hi (.seq ⟨k1,k2,by omega,by omega,by omega⟩ hd)
 rename_i k3
 split
 · rename_i k4
   rw [QA_der x.l hsub F T]
   constructor
   · intro h i j hi hd
     cases hd with
     | alt h1 h2 h3 => exact h _ h2 i j hi h3
     | seq h1 _ => omega
     | _ => omega
   · intro h y hy i j hi hd
     exact h i j hi (.alt k4 hy hd)
 rename_i k4
 split
 · rename_i k5
   obtain ⟨y,hy⟩:=ho.star (.inl k5)
   have hqy:=hsub y (by rw [hy]; simp)
   rw [hy]
   constructor
   · rintro ⟨M,m1,m2,m3⟩ i j hi hd
     simp only [QH] at m2
     have hc:=(QW_der hqy M M).1 m2
     exact stp0.1 m3 j (star_ind k5 hy hc hd rfl (stp0.1 m1 i hi))
   · intro h
     refine ⟨fun k => ∃ i,F i∧Der bs l x i k,stp0.2 fun i hi => ⟨i,hi,.star0 k5⟩,?_,stp0.2 ?_⟩
     · simp only [QH]
       refine (QW_der hqy _ _).2 ?_
       rintro k j ⟨i,hi,hd⟩ hd2
       exact ⟨i,hi,.star1 k5 hy hd hd2⟩
     · rintro j ⟨i,hi,hd⟩; exact h i j hi hd
 rename_i k5
 split
 · rename_i k6
   obtain ⟨y,hy⟩:=ho.star (.inr k6)
   have hqy:=hsub y (by rw [hy]; simp)
   rw [hy]
   simp only [QH]
   rw [QW_der hqy F T,stp0]
   constructor
   · rintro ⟨h1,h2⟩ i j hi hd
     cases hd with
     | opt0 _ => exact h2 i hi
     | opt1 _ h4 h5 => rw [hy] at h4; cases h4; exact h1 i j hi h5
     | seq h1 _ => omega
     | _ => omega
   · intro h
     exact ⟨fun i j hi hd => h i j hi (.opt1 k6 hy hd),fun i hi => h i i hi (.opt0 k6)⟩
 · rename_i k6
   have k0:=ho.kind0 k1 k2 k3 k4 k5 k6
   have hl:x.l=[]:=by
    have:=ho.c
    simp [rightN,k0,rightC] at this
    first | exact this.2 | exact this.1.2 | exact List.length_eq_zero_iff.1 (by omega)
   rw [stp0]
   constructor
   · intro h i j hi hd
     cases hd with
     | seq h1 h2 => rw [hl] at h2; cases h2; exact h i hi
     | _ => omega
   · intro h i hi
     exact h i i hi (.seq ⟨k1,k2,k4,k5,k6⟩ (by rw [hl]; exact .nil))
termination_by x => x
decreasing_by exact Ex.sub_lt hy
end
section
variable {q:Int→Bool} {Bq:Nat→Prop}
def earW (q:Int→Bool) (Bq:Nat→Prop):Walk Unit where
 st k n _ _:=k=0∨(k=2∧q n=true)
 ck k n _:=k=2→Bq n.toNat
theorem estp0 {F T:Unit→Prop} (h:F ()→T ()):stp (earW q Bq) 0 0 F T:=fun a ha => ⟨(fun h => by cases h),fun b _ => h ha⟩
def QB (q:Int→Bool) (Bq:Nat→Prop) (x:Ex):Prop:=∀ F T:Unit→Prop,(F ()→(∀ n,Beg q x n→Bq n)∧(canE false q x=true→T ()))→QE (earW q Bq) x F T
theorem QS_ear:∀ (ls:List Ex),(∀ y ∈ ls,QB q Bq y)→∀ F T:Unit→Prop,(F ()→(∀ (pre:List Ex) (y:Ex) (post:List Ex),ls=pre ++ y :: post→(∀ z ∈ pre,canE false q z=true)→∀ n,Beg q y n→Bq n)∧((∀ y ∈ ls,canE false q y=true)→T ()))→QS (earW q Bq) ls F T
 | [],_,F,T,h => by rw [QS]; exact estp0 fun hf => (h hf).2 fun y hy => by cases hy
 | [x],hx,F,T,h => by
  rw [QS_one]
  refine hx x (by simp) F T fun hf => ⟨fun n hn => (h hf).1 [] x [] rfl (fun z hz => by cases hz) n hn,fun hc => (h hf).2 fun y hy => by simp at hy; subst hy; exact hc⟩
 | x :: y :: ls,hx,F,T,h => by
  rw [QS_cons2]
  refine ⟨fun _ => F ()∧canE false q x=true,hx x (by simp) F _ fun hf => ⟨fun n hn => (h hf).1 [] x (y :: ls) rfl (fun z hz => by cases hz) n hn,fun hc => ⟨hf,hc⟩⟩,QS_ear (y :: ls) (fun z hz => hx z (by simp [hz])) _ T fun hm => ⟨fun pre z post e hp n hn => ?_,fun hc => ?_⟩⟩
  · refine (h hm.1).1 (x :: pre) z post (by rw [e]; rfl) (fun w hw => ?_) n hn
    rcases List.mem_cons.1 hw with rfl | hw
    · exact hm.2
    · exact hp w hw
  · refine (h hm.1).2 fun w hw => ?_
    rcases List.mem_cons.1 hw with rfl | hw
    · exact hm.2
    · exact hc w hw
theorem QA_ear:∀ (ls:List Ex),(∀ y ∈ ls,QB q Bq y)→∀ F T:Unit→Prop,(F ()→∀ y ∈ ls,(∀ n,Beg q y n→Bq n)∧(canE false q y=true→T ()))→QA (earW q Bq) ls F T
 | [],_,F,T,_ => by rw [QA]; trivial
 | x :: ls,hx,F,T,h => by
  rw [QA]
  exact ⟨⟨F,estp0 id,hx x (by simp) F T fun hf => h hf x (by simp)⟩,QA_ear ls (fun z hz => hx z (by simp [hz])) F T fun hf y hy => h hf y (by simp [hy])⟩
theorem QE_ear {t:Int} {r:Nat}:∀ x:Ex,okE t r x→QB q Bq x:=fun x ho F T h => by
 have hsub:∀ y ∈ x.l,QB q Bq y:=fun y hy => QE_ear y (ho.sub hy)
 rw [QE_eq]
 split
 · exact fun a ha => ⟨(fun h => by cases h),(fun b hb => by rcases hb with h | h; cases h; cases h.1)⟩
 rename_i k1
 split
 · rename_i k2
   refine fun a ha => ⟨fun _ => (h ha).1 _ (.call k2),fun b hb => ?_⟩
   rcases hb with hb | hb
   · cases hb
   · exact (h ha).2 (by rw [canE_eq,if_neg k1,if_pos k2]; exact hb.2)
 rename_i k2
 split
 · rename_i k3
   refine QS_ear x.l hsub F T fun hf => ⟨fun pre y post e hp n hn => (h hf).1 n (.seq e hp hn),fun hc => (h hf).2 ?_⟩
   rw [canE_eq,if_neg k1,if_neg k2,if_neg (by omega),if_pos k3,Bool.not_eq_true',List.any_eq_false]
   intro y hy; rw [hc y hy]; simp
 rename_i k3
 split
 · rename_i k4
   refine QA_ear x.l hsub F T fun hf y hy => ⟨fun n hn => (h hf).1 n (.sub (by omega) hy hn),fun hc => (h hf).2 ?_⟩
   rw [canE_eq,if_neg k1,if_neg k2,if_pos k4,List.any_eq_true]
   exact ⟨y,hy,hc⟩
 rename_i k4
 have hcx:canE false q x=true:=by rw [canE_eq,if_neg k1,if_neg k2,if_neg k4,if_neg k3]
 split
 · rename_i k5
   obtain ⟨y,hy⟩:=ho.star (.inl k5)
   have hym:y ∈ x.l:=by rw [hy]; simp
   refine ⟨F,estp0 id,?_,estp0 fun hf => (h hf).2 hcx⟩
   rw [hy]; simp only [QH]
   exact ⟨F,estp0 id,hsub y hym F F fun hf => ⟨fun n hn => (h hf).1 n (.sub (by omega) hym hn),fun _ => hf⟩⟩
 rename_i k5
 split
 · rename_i k6
   obtain ⟨y,hy⟩:=ho.star (.inr k6)
   have hym:y ∈ x.l:=by rw [hy]; simp
   refine ⟨?_,estp0 fun hf => (h hf).2 hcx⟩
   rw [hy]; simp only [QH]
   exact ⟨F,estp0 id,hsub y hym F T fun hf => ⟨fun n hn => (h hf).1 n (.sub (by omega) hym hn),fun _ => (h hf).2 hcx⟩⟩
 · exact estp0 fun hf => (h hf).2 hcx
termination_by x => x
decreasing_by exact Ex.sub_lt hy
end
end Go.Am
namespace Go.Am
open Go Go.Proofs
structure NetK {α:Type} (g:Gr) (K:Walk α) (i:Nat) (S:Ns):Prop where
 A:∀ (k:Nat) (y:Ex),k < i→g.bodies[k]?=some y→∀ Z:Nat→α→Prop,(∀ (s:Nat) (r:List Eg),S.N.es[s]?=some r→S.N.rule s=(k:Int)→Clo K Z (Z s) r) →
  ∀ a b:Nat,S.en.getD k 0=(a:Int)→S.lv.getD k 0=(b:Int)→QE K y (Z a) (Z b)
 B:∀ F0 T0:Nat→α→Prop,(∀ (k:Nat) (y:Ex),k < i→g.bodies[k]?=some y→QE K y (F0 k) (T0 k))→∃ Z:Nat→α→Prop,(∀ (k:Nat) (y:Ex),k < i→g.bodies[k]?=some y→∀ a b:Nat,S.en.getD k 0=(a:Int)→S.lv.getD k 0=(b:Int)→Z a=F0 k∧Z b=T0 k) ∧
  ∀ (s:Nat) (r:List Eg),S.N.es[s]?=some r→Clo K Z (Z s) r
theorem NetK.step {α:Type} {g:Gr} {K:Walk α} {i:Nat} {S:Ns} (h:NetW g i S) (hV:NetK g K i S) {b:Ex} (hb:g.bodies[i]?=some b) (ho:okE g.tokens g.bodies.length b) :
 NetK g K (i+1) ⟨layE b S.N.es.length (S.N.es.length+1) ((S.N.fresh i).fresh i),S.en ++ [(S.N.es.length:Int)],S.lv ++ [((S.N.es.length+1:Nat):Int)]⟩:=by
 obtain ⟨N,en,lv⟩:=S
 obtain ⟨rl,enl,lvl,rr,ene,lve,row,-⟩:=h
 obtain ⟨hA,hBB⟩:=hV
 dsimp only at *
 have l1:((N.fresh (i:Int)).fresh (i:Int)).es.length=N.es.length+2:=by rw [Nv.es_fresh,Nv.es_fresh]
 have hN1:((N.fresh (i:Int)).fresh (i:Int)).rs=N.rs ++ [(i:Int),(i:Int)]:=by simp [Nv.fresh]
 have hE1:((N.fresh (i:Int)).fresh (i:Int)).es=N.es ++ [[],[]]:=by simp [Nv.fresh]
 obtain ⟨o,P,F,-,w⟩:=layE_fd (K:=K) (tk:=g.tokens) (r:=g.bodies.length) b ho ((N.fresh (i:Int)).fresh (i:Int)) N.es.length (N.es.length+1) (by omega) (by omega) (by rw [hN1,hE1]; simp [rl])
 generalize layE b N.es.length (N.es.length+1) ((N.fresh (i:Int)).fresh (i:Int))=N' at F w
 have fl:=F.len
 rw [l1] at fl
 have r1:∀ s,s < N.es.length→((N.fresh (i:Int)).fresh (i:Int)).rule s=N.rule s:=fun s hs => by
  unfold Nv.rule; rw [hN1,List.getD_eq_getElem?_getD,List.getElem?_append_left (by omega),← List.getD_eq_getElem?_getD]
 have r2:∀ s,N.es.length≤s→s < N.es.length+2→((N.fresh (i:Int)).fresh (i:Int)).rule s=(i:Int):=fun s h1 h2 => by
  unfold Nv.rule; rw [hN1,List.getD_eq_getElem?_getD,List.getElem?_append_right (by omega),rl]
  rcases (show s - N.es.length=0∨s - N.es.length=1 by omega) with e | e <;> rw [e] <;> rfl
 have R1:∀ s,s < N.es.length+2→N'.rule s=((N.fresh (i:Int)).fresh (i:Int)).rule s:=fun s hs => by
  unfold Nv.rule; rw [F.rs,List.getD_eq_getElem?_getD,List.getElem?_append_left (by rw [F.rl,l1]; omega),← List.getD_eq_getElem?_getD]
 have Rold:∀ s,s < N.es.length→N'.rule s=N.rule s:=fun s hs => (R1 s (by omega)).trans (r1 s hs)
 have Rnew:∀ s,N.es.length≤s→s < N'.es.length→N'.rule s=(i:Int):=fun s h1 h2 => by
  rcases Nat.lt_or_ge s (N.es.length+2) with h3 | h3
  · rw [R1 s h3,r2 s h1 h3]
  · unfold Nv.rule
    rw [F.rs,List.getD_eq_getElem?_getD,List.getElem?_append_right (by rw [F.rl,l1]; exact h3),List.getElem?_replicate,F.rl,l1,if_pos (by omega),r2 _ (Nat.le_refl _) (by omega)]; rfl
 have Eold:∀ s,s < N.es.length→N'.es[s]?=N.es[s]?:=fun s hs => by rw [F.old s (by omega) (by omega),hE1,List.getElem?_append_left hs]
 have Ea:N'.es[N.es.length]?=some o:=by rw [F.out [] (by rw [hE1]; simp)]; rfl
 have Eb:N'.es[N.es.length+1]?=some []:=by
  rw [F.old _ (by omega) (by omega),hE1,List.getElem?_append_right (by omega),show N.es.length+1 - N.es.length=1 by omega]; rfl
 have ga:∀ a:Nat,(en ++ [(N.es.length:Int)]).getD i 0=(a:Int)→a=N.es.length:=fun a h => by rw [← enl,getD_end] at h; omega
 have gb:∀ b:Nat,(lv ++ [((N.es.length+1:Nat):Int)]).getD i 0=(b:Int)→b=N.es.length+1:=fun b h => by rw [← lvl,getD_end] at h; omega
 constructor
 · intro k y hk hy Z hr a b' ha hb'
   dsimp only at hr ha hb'
   rcases Nat.lt_or_ge k i with h | h
   · rw [getD_app (by omega)] at ha hb'
     refine hA k y h hy Z (fun s r hs hrs => ?_) a b' ha hb'
     have hsl:=(List.getElem?_eq_some_iff.1 hs).1
     exact hr s r (by rw [Eold s hsl]; exact hs) (by rw [Rold s hsl]; exact hrs)
   · obtain rfl:k=i:=by omega
     rw [hb] at hy; cases hy
     obtain rfl:=ga a ha
     obtain rfl:=gb b' hb'
     exact w.A Z (hr _ _ Ea (Rnew _ (Nat.le_refl _) (by omega))) fun s r hs hrs => hr s r hrs (Rnew s (by omega) (List.getElem?_eq_some_iff.1 hrs).1)
 · intro F0 T0 hq
   obtain ⟨Z0,v2,v3⟩:=hBB F0 T0 fun k y hk hy => hq k y (by omega) hy
   have hq0:QE K b ((fun s => if s < N.es.length then Z0 s else if s=N.es.length then F0 i else T0 i) N.es.length) ((fun s => if s < N.es.length then Z0 s else if s=N.es.length then F0 i else T0 i) (N.es.length+1)):=by
    dsimp only
    rw [if_neg (by omega),if_pos rfl,if_neg (by omega),if_neg (by omega)]
    exact hq i b (by omega) hb
   obtain ⟨Z,b2,b3,b4⟩:=w.B (fun s => if s < N.es.length then Z0 s else if s=N.es.length then F0 i else T0 i) hq0
   have u1:∀ s,s < N.es.length→Z s=Z0 s:=fun s hs => by rw [b2 s (by omega)]; exact if_pos hs
   have u2:Z N.es.length=F0 i:=by rw [b2 _ (by omega),if_neg (by omega),if_pos rfl]
   have u3:Z (N.es.length+1)=T0 i:=by rw [b2 _ (by omega),if_neg (by omega),if_neg (by omega)]
   refine ⟨Z,fun k y hk hy a b' ha hb' => ?_,fun s r hs => ?_⟩
   · dsimp only at ha hb'
     rcases Nat.lt_or_ge k i with h | h
     · rw [getD_app (by omega)] at ha hb'
       obtain ⟨q1,q2⟩:=v2 k y h hy a b' ha hb'
       obtain ⟨s1,c1,c2,-⟩:=ene k h
       obtain ⟨s2,d1,d2,-⟩:=lve k h
       rw [u1 a (by omega),u1 b' (by omega)]
       exact ⟨q1,q2⟩
     · obtain rfl:k=i:=by omega
       rw [hb] at hy; cases hy
       obtain rfl:=ga a ha
       obtain rfl:=gb b' hb'
       exact ⟨u2,u3⟩
   · dsimp only at hs
     have hsl:=(List.getElem?_eq_some_iff.1 hs).1
     rcases Nat.lt_or_ge s N.es.length with h | h
     · rw [Eold s h] at hs
       rw [u1 s h]
       exact (v3 s r hs).congr fun e he => u1 _ ((row s r hs).2.2 e he).2.1
     · rcases Nat.lt_or_ge s (N.es.length+2) with h3 | h3
       · rcases (show s=N.es.length∨s=N.es.length+1 by omega) with rfl | rfl
         · rw [Ea] at hs
           cases hs
           exact b3
         · rw [Eb] at hs
           cases hs
           exact fun e he => by cases he
       · exact b4 s r (by omega) hs
theorem newF_K {α:Type} {g:Gr} {K:Walk α}:∀ (bs:List Ex) (i:Nat) (S:Ns),NetW g i S→NetK g K i S→(∀ k y,bs[k]?=some y→g.bodies[i+k]?=some y)→(∀ y ∈ bs,okE g.tokens g.bodies.length y)→(∀ y ∈ bs,vainE (qOf g.null) y=false)→NetK g K (i+bs.length) (newF bs i S)
 | [],i,S,_,h,_,_,_ => h
 | b :: bs,i,S,h,hV,hk,h1,h2 => by
  rw [newF,List.length_cons,show i+(bs.length+1)=i+1+bs.length by omega]
  exact newF_K bs (i+1) _ (h.step (h1 b (by simp)) (h2 b (by simp))) (hV.step h (hk 0 b rfl) (h1 b (by simp))) (fun k y hy => by
   have:=hk (k+1) y (by simpa using hy)
   rwa [show i+(k+1)=i+1+k by omega] at this) (fun y hy => h1 y (by simp [hy])) (fun y hy => h2 y (by simp [hy]))
theorem newN_K {α:Type} {g:Gr} {K:Walk α} (h:GOk g):NetK g K g.rules.length (newN g):=by
 have:=newF_K (g:=g) (K:=K) g.bodies 0 ⟨⟨[],[]⟩,[],[]⟩ ⟨rfl,rfl,rfl,(fun s hs => by simp at hs),(fun k hk => by omega),(fun k hk => by omega),(fun s r hs => by simp at hs),fun _ => 0,fun s r hs => by simp at hs⟩
  ⟨(fun k y hk => by omega),fun F0 T0 _ => ⟨fun _ _ => True,(fun k y hk => by omega),fun s r hs => by simp at hs⟩⟩ (fun k y hy => by rw [Nat.zero_add]; exact hy) h.ok h.vain
 rw [Nat.zero_add,Gr.bodies,List.length_map] at this
 exact this
inductive Rch (bs:List Ex) (l:List Int) (N:Nv) (a:Nat) (i:Nat):Nat→Nat→Prop
 | start:Rch bs l N a i a i
 | step {s p k:Nat} {r:List Eg} {e:Eg}:Rch bs l N a i s p→N.es[s]?=some r→e ∈ r→(posW bs l).st e.kind e.num p k→Rch bs l N a i e.to k
section
variable {g:Gr} {l:List Int}
theorem rch_der (h:GOk g) {k:Nat} {y:Ex} (hk:k < g.rules.length) (hy:g.bodies[k]?=some y) {a b:Nat} (ha:(newN g).en.getD k 0=(a:Int)) (hb:(newN g).lv.getD k 0=(b:Int)) (i j:Nat) :
 Rch g.bodies l (newN g).N a i b j ↔ Der g.bodies l y i j:=by
 have w:=newN_K (K:=posW g.bodies l) h
 have hoy:=h.ok y (List.mem_of_getElem? hy)
 constructor
 · intro hr
   obtain ⟨Z,z1,z2⟩:=w.B (fun k' p => k'=k∧p=i) (fun k' p => k'=k∧Der g.bodies l y i p) (fun k' y' hk' hy' => by
    refine (QE_der y' (h.ok y' (List.mem_of_getElem? hy')) _ _).2 ?_
    rintro i' j' ⟨rfl,rfl⟩ hd
    rw [hy] at hy'; cases hy'
    exact ⟨rfl,hd⟩)
   obtain ⟨q1,q2⟩:=z1 k y hk hy a b ha hb
   have key:∀ {s p:Nat},Rch g.bodies l (newN g).N a i s p→Z s p:=by
    intro s p hh
    induction hh with
    | start => rw [q1]; exact ⟨rfl,rfl⟩
    | step _ h1 h2 h3 ih => exact (z2 _ _ h1 _ h2 _ ih).2 _ h3
   have:=key hr
   rw [q2] at this
   exact this.2
 · intro hd
   have:=w.A k y hk hy (fun s p => Rch g.bodies l (newN g).N a i s p) (fun s r hs _ e he p hp => ⟨trivial,fun q hq => .step hp hs he hq⟩) a b ha hb
   exact (QE_der y hoy _ _).1 this i j .start hd
theorem rch_rank (h:GOk g) {q:Int→Bool} {t:Int} {rk:Nat→Nat} {R:Nat} (hR:Ranked g.bodies q t rk R) {k:Nat} {y:Ex} (hk:k < g.rules.length) (hy:g.bodies[k]?=some y) {a b:Nat} (ha:(newN g).en.getD k 0=(a:Int)) (hb:(newN g).lv.getD k 0=(b:Int)) {i s p:Nat}
 (hr:Rch g.bodies l (newN g).N a i s p):i≤p∧(p=i→∀ r,(newN g).N.es[s]?=some r→∀ e ∈ r,e.kind=2→rk e.num.toNat < rk k):=by
 have w:=newN_K (K:=earW q fun n => rk n < rk k) h
 obtain ⟨Z,z1,z2⟩:=w.B (fun k' _ => k'=k) (fun k' _ => k'=k) (fun k' y' hk' hy' => by
  refine QE_ear y' (h.ok y' (List.mem_of_getElem? hy')) _ _ fun hf => ⟨fun n hn => ?_,fun _ => hf⟩
  have hf:k'=k:=hf
  subst hf
  rw [hy] at hy'; cases hy'
  exact hR.rank _ _ hy n hn)
 obtain ⟨q1,-⟩:=z1 k y hk hy a b ha hb
 have key:i≤p∧(p=i→Z s ()):=by
  induction hr with
  | start => exact ⟨Nat.le_refl _,fun _ => by rw [q1]⟩
  | @step s p k' r e _ h1 h2 h3 ih =>
   obtain ⟨a1,a2⟩:=ih
   have h3:if e.kind=0 then k'=p else if e.kind=1 then l[p]?=some e.num∧k'=p+1 else ∃ y,g.bodies[e.num.toNat]?=some y∧Der g.bodies l y p k':=h3
   by_cases e0:e.kind=0
   · rw [if_pos e0] at h3
     subst h3
     exact ⟨a1,fun hp => (z2 _ _ h1 _ h2 () (a2 hp)).2 () (.inl e0)⟩
   rw [if_neg e0] at h3
   by_cases e1:e.kind=1
   · rw [if_pos e1] at h3
     exact ⟨by omega,fun hp => by omega⟩
   rw [if_neg e1] at h3
   obtain ⟨y',hy',hd⟩:=h3
   have hle:=Dx.le hd
   refine ⟨by omega,fun hp => ?_⟩
   obtain rfl:p=i:=by omega
   subst hp
   have hn:canE false q y'=true:=Dx.null hR.cl hR.ok hd rfl (hR.ok y' (List.mem_of_getElem? hy'))
   have hg:=(newN_sound h).ed r (List.mem_of_getElem? h1) e h2
   have hq:=hR.cl e.num y' hg.2.2.1 hy' hn
   exact (z2 _ _ h1 _ h2 () (a2 rfl)).2 () (.inr ⟨by omega,hq⟩)
 refine ⟨key.1,fun hp r hs e he hk2 => ?_⟩
 exact (z2 _ _ hs e he () (key.2 hp)).1 hk2
end
end Go.Am

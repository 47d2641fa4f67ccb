/- Part M3 of a proof that runs a program's calls on a small machine whose values bear no addresses: no conditions. -/
import Derived.Test.YtfhoagkadjinlaaAmM2
set_option autoImplicit false
set_option linter.unusedSimpArgs false
set_option linter.unusedVariables false
set_option linter.unusedSectionVars false
namespace Go.Am
open Go Go.Proofs
variable {fz:Nat→Md}
def caOf (g:Gr) (i:Nat):List (List Int):=(List.range i).map fun k => (kF (shEnd g.bodies) k).getD []
def lgOf (g:Gr) (i:Nat):List Bool:=(List.range i).map fun k => (kF (shEnd g.bodies) k).isNone
theorem caOf_succ (g:Gr) (i:Nat):caOf g (i+1)=caOf g i ++ [(kF (shEnd g.bodies) i).getD []]:=by simp [caOf,List.range_succ]
theorem lgOf_succ (g:Gr) (i:Nat):lgOf g (i+1)=lgOf g i ++ [(kF (shEnd g.bodies) i).isNone]:=by simp [lgOf,List.range_succ]
structure Ns where
 N:Nv
 en:List Int
 lv:List Int
def newF:List Ex→Nat→Ns→Ns
 | [],_,S => S
 | b :: bs,i,S => newF bs (i+1) ⟨layE b S.N.es.length (S.N.es.length+1) ((S.N.fresh i).fresh i),S.en ++ [(S.N.es.length:Int)],S.lv ++ [((S.N.es.length+1:Nat):Int)]⟩
theorem netM_lowT {lo p:Nat} {tag tag':Nat→Nat} {σ σ':St} {N:Nv} {X:Nx} {T:List Nat} (h:NetM lo tag σ p N X) (hK:KeptT tag σ tag' σ' T):low lo T=[]:=by
 have h1:=h.ge
 have h2:=h.lt
 refine low_all fun k hk => ?_
 rcases hK.w k hk with h' | h'
 · rcases Nat.lt_or_ge k lo with h3 | h3
   · exact absurd (h.low k h3) h'
   · exact h3
 · omega
theorem NetM.mono {lo lo' p:Nat} {tag:Nat→Nat} {σ:St} {N:Nv} {X:Nx} (h:NetM lo tag σ p N X) (hl:lo'≤lo):NetM lo' tag σ p N X:=⟨fun j hj => h.low j (by omega),h.high,h.tp,h.cell⟩
def netZ:List A:=[.d (.slc true []),.d (.slc true []),.d (.slc true []),.d (.slc true []),.d (.slc true []),.d (.slc true [])]
theorem NetM.new (σ:St):NetM σ.n (fun j => if j=σ.n then 0 else 7) (σ.push (.cells netZ)) σ.n ⟨[],[]⟩ ⟨[],[],[],[]⟩ where
 low j hj:=if_neg (by omega)
 high j hj:=by simp only [St.n_push] at hj; exact if_neg (by omega)
 tp:=if_pos rfl
 cell:=⟨_,_,_,_,_,_,St.get_push_eq,⟨[],.inl ⟨rfl,rfl⟩,rfl,fun i x hi => by simp at hi⟩,⟨[],RowN.nil,fun _ h => by cases h⟩,
  ⟨⟨[],RowN.nil,fun _ h => by cases h⟩,⟨[],RowN.nil,fun _ h => by cases h⟩,⟨[],RowN.nil,fun _ h => by cases h⟩,⟨[],RowN.nil,fun _ h => by cases h⟩⟩⟩
def Nv.esD (N:Nv):D:=.slc N.es.isEmpty (N.es.map fun r => [.slc r.isEmpty (r.map Eg.D)])
def netC (N:Nv) (X:Nx):List D:=[N.esD,slD N.rs,slD X.en,slD X.lv,.slc X.ca.isEmpty (caD X.ca),.slc X.lg.isEmpty (bsD X.lg)]
theorem freezeL_zip {σ:St} {lo:Nat}:∀ (cs:List A) (ds:List D) (n:Nat),cs.length=ds.length→(∀ (i:Nat) (c:A),cs[i]?=some c→∀ m,n≤m+cs.length→∃ d,ds[i]?=some d∧freeze σ lo m c=some d)→cs.length < n→freezeL σ lo n cs=some ds
 | [],[],n,_,_,_ => by cases n <;> simp [freezeL]
 | [],_ :: _,_,h,_,_ => by cases h
 | _ :: _,[],_,h,_,_ => by cases h
 | c :: cs,d :: ds,0,_,_,h => by cases h
 | c :: cs,d :: ds,n+1,hl,h,hn => by
  rw [freezeL]
  obtain ⟨d',h1,h2⟩:=h 0 c rfl n (by simp)
  simp only [List.getElem?_cons_zero,Option.some.injEq] at h1
  subst h1
  rw [h2]
  dsimp only
  rw [freezeL_zip cs ds n (by simpa using hl) (fun i c hi m hm => by
   simpa using h (i+1) c (by simpa using hi) m (by simp only [List.length_cons]; omega)) (by simpa using hn)]
  rfl
theorem RowT.freeze {tag:Nat→Nat} {t lo n:Nat} {σ:St} {a:A} {xs:List (List D)} (h:RowT tag t σ a xs) (ht:t≠7) (hlo:∀ j,j < lo→tag j=7) (hn:xs.length+2≤n):Am.freeze σ lo n a=some (.slc xs.isEmpty xs):=by
 obtain ⟨bs,h1,h2⟩:=h
 refine h1.freeze (fun k hk => ?_) (by omega)
 rcases Nat.lt_or_ge k lo with h3 | h3
 · have:=h2 k hk; rw [hlo k h3] at this; exact absurd this.symm ht
 · exact h3
theorem EdgM.freeze {tag:Nat→Nat} {lo n B:Nat} {σ:St} {ae:A} {N:Nv} (h:EdgM tag σ ae N.es) (hB:N.Fits B) (hlo:∀ j,j < lo→tag j=7) (hn:4 * B+10≤n) (hne:N.es≠[]):Am.freeze σ lo n ae=some N.esD:=by
 obtain ⟨cs,h1,h2,h3⟩:=h
 have hel:=hB.e
 rcases h1 with ⟨h0,rfl⟩ | ⟨k,rfl,hk,tk,-⟩
 · rw [freeze_d,Nv.esD,h0]; rfl
 · have hkl:lo≤k:=by
    rcases Nat.lt_or_ge k lo with h | h
    · rw [hlo k h] at tk; cases tk
    · exact h
   have hx:∀ x ∈ (N.es.map fun r => [D.slc r.isEmpty (r.map Eg.D)]),x.length=1:=by intro x hx; obtain ⟨y,-,rfl⟩:=List.mem_map.1 hx; rfl
   have hfl:(N.es.map fun r => [D.slc r.isEmpty (r.map Eg.D)]).flatMap id=N.es.map fun r => D.slc r.isEmpty (r.map Eg.D):=by
    induction N.es with
    | nil => rfl
    | cons a l ih => simp only [List.map_cons,List.flatMap_cons,id,List.cons_append,List.nil_append]; rw [ih]
   have:=freeze_row (n:=n) (len:=N.es.length) (es:=1) (ds:=(N.es.map fun r => [D.slc r.isEmpty (r.map Eg.D)]).flatMap id) (by omega) hk hkl (by omega) (by
    rw [List.take_of_length_le (by omega),hfl]
    refine freezeL_zip cs _ _ (by simp [h2]) (fun i c hi m hm => ?_) (by omega)
    have hil:i < N.es.length:=by
     have:=(List.getElem?_eq_some_iff.1 hi).1; omega
    have hr:N.es[i]?=some N.es[i]:=by simp [hil]
    obtain ⟨c',bs,c1,c2,c3⟩:=h3 i _ hr
    rw [hi] at c1
    cases c1
    have hl:=hB.l _ (List.getElem_mem hil)
    refine ⟨.slc N.es[i].isEmpty (N.es[i].map Eg.D),by simp [hr],?_⟩
    have:=c2.freeze (lo:=lo) (n:=m) (fun k hk => by
     rcases Nat.lt_or_ge k lo with h4 | h4
     · have h5:=c3 k hk; rw [hlo k h4] at h5; omega
     · exact h4) (by rw [List.length_map]; omega)
    rw [this,List.isEmpty_map])
   rw [this,show N.es.length=(N.es.map fun r => [D.slc r.isEmpty (r.map Eg.D)]).length by rw [List.length_map],chunks_flat hx]
   have h:N.es.isEmpty=false:=by cases hq:N.es with
    | nil => exact absurd hq hne
    | cons _ _ => rfl
   rw [Nv.esD,h]
end Go.Am
namespace Go.Am
open Go Go.Proofs
variable {fz:Nat→Md}
theorem app23 {lo p:Nat} {tag:Nat→Nat} {σ:St} {N:Nv} {X:Nx} {ae ar an al ac ag:A} (h:NetM lo tag σ p N X) (hc:σ.get p=.cells [ae,ar,an,al,ac,ag]) (hE:EdgM tag σ ae N.es) (hR:RowT tag 2 σ ar (intsD N.rs)) (hX:XM tag σ an al ac ag X)
 (y1 y2:D) (l1:(intsD X.en).length < 1000000000) (l2:(intsD X.lv).length < 1000000000) :
 ∃ a1 σ3 T3 a2 σ4 T4 tag',appendA 1 8 (σ.push (.cells [.d y1])) an (.row σ.n 0 1 1)=.val a1 σ3 T3 []∧σ3.get p=.cells [ae,ar,an,al,ac,ag]∧p≠σ3.n∧p < σ3.n ∧
  appendA 1 8 (σ3.push (.cells [.d y2])) al (.row σ3.n 0 1 1)=.val a2 σ4 T4 []∧σ4.get p=.cells [ae,ar,an,al,ac,ag]∧a1.cells=some [a1]∧a1.isCell=true∧a2.cells=some [a2]∧a2.isCell=true ∧
  (∀ q ∈ T3,q≠p)∧(∀ q ∈ T4,q≠p)∧σ.n≤σ4.n ∧
  (∀ X':Nx,X'.ca=X.ca∧X'.lg=X.lg∧intsD X'.en=intsD X.en ++ [[y1]]∧intsD X'.lv=intsD X.lv ++ [[y2]]→NetM lo tag' (σ4.set p (.cells [ae,ar,a1,a2,ac,ag])) p N X')∧(∀ bb,KeptT tag σ tag' (σ4.set p bb) (T3 ++ T4 ++ [p])):=by
 have hlt:=h.lt
 have hge:=h.ge
 have R1:RowT tag 3 (σ.push (.cells [.d y1])) an (intsD X.en):=hX.en.stay (by simp [St.n_push]) (fun k hk _ => St.get_push_ne hk) (fun _ _ e => e)
 obtain ⟨a1,σ3,T3,q1,q2,q3,q4,q5,q6,q7⟩:=R1.app (b:=8) (j:=σ.n) (y:=[y1]) rfl St.get_push_eq (by omega) (by omega)
 simp only [St.n_push] at q4 q5 q6 q7
 let tag1:Nat→Nat:=fun j => if σ.n+1≤j∧j < σ3.n then 3 else tag j
 have tg1:∀ j,j < σ.n+1→tag1 j=tag j:=fun j hj => if_neg (by omega)
 have tgh:∀ j,σ3.n≤j→tag1 j=7:=fun j hj => by show (if σ.n+1≤j∧j < σ3.n then 3 else tag j)=7; rw [if_neg (by omega)]; exact h.high j (by omega)
 have q8:=q7 tag1 tg1 (fun i h1 h2 => if_pos ⟨h1,h2⟩)
 have c3:σ3.get p=.cells [ae,ar,an,al,ac,ag]:=by rw [q5 p (by omega) (by rw [h.tp]; omega),St.get_push_ne hlt]; exact hc
 have s3:∀ j,j < σ.n→tag j≠3→σ3.get j=σ.get j:=fun j h1 h2 => by rw [q5 j (by omega) h2,St.get_push_ne h1]
 have R2:RowT tag1 4 (σ3.push (.cells [.d y2])) al (intsD X.lv):=hX.lv.stay (by simp only [St.n_push]; omega) (fun k hk hk2 => by rw [St.get_push_ne (by omega),s3 k hk (by omega)]) (fun k hk e => by rw [tg1 k (by omega)]; exact e)
 obtain ⟨a2,σ4,T4,w1,w2,w3,w4,w5,w6,w7⟩:=R2.app (b:=8) (j:=σ3.n) (y:=[y2]) rfl St.get_push_eq (by omega) (by omega)
 simp only [St.n_push] at w4 w5 w6 w7
 let tag2:Nat→Nat:=fun j => if σ3.n+1≤j∧j < σ4.n then 4 else tag1 j
 have tg2:∀ j,j < σ3.n+1→tag2 j=tag1 j:=fun j hj => if_neg (by omega)
 have w8:=w7 tag2 tg2 (fun i h1 h2 => if_pos ⟨h1,h2⟩)
 have p1:tag1 p=0:=by rw [tg1 p (by omega)]; exact h.tp
 have p2:tag2 p=0:=by rw [tg2 p (by omega)]; exact p1
 have c4:σ4.get p=.cells [ae,ar,an,al,ac,ag]:=by rw [w5 p (by omega) (by omega),St.get_push_ne (by omega)]; exact c3
 have s4:∀ j,j < σ3.n→tag1 j≠4→σ4.get j=σ3.get j:=fun j h1 h2 => by rw [w5 j (by omega) h2,St.get_push_ne h1]
 have s34:∀ j,j < σ.n→tag j≠3→tag j≠4→σ4.get j=σ.get j:=fun j h1 h2 h3 => by rw [s4 j (by omega) (by rw [tg1 j (by omega)]; exact h3),s3 j h1 h2]
 have tg:∀ j,j < σ.n→tag2 j=tag j:=fun j hj => by rw [tg2 j (by omega),tg1 j (by omega)]
 have np:∀ j,tag j≠0→j≠p:=fun j hj e => hj (by rw [e]; exact h.tp)
 have np2:∀ j,tag2 j≠0→j≠p:=fun j hj e => hj (by rw [e]; exact p2)
 refine ⟨a1,σ3,T3,a2,σ4,T4,tag2,q1,c3,by omega,by omega,w1,c4,q2,q3,w2,w3,fun q hq => ?_,fun q hq => ?_,by omega,fun X' hX' => ⟨fun j hj => ?_,fun j hj => ?_,p2,ae,ar,a1,a2,ac,ag,St.get_set_eq,?_,?_,?_⟩,fun bb => ⟨by simp only [St.n_set]; omega,fun j h1 h2 => ?_,tg,fun j hj => ?_⟩⟩
 · rcases q6 q hq with e | e
   · exact np q (by omega)
   · omega
 · rcases w6 q hq with e | e
   · rintro rfl; omega
   · omega
 · rw [tg j (by omega)]; exact h.low j hj
 · simp only [St.n_set] at hj
   show (if σ3.n+1≤j∧j < σ4.n then 4 else tag1 j)=7
   rw [if_neg (by omega)]; exact tgh j (by omega)
 · exact hE.stay (by simp only [St.n_set]; omega) (fun k h1 h2 => by rw [St.get_set_ne (np k (by omega)),s34 k h1 (by omega) (by omega)]) (fun k h1 _ => tg k h1)
 · exact hR.stay (by simp only [St.n_set]; omega) (fun k h1 h2 => by rw [St.get_set_ne (np k (by omega)),s34 k h1 (by omega) (by omega)]) (fun k h1 h2 => by rw [tg k h1]; exact h2)
 · obtain ⟨e0,e1,e8,e9⟩:=hX'
   have F1:RowT tag2 3 (σ4.set p (.cells [ae,ar,a1,a2,ac,ag])) a1 (intsD X.en ++ [[y1]]):=q8.stay (by simp only [St.n_set]; omega) (fun k h1 h2 => by
    rw [St.get_set_ne (by rintro rfl; omega),s4 k h1 (by omega)]) (fun k h1 h2 => by rw [tg2 k (by omega)]; exact h2)
   have F2:RowT tag2 4 (σ4.set p (.cells [ae,ar,a1,a2,ac,ag])) a2 (intsD X.lv ++ [[y2]]):=w8.stay (by simp only [St.n_set]; omega) (fun k h1 h2 => by rw [St.get_set_ne (np2 k (by omega))]) (fun k _ e => e)
   have oth:∀ (t:Nat) (a:A) (xs:List (List D)),3≤t→t≤6→t≠3→t≠4→RowT tag t σ a xs→RowT tag2 t (σ4.set p (.cells [ae,ar,a1,a2,ac,ag])) a xs:=fun t a xs g1 g2 g3 g4 hh =>
    hh.stay (by simp only [St.n_set]; omega) (fun k h1 h2 => by rw [St.get_set_ne (np k (by omega)),s34 k h1 (by omega) (by omega)]) (fun k h1 h2 => by rw [tg k h1]; exact h2)
   exact { en:=by rw [e8]; exact F1,lv:=by rw [e9]; exact F2,ca:=by rw [e0]; exact oth _ _ _ (by omega) (by omega) (by omega) (by omega) hX.ca,lg:=by rw [e1]; exact oth _ _ _ (by omega) (by omega) (by omega) (by omega) hX.lg }
 · rw [St.get_set_ne (np j (by omega)),s34 j h1 (by omega) (by omega)]
 · simp only [List.mem_append,List.mem_singleton] at hj
   rcases hj with (hj | hj) | rfl
   · rcases q6 j hj with e | e
     · exact .inl (by omega)
     · omega
   · rcases w6 j hj with e | e
     · rcases Nat.lt_or_ge j σ.n with g | g
       · rw [tg1 j (by omega)] at e; exact .inl (by omega)
       · exact .inr g
     · exact .inr (by omega)
   · exact .inl (by rw [h.tp]; omega)
theorem app45 {lo p:Nat} {tag:Nat→Nat} {σ:St} {N:Nv} {X:Nx} {ae ar an al ac ag:A} (h:NetM lo tag σ p N X) (hc:σ.get p=.cells [ae,ar,an,al,ac,ag]) (hE:EdgM tag σ ae N.es) (hR:RowT tag 2 σ ar (intsD N.rs)) (hX:XM tag σ an al ac ag X)
 (y1 y2:D) (l1:(caD X.ca).length < 1000000000) (l2:(bsD X.lg).length < 1000000000) :
 ∃ a1 σ3 T3 a2 σ4 T4 tag',appendA 1 24 (σ.push (.cells [.d y1])) ac (.row σ.n 0 1 1)=.val a1 σ3 T3 []∧σ3.get p=.cells [ae,ar,an,al,ac,ag]∧p≠σ3.n∧p < σ3.n ∧
  appendA 1 1 (σ3.push (.cells [.d y2])) ag (.row σ3.n 0 1 1)=.val a2 σ4 T4 []∧σ4.get p=.cells [ae,ar,an,al,ac,ag]∧a1.cells=some [a1]∧a1.isCell=true∧a2.cells=some [a2]∧a2.isCell=true ∧
  (∀ q ∈ T3,q≠p)∧(∀ q ∈ T4,q≠p)∧σ.n≤σ4.n ∧
  (∀ X':Nx,X'.en=X.en∧X'.lv=X.lv∧caD X'.ca=caD X.ca ++ [[y1]]∧bsD X'.lg=bsD X.lg ++ [[y2]]→NetM lo tag' (σ4.set p (.cells [ae,ar,an,al,a1,a2])) p N X')∧(∀ bb,KeptT tag σ tag' (σ4.set p bb) (T3 ++ T4 ++ [p])):=by
 have hlt:=h.lt
 have hge:=h.ge
 have R1:RowT tag 5 (σ.push (.cells [.d y1])) ac (caD X.ca):=hX.ca.stay (by simp [St.n_push]) (fun k hk _ => St.get_push_ne hk) (fun _ _ e => e)
 obtain ⟨a1,σ3,T3,q1,q2,q3,q4,q5,q6,q7⟩:=R1.app (b:=24) (j:=σ.n) (y:=[y1]) rfl St.get_push_eq (by omega) (by omega)
 simp only [St.n_push] at q4 q5 q6 q7
 let tag1:Nat→Nat:=fun j => if σ.n+1≤j∧j < σ3.n then 5 else tag j
 have tg1:∀ j,j < σ.n+1→tag1 j=tag j:=fun j hj => if_neg (by omega)
 have tgh:∀ j,σ3.n≤j→tag1 j=7:=fun j hj => by show (if σ.n+1≤j∧j < σ3.n then 5 else tag j)=7; rw [if_neg (by omega)]; exact h.high j (by omega)
 have q8:=q7 tag1 tg1 (fun i h1 h2 => if_pos ⟨h1,h2⟩)
 have c3:σ3.get p=.cells [ae,ar,an,al,ac,ag]:=by rw [q5 p (by omega) (by rw [h.tp]; omega),St.get_push_ne hlt]; exact hc
 have s3:∀ j,j < σ.n→tag j≠5→σ3.get j=σ.get j:=fun j h1 h2 => by rw [q5 j (by omega) h2,St.get_push_ne h1]
 have R2:RowT tag1 6 (σ3.push (.cells [.d y2])) ag (bsD X.lg):=hX.lg.stay (by simp only [St.n_push]; omega) (fun k hk hk2 => by rw [St.get_push_ne (by omega),s3 k hk (by omega)]) (fun k hk e => by rw [tg1 k (by omega)]; exact e)
 obtain ⟨a2,σ4,T4,w1,w2,w3,w4,w5,w6,w7⟩:=R2.app (b:=1) (j:=σ3.n) (y:=[y2]) rfl St.get_push_eq (by omega) (by omega)
 simp only [St.n_push] at w4 w5 w6 w7
 let tag2:Nat→Nat:=fun j => if σ3.n+1≤j∧j < σ4.n then 6 else tag1 j
 have tg2:∀ j,j < σ3.n+1→tag2 j=tag1 j:=fun j hj => if_neg (by omega)
 have w8:=w7 tag2 tg2 (fun i h1 h2 => if_pos ⟨h1,h2⟩)
 have p1:tag1 p=0:=by rw [tg1 p (by omega)]; exact h.tp
 have p2:tag2 p=0:=by rw [tg2 p (by omega)]; exact p1
 have c4:σ4.get p=.cells [ae,ar,an,al,ac,ag]:=by rw [w5 p (by omega) (by omega),St.get_push_ne (by omega)]; exact c3
 have s4:∀ j,j < σ3.n→tag1 j≠6→σ4.get j=σ3.get j:=fun j h1 h2 => by rw [w5 j (by omega) h2,St.get_push_ne h1]
 have s34:∀ j,j < σ.n→tag j≠5→tag j≠6→σ4.get j=σ.get j:=fun j h1 h2 h3 => by rw [s4 j (by omega) (by rw [tg1 j (by omega)]; exact h3),s3 j h1 h2]
 have tg:∀ j,j < σ.n→tag2 j=tag j:=fun j hj => by rw [tg2 j (by omega),tg1 j (by omega)]
 have np:∀ j,tag j≠0→j≠p:=fun j hj e => hj (by rw [e]; exact h.tp)
 have np2:∀ j,tag2 j≠0→j≠p:=fun j hj e => hj (by rw [e]; exact p2)
 refine ⟨a1,σ3,T3,a2,σ4,T4,tag2,q1,c3,by omega,by omega,w1,c4,q2,q3,w2,w3,fun q hq => ?_,fun q hq => ?_,by omega,fun X' hX' => ⟨fun j hj => ?_,fun j hj => ?_,p2,ae,ar,an,al,a1,a2,St.get_set_eq,?_,?_,?_⟩,fun bb => ⟨by simp only [St.n_set]; omega,fun j h1 h2 => ?_,tg,fun j hj => ?_⟩⟩
 · rcases q6 q hq with e | e
   · exact np q (by omega)
   · omega
 · rcases w6 q hq with e | e
   · rintro rfl; omega
   · omega
 · rw [tg j (by omega)]; exact h.low j hj
 · simp only [St.n_set] at hj
   show (if σ3.n+1≤j∧j < σ4.n then 6 else tag1 j)=7
   rw [if_neg (by omega)]; exact tgh j (by omega)
 · exact hE.stay (by simp only [St.n_set]; omega) (fun k h1 h2 => by rw [St.get_set_ne (np k (by omega)),s34 k h1 (by omega) (by omega)]) (fun k h1 _ => tg k h1)
 · exact hR.stay (by simp only [St.n_set]; omega) (fun k h1 h2 => by rw [St.get_set_ne (np k (by omega)),s34 k h1 (by omega) (by omega)]) (fun k h1 h2 => by rw [tg k h1]; exact h2)
 · obtain ⟨e0,e1,e8,e9⟩:=hX'
   have F1:RowT tag2 5 (σ4.set p (.cells [ae,ar,an,al,a1,a2])) a1 (caD X.ca ++ [[y1]]):=q8.stay (by simp only [St.n_set]; omega) (fun k h1 h2 => by
    rw [St.get_set_ne (by rintro rfl; omega),s4 k h1 (by omega)]) (fun k h1 h2 => by rw [tg2 k (by omega)]; exact h2)
   have F2:RowT tag2 6 (σ4.set p (.cells [ae,ar,an,al,a1,a2])) a2 (bsD X.lg ++ [[y2]]):=w8.stay (by simp only [St.n_set]; omega) (fun k h1 h2 => by rw [St.get_set_ne (np2 k (by omega))]) (fun k _ e => e)
   have oth:∀ (t:Nat) (a:A) (xs:List (List D)),3≤t→t≤6→t≠5→t≠6→RowT tag t σ a xs→RowT tag2 t (σ4.set p (.cells [ae,ar,an,al,a1,a2])) a xs:=fun t a xs g1 g2 g3 g4 hh =>
    hh.stay (by simp only [St.n_set]; omega) (fun k h1 h2 => by rw [St.get_set_ne (np k (by omega)),s34 k h1 (by omega) (by omega)]) (fun k h1 h2 => by rw [tg k h1]; exact h2)
   exact { ca:=by rw [e8]; exact F1,lg:=by rw [e9]; exact F2,en:=by rw [e0]; exact oth _ _ _ (by omega) (by omega) (by omega) (by omega) hX.en,lv:=by rw [e1]; exact oth _ _ _ (by omega) (by omega) (by omega) (by omega) hX.lv }
 · rw [St.get_set_ne (np j (by omega)),s34 j h1 (by omega) (by omega)]
 · simp only [List.mem_append,List.mem_singleton] at hj
   rcases hj with (hj | hj) | rfl
   · rcases q6 j hj with e | e
     · exact .inl (by omega)
     · omega
   · rcases w6 j hj with e | e
     · rcases Nat.lt_or_ge j σ.n with g | g
       · rw [tg1 j (by omega)] at e; exact .inl (by omega)
       · exact .inr g
     · exact .inr (by omega)
   · exact .inl (by rw [h.tp]; omega)
end Go.Am
namespace Go.Am
open Go Go.Proofs
variable {fz:Nat→Md}
def newN (g:Gr):Ns:=newF g.bodies 0 ⟨⟨[],[]⟩,[],[]⟩
def newX (g:Gr):Nx:=⟨(newN g).en,(newN g).lv,caOf g g.rules.length,lgOf g g.rules.length⟩
def newV (g:Gr):D × Int:=if (checkP g != 0)=true then (.nptr,checkP g) else (.vptr (netC (newN g).N (newX g)) 0,0)
set_option maxHeartbeats 8000000 in
theorem new_call (hck:∀ (g:Gr) (σ:St),SmallG g→CallsTo (XX fz) (.func 24 []) [g.a] σ (.d (.int .i64 (checkP g))) σ [])
 (hsh:∀ (g:Gr) (σ:St) (rule:Int),SmallG g→CallsTo (XX fz) (.func 45 []) [g.a,.d (.int .i64 rule)] σ (.tup [.d (shortV g rule).1,.d (.int .i64 (shortV g rule).2)]) σ [])
 (h11:fz 19=.ice) (h40:fz 44=.keep) (h80:fz 76=.keep) (h39:fz 43=.keep) (h79:fz 75=.keep)
 (hok:∀ g:Gr,checkP g=0→(∀ y ∈ g.bodies,okE g.tokens g.bodies.length y)∧0 < g.rules.length∧g.rules.length≤32∧∀ y ∈ g.bodies,y.szS≤1000000) (g:Gr) (hg:SmallG g) (σ:St) :
 CallsTo (XX fz) (.func 19 []) [g.a] σ (.tup [.d (newV g).1,.d (.int .i64 (newV g).2)]) σ []:=by
 refine CallsTo.ice0 h11 fn19 (by simp) ?_
 simp only [Try.f19,Option.getD_some]
 simp only [go_sem,Gr.a]
 refine ⟨_,_,_,hck g _ hg,?_⟩
 unfold newV
 cases hc:(checkP g != 0) with
 | true =>
  have hc':(checkP g != 0)=true:=hc
  simp only [go_sem,hc]
  try rfl
 | false =>
 have hc':checkP g=0:=by simpa using hc
 obtain ⟨ho,hpos,h32,hszs⟩:=hok g hc'
 simp only [go_sem,hc]
 have hbl:g.bodies.length=g.rules.length:=by rw [Gr.bodies,List.length_map]
 have key:=NetM.new (σ.push (.cells g.c))
 have n1:(σ.push (.cells g.c)).n=σ.n+1:=by simp [St.n_push]
 rw [n1] at key
 simp only [netZ] at key
 refine Ev.loop_ind (fun k tm τ W => ∃ (i:Nat) (N:Nv) (en lv:List Int) (tag:Nat→Nat),k=g.rules.length - i∧i≤g.rules.length∧W=[]∧NetM (σ.n+1) tag τ (σ.n+1) N ⟨en,lv,caOf g i,lgOf g i⟩∧N.Fits (i * 5000002)∧en.length=i∧lv.length=i∧newF (g.bodies.drop i) i ⟨N,en,lv⟩=newN g∧(0 < i→N.es≠[])∧σ.n+2≤τ.n∧τ.get σ.n=.cells g.c ∧
  tm.at 1=.ptr σ.n 0∧tm.at 5=.ptr (σ.n+1) 0∧tm.at 20=g.rd∧tm.at 21=.d (.int .i64 (g.rules.length:Int))∧tm.at 22=.d (.int .i64 i)) ?_ g.rules.length _ _ _ ⟨0,⟨[],[]⟩,[],[],_,rfl,by omega,rfl,key,⟨by simp,rfl,by simp⟩,rfl,rfl,rfl,by simp,by simp [St.n_push],?_,?_,?_,?_,?_,?_⟩
 · rintro k tm τ W ⟨i,N,en,lv,tag,rfl,hi,rfl,hM,hF,hen,hlv,he,hne,hn,gx,t1,t5,t20,t21,t22⟩ ih
   by_cases hl:i < g.rules.length
   · have hget:g.rules[i]?=some g.rules[i]:=by simp [hl]
     have hmem:g.rules[i] ∈ g.rules:=List.getElem_mem hl
     have hbx:g.bodies[i]?=some g.rules[i].body:=by rw [Gr.bodies,List.getElem?_map,hget]; rfl
     have hbm:=List.mem_of_getElem? hbx
     have hd1:g.bodies.drop i=g.rules[i].body :: g.bodies.drop (i+1):=by
      rw [List.drop_eq_getElem_cons (by rw [hbl]; exact hl)]; simp [Gr.bodies]
     rw [hd1,newF] at he
     have hsz:=hszs _ hbm
     simp only [go_sem,t1,t5,t20,t21,t22,dec_lt' hl,Gr.index_rd hget]
     generalize hτ:(τ.push (Blk.cells [A.d (D.str { data:={ toList:=[] } }),A.d (D.int IntKind.i64 0),A.d (D.int IntKind.i64 0),A.d (D.slc true [])])).set τ.n (Blk.cells g.rules[i].c)=τ1
     have htn:tag τ.n=7:=hM.high _ (Nat.le_refl _)
     have hM1:NetM (σ.n+1) tag τ1 (σ.n+1) N ⟨en,lv,caOf g i,lgOf g i⟩:=by rw [← hτ]; exact (hM.push _).set htn _
     have n1':τ1.n=τ.n+1:=by rw [← hτ]; simp [St.n_push,St.n_set]
     have g1:τ1.get τ.n=.cells g.rules[i].c:=by rw [← hτ,St.get_set_eq]
     have gs1:τ1.get σ.n=.cells g.c:=by rw [← hτ,St.get_set_ne (by omega),St.get_push_ne (by omega)]; exact gx
     have tgs:tag σ.n=7:=hM.low _ (by omega)
     obtain ⟨σ2,T2,tag2,c2,h2,hK2⟩:=fresh_c h39 hM1 hF (by omega) (i:Int)
     refine ⟨_,_,_,c2,?_⟩
     obtain ⟨σ3,T3,tag3,c3,h3,hK3⟩:=fresh_c h39 h2 (hF.fresh _) (by omega) (i:Int)
     refine ⟨_,_,_,c3,?_⟩
     have hn2:=hK2.n
     have hn3:=hK3.n
     have L0:=hM1.mono (Nat.le_succ σ.n)
     have z2:low σ.n T2=[]:=netM_lowT (hM1.mono (Nat.le_succ _)) hK2
     have z3:low σ.n T3=[]:=netM_lowT (h2.mono (Nat.le_succ _)) hK3
     have z1:low σ.n [τ.n]=[]:=by rw [low_cons_ge (by omega)]; rfl
     have zp:low σ.n [σ.n+1]=[]:=by rw [low_cons_ge (by omega)]; rfl
     have F3:=((hF.fresh (i:Int)).fresh (i:Int))
     have e3:((N.fresh (i:Int)).fresh (i:Int)).es.length=N.es.length+2:=by rw [Nv.es_fresh,Nv.es_fresh]
     have e2:(N.fresh (i:Int)).es.length=N.es.length+1:=Nv.es_fresh _ _
     have T23:tag2 τ.n=7:=by rw [hK2.tags _ (by omega)]; exact htn
     have T33:tag3 τ.n=7:=by rw [hK3.tags _ (by omega)]; exact T23
     have g3:σ3.get τ.n=.cells g.rules[i].c:=by rw [hK3.same _ (by omega) T23,hK2.same _ (by omega) htn]; exact g1
     have T2s:tag2 σ.n=7:=by rw [hK2.tags _ (by omega)]; exact tgs
     have T3s:tag3 σ.n=7:=by rw [hK3.tags _ (by omega)]; exact T2s
     have gs3:σ3.get σ.n=.cells g.c:=by rw [hK3.same _ (by omega) T2s,hK2.same _ (by omega) tgs]; exact gs1
     obtain ⟨ae,ar,an,al,ac,ag,hcc,hE,hR,hX⟩:=h3.cell
     obtain ⟨a1,σ4,T4,a2,σ5,T5,tag4,q1,q2,q3,q4,q5,q6,b1,b2,b3,b4,m1,m2,hn5,hM5,hK5⟩:=app23 h3 hcc hE hR hX (.int .i64 (N.es.length:Int)) (.int .i64 ((N.es.length+1:Nat):Int)) (by rw [intsD_len]; show en.length < _; omega) (by rw [intsD_len]; show lv.length < _; omega)
     have p3:σ.n+1≠σ3.n:=by omega
     have p3':σ.n+1 < σ3.n:=by omega
     simp only [go_sem,t1,t5,t20,t21,t22,z1,z2,z3,hcc,e2,p3,p3',q1,q2,q3,q4,q5,q6,b1,b2,b3,b4]
     refine ⟨drawOk_rel [8,15,18,21] [(8,0),(8,1),(8,9),(8,10),(8,11),(8,12),(8,13),(8,14),(15,0),(15,1),(18,1)] rfl (by kernel_rfl) rfl (by simp [meets]; exact m1),?_⟩
     have hM6:=hM5 ⟨en ++ [(N.es.length:Int)],lv ++ [((N.es.length+1:Nat):Int)],caOf g i,lgOf g i⟩ ⟨rfl,rfl,by simp [intsD],by simp [intsD]⟩
     have hK6:=hK5 (.cells [ae,ar,a1,a2,ac,ag])
     have z45:=netM_lowT (h3.mono (Nat.le_succ σ.n)) hK6
     simp only [low,List.filter_append,List.append_eq_nil_iff] at z45
     have z4:low σ.n T4=[]:=z45.1.1
     have z5:low σ.n T5=[]:=z45.1.2
     have np:τ.n≠σ.n+1:=by omega
     have nps:σ.n≠σ.n+1:=by omega
     have g6:σ5.get τ.n=.cells g.rules[i].c:=by
      have:=hK6.same τ.n (by omega) T33
      rw [St.get_set_ne np] at this; rw [this]; exact g3
     have gs6:(σ5.set (σ.n+1) (.cells [ae,ar,a1,a2,ac,ag])).get σ.n=.cells g.c:=by
      rw [hK6.same σ.n (by omega) T3s]; exact gs3
     have T6s:tag4 σ.n=7:=by rw [hK6.tags _ (by omega)]; exact T3s
     have T6t:tag4 τ.n=7:=by rw [hK6.tags _ (by omega)]; exact T33
     have hn6:σ5.n=(σ5.set (σ.n+1) (.cells [ae,ar,a1,a2,ac,ag])).n:=rfl
     simp only [go_sem,St.set_set,np,g6,z4,z5]
     generalize σ5.set (σ.n+1) (.cells [ae,ar,a1,a2,ac,ag])=σ6 at hM6 hK6 gs6 hn6
     obtain ⟨σ7,T7,tag7,c7,h7,hK7⟩:=lay_c h40 h80 h39 h79 g.rules[i].body (hg _ hmem) (ho _ hbm) N.es.length (N.es.length+1) hM6 F3 (by omega) (by rw [e3]; omega)
     refine ⟨_,_,_,c7,?_⟩
     have z7:low σ.n T7=[]:=netM_lowT (hM6.mono (Nat.le_succ _)) hK7
     have gs7:σ7.get σ.n=.cells g.c:=by rw [hK7.same _ (by omega) T6s]; exact gs6
     have F7:=layE_fits g.rules[i].body N.es.length (N.es.length+1) _ _ F3
     have hn7:=hK7.n
     simp only [go_sem,t1,gs7,z7]
     refine ⟨_,_,_,hsh g σ7 (i:Int) hg,?_⟩
     have hr1:decide ((i:Int) < 0)=false:=by simp
     have hr2:decide ((i:Int) ≥ (g.rules.length:Int))=false:=by simpa using hl
     have hsv:shortV g (i:Int)=match kF (shEnd g.bodies) i with
      | some s => (slD s,0)
      | none => (.slc true [],5):=by
      unfold shortV; rw [if_neg (by rw [hc]; simp),hr1,hr2,if_neg (by simp),Int.toNat_natCast]; cases kF (shEnd g.bodies) i <;> rfl
     have hsv1:(shortV g (i:Int)).1=slD ((kF (shEnd g.bodies) i).getD []):=by rw [hsv]; cases kF (shEnd g.bodies) i <;> rfl
     have hsv2:((shortV g (i:Int)).2 != 0)=(kF (shEnd g.bodies) i).isNone:=by rw [hsv]; cases kF (shEnd g.bodies) i <;> rfl
     obtain ⟨be,br,bn,bl,bc,bg,hbc,hbE,hbR,hbX⟩:=h7.cell
     have p7:σ.n+1≠σ7.n:=by omega
     have p7':σ.n+1 < σ7.n:=by omega
     obtain ⟨a3,σ8,T8,a4,σ9,T9,tag9,q1,q2,q3,q4,q5,q6,b1,b2,b3,b4,m1,m2,hn9,hM9,hK9⟩:=app45 h7 hbc hbE hbR hbX (slD ((kF (shEnd g.bodies) i).getD [])) (.bool (kF (shEnd g.bodies) i).isNone) (by simp [caD,caOf]; omega) (by simp [bsD,lgOf]; omega)
     simp only [go_sem,t1,t5,hsv1,hsv2,hbc,p7,p7',q1,q2,q3,q4,q5,q6,b1,b2,b3,b4]
     refine ⟨drawOk_rel [8,16,19,22] [(8,0),(8,1),(8,9),(8,10),(8,11),(8,12),(8,13),(8,14),(8,15),(16,0),(16,1),(19,1)] rfl (by kernel_rfl) rfl (by simp [meets]; exact m1),?_⟩
     have hM10:=hM9 ⟨en ++ [(N.es.length:Int)],lv ++ [((N.es.length+1:Nat):Int)],caOf g (i+1),lgOf g (i+1)⟩ ⟨rfl,rfl,by rw [caOf_succ]; simp [caD],by rw [lgOf_succ]; simp [bsD]⟩
     have hK10:=hK9 (.cells [be,br,bn,bl,a3,a4])
     have z89:=netM_lowT (h7.mono (Nat.le_succ σ.n)) hK10
     simp only [low,List.filter_append,List.append_eq_nil_iff] at z89
     have z8:low σ.n T8=[]:=z89.1.1
     have z9:low σ.n T9=[]:=z89.1.2
     have T7s:tag7 σ.n=7:=by rw [hK7.tags _ (by omega)]; exact T6s
     have gs10:(σ9.set (σ.n+1) (.cells [be,br,bn,bl,a3,a4])).get σ.n=.cells g.c:=by
      rw [hK10.same σ.n (by omega) T7s]; exact gs7
     simp only [go_sem,St.set_set,z8,z9,t22,wrap_succ' hl (show g.rules.length < 1000000000 by omega)]
     refine ih _ _ _ _ (by omega) ⟨i+1,_,_,_,tag9,rfl,hl,rfl,hM10,F7.1.mono (by omega),by simp [hen],by simp [hlv],he,fun _ => ?_,by simp only [St.n_set]; omega,gs10,by simp only [go_sem,t1],by simp only [go_sem,t5],by simp only [go_sem,t20],by simp only [go_sem,t21],by simp only [go_sem]⟩
     intro h0
     have:=F7.2
     rw [h0,e3] at this
     simp at this
   · have him:i=g.rules.length:=by omega
     subst him
     rw [List.drop_eq_nil_of_le (by omega),newF] at he
     obtain ⟨ae,ar,an,al,ac,ag,hcc,hE,hR,hX⟩:=hM.cell
     simp only [go_sem,t1,t5,t20,t21,t22,dec_ge' hl]
     have hlo:∀ j,j < σ.n→tag j=7:=fun j hj => hM.low j (by omega)
     have hfz:fzDepth=1000000000000:=rfl
     have f1:∀ m,fzDepth - 10≤m→freeze τ σ.n m ae=some N.esD:=fun m hm => hE.freeze hF hlo (by omega) (hne hpos)
     have f2:∀ m,fzDepth - 10≤m→freeze τ σ.n m ar=some (slD N.rs):=fun m hm => by
      have:=hR.freeze (n:=m) (by omega) hlo (by rw [intsD_len,hF.r]; have:=hF.e; omega)
      rw [this,isE]; rfl
     have f3:∀ m,fzDepth - 10≤m→freeze τ σ.n m an=some (slD en):=fun m hm => by
      have:=hX.en.freeze (n:=m) (by omega) hlo (by rw [intsD_len]; show en.length+2≤m; omega)
      rw [this,isE]; rfl
     have f4:∀ m,fzDepth - 10≤m→freeze τ σ.n m al=some (slD lv):=fun m hm => by
      have:=hX.lv.freeze (n:=m) (by omega) hlo (by rw [intsD_len]; show lv.length+2≤m; omega)
      rw [this,isE]; rfl
     have f5:∀ m,fzDepth - 10≤m→freeze τ σ.n m ac=some (.slc (caOf g g.rules.length).isEmpty (caD (caOf g g.rules.length))):=fun m hm => by
      have:=hX.ca.freeze (n:=m) (by omega) hlo (by simp [caD,caOf]; omega)
      rw [this]; simp [caD]
     have f6:∀ m,fzDepth - 10≤m→freeze τ σ.n m ag=some (.slc (lgOf g g.rules.length).isEmpty (bsD (lgOf g g.rules.length))):=fun m hm => by
      have:=hX.lg.freeze (n:=m) (by omega) hlo (by simp [bsD,lgOf]; omega)
      rw [this]; simp [bsD]
     have hN:(newN g)=⟨N,en,lv⟩:=he.symm
     have fL:freezeL τ σ.n (fzDepth - 1) [ae,ar,an,al,ac,ag]=some (netC (newN g).N (newX g)):=by
      rw [freezeL_cons (by omega),f1 _ (by omega),freezeL_cons (by omega),f2 _ (by omega),freezeL_cons (by omega),f3 _ (by omega),freezeL_cons (by omega),f4 _ (by omega),freezeL_cons (by omega),f5 _ (by omega),freezeL_cons (by omega),f6 _ (by omega),freezeL_nil]
      unfold newX netC
      rw [hN]; rfl
     have fp:freeze τ σ.n fzDepth (.ptr (σ.n+1) 0)=some (.vptr (netC (newN g).N (newX g)) 0):=by
      obtain ⟨q,hq⟩:∃ q,fzDepth=q+1:=⟨fzDepth - 1,by omega⟩
      rw [hq,Nat.add_sub_cancel] at fL
      rw [hq,freeze,if_neg (by omega),hcc]
      dsimp only
      rw [fL]; rfl
     rw [fp]; rfl
 · rw [St.get_push_ne (by simp [St.n_push]),St.get_push_eq]
 all_goals first | rfl | (simp only [go_sem]; done) | (simp only [go_sem]; rfl)
end Go.Am

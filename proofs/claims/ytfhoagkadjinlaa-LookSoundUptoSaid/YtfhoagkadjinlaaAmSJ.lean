/- Part SJ of a proof that runs a program's calls on a small machine whose values bear no addresses: no conditions. -/
import Derived.Test.YtfhoagkadjinlaaAmSI
import Derived.Test.YtfhoagkadjinlaaAmL1
import Derived.Test.YtfhoagkadjinlaaAmED
import Derived.Test.YtfhoagkadjinlaaAmEF
set_option autoImplicit false
set_option linter.unusedSimpArgs false
set_option linter.unusedVariables false
set_option linter.unusedSectionVars false
namespace Go.Am.Sm
open Go Go.Am Go.Proofs
section
variable {l:List Int} {N:Nv} {X:Nx} {R:Nat} {rch:Nat→Bool} {bh:Nat→List Nat}
theorem clX_ex {es:List (List Eg)} {b:Nat} {r:Int} (h:[D.int .i64 (b:Int),D.int .i64 r] ∈ clX es):∃ (t:Nat) (q:List Eg) (e:Eg),es[t]?=some q∧e ∈ q∧e.kind=2∧e.to=b∧e.num=r:=by
 obtain ⟨q,hq,hx⟩:=List.mem_flatMap.1 h
 obtain ⟨e,he,hx⟩:=List.mem_map.1 hx
 obtain ⟨he,hk⟩:=List.mem_filter.1 he
 obtain ⟨t,ht⟩:=List.mem_iff_getElem?.1 hq
 have h2:e.kind=2:=by simpa using hk
 injection hx with h3 h4
 injection h4 with h4
 injection h3 with _ h3
 injection h4 with _ h4
 exact ⟨t,q,e,ht,he,h2,by omega,h4⟩
theorem Chn.rc (hN:NetG N X R):∀ {B:List Nat} {r:Int},Chn N r B→RcP N 0 r.toNat
 | [],r,h => by rw [show r=0 from h]; exact .refl
 | b :: B,r,⟨h1,h2⟩ => by
  obtain ⟨t,q,e,h3,h4,h5,rfl,rfl⟩:=clX_ex h1
  have h6:=Chn.rc hN h2
  have h7:=(hN.ed t q h3 e h4).2.2.2.2.1
  exact .step h6 h3 (by rw [h7]) h4 h5
theorem Rn.lk {lv:Nat→Nat→List (Nat × Nat)} {F:List (Nat × Nat)} {s i t j:Nat} (h:Lk l N X lv F s i) (k:Rn l N X s i t j):Lk l N X lv F t j:=by
 induction k with
 | refl => exact h
 | free _ h1 h2 h3 ih => exact .free (ih h) h1 h2 h3
 | tok _ h1 h2 h3 h4 ih => exact .tok (ih h) h1 h2 h3 h4
 | call _ h1 h2 h3 h4 ih _ => exact .call (ih h) h1 h2 h3 h4
theorem Pg.lk {lv:Nat→Nat→List (Nat × Nat)} {F:List (Nat × Nat)} {s i k:Nat} (h:Lk l N X lv F s i) (p:Pg l N X s i k):LkP l N X lv F k:=by
 cases p with
 | here h1 => exact ⟨_,_,Rn.lk h h1,.inl rfl⟩
 | call h1 h2 h3 h4 h5 => exact ⟨_,_,Rn.lk h h1,.inr ⟨_,_,h2,h3,h4,h5⟩⟩
theorem PgB.lk (hN:NetG N X R) (hB:BhOk N R rch bh) {F:List (Nat × Nat)}:∀ {B:List Nat} {s i k:Nat},s < N.es.length→Chn N (N.rule s) B→PgB l N X s B i k→Lk l N X (lvB bh) F s i→LkP l N X (lvB bh) F k
 | [],_,_,_,_,_,h,hl => Pg.lk hl h
 | b :: B,_,_,_,_,_,.inl h,hl => Pg.lk hl h
 | b :: B,s,i,k,hs,⟨c1,c2⟩,.inr ⟨j,h1,h2⟩,hl => by
  obtain ⟨t,q,e,h3,h4,h5,h6,h7⟩:=clX_ex c1
  obtain ⟨-,-,-,k4,k5,-⟩:=hN.ed t q h3 e h4
  have hR:=(hN.rr s hs).2
  have hr:N.rule (lvS N X s)=N.rule s:=by
   unfold lvS
   rw [(hN.lv _ hR).2.2,Int.toNat_of_nonneg (hN.rr s hs).1]
  have hlv:lvS N X s=lvS N X (lvS N X s):=by
   have:∀ a b:Nat,N.rule a=N.rule b→lvS N X a=lvS N X b:=fun a b h => by unfold lvS; rw [h]
   exact (this _ _ hr).symm
  have hbm:b ∈ bh (N.rule (lvS N X s)).toNat:=(hB.mem _ _).2 ⟨t,q,e,h3,h4,h5,by rw [hr,h7],h6,by
   rw [← k5,h6]; exact Chn.rc hN c2⟩
  have hb:b < N.es.length:=by rw [← h6]; exact k4
  exact PgB.lk hN hB hb c2 h2 (.leave (x:=(b,j)) (Rn.lk hl h1) hlv (List.mem_map.2 ⟨b,hbm,rfl⟩))
theorem AlwP.of {s:Nat} {B:List Nat} (hN:NetG N X R) (hB:BhOk N R rch bh) (hs:SpOk N s B) {r:List Eg} (hget:N.es[s]?=some r) {e:Eg} (he:e ∈ r) (h:NE l N X B e l.length):AlwP l N X bh e:=by
 obtain ⟨k1,k2,k3,k4,k5,k6⟩:=hN.ed s r hget e he
 have hm:∀ i k,Gw l N X e.to B i k→LkP l N X (lvB bh) [(e.to,i)] k:=fun i k h => PgB.lk hN hB k4 (by rw [k5]; exact hs.ch) (h.to hN) (.start (by simp))
 rcases h with ⟨h1,h2⟩ | ⟨h1,h2⟩ | ⟨h1,h2,f,hf,h3⟩ | ⟨h1,h2,hf⟩
 · exact .inl ⟨h1,hm _ _ h2.1⟩
 · refine .inr (.inr (.inl ⟨h1,?_⟩))
   rcases h2.1.to hN with q | ⟨j,q1,q2⟩
   · exact .inl q
   · refine .inr ⟨j,?_,PgB.lk hN hB k4 (by rw [k5]; exact hs.ch) q2 (.start (by simp))⟩
     have:lvS N X (X.ent e.num.toNat)=X.lve e.num.toNat:=by
      unfold lvS
      rw [(hN.en _ (k6 h1)).2.2,Int.toNat_natCast]
     rw [this] at q1; exact q1
 · exact .inr (.inr (.inr ⟨by omega,by omega,h2,by
    rw [hf]; exact hm _ _ h3.1.dropTo⟩))
 · exact .inr (.inl ⟨by omega,hf⟩)
theorem NE.fewer {B:List Nat} {e:Eg} {n m:Nat} (h:NE l N X B e n):NE (l.take m) N X B e (min m n):=by
 rcases h with ⟨h1,h2⟩ | ⟨h1,h2⟩ | ⟨h1,h2,f,rfl,h3⟩ | ⟨h1,h2,rfl⟩
 · exact .inl ⟨h1,h2.fewer⟩
 · exact .inr (.inl ⟨h1,h2.fewer⟩)
 · cases m with
   | zero => exact .inr (.inr (.inr ⟨h1,by simp,by simp⟩))
   | succ m =>
    refine .inr (.inr (.inl ⟨h1,by rw [List.getElem?_take_of_lt (by omega)]; exact h2,min m f,by omega,?_⟩))
    have:(l.take (m+1)).drop 1=(l.drop 1).take m:=by rw [List.drop_take,Nat.add_sub_cancel]
    rw [this]; exact h3.fewer
 · refine .inr (.inr (.inr ⟨h1,?_,by simp⟩))
   cases m with
   | zero => simp
   | succ m => rw [List.getElem?_take_of_lt (by omega)]; exact h2
end
theorem prU_spec {W:List Int→List Nat} {l:List Int}:∀ (n i:Nat),((prU W l n i).2.2=false∧(prU W l n i).2.1=0)∨((prU W l n i).2.2=true∧i≤(prU W l n i).2.1∧(prU W l n i).2.1 < i+n ∧
 ((W (l.take (prU W l n i).2.1)=[]∧(prU W l n i).1=-1)∨∃ x:Nat,W (l.take (prU W l n i).2.1)=[x]∧(prU W l n i).1=(x:Int)))
 | 0,i => .inl ⟨rfl,rfl⟩
 | n+1,i => by
  match h:W (l.take i) with
  | [] =>
   have e:prU W l (n+1) i=(-1,i,true):=by rw [prU,h]
   rw [e]
   exact .inr ⟨rfl,Nat.le_refl _,by dsimp only; omega,.inl ⟨h,rfl⟩⟩
  | [w] =>
   have e:prU W l (n+1) i=((w:Int),i,true):=by rw [prU,h]
   rw [e]
   exact .inr ⟨rfl,Nat.le_refl _,by dsimp only; omega,.inr ⟨w,h,rfl⟩⟩
  | w1 :: w2 :: ws =>
   have e:prU W l (n+1) i=prU W l n (i+1):=by rw [prU,h]
   rw [e]
   rcases prU_spec (W:=W) (l:=l) n (i+1) with h | ⟨h1,h2,h3,h4⟩
   · exact .inl h
   · exact .inr ⟨h1,by omega,by omega,h4⟩
section
variable {g:Gr} {l:List Int} {s:Nat} {B:List Nat} {r:List Eg} {rch:Nat→Bool} {bh:Nat→List Nat}
theorem way_allowed (hg:SmallG g) (hc:checkP g=0) (hL:l.length≤1000) (hs:SpOk (newN g).N s B) (hBl:B.length≤1000) (hget:(newN g).N.es[s]?=some r) (hB:BhOk (newN g).N g.rules.length rch bh) {j:Nat} {e:Eg} (hj:r[j]?=some e)
 (h:wayV l (newN g).N (newX g) B e=l.length):j ∈ waysP l (newN g).N (newX g) bh rch s:=by
 have hN:=newN_G (GOk.of hc)
 have he:=List.mem_of_getElem? hj
 have hne:=wayV_NE hg hc hL hs hBl hget he
 rw [h] at hne
 exact waysP_mem.2 ⟨(hB.rch _).2 (Chn.rc hN hs.ch),r,e,hget,hj,AlwP.of hN hB hs hget he hne⟩
theorem wayV_fewer (hg:SmallG g) (hc:checkP g=0) (hL:l.length≤1000) (hs:SpOk (newN g).N s B) (hBl:B.length≤1000) (hget:(newN g).N.es[s]?=some r) {e:Eg} (he:e ∈ r) (m:Nat) :
 wayV (l.take m) (newN g).N (newX g) B e=min m (wayV l (newN g).N (newX g) B e) :=
 (wayV_NE hg hc (by rw [List.length_take]; omega) hs hBl hget he).eq (NE.fewer (wayV_NE hg hc hL hs hBl hget he))
theorem sure_way (hg:SmallG g) (hc:checkP g=0) (hL:l.length≤1000) (hs:SpOk (newN g).N s B) (hBl:B.length≤1000) (hget:(newN g).N.es[s]?=some r) (hB:BhOk (newN g).N g.rules.length rch bh) {u:Nat} {w:Int} (hu:u≤l.length)
 (hw:(waysP (l.take u) (newN g).N (newX g) bh rch s=[]∧w=-1)∨∃ x:Nat,waysP (l.take u) (newN g).N (newX g) bh rch s=[x]∧w=(x:Int))
 (hv:farV (l.take u) (newN g).N (newX g) s B=u):(r=[]→w=-1)∧(r≠[]→∀ i:Nat,(wayL l (newN g).N (newX g) B r)[i]?=some (mxL (wayL l (newN g).N (newX g) B r))→w=(i:Int)):=by
 have hN:=newN_G (GOk.of hc)
 have htl:(l.take u).length=u:=by rw [List.length_take]; omega
 refine ⟨fun h0 => ?_,fun h0 i hi => ?_⟩
 · rcases hw with ⟨-,rfl⟩ | ⟨x,hx,-⟩
   · rfl
   · have:x ∈ waysP (l.take u) (newN g).N (newX g) bh rch s:=by rw [hx]; simp
     obtain ⟨-,q,e,h1,h2,-⟩:=waysP_mem.1 this
     rw [hget] at h1; cases h1
     rw [h0] at h2; simp at h2
 · have hne:0 < (wayL (l.take u) (newN g).N (newX g) B r).length:=by
    unfold wayL; rw [List.length_map]; exact List.length_pos_iff.2 h0
   obtain ⟨m1,m2⟩:=wayL_max (l:=l.take u) hg hc (by omega) hs hBl hget h0
   have hfar:=(viable_L (zt:=true) (l:=l.take u) hg hc (by omega) hs (σ:=St.empty) (ba:=.d (.slc true (intsD (natsI B)))) (.inl ⟨true,rfl⟩)).1
   rw [hv] at hfar
   have hmu:=m1.eq hfar
   obtain ⟨e,he,hee⟩:=List.mem_map.1 (mxL_mem hne)
   have hee:((wayV (l.take u) (newN g).N (newX g) B e:Nat):Int)=mxL (wayL (l.take u) (newN g).N (newX g) B r):=hee
   have heu:wayV (l.take u) (newN g).N (newX g) B e=u:=by omega
   obtain ⟨j,hj⟩:=List.mem_iff_getElem?.1 he
   have hju:=way_allowed (l:=l.take u) hg hc (by omega) hs hBl hget hB hj (by rw [heu,htl])
   have hi2:∃ e',r[i]?=some e'∧((wayV l (newN g).N (newX g) B e':Nat):Int)=mxL (wayL l (newN g).N (newX g) B r):=by
    generalize mxL (wayL l (newN g).N (newX g) B r)=M at hi
    unfold wayL at hi
    rw [List.getElem?_map] at hi
    cases hri:r[i]? with
    | none => rw [hri] at hi; cases hi
    | some e' => rw [hri] at hi; exact ⟨e',rfl,Option.some.inj hi⟩
   obtain ⟨e',he',hM⟩:=hi2
   have hge:=mxL_le (l:=wayL l (newN g).N (newX g) B r) (x:=((wayV l (newN g).N (newX g) B e:Nat):Int)) (List.mem_map.2 ⟨e,he,rfl⟩)
   have f1:=wayV_fewer hg hc hL hs hBl hget he u
   have f2:=wayV_fewer hg hc hL hs hBl hget (List.mem_of_getElem? he') u
   have hiu:=way_allowed (l:=l.take u) hg hc (by omega) hs hBl hget hB he' (by omega)
   rcases hw with ⟨q,-⟩ | ⟨x,q,rfl⟩
   · rw [q] at hju; cases hju
   · rw [q] at hiu
     simp at hiu; rw [hiu]
end
end Go.Am.Sm
namespace Go.Am.Sm
open Go Go.Am Go.Proofs
theorem nptr_eq55 {σ:St}:binA (XX mdE) σ .eql 55 (.d .nptr) (.d .nptr)=some (.d (.bool true)):=by
 unfold binA eqT; simp only [ti55]; rfl
structure SnS (n0 kt km:Nat) (ra ba rea:A) (tb:List Nat) (g:Gr) (bh:Nat→List Nat) (rch:Nat→Bool) (s:Nat) (B:List Nat) (zb:Bool) (τ:St):Prop where
 h0:n0+2≤τ.n
 h1:km < n0
 h2:τ.get n0=.cells [.d (newN g).N.esD,.d (slD (newX g).en),.d (slD (newX g).lv)]
 h3:τ.get (n0+1)=.cells [.d (.int .i64 (s:Int)),.d (.slc zb (intsD (natsI B)))]
 h4:TbK 1 kt km ra ba rea tb g.rules.length (newN g).N (newX g) bh rch τ
 h5:kt < n0∧kt≠km
set_option maxRecDepth 8000 in
set_option maxHeartbeats 32000000 in
theorem soundL_call (g:Gr) (hg:SmallG g) (hL:g.rules.length < 1000000000) (zw:Bool) (way:List Int) (hw:way.length < 1000000000) (z:Bool) (l0:List Int) (hl0:l0.length < 1000000000):∃ σ' T,CallsTo (XX mdE) (.func 6 []) [g.a,.d (.slc zw (intsD way)),.d (.slc z (intsD l0))] St.empty (.d (.bool true)) σ' T:=by
 refine ⟨St.empty,[],CallsTo.cut0 rfl fn6 (by simp) rfl ?_⟩
 simp only [Try.f6,Option.getD_some]
 simp only [go_sem,Gr.a]
 refine ⟨_,_,_,works_E _,?_⟩
 simp only [go_sem]
 refine ⟨_,_,_,deep_E g _ hg hL,?_⟩
 cases hd:deepG g with
 | true => simp only [go_sem]
 | false =>
 obtain ⟨a,σ1,W1,hc1,a1,a2,a3,a4⟩:=lookNew_c (fz:=mdE) new_E rfl rfl rfl rfl rfl rfl rfl rfl g hg (St.empty.push (.cells g.c))
 have gx:=(a2 0 (by simp [St.n_push,St.empty])).trans (show (St.empty.push (.cells g.c)).get 0=.cells g.c from St.get_push_eq)
 have lW0:∀ W,low 0 W=[]:=fun W => low_all fun k hk => Nat.zero_le _
 have n0:St.empty.n=0:=rfl
 have hn1:1≤σ1.n:=a1
 simp only [go_sem]
 refine ⟨_,_,_,hc1,?_⟩
 have hn:=simnew_L g σ1 hg
 rcases a4 with ⟨hc,rfl⟩ | ⟨hc,kt,km,ra,ba,rea,tb,bh,rch,rfl,hT0,hm,hB⟩
 · have c1:(checkP g != 0)=true:=by simpa using hc
   rw [simV_no hc] at hn
   simp only [go_sem,lW0,n0,gx]
   refine ⟨_,_,_,hn,?_⟩
   simp only [go_sem,c1,nptr_eq30,nptr_eq55,gx,lW0]
   refine ⟨_,_,_,check_E g _ hg,?_⟩
   simp only [go_sem]
 · have h:=GOk.of hc
   have hN:=newN_G h
   rw [simV_ok hc] at hn
   have c0:((0:Int) != 0)=false:=rfl
   have hF:=newN_fits h
   simp only [go_sem,lW0,n0,gx]
   refine ⟨_,_,_,hn,?_⟩
   obtain ⟨r0,hst,hr⟩:=stand_c hg (zw:=zw) hw hL σ1
   rcases hr with ⟨q,-⟩ | ⟨-,s,B,zb,hsp,hB30,rfl⟩
   · exact absurd hc q
   simp only [go_sem,c0,gx,lW0]
   refine ⟨_,_,_,hst,?_⟩
   have hmin:min l0.length 4≤l0.length:=Nat.min_le_left _ _
   have hmn:minmax false [.d (.int .i64 (l0.length:Int)),.d (.int .i64 4)]=some (.d (.int .i64 ((min l0.length 4:Nat):Int))):=minA (b:=4)
   have q1:σ1.n≠σ1.n+1:=by omega
   simp only [go_sem,stAt,netA,netC3,hmn,hmin,lW0,q1]
   have hl1:(l0.take (min l0.length 4)).length=min l0.length 4:=by rw [List.length_take]; omega
   generalize hl:l0.take (min l0.length 4)=l at *
   have hl4:l.length≤4:=by omega
   clear hmn hmin hl1 hl
   have hTK:TbK 1 kt km ra ba rea tb g.rules.length (newN g).N (newX g) bh rch σ1:=⟨hT0,[],[],⟨hm,fun k v hk => (by cases hk),fun k hk => (by cases hk)⟩⟩
   have hS0:SnS σ1.n kt km ra ba rea tb g bh rch s B zb ((((σ1.push (.cells [.d (.slc true []),.d (.slc true []),.d (.slc true [])])).push (.cells [.d (.int .i64 0),.d (.slc true [])])).set σ1.n (.cells [.d (newN g).N.esD,.d (slD (newX g).en),.d (slD (newX g).lv)])).set (σ1.n+1) (.cells [.d (.int .i64 (s:Int)),.d (.slc zb (intsD (natsI B)))])):=by
    refine ⟨by simp only [St.n_set,St.n_push]; omega,hT0.km.2.1,?_,St.get_set_eq,hTK.stay (by simp only [St.n_set,St.n_push]; omega) fun k h1 h2 => ?_,hT0.tab.lt _ hT0.tab.kt,fun e => hT0.km.2.2 (e ▸ hT0.tab.kt)⟩
    · rw [St.get_set_ne (by omega),St.get_set_eq]
    · rw [St.get_set_ne (by omega),St.get_set_ne (by omega),St.get_push_ne (by simp only [St.n_push]; omega),St.get_push_ne h2]
   generalize ((((σ1.push (.cells [.d (.slc true []),.d (.slc true []),.d (.slc true [])])).push (.cells [.d (.int .i64 0),.d (.slc true [])])).set σ1.n (.cells [.d (newN g).N.esD,.d (slD (newX g).en),.d (slD (newX g).lv)])).set (σ1.n+1) (.cells [.d (.int .i64 (s:Int)),.d (.slc zb (intsD (natsI B)))]))=τ0 at hS0
   generalize σ1.n=n1 at hS0 hn1 ⊢
   have hsN:=hsp.st
   have hget:(newN g).N.es[s]?=some (newN g).N.es[s]:=by simp [hsN]
   have hrl:=hF.l _ (List.getElem_mem hsN)
   generalize (newN g).N.es[s]=r at hget hrl
   have ies:=fun (ρ:St) => index_es (σ:=ρ) (kd:=.i64) hget
   have hwlen:∀ l,(wayL l (newN g).N (newX g) B r).length=r.length:=fun l => by simp [wayL]
   have hrr:((r.length:Int) != (r.length:Int))=false:=by simp
   have hwle:∀ (l:List Int),(waysP l (newN g).N (newX g) bh rch s).length≤1000000:=fun l => by
    rw [waysP_wI hget]
    have h1:=wI_len (P:=fun (j:Nat) => rch ((newN g).N.rule s).toNat=true∧∃ e,r[j]?=some e∧AlwP l (newN g).N (newX g) bh e) (i:=r.length)
    omega
   clear hst hn hc1 gx a1 a2 a3 hTK hT0 hm
   refine Ev.mid2 (fun tm' τ' W' => W'=[]∧SnS n1 kt km ra ba rea tb g bh rch s B zb τ'∧tm'.at 2=.d (.slc z (intsD l))∧tm'.at 7=.ptr kt 0∧tm'.at 9=simA (newN g).N (newX g)∧tm'.at 11=.ptr n1 0∧tm'.at 12=.ptr (n1+1) 0) ?_ ?_
   · intro rest hI
     refine Ev.loop_ind (fun m tm τ W => ∃ (k:Nat),m=l.length+1 - k∧k≤l.length+1∧W=[]∧SnS n1 kt km ra ba rea tb g bh rch s B zb τ ∧
      tm.at 2=.d (.slc z (intsD l))∧tm.at 7=.ptr kt 0∧tm.at 9=simA (newN g).N (newX g)∧tm.at 11=.ptr n1 0∧tm.at 12=.ptr (n1+1) 0∧tm.at 14=.d (.int .i64 (k:Int))) ?_ (l.length+1) _ _ _ ⟨0,rfl,Nat.zero_le _,rfl,hS0,?_,?_,?_,?_,?_,?_⟩
     · clear hS0
       rintro m tm τ W ⟨k,rfl,hk,rfl,hS,t2,t7,t9,t11,t12,t14⟩ ih
       by_cases hlt:k≤l.length
       · have d1:decide ((k:Int)≤(l.length:Int))=true:=decide_eq_true (by omega)
         have htl:(l.take k).length=k:=by rw [List.length_take]; omega
         obtain ⟨an,τ2,W2,hcn,bn,v1,v2,v3,v4,v5,v6⟩:=ways_E hg hc hB hsN (z:=z) (l:=l.take k) (by omega) τ hS.h4
         have hln:=v2.1.len
         rw [intsD_len,natsI_len] at hln
         simp only [go_sem,t2,t7,t9,t11,t12,t14,d1,hlt,hS.h3]
         refine ⟨_,_,_,ways_L hg hc (l:=l.take k) (by omega) hsp (by omega) hget _,?_⟩
         simp only [go_sem,t2,t7,t9,t11,t12,t14,hlt,hS.h3,lW0]
         refine ⟨drawOk_rel [5] [] rfl (by kernel_rfl) rfl (by simp),?_⟩
         refine ⟨_,_,_,hcn,?_⟩
         have hS2:SnS n1 kt km ra ba rea tb g bh rch s B zb τ2:=⟨by have:=hS.h0; omega,hS.h1,(v5 _ (by have:=hS.h0; omega) (by have:=hS.h1; omega)).trans hS.h2,(v5 _ (by have:=hS.h0; omega) (by have:=hS.h1; omega)).trans hS.h3,v1,hS.h5⟩
         have hcc:decide (1=1)=true:=rfl
         have hlw:∀ ρ:St,sliceLen ρ (.d (slD (wayL (l.take k) (newN g).N (newX g) B r)))=some r.length:=fun ρ => by rw [len_sl,hwlen]
         simp only [go_sem,t2,t7,t9,t11,t12,t14,hlt,hS2.h3,hS2.h2,lW0]
         refine ⟨drawOk_rel [6] [] rfl (by kernel_rfl) rfl (by simp),?_⟩
         simp only [go_sem,t2,t7,t9,t11,t12,t14,hlt,hS2.h3,hS2.h2,lW0,c0,hlw,ies,len_rw,hrr]
         have hwl1:=hwle (l.take k)
         have hgd:∀ j (hj:j < r.length),(wayL (l.take k) (newN g).N (newX g) B r).getD j 0=((wayV (l.take k) (newN g).N (newX g) B r[j]:Nat):Int):=fun j hj => by simp [wayL,hj]
         have hmem:∀ j (hj:j < r.length),(wayL (l.take k) (newN g).N (newX g) B r).getD j 0=(k:Int)→decide ((j:Int) ∈ natsI (waysP (l.take k) (newN g).N (newX g) bh rch s))=true:=fun j hj he =>
          decide_eq_true (List.mem_map.2 ⟨j,way_allowed (l:=l.take k) hg hc (by omega) hsp (by omega) hget hB (j:=j) (e:=r[j]) (by simp [hj]) (by rw [hgd j hj] at he; omega),rfl⟩)
         refine Ev.loop_ind (fun m tm τ W => ∃ (j:Nat),m=r.length - j∧j≤r.length∧W=[]∧τ=τ2∧tm.at 2=.d (.slc z (intsD l))∧tm.at 7=.ptr kt 0∧tm.at 9=simA (newN g).N (newX g)∧tm.at 11=.ptr n1 0∧tm.at 12=.ptr (n1+1) 0∧tm.at 14=.d (.int .i64 (k:Int)) ∧
          tm.at 15=.d (slD (wayL (l.take k) (newN g).N (newX g) B r))∧tm.at 17=an∧tm.at 19=.d (.int .i64 (j:Int))) ?_ r.length _ _ _ ⟨0,rfl,Nat.zero_le _,rfl,rfl,?_,?_,?_,?_,?_,?_,?_,?_,?_⟩
         · clear t2 t7 t9 t11 t12 t14
           rintro m tm τ' W ⟨j,rfl,hj,rfl,rfl,t2,t7,t9,t11,t12,t14,t15,t17,t19⟩ ih2
           by_cases hjl:j < r.length
           · have isl:=fun (ρ:St) => index_sl (σ:=ρ) (kd:=.i64) (l:=wayL (l.take k) (newN g).N (newX g) B r) (i:=j) (by rw [hwlen]; exact hjl)
             have wr:=wrap_succ' hjl (by omega)
             have hmj:=hmem j hjl
             generalize (wayL (l.take k) (newN g).N (newX g) B r).getD j 0=wj at isl hmj
             by_cases hwk:wj=(k:Int)
             · have d2:(wj == (k:Int))=true:=by rw [hwk]; simp
               have hhas:=has_c (fz:=mdE) rfl (v2.1.sl (by omega)) (by rw [natsI_len]; omega) (j:Int)
               rw [hmj hwk] at hhas
               simp only [go_sem,t14,t15,t17,t19,hlw,dec_lt' hjl,isl,d2]
               refine ⟨_,_,_,hhas,?_⟩
               simp only [go_sem,t19,wr,lW0]
               refine ih2 _ _ _ _ (by omega) ⟨j+1,rfl,hjl,rfl,rfl,?_,?_,?_,?_,?_,?_,?_,?_,?_⟩
               all_goals (simp only [go_sem,t2,t7,t9,t11,t12,t14,t15,t17,t19])
             · have d2:(wj == (k:Int))=false:=by rw [beq_eq_false_iff_ne]; exact hwk
               simp only [go_sem,t14,t15,t17,t19,hlw,dec_lt' hjl,isl,d2,wr]
               refine ih2 _ _ _ _ (by omega) ⟨j+1,rfl,hjl,rfl,rfl,?_,?_,?_,?_,?_,?_,?_,?_,?_⟩
               all_goals (simp only [go_sem,t2,t7,t9,t11,t12,t14,t15,t17,t19])
           · simp only [go_sem,t14,t15,t19,hlw,dec_ge' hjl,wrap_succ' (show k < 5 by omega) (by omega)]
             refine ih _ _ _ _ (by omega) ⟨k+1,rfl,by omega,rfl,hS2,?_,?_,?_,?_,?_,?_⟩
             all_goals (simp only [go_sem,t2,t7,t9,t11,t12,t14])
         all_goals first | (simp only [go_sem,t2,t7,t9,t11,t12,t14]; done) | (simp only [go_sem]; rfl)
       · have d1:decide ((k:Int)≤(l.length:Int))=false:=decide_eq_false (by omega)
         simp only [go_sem,t2,t14,d1]
         refine hI _ _ _ ⟨rfl,hS,?_,?_,?_,?_,?_⟩
         all_goals (simp only [go_sem,t2,t7,t9,t11,t12,t14])
     all_goals first | (simp only [go_sem]; done) | (simp only [go_sem]; rfl)
   · clear hS0
     rintro tm τ W ⟨rfl,hS,t2,t7,t9,t11,t12⟩
     have hb:∀ n,∀ s ∈ bh n,s < (newN g).N.es.length:=fun n s hs => by
      obtain ⟨t,r,e,q1,q2,q3,q4,q5,-⟩:=(hB.mem n s).1 hs
      rw [← q5]; exact (hN.ed t r q1 e q2).2.2.2.1
     obtain ⟨τ1,W2,hcp,u1,u4,u5,u6⟩:=predM_c (fz:=mdE) (kq:=kt) rfl rfl rfl rfl rfl rfl rfl rfl rfl hg hc (l:=l) (by omega) hb hB.len hsN τ hS.h4 (TokA.data (z:=z) (l:=l)) TkCut.data ⟨by have:=hS.h0; have:=hS.h5.1; omega,hS.h5.2⟩
     have hps:=prU_spec (W:=fun l => waysP l (newN g).N (newX g) bh rch s) (l:=l) (min l.length 4+1) 0
     generalize prU (fun l => waysP l (newN g).N (newX g) bh rch s) l (min l.length 4+1) 0=pr at hps hcp
     obtain ⟨w,u,kn⟩:=pr
     dsimp only at hps hcp
     have hul:u≤l.length:=by rcases hps with ⟨-,rfl⟩ | ⟨-,-,h,-⟩ <;> omega
     have hS1:SnS n1 kt km ra ba rea tb g bh rch s B zb τ1:=⟨by have:=hS.h0; omega,hS.h1,(u5 _ (by have:=hS.h0; omega) (by have:=hS.h1; omega)).trans hS.h2,(u5 _ (by have:=hS.h0; omega) (by have:=hS.h1; omega)).trans hS.h3,u1,hS.h5⟩
     simp only [go_sem,t2,t7,t12,hS.h3]
     refine ⟨_,_,_,hcp,?_⟩
     have hm1:minmax false [.d (.int .i64 (u:Int)),.d (.int .i64 (l.length:Int))]=some (.d (.int .i64 (u:Int))):=by
      have:=minA (a:=u) (b:=l.length)
      rw [Nat.min_eq_left hul] at this; exact this
     have hm2:minmax true [.d (.int .i64 (u:Int)),.d (.int .i64 0)]=some (.d (.int .i64 (u:Int))):=by
      have:=maxA (a:=u) (b:=0)
      rw [Nat.max_eq_left (Nat.zero_le u)] at this; exact this
     simp only [go_sem,t2,t9,t12,hS1.h3,lW0,hm1,o_maxA,hm2,hul]
     have hv:=viable_L (zt:=z) (l:=l.take u) hg hc (by rw [List.length_take]; omega) hsp (σ:=τ1) (ba:=.d (.slc zb (intsD (natsI B)))) (.inl ⟨zb,rfl⟩)
     have hfar:=hv.1
     have hvc:=hv.2
     refine ⟨_,_,_,hvc,?_⟩
     have e1:decide ((u:Int) < 0)=false:=decide_eq_false (by omega)
     have e2:decide ((u:Int) > (l.length:Int))=false:=decide_eq_false (by omega)
     have hfl:=hfar.1.len (Nat.zero_le _)
     rw [List.length_take] at hfl
     simp only [go_sem,viaV]
     refine ⟨drawOk_rel [9] [] rfl (by kernel_rfl) rfl (by simp),?_⟩
     cases kn with
     | false =>
      simp only [go_sem,c0,e1,e2,t2,lW0]
     | true =>
      have hps2:(waysP (l.take u) (newN g).N (newX g) bh rch s=[]∧w=-1)∨∃ x:Nat,waysP (l.take u) (newN g).N (newX g) bh rch s=[x]∧w=(x:Int):=by
       rcases hps with ⟨h,-⟩ | ⟨-,-,-,h⟩
       · cases h
       · exact h
      by_cases hfu:farV (l.take u) (newN g).N (newX g) s B < u
      · have e3:decide (((farV (l.take u) (newN g).N (newX g) s B:Nat):Int) < (u:Int))=true:=decide_eq_true (by omega)
        simp only [go_sem,c0,e1,e2,e3,t2,lW0]
      · have e3:decide (((farV (l.take u) (newN g).N (newX g) s B:Nat):Int) < (u:Int))=false:=decide_eq_false (by omega)
        have hsw:=sure_way (l:=l) hg hc (by omega) hsp (by omega) hget hB hul hps2 (Nat.le_antisymm (Nat.le_trans hfl (Nat.min_le_left _ _)) (Nat.le_of_not_lt hfu))
        obtain ⟨ac,hcc,hch⟩:=choose_L (zt:=z) (zb:=zb) (l:=l) hg hc (by omega) hsp (by omega) hget τ1
        simp only [go_sem,c0,e1,e2,e3,t2,t9,t12,hS1.h3,lW0]
        refine ⟨_,_,_,hcc,?_⟩
        rcases hch with ⟨q1,rfl⟩ | ⟨i,q1,q2,-,rfl⟩
        · have hr0:r=[]:=by
           have:=hwlen l
           rw [q1] at this
           exact List.length_eq_zero_iff.1 this.symm
          have hw1:=hsw.1 hr0
          subst hw1
          simp only [go_sem]
        · have hr0:r≠[]:=fun e => by
           rw [hwlen,e] at q1; simp at q1
          have hw1:=hsw.2 hr0 i q2
          subst hw1
          have zii:((i:Int) == (i:Int))=true:=by simp
          have z00:((0:Int) == 0)=true:=rfl
          simp only [go_sem,z00,zii]
end Go.Am.Sm

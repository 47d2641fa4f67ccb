/- Part SD of a proof that runs a program's calls on a small machine whose values bear no addresses: no conditions. -/
import Derived.Test.YtfhoagkadjinlaaAmSC
import Derived.Test.YtfhoagkadjinlaaAmE7
set_option autoImplicit false
set_option linter.unusedSimpArgs false
set_option linter.unusedVariables false
set_option linter.unusedSectionVars false
namespace Go.Am.Sm
open Go Go.Am Go.Proofs
variable {fz:Nat→Md}
theorem upd_any {t:Nat} (ht:T2 t) {a b r:Nat} {v:D} (M:List ((Nat × Nat) × D)) :
 ∃ M',(∀ σ:St,updB (XX fz) σ t (.agg [.d (.int .i64 (a:Int)),.d (.int .i64 (b:Int))]) (.d v) r (.map (PM M))=.val .top (σ.set r (.map (PM M'))) [r] [])∧∀ e ∈ M',e ∈ M∨e=((a,b),v):=by
 rcases find_PM (fz:=fz) ht (a:=a) (b:=b) M 0 with ⟨j,s',h1,h2,h3⟩ | ⟨h1,h2⟩
 · refine ⟨M.set j ((a,b),v),fun σ => ?_,fun e he => ?_⟩
   · unfold updB
     dsimp only
     rw [show keyT (XX fz) 8 t (.agg [.d (.int .i64 (a:Int)),.d (.int .i64 (b:Int))])=true from key_pr ht,if_neg (by simp),h3]
     dsimp only
     have hn:(PM M)[0+j]?=some (prA a b,.d s'):=by rw [Nat.zero_add,PM,List.getElem?_map,h1]; rfl
     rw [hn]; dsimp only
     have hs:sameK σ (prA a b) (.agg [.d (.int .i64 (a:Int)),.d (.int .i64 (b:Int))])=true:=by simp [sameK,sameKs,sameK1,prA]
     rw [if_pos hs,Nat.zero_add,PM,PM,List.map_set]; rfl
   · rcases List.mem_or_eq_of_mem_set he with h | h
     · exact .inl h
     · exact .inr h
 · exact ⟨M ++ [((a,b),v)],fun σ => upd_PM ht h1,fun e he => by
    rcases List.mem_append.1 he with h | h
    · exact .inl h
    · exact .inr (by simpa using h)⟩
set_option maxHeartbeats 8000000 in
theorem rule_c2 (h86:fz 115=.cut) {kr kM lo:Nat} {cl:D} {zt:Bool} {l:List Int} {N:Nv} {X:Nx} {R:Nat} (hN:NetG N X R) (hkr:kr < lo) (hkM:kM < lo) (hne:kr≠kM) {n p:Nat} (hn:n < R)
 (ha:AlongSpec fz kr kM lo (.vptr (simC N X cl) 0) (.slc zt (intsD l)) l N X (X.ent n) [p] (X.lve n)) :
 RuleSpec fz kr kM lo (.vptr (simC N X cl) 0) (.slc zt (intsD l)) l N X n p:=by
 intro σ f M hM hlo hm hf
 have key:=CallsTo.cutE (X:=XX fz) (f:=115) (cap:=[]) (args:=[.ptr kr 0,.d (.int .i64 (n:Int)),.d (.int .i64 (p:Int))]) (σ:=σ) (P:=fun r σ1 W1 => ∃ (js:List Nat) (f':Nat) (M':List ((Nat × Nat) × D)),r=.d (slD (natsI js)) ∧
  RunM kr kM (.vptr (simC N X cl) 0) (.slc zt (intsD l)) f' M' σ1∧(∀ k ∈ W1,k=kr∨k=kM)∧f≤f'∧f'≤l.length∧MemoOk l N X f' M'∧(f'=f∨Pg l N X (X.ent n) p f')∧AOk l N X (X.ent n) [p] (X.lve n) js f') h86 fn115 (by simp) ?_
 · obtain ⟨r,σ',W',σ1,c1,c2,c3,c4,js,f',M',rfl,d1,d2,d3,d4,d5,d6,d7⟩:=key
   exact ⟨js,f',M',σ',W',c1,c2,c3,d1.stay (c4 _ (by omega)) (c4 _ (by omega)),d2,d3,d4,d5,d6,d7⟩
 simp only [Try.f115,Option.getD_some]
 have n1:kr≠σ.n:=by omega
 have n2:kM≠σ.n:=by omega
 have n3:kr < σ.n:=by omega
 have n4:kM < σ.n:=by omega
 have kp:keyT (XX fz) 8 184 (.agg [.d (.int .i64 (n:Int)),.d (.int .i64 (p:Int))])=true:=key_pr (.inr rfl)
 have hcell:=hM.cell
 have hgm:=hM.gm
 rcases find_PM (fz:=fz) (t:=184) (.inr rfl) (a:=n) (b:=p) M 0 with ⟨j,v,h1,h2,h3⟩ | ⟨h2,h3⟩
 · obtain ⟨js,rfl,hA⟩:=hm _ _ (List.mem_of_getElem? h1)
   simp only [go_sem,hcell,hgm,n1,n2,kp,h3]
   refine ⟨drawOk_rel [] [] rfl (by kernel_rfl) rfl (by simp),?_⟩
   have g:∀ k,k < σ.n→((σ.push (.cells [.d (.int .i64 0),.d (.int .i64 0)])).set σ.n (.cells [.d (.int .i64 (n:Int)),.d (.int .i64 (p:Int))])).get k=σ.get k:=fun k hk => by rw [St.get_set_ne (by omega),St.get_push_ne hk]
   exact ⟨rfl,Mod.refl.push.set (Nat.le_refl _),(fun k hk => by cases hk),js,f,M,rfl,hM.stay (g _ n3) (g _ n4),(fun k hk => by cases hk),Nat.le_refl _,hf,hm,.inl rfl,hA⟩
 · have in1:=fun (ρ:St) => index_sl (σ:=ρ) (kd:=.i64) (l:=X.en) (i:=n) (by rw [hN.enl]; exact hn)
   rw [(hN.en _ hn).2.1] at in1
   have g:∀ k,k < σ.n→(((σ.push (.cells [.d (.int .i64 0),.d (.int .i64 0)])).set σ.n (.cells [.d (.int .i64 (n:Int)),.d (.int .i64 (p:Int))])).push (.cells [.d (.int .i64 (p:Int))])).get k=σ.get k:=fun k hk => by
    rw [St.get_push_ne (by simp only [St.n_push,St.n_set]; omega),St.get_set_ne (by omega),St.get_push_ne hk]
   have gk:(((σ.push (.cells [.d (.int .i64 0),.d (.int .i64 0)])).set σ.n (.cells [.d (.int .i64 (n:Int)),.d (.int .i64 (p:Int))])).push (.cells [.d (.int .i64 (p:Int))])).get σ.n=.cells [.d (.int .i64 (n:Int)),.d (.int .i64 (p:Int))]:=by
    rw [St.get_push_ne (by simp only [St.n_push,St.n_set]; omega),St.get_set_eq]
   obtain ⟨js,f',M',σ2,W2,hc,m1,m2,m3,m4,m5,m6,m7,m8,m9⟩:=ha (.row (σ.n+1) 0 1 1) (((σ.push (.cells [.d (.int .i64 0),.d (.int .i64 0)])).set σ.n (.cells [.d (.int .i64 (n:Int)),.d (.int .i64 (p:Int))])).push (.cells [.d (.int .i64 (p:Int))])) f M
    (.inr ⟨σ.n+1,rfl,St.get_push_eq' (by simp only [St.n_push,St.n_set]),by omega,by omega,by simp only [St.n_push,St.n_set]; omega⟩) (hM.stay (g _ n3) (g _ n4)) (by simp only [St.n_push,St.n_set]; omega) hm hf
   obtain ⟨M2,hu,hM2⟩:=upd_any (fz:=fz) (t:=184) (.inr rfl) (a:=n) (b:=p) (r:=kM) (v:=slD (natsI js)) M'
   have hcell2:=m3.cell
   have hgm2:=m3.gm
   have hk2:σ2.get σ.n=.cells [.d (.int .i64 (n:Int)),.d (.int .i64 (p:Int))]:=by
    rw [m1.same _ (by simp only [St.n_push,St.n_set]; omega) (fun q => by rcases m4 _ q with q | q <;> omega)]; exact gk
   have lW:low σ.n W2=W2:=List.filter_eq_self.2 fun k hk => by
    rcases m4 k hk with q | q <;> simp <;> omega
   have lM:low σ.n [kM]=[kM]:=by rw [low_cons_lt n4]; rfl
   simp only [go_sem,hcell,hgm,n1,n2,kp,h3,simC_map,in1]
   refine ⟨drawOk_rel [] [] rfl (by kernel_rfl) rfl (by simp),?_⟩
   refine ⟨_,_,_,hc,?_⟩
   simp only [go_sem,hcell2,hgm2,hk2,kp,hu]
   refine ⟨drawOk_rel [6] [] rfl (by kernel_rfl) rfl (by simp),?_⟩
   rw [lW,lM]
   have hmem:∀ k,k ∈ W2 ++ [kM]→k=kr∨k=kM:=fun k hk => by
    rcases List.mem_append.1 hk with q | q
    · exact m4 k q
    · exact .inr (by simpa using q)
   have hm9:AOk l N X (X.ent n) [p] (X.lve n) js f':=m9
   refine ⟨rfl,⟨by rw [St.n_set,m2]; simp only [St.n_push,St.n_set]; omega,fun k q1 q2 => ?_,fun k hk => by rcases hmem k hk with q | q <;> omega⟩,fun k hk => ?_,js,f',M2,rfl,⟨by rw [St.get_set_ne hne]; exact hcell2,St.get_set_eq⟩,hmem,m5,m6,fun x v hx => ?_,?_,hm9⟩
   · rw [List.mem_append,not_or] at q2
     rw [St.get_set_ne (by simpa using q2.2),m1.same k (by simp only [St.n_push,St.n_set]; omega) q2.1]
     exact g k q1
   · split
     · exact PM_under _ _
     · rename_i q
       rcases hmem k hk with e | e
       · rw [e,hcell2]; simp [Blk.under,A.underL,A.under,n4]
       · exact absurd e q
   · rcases hM2 _ hx with q | q
     · exact m7 x v q
     · injection q with q1 q2
       subst q1; subst q2
       exact ⟨js,rfl,hm9⟩
   · rcases m8 with q | ⟨p',hp',q⟩
     · exact .inl q
     · simp at hp'; subst hp'; exact .inr q
section
variable {g:Gr} {l:List Int}
theorem Rn.rch (h:GOk g) {a i s p:Nat} (hr:Rn l (newN g).N (newX g) a i s p):Rch g.bodies l (newN g).N a i s p:=by
 have hN:=newN_G h
 induction hr with
 | refl => exact .start
 | free _ h1 h2 h3 ih => exact .step ih h1 h2 (by rw [h3]; exact rfl)
 | tok _ h1 h2 h3 h4 ih => exact .step ih h1 h2 (by rw [h3]; exact ⟨h4,rfl⟩)
 | @call a i s p k r e _ h1 h2 h3 _ ih1 ih2 =>
  have hk:=(hN.ed _ _ h1 _ h2).2.2.2.2.2 h3
  have hb:g.bodies.length=g.rules.length:=by rw [Gr.bodies,List.length_map]
  have hy:g.bodies[e.num.toNat]?=some g.bodies[e.num.toNat]:=List.getElem?_eq_getElem (by omega)
  exact .step ih1 h1 h2 (by rw [h3]; exact ⟨_,hy,(rch_der h hk hy (hN.en _ hk).2.1 (hN.lv _ hk).2.1 p k).1 ih2⟩)
theorem rule_all (h86:fz 115=.cut) (h73:fz 90=.ice) (h85:fz 114=.keep) {kr kM lo:Nat} {cl:D} {zt:Bool} (hs:SmallG g) (hc:checkP g=0) (hL:l.length≤1000) (hkr:kr < lo) (hkM:kM < lo) (hne:kr≠kM) :
 ∀ (m n p:Nat),n < g.rules.length→p≤l.length→(l.length - p) * (g.bodies.length+1)+rkOf g.bodies (qOf g.null) n < m→RuleSpec fz kr kM lo (.vptr (simC (newN g).N (newX g) cl) 0) (.slc zt (intsD l)) l (newN g).N (newX g) n p
 | 0,_,_,_,_,h => by omega
 | m+1,n,p,hn,hp,hm => by
  have h:=GOk.of hc
  have hN:=newN_G h
  have hR:=(Ranked.of_check hs hc).1
  have hb:g.bodies.length=g.rules.length:=by rw [Gr.bodies,List.length_map]
  have hy:g.bodies[n]?=some g.bodies[n]:=List.getElem?_eq_getElem (by omega)
  have he1:lvS (newN g).N (newX g) ((newX g).ent n)=(newX g).lve n:=by unfold lvS; rw [(hN.en _ hn).2.2]; rfl
  refine rule_c2 h86 hN hkr hkM hne hn ?_
  refine along_c h73 h85 hN (newN_fits h) hL hkr hkM hne (hN.en _ hn).1 he1.symm (fun q hq => by simp at hq; omega) (by simp) fun s q r hr hq hrow e he hk => ?_
  obtain ⟨p0,hp0,hr⟩:=hr
  simp at hp0
  rw [hp0] at hr
  obtain ⟨r1,r2⟩:=rch_rank h hR hn hy (hN.en _ hn).2.1 (hN.lv _ hn).2.1 (hr.rch h)
  have hen:=(hN.ed _ _ hrow _ he).2.2.2.2.2 hk
  refine rule_all h86 h73 h85 hs hc hL hkr hkM hne m _ _ hen hq ?_
  rcases Nat.lt_or_ge p q with hip | hip
  · have h1:=hR.top e.num.toNat
    have h2:=Nat.mul_le_mul_right (g.bodies.length+1) (show l.length - q+1≤l.length - p by omega)
    rw [Nat.add_mul,Nat.one_mul] at h2
    omega
  · have h1:=r2 (by omega) r hrow e he hk
    have:q=p:=by omega
    subst this
    omega
theorem along_all (h86:fz 115=.cut) (h73:fz 90=.ice) (h85:fz 114=.keep) {kr kM lo:Nat} {cl:D} {zt:Bool} (hs:SmallG g) (hc:checkP g=0) (hL:l.length≤1000) (hkr:kr < lo) (hkM:kM < lo) (hne:kr≠kM) {a:Nat} {ps:List Nat} (ha:a < (newN g).N.es.length) (hps:∀ p ∈ ps,p≤l.length) (hpl:ps.length < 1000000000) :
 AlongSpec fz kr kM lo (.vptr (simC (newN g).N (newX g) cl) 0) (.slc zt (intsD l)) l (newN g).N (newX g) a ps (lvS (newN g).N (newX g) a):=by
 have h:=GOk.of hc
 have hN:=newN_G h
 refine along_c h73 h85 hN (newN_fits h) hL hkr hkM hne ha rfl hps hpl fun s q r hr hq hrow e he hk => ?_
 exact rule_all h86 h73 h85 hs hc hL hkr hkM hne _ _ _ ((hN.ed _ _ hrow _ he).2.2.2.2.2 hk) hq (Nat.lt_succ_self _)
end
end Go.Am.Sm
namespace Go.Am.Sm
open Go Go.Am Go.Proofs
variable {fz:Nat→Md}
section
variable {l:List Int} {N:Nv} {X:Nx}
theorem PgB.of {a i k:Nat}:∀ {B:List Nat},Pg l N X a i k→PgB l N X a B i k
 | [],h => h
 | _ :: _,h => .inl h
theorem PgB.len {k:Nat}:∀ {B:List Nat} {a i:Nat},PgB l N X a B i k→i≤l.length→k≤l.length
 | [],_,_,h => Pg.len h
 | _ :: _,_,_,.inl h => h.len
 | _ :: _,_,_,.inr ⟨_,h1,h2⟩ => fun hi => PgB.len h2 (h1.len hi)
def IsFar (l:List Int) (N:Nv) (X:Nx) (a:Nat) (B:List Nat) (m:Nat):Prop:=PgB l N X a B 0 m∧∀ k,PgB l N X a B 0 k→k≤m
noncomputable def farV (l:List Int) (N:Nv) (X:Nx) (a:Nat) (B:List Nat):Nat:=Classical.epsilon (IsFar l N X a B)
theorem IsFar.eq {a:Nat} {B:List Nat} {m:Nat} (h:IsFar l N X a B m):farV l N X a B=m:=by
 have h2:IsFar l N X a B (farV l N X a B):=Classical.epsilon_spec (p:=IsFar l N X a B) ⟨m,h⟩
 exact Nat.le_antisymm (h.2 _ h2.1) (h2.2 _ h.1)
end
set_option maxHeartbeats 8000000 in
theorem far_c (h41:fz 60=.cut) (h86:fz 115=.cut) (h73:fz 90=.ice) (h85:fz 114=.keep) {cl:D} {zt:Bool} {g:Gr} {l:List Int} (hs:SmallG g) (hc:checkP g=0) (hL:l.length≤1000) {a:Nat} {B:List Nat} (ha:a < (newN g).N.es.length) (hB:∀ b ∈ B,b < (newN g).N.es.length) (hBl:B.length < 1000000000)
 (pa:A) (σ:St) (hpa:PlA (σ.n+1) σ.n σ pa B):IsFar l (newN g).N (newX g) a B (farV l (newN g).N (newX g) a B) ∧
 CallsTo (XX fz) (.func 60 []) [.d (.vptr (simC (newN g).N (newX g) cl) 0),.d (.int .i64 (a:Int)),pa,.d (.slc zt (intsD l))] σ (.d (.int .i64 ((farV l (newN g).N (newX g) a B:Nat):Int))) σ []:=by
 have h:=GOk.of hc
 have hN:=newN_G h
 have key:=CallsTo.cutM (X:=XX fz) (f:=60) (cap:=[]) (args:=[.d (.vptr (simC (newN g).N (newX g) cl) 0),.d (.int .i64 (a:Int)),pa,.d (.slc zt (intsD l))]) (r:=.d (.int .i64 ((farV l (newN g).N (newX g) a B:Nat):Int))) (σ:=σ) (P:=fun σ1 W1 => W1=[]∧IsFar l (newN g).N (newX g) a B (farV l (newN g).N (newX g) a B)) h41 fn60 (by simp) rfl ?_
 · obtain ⟨σ',W',σ1,c1,c2,c3,c4,c5,rfl,c6⟩:=key
   refine ⟨c6,?_⟩
   have e:σ'=σ:=St.ext' c3 fun k => by
    rcases Nat.lt_or_ge k σ.n with q | q
    · exact c2.same k q (by simp)
    · exact c5 k q
   rw [e] at c1; exact c1
 simp only [Try.f60,Option.getD_some]
 have hcall:=fun {a:Nat} {ps:List Nat} (ha:a < (newN g).N.es.length) (hps:∀ p ∈ ps,p≤l.length) (hpl:ps.length < 1000000000) => along_all (fz:=fz) (l:=l) (zt:=zt) (cl:=cl) h86 h73 h85 hs hc hL (kr:=σ.n+1) (kM:=σ.n) (lo:=σ.n+2) (by omega) (by omega) (by omega) ha hps hpl
 have hM0:RunM (σ.n+1) σ.n (.vptr (simC (newN g).N (newX g) cl) 0) (.slc zt (intsD l)) 0 [] (((σ.push (.map [])).push (.cells [.d (.vptr (simC (newN g).N (newX g) cl) 0),.d (.slc zt (intsD l)),.d (.int .i64 0),.map σ.n])).push (.cells [.d (.int .i64 0)])) :=
  ⟨by rw [St.get_push_ne (by simp only [St.n_push]; omega),St.get_push_eq' (by simp only [St.n_push])]; rfl,by rw [St.get_push_ne (by simp only [St.n_push]; omega),St.get_push_ne (by simp only [St.n_push]; omega),St.get_push_eq]; rfl⟩
 obtain ⟨js,f1,M1,σ1,W1,c1,m1,m2,m3,m4,m5,m6,m7,m8,m9⟩:=hcall ha (ps:=[0]) (by simp) (by simp) (.row (σ.n+2) 0 1 1) _ 0 [] (.inr ⟨σ.n+2,rfl,St.get_push_eq' (by simp only [St.n_push]),by omega,by omega,by simp only [St.n_push]; omega⟩) hM0 (by simp only [St.n_push]; omega) (fun x v hx => by cases hx) (Nat.zero_le _)
 have lW:∀ W:List Nat,(∀ k ∈ W,k=σ.n+1∨k=σ.n)→low σ.n W=[]:=fun W hW => low_all fun k hk => by rcases hW k hk with q | q <;> omega
 have g1:∀ k,k < σ.n→σ1.get k=σ.get k:=fun k hk => by
  rw [m1.same k (by simp only [St.n_push]; omega) fun q => by rcases m4 k q with q | q <;> omega]
  rw [St.get_push_ne (by simp only [St.n_push]; omega),St.get_push_ne (by simp only [St.n_push]; omega),St.get_push_ne hk]
 have n1:σ1.n=σ.n+3:=by rw [m2]; simp only [St.n_push]
 have hpa1:=hpa.stay (τ:=σ1) (by omega) fun k hk _ _ => g1 k hk
 have hsl1:=hpa1.len
 simp only [go_sem]
 refine ⟨_,_,_,c1,?_⟩
 simp only [go_sem,hsl1,lW _ m4]
 refine Ev.loop_ind (fun k tm τ W => ∃ (i f:Nat) (M:List ((Nat × Nat) × D)) (js:List Nat),k=B.length - i∧i≤B.length∧W=[]∧Mod σ τ []∧σ.n+2≤τ.n∧RunM (σ.n+1) σ.n (.vptr (simC (newN g).N (newX g) cl) 0) (.slc zt (intsD l)) f M τ∧MemoOk l (newN g).N (newX g) f M∧f≤l.length∧PgB l (newN g).N (newX g) a B 0 f ∧
  (f < l.length→∀ k,PgB l (newN g).N (newX g) a B 0 k→k≤f∨∃ b B',B.drop i=b :: B'∧∃ j ∈ js,PgB l (newN g).N (newX g) b B' j k)∧(∀ j ∈ js,j≤l.length∧∀ b B' k,B.drop i=b :: B'→PgB l (newN g).N (newX g) b B' j k→PgB l (newN g).N (newX g) a B 0 k)∧js.length≤(newN g).N.es.length * (l.length+1) ∧
  tm.at 3=.d (.slc zt (intsD l))∧tm.at 9=.ptr (σ.n+1) 0∧tm.at 10=.d (slD (natsI js))∧tm.at 22=pa∧tm.at 23=.d (.int .i64 (B.length:Int))∧tm.at 24=.d (.int .i64 (i:Int))) ?_ B.length _ _ _ ⟨0,f1,M1,js,rfl,Nat.zero_le _,rfl,⟨by omega,fun k hk _ => g1 k hk,fun k hk => by cases hk⟩,by omega,m3,m7,m6,?_,fun hfl k hk => ?_,fun j hj => ?_,m9.len,?_,?_,?_,?_,?_,?_⟩
 · clear c1 m1 m2 m3 m4 m5 m6 m7 m8 m9 hM0 g1 n1 hpa1 hsl1 σ1 W1 js f1 M1
   rintro k tm τ W ⟨i,f,M,js,rfl,hi,rfl,hmod,hn,hM,hmo,hf,hsnd,hcmp,hpl,hjl,t3,t9,t10,t22,t23,t24⟩ ih
   have hcell:=hM.cell
   have hlen:∀ ρ:St,sliceLen ρ (A.d (D.slc zt (intsD l)))=some l.length:=fun ρ => len_ints
   have hsl:∀ ρ:St,sliceLen ρ (.d (slD (natsI js)))=some js.length:=fun ρ => by rw [len_sl,natsI_len]
   have far:(f < l.length→∀ b B',B.drop i=b :: B'→js=[])→IsFar l (newN g).N (newX g) a B f:=fun hx => ⟨hsnd,fun k hk => by
    rcases Nat.lt_or_ge f l.length with q | q
    · rcases hcmp q k hk with q2 | ⟨b,B',q2,j,q3,-⟩
      · exact q2
      · rw [hx q b B' q2] at q3; cases q3
    · have:=(PgB.len hk) (Nat.zero_le _); omega⟩
   by_cases hl:i < B.length
   · have hpa':=hpa.stay (τ:=τ) hmod.n fun k hk _ _ => hmod.same k hk (by simp)
     obtain ⟨Pp,R1,R2,hix,hld⟩:=hpa'.idx hl
     have hend:IsFar l (newN g).N (newX g) a B f→(A.d (D.int IntKind.i64 (f:Int))=A.d (D.int IntKind.i64 ((farV l (newN g).N (newX g) a B:Nat):Int))∧Mod σ τ []∧(∀ (k:Nat),k ∈ ([]:List Nat)→Blk.under σ.n (τ.get k)=true)∧IsFar l (newN g).N (newX g) a B (farV l (newN g).N (newX g) a B)):=fun q => by
      rw [q.eq]; exact ⟨rfl,hmod,(fun k hk => by cases hk),q⟩
     by_cases hje:js.length=0
     · have hfar:=far fun _ _ _ _ => List.length_eq_zero_iff.1 hje
       have c0:((js.length:Int) == 0)=true:=by rw [hje]; rfl
       simp only [go_sem,t3,t9,t10,t22,t23,t24,dec_lt' hl,hix,hld,hsl,c0,hcell]
       exact hend hfar
     · have c0:((js.length:Int) == 0)=false:=by rw [beq_eq_false_iff_ne]; omega
       by_cases hfl:f=l.length
       · have hfar:=far fun q => by omega
         have c1:((f:Int) == (l.length:Int))=true:=by rw [hfl]; simp
         simp only [go_sem,t3,t9,t10,t22,t23,t24,dec_lt' hl,hix,hld,hsl,c0,hcell,hlen,c1]
         exact hend hfar
       · have c1:((f:Int) == (l.length:Int))=false:=by simp; omega
         have hbm:=hB B[i] (List.getElem_mem hl)
         have hC:(newN g).N.es.length * (l.length+1) < 1000000000:=by
          have:=Nat.mul_le_mul (newN_fits h).e (show l.length+1≤1001 by omega); omega
         have hdr:B.drop i=B[i] :: B.drop (i+1):=List.drop_eq_getElem_cons hl
         obtain ⟨js2,f2,M2,σ2,W2,c2,m1,m2,m3,m4,m5,m6,m7,m8,m9⟩:=hcall hbm (fun p hp => (hpl p hp).1) (by omega) (.d (slD (natsI js))) τ f M (.inl ⟨_,rfl⟩) hM hn hmo hf
         have lW:low σ.n W2=[]:=low_all fun k hk => by rcases m4 k hk with q | q <;> omega
         simp only [go_sem,t3,t9,t10,t22,t23,t24,dec_lt' hl,hix,hld,hsl,c0,hcell,hlen,c1]
         refine ⟨_,_,_,c2,?_⟩
         simp only [go_sem,lW,t24,wrap_succ' hl hBl]
         refine ih _ _ _ _ (by omega) ⟨i+1,f2,M2,js2,rfl,hl,rfl,⟨by omega,fun k hk _ => by rw [m1.same k (by omega) fun q => by rcases m4 k q with q | q <;> omega]; exact hmod.same k hk (by simp),fun k hk => by cases hk⟩,by omega,m3,m7,m6,?_,fun hf2 k hk => ?_,fun j hj => ?_,m9.len,?_,?_,?_,?_,?_,?_⟩
         · rcases m8 with q | ⟨p,hp,q⟩
           · rw [q]; exact hsnd
           · exact (hpl p hp).2 _ _ _ hdr (PgB.of q)
         · rcases hcmp (by omega) k hk with q | ⟨b,B',q1,j,q2,q3⟩
           · exact .inl (by omega)
           · rw [hdr] at q1
             injection q1 with q1 q4
             rw [← q1] at q3
             cases B' with
             | nil => exact .inl (m9.far hf2 j q2 k q3)
             | cons b2 B2 =>
              rcases q3 with q3 | ⟨j2,q5,q6⟩
              · exact .inl (m9.far hf2 j q2 k q3)
              · exact .inr ⟨b2,B2,q4,j2,m9.cmp hf2 j q2 j2 q5,q6⟩
         · obtain ⟨p,hp,q⟩:=m9.snd j hj
           refine ⟨q.len (hpl p hp).1,fun b B' k e hk => (hpl p hp).2 _ _ k hdr ?_⟩
           rw [e]; exact .inr ⟨j,q,hk⟩
         all_goals (simp only [go_sem,t3,t9,t22,t23])
   · have hfar:=far fun _ b B' q => by rw [List.drop_eq_nil_of_le (by omega)] at q; cases q
     simp only [go_sem,t3,t9,t10,t22,t23,t24,dec_ge' hl,hcell]
     rw [hfar.eq]; exact ⟨rfl,hmod,(fun k hk => by cases hk),hfar⟩
 · rcases m8 with q | ⟨p,hp,q⟩
   · rw [q]; exact PgB.of (.here (.refl _ _))
   · simp at hp; rw [hp] at q; exact PgB.of q
 · rw [List.drop_zero]
   cases B with
   | nil => exact .inl (m9.far hfl 0 (by simp) k hk)
   | cons b B =>
    rcases hk with hk | ⟨j,q1,q2⟩
    · exact .inl (m9.far hfl 0 (by simp) k hk)
    · exact .inr ⟨b,B,rfl,j,m9.cmp hfl 0 (by simp) j q1,q2⟩
 · obtain ⟨p,hp,q⟩:=m9.snd j hj
   simp at hp; rw [hp] at q
   refine ⟨q.len (Nat.zero_le _),fun b B' k e hk => ?_⟩
   rw [List.drop_zero] at e
   rw [e]; exact .inr ⟨j,q,hk⟩
 all_goals first | rfl | (simp only [go_sem]; done) | (simp only [go_sem]; rfl)
end Go.Am.Sm

/- Part SC of a proof that runs a program's calls on a small machine whose values bear no addresses: no conditions. -/
import Derived.Test.YtfhoagkadjinlaaAmSB
set_option autoImplicit false
set_option linter.unusedSimpArgs false
set_option linter.unusedVariables false
set_option linter.unusedSectionVars false
namespace Go.Am.Sm
open Go Go.Am Go.Proofs
variable {fz:Nat→Md}
theorem frzV {σ:St} {lo n:Nat} {a:A} {d:D} (hc:a.isCell=true) (h:freeze σ lo n a=some d):freezeV σ lo n a=some (.d d):=by
 cases a <;> first | (simp [A.isCell] at hc; done) | (simp only [freezeV,freezeW,h])
def simC (N:Nv) (X:Nx) (cl:D):List D:=[N.esD,slD X.en,slD X.lv,slD N.rs,cl]
theorem simC_map (N:Nv) (X:Nx) (cl:D):(simC N X cl).map A.d=[.d N.esD,.d (slD X.en),.d (slD X.lv),.d (slD N.rs),.d cl]:=rfl
set_option maxHeartbeats 32000000 in
theorem along_c (h73:fz 90=.ice) (h85:fz 114=.keep) {kr kM lo:Nat} {cl:D} {zt:Bool} {l:List Int} {N:Nv} {X:Nx} {R:Nat} (hN:NetG N X R) (hF:N.Fits 10000) (hL:l.length≤1000) (hkr:kr < lo) (hkM:kM < lo) (hne:kr≠kM) {a b:Nat} {ps:List Nat} (ha:a < N.es.length) (hb:b=lvS N X a) (hps:∀ p ∈ ps,p≤l.length) (hpl:ps.length < 1000000000)
 (hcall:∀ (s p:Nat) (r:List Eg),(∃ p0 ∈ ps,Rn l N X a p0 s p)→p≤l.length→N.es[s]?=some r→∀ e ∈ r,e.kind=2→RuleSpec fz kr kM lo (.vptr (simC N X cl) 0) (.slc zt (intsD l)) l N X e.num.toNat p) :
 AlongSpec fz kr kM lo (.vptr (simC N X cl) 0) (.slc zt (intsD l)) l N X a ps b:=by
 intro pa σ f0 M0 hpa hM hlo hm0 hf0
 have hP:Plc σ.n kr kM:=⟨by omega,by omega,hne⟩
 have hel:=hF.e
 have hC:N.es.length * (l.length+1) < 1000000000:=by
  have:=Nat.mul_le_mul hel (show l.length+1≤1001 by omega); omega
 have key:=CallsTo.iceP (X:=XX fz) (f:=90) (args:=[.ptr kr 0,.d (.int .i64 (a:Int)),pa]) (σ:=σ) (P:=fun r σ1 W1 => ∃ (js:List Nat) (f':Nat) (M':List ((Nat × Nat) × D)),r=.d (slD (natsI js)) ∧
  RunM kr kM (.vptr (simC N X cl) 0) (.slc zt (intsD l)) f' M' σ1∧(∀ k ∈ W1,k=kr∨k=kM)∧f0≤f'∧f'≤l.length∧MemoOk l N X f' M'∧(f'=f0∨∃ p ∈ ps,Pg l N X a p f')∧AOk l N X a ps b js f') h73 fn90 (by simp) ?_
 · obtain ⟨r,σ',W',σ1,c1,c2,c3,c4,js,f',M',rfl,d1,d2,d3,d4,d5,d6,d7⟩:=key
   exact ⟨js,f',M',σ',W',c1,c2,c3,d1.stay (c4 _ (by omega)) (c4 _ (by omega)),d2,d3,d4,d5,d6,d7⟩
 simp only [Try.f90,Option.getD_some]
 have lr:=hP.r
 have lm:=hP.m
 have n1:kr≠σ.n:=by omega
 have clo:∀ (τ:St) (W:List Nat),True:=fun _ _ => trivial
 have hg0:∀ k,k < σ.n→(((((σ.push (.cells [.ptr kr 0])).push (.map [])).push (.cells [.d .nmap])).set (σ.n+2) (.cells [.map (σ.n+1)])).push (.cells [.d (.slc true [])])).get k=σ.get k:=fun k hk => by
  rw [St.get_push_ne (by simp only [St.n_push,St.n_set]; omega),St.get_set_ne (by omega),St.get_push_ne (by simp only [St.n_push]; omega),St.get_push_ne (by simp only [St.n_push]; omega),St.get_push_ne hk]
 have h0:AF kr kM (.vptr (simC N X cl) 0) (.slc zt (intsD l)) l N X a ps b f0 σ [] f0 M0 [] [] [] [] (.d (.slc true [])) [] (((((σ.push (.cells [.ptr kr 0])).push (.map [])).push (.cells [.d .nmap])).set (σ.n+2) (.cells [.map (σ.n+1)])).push (.cells [.d (.slc true [])])) []:=by
  refine ⟨⟨hM.stay (hg0 _ (by omega)) (hg0 _ (by omega)),?_,?_,?_,⟨_,St.get_push_eq' (by simp only [St.n_push,St.n_set]),.inl ⟨rfl,rfl,rfl⟩⟩,by simp only [St.n_push,St.n_set]; omega⟩,(Mod.push (Mod.set (Mod.push (Mod.push (Mod.push Mod.refl))) (by omega))),(fun k hk => by cases hk),hm0,⟨(fun x hx => by cases hx),(fun x hx => by cases hx),(fun x hx => by cases hx),hf0,Nat.le_refl _,.inl rfl,(fun x hx => by cases hx),List.nodup_nil,Nat.le_refl _⟩,RowN.nil,(fun k hk => by cases hk),(fun k hk => by cases hk)⟩
  · rw [St.get_push_ne (by simp only [St.n_push,St.n_set]; omega),St.get_set_ne (by omega),St.get_push_ne (by simp only [St.n_push]; omega),St.get_push_ne (by simp only [St.n_push]; omega),St.get_push_eq]
  · rw [St.get_push_ne (by simp only [St.n_push,St.n_set]; omega),St.get_set_ne (by omega),St.get_push_ne (by simp only [St.n_push]; omega),St.get_push_eq' (by simp only [St.n_push])]; rfl
  · rw [St.get_push_ne (by simp only [St.n_push,St.n_set]; omega),St.get_set_eq]
 have hp0:=hpa.stay (τ:=((((σ.push (.cells [.ptr kr 0])).push (.map [])).push (.cells [.d .nmap])).set (σ.n+2) (.cells [.map (σ.n+1)])).push (.cells [.d (.slc true [])])) (by simp only [St.n_push,St.n_set]; omega) fun k hk _ _ => hg0 k hk
 have hp0l:=hp0.len
 simp only [go_sem,hp0l]
 clear hp0 hp0l
 generalize (((((σ.push (.cells [.ptr kr 0])).push (.map [])).push (.cells [.d .nmap])).set (σ.n+2) (.cells [.map (σ.n+1)])).push (.cells [.d (.slc true [])]))=τ0 at h0
 refine Ev.loop_ind (fun k tm τ W => ∃ (i f:Nat) (S todo:List (Nat × Nat)) (ks:List Nat),k=ps.length - i∧i≤ps.length∧AF kr kM (.vptr (simC N X cl) 0) (.slc zt (intsD l)) l N X a ps b f0 σ [] f M0 S todo ks [] (.d (.slc true [])) [] τ W∧(∀ p ∈ ps.take i,(a,p) ∈ S)∧(∀ x ∈ S,x ∈ todo) ∧
  tm.at 1=.d (.int .i64 (a:Int))∧tm.at 3=.ptr σ.n 0∧tm.at 8=.ptr (σ.n+3) 0∧tm.at 9=.func 114 [.ptr (σ.n+2) 0,.ptr (σ.n+3) 0,.ptr σ.n 0]∧tm.at 21=pa∧tm.at 22=.d (.int .i64 (ps.length:Int))∧tm.at 23=.d (.int .i64 (i:Int))) ?_ ps.length _ _ _ ⟨0,f0,[],[],[],rfl,Nat.zero_le _,h0,(fun p hp => by simp at hp),(fun x hx => by cases hx),?_,?_,?_,?_,?_,?_,?_⟩
 · clear h0 hg0
   rintro k tm τ W ⟨i,f,S,todo,ks,rfl,hi,h,hS,hST,t1,t3,t8,t9,t21,t22,t23⟩ ih
   by_cases hl:i < ps.length
   · have hpa':=hpa.stay h.mod.n fun k hk q1 q2 => h.mod.same k hk fun q => by
      rcases h.mine k q with q | q
      · exact q1 q
      · exact q2 q
     obtain ⟨Pp,R1,R2,hix,hld⟩:=hpa'.idx hl
     obtain ⟨τ',T,f',S',todo',ks',hc,h',r1,r2,r3,r4,r5,r6⟩:=h.reach h85 hP hC ha (hps ps[i] (List.getElem_mem hl)) ⟨ps[i],List.getElem_mem hl,.refl _ _⟩
     simp only [go_sem,t1,t3,t8,t9,t21,t22,t23,dec_lt' hl,hix,hld]
     refine ⟨_,_,_,hc,?_⟩
     simp only [go_sem,t23,wrap_succ' hl (show ps.length < 1000000000 by omega)]
     refine ih _ _ _ _ (by omega) ⟨i+1,f',S',todo',ks',rfl,hl,h',fun p hp => ?_,fun x hx => ?_,?_,?_,?_,?_,?_,?_,?_⟩
     · rw [List.take_succ_eq_append_getElem hl,List.mem_append] at hp
       rcases hp with hp | hp
       · exact r2 _ (hS p hp)
       · simp at hp; subst hp; exact r1
     · rcases r3 x hx with q | q
       · exact r4 _ (hST x q)
       · exact q
     all_goals (simp only [go_sem,t1,t3,t8,t9,t21,t22])
   · have hpi:i=ps.length:=by omega
     subst hpi
     rw [List.take_length] at hS
     have hgc:=h.fr.gc
     have hcell:=h.fr.run.cell
     have hra:N.rs.getD a 0=(((N.rule a).toNat:Nat):Int):=(Int.toNat_of_nonneg (hN.rr a ha).1).symm
     have hrl:=(hN.rr a ha).2
     have in1:=fun (ρ:St) => index_sl (σ:=ρ) (kd:=.i64) (l:=N.rs) (i:=a) (by rw [hN.rl]; exact ha)
     have in2:=fun (ρ:St) => index_sl (σ:=ρ) (kd:=.i64) (l:=X.lv) (i:=(N.rule a).toNat) (by rw [hN.lvl]; exact hrl)
     rw [hra] at in1
     rw [(hN.lv _ hrl).2.1,show X.lve (N.rule a).toNat=b from hb.symm] at in2
     simp only [go_sem,t1,t3,t8,t9,t21,t22,t23,dec_ge' hl,hgc,hcell,simC_map,in1,in2]
     refine ⟨drawOk_rel [] [] rfl (by kernel_rfl) rfl (by simp),?_⟩
     refine Ev.loop_ind (fun k tm τ W => ∃ (f:Nat) (M:List ((Nat × Nat) × D)) (S todo:List (Nat × Nat)) (ks out:List Nat) (oa:A) (ob:List Nat),k=msr l N S todo∧AF kr kM (.vptr (simC N X cl) 0) (.slc zt (intsD l)) l N X a ps b f0 σ [] f M S todo ks out oa ob τ W∧(∀ p ∈ ps,(a,p) ∈ S)∧(∀ x ∈ S,x ∈ todo∨AFin l N X b S f out x) ∧
      tm.at 3=.ptr σ.n 0∧tm.at 8=.ptr (σ.n+3) 0∧tm.at 9=.func 114 [.ptr (σ.n+2) 0,.ptr (σ.n+3) 0,.ptr σ.n 0]∧tm.at 12=oa∧tm.at 13=.d (.int .i64 (b:Int))) ?_ (msr l N S todo) _ _ _ ⟨f,M0,S,todo,ks,[],_,[],rfl,h,hS,fun x hx => .inl (hST x hx),?_,?_,?_,?_,?_⟩
     · clear h hS hST ih t1 t3 t8 t9 t21 t22 t23 hgc hcell in1 in2 hl hi f S todo ks τ W tm
       rintro k tm τ W ⟨f,M,S,todo,ks,out,oa,ob,rfl,h,hS,hfin,t3,t8,t9,t12,t13⟩ ih
       have hgc:=h.fr.gc
       have hcell:=h.fr.run.cell
       obtain ⟨av,hav,htd⟩:=h.fr.gt
       have hlen:∀ ρ:St,sliceLen ρ (A.d (D.slc zt (intsD l)))=some l.length:=fun ρ => len_ints
       have fin:(f < l.length→todo=[])→AOk l N X a ps b out f:=fun hq => h.B.done hS fun hl x hx => (hfin x hx).resolve_left (by rw [hq hl]; simp)
       have hfrz:=h.frz hC
       have hun:=h.undr hP.m
       have hfv:freezeV τ σ.n fzDepth oa=some (.d (slD (natsI out))):=frzV h.ro.1.cell hfrz
       cases todo with
       | nil =>
        have hsl:=htd.len
        have d0:decide (((0:Nat):Int) > 0)=false:=rfl
        simp only [go_sem,t3,t8,t9,t12,t13,hav,hsl,List.length_nil,d0]
        refine ⟨drawOk_rel [] [] rfl (by kernel_rfl) rfl (by simp),_,hfv,h.mod,hun,out,f,M,rfl,h.fr.run,h.mine,h.B.fo,h.B.fl,h.mo,h.B.fs,fin fun _ => rfl⟩
       | cons x todo =>
        obtain ⟨s,p⟩:=x
        have hn:=h.fr.n
        have h1:=(h.push hP [.d (.int .i64 0),.d (.int .i64 0)]).set hP (fun v hv => by cases hv) [.d (.int .i64 (s:Int)),.d (.int .i64 (p:Int))]
        have g1:∀ k,k < τ.n→((τ.push (.cells [.d (.int .i64 0),.d (.int .i64 0)])).set τ.n (.cells [.d (.int .i64 (s:Int)),.d (.int .i64 (p:Int))])).get k=τ.get k:=fun k hk => by
         rw [St.get_set_ne (by omega),St.get_push_ne hk]
        obtain ⟨kq,off,cs,p1,p2,p3,p4,p5,p6,p7,p8,hp⟩:=h1.pop hP
        have p7:=(h.tdl kq p8).2
        have p1':=p1
        have p2':=p2
        rw [g1 _ (by omega)] at p1' p2'
        have d1:decide (((todo.length+1:Nat):Int) > 0)=true:=by simp
        have ix0:∀ ρ:St,indexR ρ 2 kq off (todo.length+1) 2 0 (.cells cs)=.val (.ptr kq (off+0 * 2)) ρ [] [kq]:=fun ρ => indexR_nat (i:=0) (by omega)
        simp only [Nat.zero_mul,Nat.add_zero] at ix0
        have hoff0:off < cs.length:=by omega
        have hoff1:off+1 < cs.length:=by omega
        have htk:(cs.drop off).take 2=[.d (.int .i64 (s:Int)),.d (.int .i64 (p:Int))]:=by
         rw [List.drop_eq_getElem_cons hoff0,List.drop_eq_getElem_cons hoff1,(List.getElem?_eq_some_iff.1 p3).2,(List.getElem?_eq_some_iff.1 p4).2]; rfl
        have e0:τ.n≠σ.n+3:=by omega
        have e1:σ.n+3≠τ.n:=by omega
        have e2:σ.n+3 < τ.n:=by omega
        by_cases hfl:f < l.length
        · have hsl1:=fun (tm:Tm) => sliceT_row (fz:=fz) (tm:=tm) (off:=off) (n:=todo.length) (sz:=1) (bb:=24) (zz:=some [.d (.slc true [])]) (zv:=.d (.slc true [])) p2
          simp only [go_sem,Int.reduceToNat,Nat.mul_one,Nat.zero_mul,Nat.zero_add,Nat.add_zero,Nat.one_mul,t3,t8,t9,t12,t13,p1',p2',d1,hgc,hcell,hlen,dec_lt' hfl]
          refine ⟨drawOk_rel [] [] rfl (by kernel_rfl) rfl (by simp),?_⟩
          simp only [go_sem,Int.reduceToNat,Nat.mul_one,Nat.zero_mul,Nat.zero_add,Nat.add_zero,Nat.one_mul,t3,t8,t9,t12,t13,p1',p2',ix0,p3,p4,hoff0,hoff1,e0,e1,e2,p5,htk,hsl1]
          have lz:low σ.n [σ.n+3]=[]:=by rw [low_cons_ge (by omega)]; rfl
          generalize hτ:((τ.push (.cells [.d (.int .i64 0),.d (.int .i64 0)])).set τ.n (.cells [.d (.int .i64 (s:Int)),.d (.int .i64 (p:Int))]))=τ1 at hp
          have lzt:low σ.n [τ.n]=[]:=by rw [low_cons_ge (by omega)]; rfl
          rw [lzt,List.append_nil]
          have hsS:(s,p) ∈ S:=h.B.td _ (by simp)
          obtain ⟨hsN,hpL,hsR⟩:=h.B.in_ _ hsS
          dsimp only at hsN hpL hsR
          have hBO:=h.B
          have hmsr:msr l N S ((s,p) :: todo)=msr l N S todo+1:=by unfold msr; rw [List.length_cons]; omega
          refine Ev.mid (fun tm' τ' W' => ∃ (out':List Nat) (oa':A) (ob':List Nat),AF kr kM (.vptr (simC N X cl) 0) (.slc zt (intsD l)) l N X a ps b f0 σ [(τ.n,[.d (.int .i64 (s:Int)),.d (.int .i64 (p:Int))])] f M S todo ks out' oa' ob' τ' W'∧(s=b→p ∈ out')∧(∀ j ∈ out,j ∈ out') ∧
           tm'.at 3=.ptr σ.n 0∧tm'.at 8=.ptr (σ.n+3) 0∧tm'.at 9=.func 114 [.ptr (σ.n+2) 0,.ptr (σ.n+3) 0,.ptr σ.n 0]∧tm'.at 12=oa'∧tm'.at 13=.d (.int .i64 (b:Int))∧tm'.at 14=.ptr τ.n 0) ?_ ?_
          · intro rest hI
            obtain ⟨-,-,-,-,hxc⟩:=hp.vs _ (List.mem_singleton.2 rfl)
            dsimp only at hxc
            have hτn:τ1.n=τ.n+1:=by rw [← hτ]; simp only [St.n_set,St.n_push]
            by_cases hsb:s=b
            · have c1:((s:Int) == (b:Int))=true:=by rw [hsb]; simp
              subst hsb
              obtain ⟨a',τ',T,ob',happ,h2,c2,c3,c4⟩:=hp.outA hP (p:=p) hBO.popO hC
              simp only [St.n_set] at happ
              simp only [go_sem,c1,t3,t8,t9,t12,t13,hxc,happ,c2,c3,c4]
              refine hI _ _ _ ⟨out ++ [p],a',ob',h2,(fun _ => by simp),(fun _ h => List.mem_append_left _ h),?_,?_,?_,?_,?_,?_⟩
              all_goals (simp only [go_sem,t3,t8,t9,t13])
            · have c1:((s:Int) == (b:Int))=false:=by simp; omega
              simp only [go_sem,c1]
              refine hI _ _ _ ⟨out,oa,ob,hp,(fun e => absurd e hsb),(fun _ h => h),?_,?_,?_,?_,?_,?_⟩
              all_goals (simp only [go_sem,t3,t8,t9,t12,t13])
          · clear hsl1 t3 t8 t9 t12 t13 hp h1 hgc hcell hav htd fin hfrz hun hfv hτ p1 p2 p1' p2' ix0 e0 e1 e2 g1
            rintro tm τ2 W2 ⟨out',oa',ob',hA,hpo,hoo,t3,t8,t9,t12,t13,t14⟩
            generalize τ.n=kx at hA t14
            obtain ⟨x1,x2,x3,x4,hxc⟩:=hA.vs _ (List.mem_singleton.2 rfl)
            dsimp only at x1 x2 x3 x4 hxc
            have hgc:=hA.fr.gc
            have hcell:=hA.fr.run.cell
            have hget:N.es[s]?=some N.es[s]:=by simp [hsN]
            have hrl:=hF.l _ (List.getElem_mem hsN)
            have ies:=fun (ρ:St) => index_es (σ:=ρ) (kd:=.i64) hget
            simp only [go_sem,t3,t8,t9,t12,t13,t14,hxc,hgc,hcell,simC_map,ies,len_rw]
            refine ⟨drawOk_rel [] [] rfl (by kernel_rfl) rfl (by simp),?_⟩
            refine Ev.loop_ind (fun k2 tm τ W => ∃ (j f':Nat) (M':List ((Nat × Nat) × D)) (S' todo':List (Nat × Nat)) (ks':List Nat),k2=N.es[s].length - j∧j≤N.es[s].length∧AF kr kM (.vptr (simC N X cl) 0) (.slc zt (intsD l)) l N X a ps b f0 σ [(kx,[.d (.int .i64 (s:Int)),.d (.int .i64 (p:Int))])] f' M' S' todo' ks' out' oa' ob' τ W∧msr l N S' todo'=msr l N S todo ∧
             (∀ x ∈ S,x ∈ S')∧f≤f'∧(∀ x ∈ S',x ∈ todo'∨x=(s,p)∨AFin l N X b S' f' out' x)∧(∀ e ∈ N.es[s].take j,EDn l N X S' f' e p) ∧
             tm.at 3=.ptr σ.n 0∧tm.at 8=.ptr (σ.n+3) 0∧tm.at 9=.func 114 [.ptr (σ.n+2) 0,.ptr (σ.n+3) 0,.ptr σ.n 0]∧tm.at 12=oa'∧tm.at 13=.d (.int .i64 (b:Int))∧tm.at 14=.ptr kx 0∧tm.at 92=.d (rowD N.es[s])∧tm.at 93=.d (.int .i64 (N.es[s].length:Int))∧tm.at 94=.d (.int .i64 (j:Int))) ?_ N.es[s].length _ _ _ ⟨0,f,M,S,todo,ks,rfl,Nat.zero_le _,hA,rfl,(fun _ h => h),Nat.le_refl _,fun x hx => ?_,(fun e he => by simp at he),?_,?_,?_,?_,?_,?_,?_,?_,?_⟩
            · clear t3 t8 t9 t12 t13 t14 hA hgc hcell x2 x3 x4 hxc tm τ2 W2
              rintro k2 tm τ2 W2 ⟨j,f',M',S',todo',ks',rfl,hj,hA,hm',hSS,hff,hfin',hdn,t3,t8,t9,t12,t13,t14,t92,t93,t94⟩ ih2
              obtain ⟨-,x2,x3,x4,hxc⟩:=hA.vs _ (List.mem_singleton.2 rfl)
              dsimp only at x2 x3 x4 hxc
              by_cases hl:j < N.es[s].length
              · have hge:N.es[s][j]?=some N.es[s][j]:=by simp [hl]
                have hem:=List.getElem_mem hl
                obtain ⟨k1,k2,k3,k4,k5,k6⟩:=hN.ed s _ hget _ hem
                have hcl:=hcall s p _ hsR hpL hget _ hem
                have htk:N.es[s].take (j+1)=N.es[s].take j ++ [N.es[s][j]]:=by simp
                generalize N.es[s][j]=e at hge hem k1 k2 k3 k4 k5 k6 hcl htk
                have irw:=fun (ρ:St) => index_rw (σ:=ρ) (kd:=.i64) hge
                have hA1:=(hA.push hP [.d (.int .i64 0),.d (.int .i64 0),.d (.int .i64 0)]).set hP (fun v hv => by simp at hv; rw [hv]; dsimp only; omega) [.d (.int .i64 e.kind),.d (.int .i64 e.num),.d (.int .i64 (e.to:Int))]
                have lz:low σ.n [τ2.n]=[]:=by have:=hA.fr.n; rw [low_cons_ge (by omega)]; rfl
                simp only [go_sem,t3,t8,t9,t12,t13,t14,t92,t93,t94,dec_lt' hl,irw,Eg.D_c,lz]
                generalize hτ3:((τ2.push (.cells [.d (.int .i64 0),.d (.int .i64 0),.d (.int .i64 0)])).set τ2.n (.cells [.d (.int .i64 e.kind),.d (.int .i64 e.num),.d (.int .i64 (e.to:Int))]))=τ3 at hA1
                have hxk:τ2.n≠kx:=by omega
                obtain ⟨y1,y2,y3,y4,hec⟩:=hA1.vs _ (List.mem_cons_self ..)
                obtain ⟨-,-,-,-,hxc3⟩:=hA1.vs (kx,_) (List.mem_cons_of_mem _ (List.mem_singleton.2 rfl))
                dsimp only at y1 y2 y3 y4 hec hxc3
                have hgc3:=hA1.fr.gc
                have hcell3:=hA1.fr.run.cell
                generalize τ2.n=ke at hA1 y1 y2 y3 y4 hec hxk
                refine Ev.mid (fun tm' τ' W' => ∃ (f'':Nat) (M'':List ((Nat × Nat) × D)) (S'' todo'':List (Nat × Nat)) (ks'':List Nat),AF kr kM (.vptr (simC N X cl) 0) (.slc zt (intsD l)) l N X a ps b f0 σ [(kx,[.d (.int .i64 (s:Int)),.d (.int .i64 (p:Int))])] f'' M'' S'' todo'' ks'' out' oa' ob' τ' W'∧msr l N S'' todo''=msr l N S todo ∧
                 (∀ x ∈ S',x ∈ S'')∧(∀ x ∈ S'',x ∈ S'∨x ∈ todo'')∧(∀ x ∈ todo',x ∈ todo'')∧f'≤f''∧EDn l N X S'' f'' e p ∧
                 tm'.at 3=.ptr σ.n 0∧tm'.at 8=.ptr (σ.n+3) 0∧tm'.at 9=.func 114 [.ptr (σ.n+2) 0,.ptr (σ.n+3) 0,.ptr σ.n 0]∧tm'.at 12=oa'∧tm'.at 13=.d (.int .i64 (b:Int))∧tm'.at 14=.ptr kx 0∧tm'.at 92=.d (rowD N.es[s])∧tm'.at 93=.d (.int .i64 (N.es[s].length:Int))∧tm'.at 94=.d (.int .i64 (j:Int))) ?_ ?_
                · intro rest hI
                  obtain ⟨p0,hp0,hRp⟩:=hsR
                  rcases (show e.kind=0∨e.kind=1∨e.kind=2 by omega) with h | h | h
                  · have c1:(e.kind == 0)=true:=by rw [h]; rfl
                    obtain ⟨τ',T,f'',S'',todo'',ks'',hc,h',r1,r2,r3,r4,r5,r6⟩:=hA1.reach h85 hP hC k4 hpL ⟨p0,hp0,.free hRp hget hem h⟩
                    simp only [go_sem,c1,t9,t14,hec,hxc3]
                    refine ⟨_,_,_,hc,?_⟩
                    refine hI _ _ _ ⟨f'',M',S'',todo'',ks'',h'.less (fun v hv => List.mem_cons_of_mem _ hv),r6.trans hm',r2,r3,r4,r5,⟨fun _ => r1,(fun q => by omega),(fun q => by omega)⟩,?_,?_,?_,?_,?_,?_,?_,?_,?_⟩
                    all_goals (simp only [go_sem,t3,t8,t9,t12,t13,t14,t92,t93,t94])
                  · have c1:(e.kind == 0)=false:=by rw [h]; rfl
                    have c2:(e.kind == 1)=true:=by rw [h]; rfl
                    by_cases hpl2:p < l.length
                    · have hlp:l[p]?=some l[p]:=by simp [hpl2]
                      have ixt:=fun ρ:St => index_ints (σ:=ρ) (z:=zt) hpl2
                      by_cases he:l[p]=e.num
                      · have c3:(l[p] == e.num)=true:=by simpa using he
                        have hpp:p+1≤l.length:=hpl2
                        obtain ⟨τ',T,f'',S'',todo'',ks'',hc,h',r1,r2,r3,r4,r5,r6⟩:=hA1.reach h85 hP hC k4 hpp ⟨p0,hp0,.tok hRp hget hem h (by rw [hlp,he])⟩
                        simp only [go_sem,c1,c2,t3,t9,t14,hec,hxc3,hgc3,hcell3,hlen,dec_lt' hpl2,ixt,c3]
                        refine ⟨drawOk_rel [] [] rfl (by kernel_rfl) rfl (by simp),?_⟩
                        simp only [go_sem,t9,t14,hec,hxc3,wrap_succ' hpl2 (show l.length < 1000000000 by omega)]
                        refine ⟨_,_,_,hc,?_⟩
                        refine hI _ _ _ ⟨f'',M',S'',todo'',ks'',h'.less (fun v hv => List.mem_cons_of_mem _ hv),r6.trans hm',r2,r3,r4,r5,⟨(fun q => by omega),fun _ _ => r1,(fun q => by omega)⟩,?_,?_,?_,?_,?_,?_,?_,?_,?_⟩
                        all_goals (simp only [go_sem,t3,t8,t9,t12,t13,t14,t92,t93,t94])
                      · have c3:(l[p] == e.num)=false:=by simpa using he
                        simp only [go_sem,c1,c2,t3,t9,t14,hec,hxc3,hgc3,hcell3,hlen,dec_lt' hpl2,ixt,c3]
                        refine ⟨drawOk_rel [] [] rfl (by kernel_rfl) rfl (by simp),?_⟩
                        refine hI _ _ _ ⟨f',M',S',todo',ks',hA1.less (fun v hv => List.mem_cons_of_mem _ hv),hm',(fun _ h => h),(fun _ h => .inl h),(fun _ h => h),Nat.le_refl _,⟨(fun q => by omega),(fun _ q => by rw [hlp] at q; injection q with q; exact absurd q he),(fun q => by omega)⟩,?_,?_,?_,?_,?_,?_,?_,?_,?_⟩
                        all_goals (simp only [go_sem,t3,t8,t9,t12,t13,t14,t92,t93,t94])
                    · simp only [go_sem,c1,c2,t3,t9,t14,hec,hxc3,hgc3,hcell3,hlen,dec_ge' hpl2]
                      refine ⟨drawOk_rel [] [] rfl (by kernel_rfl) rfl (by simp),?_⟩
                      refine hI _ _ _ ⟨f',M',S',todo',ks',hA1.less (fun v hv => List.mem_cons_of_mem _ hv),hm',(fun _ h => h),(fun _ h => .inl h),(fun _ h => h),Nat.le_refl _,⟨(fun q => by omega),(fun _ q => by rw [List.getElem?_eq_none (by omega)] at q; cases q),(fun q => by omega)⟩,?_,?_,?_,?_,?_,?_,?_,?_,?_⟩
                      all_goals (simp only [go_sem,t3,t8,t9,t12,t13,t14,t92,t93,t94])
                  · have c1:(e.kind == 0)=false:=by rw [h]; rfl
                    have c2:(e.kind == 1)=false:=by rw [h]; rfl
                    have c3:(e.kind == 2)=true:=by rw [h]; rfl
                    obtain ⟨js,τ',T,f'',M'',hc,h',r1,r2⟩:=hA1.rule hP hlo (hcl h) fun k hk => ⟨p0,hp0,.call hRp hget hem h hk⟩
                    rw [Int.toNat_of_nonneg k3] at hc
                    have hjl:(natsI js).length < 1000000000:=by rw [natsI_len]; have:=r2.len; omega
                    have hsl:∀ ρ:St,sliceLen ρ (.d (slD (natsI js)))=some (natsI js).length:=fun ρ => len_sl
                    obtain ⟨-,-,-,-,hec4⟩:=h'.vs _ (List.mem_cons_self ..)
                    dsimp only at hec4
                    simp only [go_sem,c1,c2,c3,t3,t9,t14,hec,hxc3,hgc3]
                    refine ⟨_,_,_,hc,?_⟩
                    simp only [go_sem,hsl]
                    refine Ev.loop_ind (fun k3 tm τ W => ∃ (i f3:Nat) (S3 todo3:List (Nat × Nat)) (ks3:List Nat),k3=(natsI js).length - i∧i≤(natsI js).length∧AF kr kM (.vptr (simC N X cl) 0) (.slc zt (intsD l)) l N X a ps b f0 σ [(ke,[.d (.int .i64 e.kind),.d (.int .i64 e.num),.d (.int .i64 (e.to:Int))]),(kx,[.d (.int .i64 (s:Int)),.d (.int .i64 (p:Int))])] f3 M'' S3 todo3 ks3 out' oa' ob' τ W∧msr l N S3 todo3=msr l N S todo ∧
                     (∀ x ∈ S',x ∈ S3)∧(∀ x ∈ S3,x ∈ S'∨x ∈ todo3)∧(∀ x ∈ todo',x ∈ todo3)∧f''≤f3∧(∀ k ∈ js.take i,(e.to,k) ∈ S3) ∧
                     tm.at 3=.ptr σ.n 0∧tm.at 8=.ptr (σ.n+3) 0∧tm.at 9=.func 114 [.ptr (σ.n+2) 0,.ptr (σ.n+3) 0,.ptr σ.n 0]∧tm.at 12=oa'∧tm.at 13=.d (.int .i64 (b:Int))∧tm.at 14=.ptr kx 0∧tm.at 92=.d (rowD N.es[s])∧tm.at 93=.d (.int .i64 (N.es[s].length:Int))∧tm.at 94=.d (.int .i64 (j:Int))∧tm.at 16=.ptr ke 0∧tm.at 145=.d (slD (natsI js))∧tm.at 146=.d (.int .i64 ((natsI js).length:Int))∧tm.at 147=.d (.int .i64 (i:Int))) ?_ (natsI js).length _ _ _ ⟨0,f'',S',todo',ks',rfl,Nat.zero_le _,h',hm',(fun _ h => h),(fun _ h => .inl h),(fun _ h => h),Nat.le_refl _,(fun k hk => by simp at hk),?_,?_,?_,?_,?_,?_,?_,?_,?_,?_,?_,?_,?_⟩
                    · clear hA1 hec hxc3 hgc3 hcell3 h' hec4 hc t3 t8 t9 t12 t13 t14 t92 t93 t94 hA x2 x3 x4 hxc
                      rintro k3' tm τ4 W4 ⟨i,f3,S3,todo3,ks3,rfl,hi,h3,hm3,u1,u2,u3,u4,u5,t3,t8,t9,t12,t13,t14,t92,t93,t94,t16,t145,t146,t147⟩ ih3
                      obtain ⟨-,-,-,-,hec⟩:=h3.vs _ (List.mem_cons_self ..)
                      dsimp only at hec
                      by_cases hli:i < (natsI js).length
                      · have hlj:i < js.length:=by rw [natsI_len] at hli; exact hli
                        have hix:=fun ρ:St => index_sl (σ:=ρ) (kd:=.i64) hli
                        have hge2:(natsI js).getD i 0=(js[i]:Int):=by
                         rw [List.getD_eq_getElem?_getD,List.getElem?_eq_getElem hli]; simp [natsI]
                        rw [hge2] at hix
                        have hjm:=List.getElem_mem hlj
                        obtain ⟨p1,hp1,hRj⟩:=r2.snd js[i] hjm
                        have ep1:p1=p:=by simpa using hp1
                        rw [ep1] at hRj
                        obtain ⟨τ',T',f4,S4,todo4,ks4,hc,h4,r1',r2',r3',r4',r5',r6'⟩:=h3.reach h85 hP hC k4 (hRj.len hpL) ⟨p0,hp0,.call hRp hget hem h hRj⟩
                        simp only [go_sem,t9,t16,t145,t146,t147,dec_lt' hli,hix,hec]
                        refine ⟨_,_,_,hc,?_⟩
                        simp only [go_sem,t147,wrap_succ' hli hjl]
                        refine ih3 _ _ _ _ (by omega) ⟨i+1,f4,S4,todo4,ks4,rfl,hli,h4,r6'.trans hm3,fun x hx => r2' x (u1 x hx),fun x hx => ?_,fun x hx => r4' x (u3 x hx),Nat.le_trans u4 r5',fun k hk => ?_,?_,?_,?_,?_,?_,?_,?_,?_,?_,?_,?_,?_,?_⟩
                        · rcases r3' x hx with q | q
                          · rcases u2 x q with q | q
                            · exact .inl q
                            · exact .inr (r4' x q)
                          · exact .inr q
                        · rw [List.take_succ_eq_append_getElem hlj,List.mem_append] at hk
                          rcases hk with hk | hk
                          · exact r2' _ (u5 k hk)
                          · simp at hk; subst hk; exact r1'
                        all_goals (simp only [go_sem,t3,t8,t9,t12,t13,t14,t92,t93,t94,t16,t145,t146])
                      · have hin:i=js.length:=by rw [natsI_len] at hli hi; omega
                        subst hin
                        rw [List.take_length] at u5
                        simp only [go_sem,t145,t146,t147,dec_ge' hli]
                        refine hI _ _ _ ⟨f3,M'',S3,todo3,ks3,h3.less (fun v hv => List.mem_cons_of_mem _ hv),hm3,u1,u2,u3,by omega,⟨(fun q => by omega),(fun q => by omega),fun _ hlt => ⟨fun k hk => u5 k (r2.cmp (by omega) p (by simp) k hk),fun k hk => Nat.le_trans (r2.far (by omega) p (by simp) k hk) u4⟩⟩,?_,?_,?_,?_,?_,?_,?_,?_,?_⟩
                        all_goals (simp only [go_sem,t3,t8,t9,t12,t13,t14,t92,t93,t94])
                    all_goals first | (simp only [go_sem,t3,t8,t9,t12,t13,t14,t92,t93,t94]; done) | (simp only [go_sem]; rfl)
                · clear hA1 hec hxc3 hgc3 hcell3 t3 t8 t9 t12 t13 t14 t92 t93 t94 hA x2 x3 x4 hxc
                  rintro tm τ4 W4 ⟨f3,M3,S3,todo3,ks3,h3,hm3,u1,u2,u3,u4,u5,t3,t8,t9,t12,t13,t14,t92,t93,t94⟩
                  simp only [go_sem,t94,wrap_succ' hl (show N.es[s].length < 1000000000 by omega)]
                  refine ih2 _ _ _ _ (show N.es[s].length - (j+1) < _ by omega) ⟨j+1,f3,M3,S3,todo3,ks3,rfl,hl,h3,hm3,fun x hx => u1 x (hSS x hx),Nat.le_trans hff u4,fun x hx => ?_,fun e' he' => ?_,?_,?_,?_,?_,?_,?_,?_,?_,?_⟩
                  · rcases u2 x hx with q | q
                    · rcases hfin' x q with q | q | q
                      · exact .inl (u3 x q)
                      · exact .inr (.inl q)
                      · exact .inr (.inr (q.mono u1 u4 fun _ h => h))
                    · exact .inl q
                  · rw [htk] at he'
                    rcases List.mem_append.1 he' with q | q
                    · exact (hdn e' q).mono u1 u4
                    · simp at q; subst q; exact u5
                  all_goals (simp only [go_sem,t3,t8,t9,t12,t13,t14,t92,t93])
              · have hjl:j=N.es[s].length:=by omega
                subst hjl
                rw [List.take_length] at hdn
                simp only [go_sem,t92,t93,t94,dec_ge' hl]
                refine ih _ _ _ _ (by omega) ⟨f',M',S',todo',ks',out',oa',ob',rfl,hA.less (fun v hv => by cases hv),fun p hp => hSS _ (hS p hp),fun x hx => ?_,?_,?_,?_,?_,?_⟩
                · rcases hfin' x hx with q | rfl | q
                  · exact .inl q
                  · exact .inr ⟨hpo,fun r hr e he => by rw [hget] at hr; cases hr; exact hdn e he⟩
                  · exact .inr q
                all_goals (simp only [go_sem,t3,t8,t9,t12,t13])
            · rcases hfin x hx with q | q
              · rcases List.mem_cons.1 q with q | q
                · exact .inr (.inl q)
                · exact .inl q
              · exact .inr (.inr (q.mono (fun _ h => h) (Nat.le_refl _) hoo))
            all_goals first | (simp only [go_sem,t3,t8,t9,t12,t13,t14]; done) | (simp only [go_sem]; rfl)
        · simp only [go_sem,t3,t8,t9,t12,t13,p1',p2',d1,hgc,hcell,hlen,dec_ge' hfl]
          refine ⟨drawOk_rel [] [] rfl (by kernel_rfl) rfl (by simp),_,hfv,h.mod,hun,out,f,M,rfl,h.fr.run,h.mine,h.B.fo,h.B.fl,h.mo,h.B.fs,fin fun q => absurd q hfl⟩
     all_goals (simp only [go_sem,t3,t8,t9])
 all_goals first | rfl | (simp only [go_sem]; done) | (simp only [go_sem]; rfl)
end Go.Am.Sm

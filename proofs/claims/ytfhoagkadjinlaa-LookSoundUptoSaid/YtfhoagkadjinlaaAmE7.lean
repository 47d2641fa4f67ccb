/- Part E7 of a proof that runs a program's calls on a small machine whose values bear no addresses: no conditions. -/
import Derived.Test.YtfhoagkadjinlaaAmE6
import Derived.Test.YtfhoagkadjinlaaAmD1
set_option autoImplicit false
set_option linter.unusedSimpArgs false
set_option linter.unusedVariables false
set_option linter.unusedSectionVars false
namespace Go.Am
open Go Go.Proofs
variable {fz:Nat→Md}
theorem CallsTo.keepP {X:X} {f:Nat} {cap args:List A} {F:AFn} {σ:St} {P:A→St→List Nat→Prop} (hz:X.fz f=.keep) (hF:X.fn f=some F) (hl:args.length+cap.length≤F.nt)
 (e:Ev X f F.nt none σ.n [.code F.body] (initTm (args ++ cap) 0 .nil) σ [] (RetQ X F.results fun a σ1 W1 => P a σ1 W1)):∃ a σ' W,CallsTo X (.func f cap) args σ a σ' W∧P a σ' W:=by
 obtain ⟨n,o,hn,hq⟩:=e
 cases o with
 | leave _ _ _ => exact hq.elim
 | ret tm σ1 W1 =>
  unfold RetQ at hq
  dsimp only at hq
  split at hq
  · rename_i l hl'
    exact ⟨_,σ1,W1,CallsTo.ofQ hF hl ⟨n,_,hn,by unfold RetQ; dsimp only; rw [hl']; simp [leaveCall,hz]⟩,hq⟩
  · exact hq.elim
section
variable {l:List Int} {N:Nv} {X:Nx}
theorem Lk.rn {a i s p:Nat} (h:Lk l N X (fun _ _ => []) [(a,i)] s p):Rn l N X a i s p:=by
 induction h with
 | start h => simp at h; obtain ⟨rfl,rfl⟩:=h; exact .refl _ _
 | free _ h1 h2 h3 ih => exact .free ih h1 h2 h3
 | tok _ h1 h2 h3 h4 ih => exact .tok ih h1 h2 h3 h4
 | call _ h1 h2 h3 h4 ih => exact .call ih h1 h2 h3 h4
 | leave _ _ h2 => cases h2
theorem Rn.lk {a i s p:Nat} (h:Rn l N X a i s p):Lk l N X (fun _ _ => []) [(a,i)] s p:=by
 induction h with
 | refl => exact .start (by simp)
 | free _ h1 h2 h3 ih => exact .free ih h1 h2 h3
 | tok _ h1 h2 h3 h4 ih => exact .tok ih h1 h2 h3 h4
 | call _ h1 h2 h3 h4 ih _ => exact .call ih h1 h2 h3 h4
theorem LkP.pg {a i k:Nat}:LkP l N X (fun _ _ => []) [(a,i)] k ↔ Pg l N X a i k:=by
 constructor
 · rintro ⟨s,p,h1,rfl | ⟨r,e,g1,g2,g3,g4⟩⟩
   · exact .here h1.rn
   · exact .call h1.rn g1 g2 g3 g4
 · intro h
   cases h with
   | here h => exact ⟨_,_,h.lk,.inl rfl⟩
   | call h g1 g2 g3 g4 => exact ⟨_,_,h.lk,.inr ⟨_,_,g1,g2,g3,g4⟩⟩
end
def OutI (ko:Nat) (outs lks:List Nat) (σ:St):Prop:=∃ oa ob,σ.get ko=.cells [oa]∧RowN 1 σ oa (intsD (natsI outs)) ob∧lks=ko :: ob∧ko < σ.n∧ko ∉ ob
theorem outI_ok (h119:fz 119=.keep) {ko R L n:Nat} {tb:List Nat}:LvOk fz 119 [.ptr ko 0] (fun _ _ => []) R L n tb (OutI ko) where
 run σ outs lks r p hI hr hp ho:=by
  obtain ⟨oa,ob,h1,h2,rfl,h3,h4⟩:=hI
  have key:=CallsTo.keepP (X:=XX fz) (f:=119) (cap:=[.ptr ko 0]) (args:=[.d (.int .i64 (r:Int)),.d (.int .i64 (p:Int))]) (σ:=σ) (P:=fun a σ' W => a=.d (.slc true [])∧∃ lks',OutI ko (outs ++ [p]) lks' σ'∧σ.n≤σ'.n∧(∀ k,k < σ.n→k ∉ ko :: ob→σ'.get k=σ.get k)∧(∀ k ∈ W,k ∈ ko :: ob∨σ.n≤k)∧(∀ k ∈ lks',k ∈ ko :: ob∨σ.n≤k)) h119 fn119 (by simp) ?_
  · obtain ⟨a,σ',W,c,rfl,lks',g1,g2,g3,g4,g5⟩:=key
    exact ⟨_,σ',W,lks',c,g1,.inl ⟨true,rfl⟩,g2,g3,g4,g5,fun k off len es h => by cases h⟩
  simp only [Try.f119,Option.getD_some]
  have h2':RowN 1 (σ.push (.cells [.d (.int .i64 (p:Int))])) oa (intsD (natsI outs)) ob:=h2.stay (by rw [St.n_push]; omega) fun k hk => St.get_push_ne (h2.1.lt hk)
  obtain ⟨oa',τ,T,ob',happ,hR,hK⟩:=h2'.app (b:=8) (x:=.row σ.n 0 1 1) (ys:=[[.int .i64 (p:Int)]]) (by rw [sliceCells_row St.get_push_eq (by simp)]; rfl) (by rw [sliceLen_row,St.get_push_eq]; rfl) (by simp) (by rw [intsD_len,natsI_len]; simp; omega) (by rw [intsD_len,natsI_len]; simp; omega)
  have hx:intsD (natsI outs) ++ [[D.int .i64 (p:Int)]]=intsD (natsI (outs ++ [p])):=by simp [intsD,natsI]
  rw [hx] at hR
  have hKn:=hK.n
  rw [St.n_push] at hKn
  have g:∀ k,k < σ.n→k ∉ ob→τ.get k=σ.get k:=fun k q1 q2 => by rw [hK.same k (by rw [St.n_push]; omega) q2,St.get_push_ne q1]
  have gk:=(g ko h3 h4).trans h1
  have c1:=hR.1.cell
  have c2:=hR.1.cells
  have e1:ko≠σ.n:=by omega
  have ho':∀ k ∈ ob',k ∈ ob∨σ.n≤k:=fun k hk => by
   rcases hK.o k hk with q | q
   · exact .inl q
   · rw [St.n_push] at q; exact .inr (by omega)
  have hko:ko ∉ ob':=fun q => by
   rcases ho' _ q with q | q
   · exact h4 q
   · omega
  simp only [go_sem,h1,e1,happ,gk,c1,c2]
  refine ⟨ko :: ob',⟨oa',ob',St.get_set_eq,hR.stay (by rw [St.n_set]; exact Nat.le_refl _) fun k hk => St.get_set_ne (fun e => hko (e ▸ hk)),rfl,by rw [St.n_set]; omega,hko⟩,by omega,fun k q1 q2 => ?_,fun k hk => ?_,fun k hk => ?_⟩
  · rw [List.mem_cons,not_or] at q2
    rw [if_neg q2.1]; exact g k q1 q2.2
  · simp only [List.mem_append,mem_low,List.mem_singleton] at hk
    rcases hk with ⟨hk,-⟩ | ⟨hk,-⟩
    · rcases hK.w k hk with q | q
      · exact .inl (by simp [q])
      · rw [St.n_push] at q; exact .inr (by omega)
    · exact .inl (by simp [hk])
  · rcases List.mem_cons.1 hk with q | q
    · exact .inl (by simp [q])
    · rcases ho' k q with q | q
      · exact .inl (by simp [q])
      · exact .inr q
 stay σ τ outs lks hI hn hg:=by
  obtain ⟨oa,ob,h1,h2,rfl,h3,h4⟩:=hI
  exact ⟨oa,ob,(hg _ (.inl (by simp))).trans h1,h2.stay hn fun k hk => hg k (.inl (by simp [hk])),rfl,by omega,h4⟩
 lt σ outs lks hI k hk:=by
  obtain ⟨oa,ob,h1,h2,rfl,h3,h4⟩:=hI
  rcases List.mem_cons.1 hk with q | q
  · omega
  · exact h2.1.lt q
 at_ r p x hx:=by cases hx
 sz r p:=by simp
set_option maxHeartbeats 16000000 in
theorem callL_c (h106:fz 106=.keep) (h107:fz 107=.keep) (h120:fz 120=.keep) (h119:fz 119=.keep) {kr kM kt km:Nat} {ra ba rea:A} {tb:List Nat} {R:Nat} {tok:A} {l:List Int} {N:Nv} {X:Nx} {bh:Nat→List Nat} {rch:Nat→Bool}
 (hN:NetG N X R) (hF:N.Fits 10000) (hL:l.length≤1000) {n p:Nat} (hn:n < R) (hp:p≤l.length)
 (hcall:∀ (s q:Nat) (r:List Eg),Rn l N X (X.ent n) p s q→q≤l.length→N.es[s]?=some r→∀ e ∈ r,e.kind=2→CallSpecL kr kM kt km ra ba rea tb R tok l N X bh rch fz e.num.toNat q) :
 CallSpecL kr kM kt km ra ba rea tb R tok l N X bh rch fz n p:=by
 intro σ all M mb hrun hmemo htab htok hP hmb
 have l1:=hP.r
 have l2:=hP.m
 have l3:=hP.ne
 have key:=CallsTo.keepP (X:=XX fz) (f:=106) (cap:=[]) (args:=[.ptr kr 0,.d (.int .i64 (n:Int)),.d (.int .i64 (p:Int))]) (σ:=σ) (P:=fun v σ' W => ∃ (js bs:List Nat) (all':Bool) (M':MpA) (mb':List Nat),
  RunL kr kM kt tok all' M' σ'∧MemoL R l N X M' all' mb' σ'∧RowN 1 σ' v (intsD (natsI js)) bs∧(∀ k ∈ bs,k ∈ mb')∧CallOk l N X n p js all'∧(all=true→all'=true)∧(all'=true→all=true∨Pg l N X (X.ent n) p l.length) ∧
  σ.n≤σ'.n∧(∀ k,k < σ.n→k≠kr→k≠kM→σ'.get k=σ.get k)∧(∀ k ∈ W,k=kr∨k=kM∨σ.n≤k)∧(∀ k ∈ mb',k ∈ mb∨σ.n≤k)∧∀ k ∈ mb',k < σ'.n∧k≠kr∧k≠kM) h106 fn106 (by simp) ?_
 · obtain ⟨v,σ',W,c,js,bs,all',M',mb',hh⟩:=key
   exact ⟨js,v,bs,all',M',mb',σ',W,c,hh⟩
 simp only [Try.f106,Option.getD_some]
 have hcell:=hrun.cell
 have htc:=htab.cell
 have in1:=fun (ρ:St) => index_sl (σ:=ρ) (kd:=.i64) (l:=X.en) (i:=n) (by rw [hN.enl]; exact hn)
 rw [(hN.en _ hn).2.1] at in1
 have hg0:∀ k,k < σ.n→((σ.push (.cells [.d (.int .i64 0),.d (.int .i64 0)])).set σ.n (.cells [.d (.int .i64 (X.ent n:Int)),.d (.int .i64 (p:Int))])).get k=σ.get k:=fun k hk => by
  rw [St.get_set_ne (by omega),St.get_push_ne hk]
 have hkc:((σ.push (.cells [.d (.int .i64 0),.d (.int .i64 0)])).set σ.n (.cells [.d (.int .i64 (X.ent n:Int)),.d (.int .i64 (p:Int))])).get σ.n=.cells [.d (.int .i64 (X.ent n:Int)),.d (.int .i64 (p:Int))]:=St.get_set_eq
 have hn0:((σ.push (.cells [.d (.int .i64 0),.d (.int .i64 0)])).set σ.n (.cells [.d (.int .i64 (X.ent n:Int)),.d (.int .i64 (p:Int))])).n=σ.n+1:=by simp only [St.n_set,St.n_push]
 have lz:low σ.n [σ.n]=[]:=by rw [low_cons_ge (Nat.le_refl _)]; rfl
 have n1:kr≠σ.n:=by omega
 have n2:kM≠σ.n:=by omega
 simp only [go_sem,hcell,htc,in1,lz]
 generalize ((σ.push (.cells [.d (.int .i64 0),.d (.int .i64 0)])).set σ.n (.cells [.d (.int .i64 (X.ent n:Int)),.d (.int .i64 (p:Int))]))=τ0 at hg0 hkc hn0
 have hcell0:=(hg0 kr l1).trans hcell
 have hgm0:=(hg0 kM l2).trans hrun.gm
 have kp:keyT (XX fz) 8 164 (.agg [.d (.int .i64 (X.ent n:Int)),.d (.int .i64 (p:Int))])=true:=key_pr
 rcases find_PM (fz:=fz) (a:=X.ent n) (b:=p) M 0 with ⟨j,v,h1,h2,h3⟩ | ⟨h2,h3⟩
 · obtain ⟨n',js,bs,q1,q2,q3,q4,q5⟩:=hmemo _ _ (List.mem_of_getElem? h1)
   have hnn:n'=n:=by
    have e1:=(hN.en _ hn).2.2
    have e2:=(hN.en _ q1).2.2
    dsimp only at q2
    rw [← q2,e1] at e2; omega
   subst hnn
   simp only [go_sem,n1,n2,hcell,hcell0,hrun.gm,hgm0,hkc,kp,h3]
   refine ⟨drawOk_rel [] [] rfl (by kernel_rfl) rfl (by simp),?_⟩
   exact ⟨js,bs,all,M,mb,hrun.stay (hg0 _ l1) (hg0 _ l2),hmemo.stay (by omega) (fun k hk => hg0 k (hmb k hk).1) (fun _ h => h) id,q3.stay (by omega) fun k hk => hg0 k (q3.1.lt hk),q4,q5,id,fun h => .inl h,by omega,fun k hk _ _ => hg0 k hk,(fun k hk => by cases hk),fun k hk => .inl hk,fun k hk => by have:=hmb k hk; exact ⟨by omega,this.2⟩⟩
 · have n3:σ.n≠τ0.n:=by omega
   simp only [go_sem,n1,n2,n3,hcell,hcell0,hrun.gm,hgm0,hkc,kp,h3]
   refine ⟨drawOk_rel [] [] rfl (by kernel_rfl) rfl (by simp),?_⟩
   have hg2:∀ k,k < τ0.n→((τ0.push (.cells [.d (.slc true [])])).push (.cells [.d (.int .i64 (X.ent n:Int)),.d (.int .i64 (p:Int))])).get k=τ0.get k:=fun k hk => by
    rw [St.get_push_ne (by rw [St.n_push]; omega),St.get_push_ne hk]
   have hgo:((τ0.push (.cells [.d (.slc true [])])).push (.cells [.d (.int .i64 (X.ent n:Int)),.d (.int .i64 (p:Int))])).get τ0.n=.cells [.d (.slc true [])]:=by
    rw [St.get_push_ne (by rw [St.n_push]; omega),St.get_push_eq]
   have hgr:((τ0.push (.cells [.d (.slc true [])])).push (.cells [.d (.int .i64 (X.ent n:Int)),.d (.int .i64 (p:Int))])).get (τ0.n+1)=.cells [.d (.int .i64 (X.ent n:Int)),.d (.int .i64 (p:Int))]:=St.get_push_eq' (by rw [St.n_push])
   have hn2:((τ0.push (.cells [.d (.slc true [])])).push (.cells [.d (.int .i64 (X.ent n:Int)),.d (.int .i64 (p:Int))])).n=τ0.n+2:=by simp only [St.n_push]
   generalize ((τ0.push (.cells [.d (.slc true [])])).push (.cells [.d (.int .i64 (X.ent n:Int)),.d (.int .i64 (p:Int))]))=τ2 at hg2 hgo hgr hn2
   have hgg:∀ k,k < σ.n→τ2.get k=σ.get k:=fun k hk => (hg2 k (by omega)).trans (hg0 k hk)
   have hkey2:=(hg2 σ.n (by omega)).trans hkc
   have hP2:PlL kr kM tb τ2.n [τ0.n]:=⟨by omega,by omega,l3,fun k hk => by have:=hP.tbl k hk; exact ⟨by omega,this.2⟩,fun k hk => by
    simp at hk; subst hk
    exact ⟨by omega,by omega,by omega,fun q => by have:=(hP.tbl _ q).1; omega⟩⟩
   obtain ⟨σ2,W2,hc,S,all',M',mb',ks,lks,hA,hxS,hfin⟩:=alongL_c (bh:=bh) (rch:=rch) (km:=km) (lv:=fun _ _ => []) (I:=OutI τ0.n) (fl:=119) (cap:=[.ptr τ0.n 0]) h107 h120 hN hF hL (σ:=τ2) (all0:=all) (M0:=M) (mb0:=mb) (lk0:=[τ0.n]) (outs0:=[]) hP2 (outI_ok h119) (fa:=.row (τ0.n+1) 0 1 2) (xs:=[(X.ent n,p)])
    (.inr ⟨τ0.n+1,rfl,hgr,by omega,by simp⟩) (fun x hx => by simp at hx; subst hx; exact ⟨(hN.en _ hn).1,hp⟩) (by simp)
    (hrun.stay (hgg _ l1) (hgg _ l2)) (hmemo.stay (by omega) (fun k hk => hgg k (hmb k hk).1) (fun _ h => h) id) (htab.stay (by omega) fun k hk => hgg k (htab.lt k hk)) (htok.stay (by omega) fun k hk => hgg k (htab.lt k hk)) ⟨_,[],hgo,RowN.nil,rfl,by omega,by simp⟩ (by simp) (fun k hk => by have:=hmb k hk; exact ⟨by omega,this.2.1,this.2.2,by simp; omega⟩)
    (fun s q r h1 h2 h3 e h4 h5 => hcall s q r h1.rn h2 h3 e h4 h5)
   refine ⟨_,_,_,hc,?_⟩
   obtain ⟨f1,f2⟩:=fnD_all hxS hfin
   rw [List.nil_append] at hA
   obtain ⟨oa,ob,o1,o2,rfl,o3,o4⟩:=hA.lvi
   have hkr2:=hA.run.cell
   have hkM2:=hA.run.gm
   have hkey3:σ2.get σ.n=_:=(hA.same σ.n (by omega) (by omega) (by omega) (by simp; omega)).trans hkey2
   obtain ⟨M'',hu,hu1,hu2⟩:=upd_any (fz:=fz) (a:=X.ent n) (b:=p) (r:=kM) (v:=oa) M'
   have c1:=o2.1.cell
   have c2:=o2.1.cells
   have lM:low σ.n [kM]=[kM]:=by rw [low_cons_lt l2]; rfl
   simp only [go_sem,hkr2,hkM2,hkey3,o1,kp,hu,c1,c2,lM]
   have n4:τ0.n≠kM:=by omega
   have hσ2:τ2.n≤σ2.n:=by have:=hA.fr.n; omega
   simp only [go_sem,o1,n4]
   refine ⟨drawOk_rel [6] [] rfl (by kernel_rfl) rfl (by simp),?_⟩
   have hcap:S.length≤N.es.length * (l.length+1):=by
    rw [← stops_len]
    exact hA.nd.length_le_of_subset fun x hx => stops_mem (hA.snd x hx).1 (hA.snd x hx).2.1
   have hlve:lvS N X (X.lve n)=X.lve n:=by unfold lvS; rw [(hN.lv _ hn).2.2]; rfl
   have hmem:∀ j,j ∈ endsL N X S ↔ Rn l N X (X.ent n) p (X.lve n) j:=fun j => by
    rw [endsL_mem]
    constructor
    · rintro ⟨s,h1,h2⟩
      have h3:=(hA.snd _ h1).2.2.rn
      dsimp only at h3
      have h4:=h3.rule hN
      have h5:s=X.lve n:=by rw [h2]; unfold lvS; rw [h4,(hN.en _ hn).2.2]; rfl
      rw [h5] at h3; exact h3
    · intro h
      exact ⟨X.lve n,f1 _ _ h.lk,hlve.symm⟩
   have hok:CallOk l N X n p (endsL N X S) all':=⟨hmem,Nat.le_trans (endsL_len N X S) hcap,fun h => f2 (LkP.pg.2 h)⟩
   have hobm:∀ k ∈ ob,k≠kr∧k≠kM∧k < σ2.n∧σ.n≤k:=fun k hk => by
    obtain ⟨q1,q2,-,-⟩:=hA.lkn k (by simp [hk])
    refine ⟨q1,q2,o2.1.lt hk,?_⟩
    rcases hA.lko k (by simp [hk]) with q | q
    · simp at q; omega
    · omega
   have g3:∀ k,k≠kM→(σ2.set kM (.map (PM M''))).get k=σ2.get k:=fun k hk => St.get_set_ne hk
   refine ⟨endsL N X S,ob,all',M'',mb' ++ ob,⟨(g3 _ l3).trans hkr2,St.get_set_eq⟩,fun x v hx => ?_,o2.stay (by rw [St.n_set]; exact Nat.le_refl _) fun k hk => g3 k (hobm k hk).2.1,fun k hk => List.mem_append_right _ hk,hok,hA.allm,fun q => ?_,by omega,fun k q1 q2 q3 => ?_,fun k hk => ?_,fun k hk => ?_,fun k hk => ?_⟩
   · rcases hu2 _ hx with q | q
     · obtain ⟨n',js,bs,r1,r2,r3,r4,r5⟩:=hA.memo _ _ q
       exact ⟨n',js,bs,r1,r2,r3.stay (by rw [St.n_set]; exact Nat.le_refl _) fun k hk => g3 k (hA.mbn k (r4 k hk)).2.2.1,fun k hk => List.mem_append_left _ (r4 k hk),r5⟩
     · injection q with q1 q2
       subst q1; subst q2
       exact ⟨n,endsL N X S,ob,hn,rfl,o2.stay (by rw [St.n_set]; exact Nat.le_refl _) fun k hk => g3 k (hobm k hk).2.1,fun k hk => List.mem_append_right _ hk,hok⟩
   · rcases hA.allo q with q | q
     · exact .inl q
     · exact .inr (LkP.pg.1 q)
   · rw [if_neg q3,hA.same k (by omega) q2 q3 (by simp; omega)]; exact hgg k q1
   · rcases List.mem_append.1 hk with q | q
     · obtain ⟨q1,q2⟩:=mem_low.1 q
       rcases hA.w k q1 with q | q | q
       · exact .inl q
       · exact .inr (.inl q)
       · simp at q; omega
     · simp at q; exact .inr (.inl q)
   · rcases List.mem_append.1 hk with q | q
     · rcases hA.mbo k q with q | q
       · exact .inl q
       · exact .inr (by omega)
     · exact .inr (hobm k q).2.2.2
   · rcases List.mem_append.1 hk with q | q
     · obtain ⟨q1,q2,q3,-⟩:=hA.mbn k q
       exact ⟨q1,q2,q3⟩
     · obtain ⟨q1,q2,q3,-⟩:=hobm k q
       exact ⟨q3,q1,q2⟩
section
variable {g:Gr} {l:List Int}
theorem Rn.rch (h:GOk g) {a i s p:Nat} (hr:Rn l (newN g).N (newX g) a i s p):Rch g.bodies l (newN g).N a i s p:=by
 have hN:=newN_G h
 induction hr with
 | refl => exact .start
 | free _ h1 h2 h3 ih => exact .step ih h1 h2 (by rw [h3]; exact rfl)
 | tok _ h1 h2 h3 h4 ih => exact .step ih h1 h2 (by rw [h3]; exact ⟨h4,rfl⟩)
 | @call a i s p k r e _ h1 h2 h3 _ ih1 ih2 =>
  have hk:=(hN.ed _ _ h1 _ h2).2.2.2.2.2 h3
  have hb:g.bodies.length=g.rules.length:=by rw [Gr.bodies,List.length_map]
  have hy:g.bodies[e.num.toNat]?=some g.bodies[e.num.toNat]:=List.getElem?_eq_getElem (by omega)
  exact .step ih1 h1 h2 (by rw [h3]; exact ⟨_,hy,(rch_der h hk hy (hN.en _ hk).2.1 (hN.lv _ hk).2.1 p k).1 ih2⟩)
theorem callL_all (h106:fz 106=.keep) (h107:fz 107=.keep) (h120:fz 120=.keep) (h119:fz 119=.keep) {kr kM kt km:Nat} {ra ba rea:A} {tb:List Nat} {tok:A} {bh:Nat→List Nat} {rch:Nat→Bool} (hs:SmallG g) (hc:checkP g=0) (hL:l.length≤1000) :
 ∀ (m n p:Nat),n < g.rules.length→p≤l.length→(l.length - p) * (g.bodies.length+1)+rkOf g.bodies (qOf g.null) n < m→CallSpecL kr kM kt km ra ba rea tb g.rules.length tok l (newN g).N (newX g) bh rch fz n p
 | 0,_,_,_,_,h => by omega
 | m+1,n,p,hn,hp,hm => by
  have h:=GOk.of hc
  have hN:=newN_G h
  have hR:=(Ranked.of_check hs hc).1
  have hb:g.bodies.length=g.rules.length:=by rw [Gr.bodies,List.length_map]
  have hy:g.bodies[n]?=some g.bodies[n]:=List.getElem?_eq_getElem (by omega)
  refine callL_c h106 h107 h120 h119 hN (newN_fits h) hL hn hp fun s q r hr hq hrow e he hk => ?_
  obtain ⟨r1,r2⟩:=rch_rank h hR hn hy (hN.en _ hn).2.1 (hN.lv _ hn).2.1 (hr.rch h)
  have hen:=(hN.ed _ _ hrow _ he).2.2.2.2.2 hk
  refine callL_all h106 h107 h120 h119 hs hc hL m _ _ hen hq ?_
  rcases Nat.lt_or_ge p q with hip | hip
  · have h1:=hR.top e.num.toNat
    have h2:=Nat.mul_le_mul_right (g.bodies.length+1) (show l.length - q+1≤l.length - p by omega)
    rw [Nat.add_mul,Nat.one_mul] at h2
    omega
  · have h1:=r2 (by omega) r hrow e he hk
    have:q=p:=by omega
    subst this
    omega
end
end Go.Am
namespace Go.Am
open Go Go.Proofs
variable {fz:Nat→Md}
theorem TabS.more {kt km:Nat} {ra ba rea:A} {tb:List Nat} {R:Nat} {N:Nv} {X:Nx} {bh:Nat→List Nat} {rch:Nat→Bool} {σ:St} (h:TabS kt km ra ba rea tb R N X bh rch σ) {k:Nat} (hk:k < σ.n):TabS kt km ra ba rea (k :: tb) R N X bh rch σ:=by
 obtain ⟨h1,⟨bs,h2,h3⟩,⟨kb,cs,h4,h5,h6,h7,h8⟩,⟨kc,h9,h10,h11⟩,h12,h13⟩:=h
 refine ⟨h1,⟨bs,h2,fun j hj => List.mem_cons_of_mem _ (h3 j hj)⟩,⟨kb,cs,h4,List.mem_cons_of_mem _ h5,h6,h7,fun n hn => ?_⟩,⟨kc,h9,List.mem_cons_of_mem _ h10,h11⟩,List.mem_cons_of_mem _ h12,fun j hj => ?_⟩
 · obtain ⟨v,bs,q1,q2,q3⟩:=h8 n hn
   exact ⟨v,bs,q1,q2,fun j hj => List.mem_cons_of_mem _ (q3 j hj)⟩
 · rcases List.mem_cons.1 hj with rfl | hj
   · exact hk
   · exact h13 j hj
def BehI (kc kt km:Nat) (ra ba rea:A) (tb:List Nat) (R:Nat) (N:Nv) (X:Nx) (bh:Nat→List Nat) (rch:Nat→Bool) (_ lks:List Nat) (σ:St):Prop:=lks=[]∧σ.get kc=.cells [.ptr kt 0]∧kc ∈ tb∧TabS kt km ra ba rea tb R N X bh rch σ
set_option maxHeartbeats 8000000 in
theorem behI_ok (h108:fz 108=.keep) {kc kt km:Nat} {ra ba rea:A} {tb:List Nat} {R L:Nat} {N:Nv} {X:Nx} {bh:Nat→List Nat} {rch:Nat→Bool} (hb:∀ n,∀ s ∈ bh n,s < N.es.length) (hbl:∀ n,(bh n).length < 100000000) :
 LvOk fz 108 [.ptr kc 0] (lvB bh) R L N.es.length tb (BehI kc kt km ra ba rea tb R N X bh rch) where
 run σ outs lks r p hI hr hp ho:=by
  obtain ⟨rfl,hkc,hkt,htab⟩:=hI
  have key:=CallsTo.keepP (X:=XX fz) (f:=108) (cap:=[.ptr kc 0]) (args:=[.d (.int .i64 (r:Int)),.d (.int .i64 (p:Int))]) (σ:=σ) (P:=fun a σ' W => σ.n≤σ'.n∧(∀ k,k < σ.n→σ'.get k=σ.get k)∧(∀ k ∈ W,σ.n≤k)∧∃ bs,RowN 2 σ' a (stD (lvB bh r p)) bs∧∀ k ∈ bs,σ.n≤k) h108 fn108 (by simp) ?_
  · obtain ⟨a,σ',W,c,g1,g2,g3,bs,g4,g5⟩:=key
    refine ⟨a,σ',W,[],c,⟨rfl,(g2 _ (htab.lt _ hkt)).trans hkc,hkt,htab.stay g1 fun k hk => g2 k (htab.lt k hk)⟩,g4.stA,g1,fun k hk _ => g2 k hk,fun k hk => .inr (g3 k hk),(fun k hk => by cases hk),fun k off len es h => ?_⟩
    subst h
    rcases g4.1.2 with ⟨-,h,-⟩ | ⟨k',h,-,-,rfl⟩
    · cases h
    · injection h with h; subst h; exact g5 _ (by simp)
  simp only [Try.f108,Option.getD_some]
  have htc:=htab.cell
  obtain ⟨kb,cs,rfl,hkb,hcs,hcl,hbe⟩:=htab.behind
  obtain ⟨v,bs,hv,hrv,hbs⟩:=hbe r hr
  have ixb:∀ ρ:St,indexR ρ 1 kb 0 R 1 (r:Int) (.cells cs)=.val (.ptr kb (0+r * 1)) ρ [] [kb]:=fun ρ => indexR_nat hr
  simp only [Nat.zero_add,Nat.mul_one] at ixb
  have hvl:=hrv.1.len
  rw [intsD_len,natsI_len] at hvl
  have hbr:=hbl r
  simp only [go_sem,hkc,htc,hcs,ixb,hv,hvl]
  refine Ev.loop_ind (fun m tm τ W => ∃ (i:Nat) (oa:A) (ob:List Nat),m=(bh r).length - i∧i≤(bh r).length∧σ.n≤τ.n∧(∀ k,k < σ.n→τ.get k=σ.get k)∧W=[]∧RowN 2 τ oa (stD ((lvB bh r p).take i)) ob∧(∀ k ∈ ob,σ.n≤k) ∧
   tm.at 1=.d (.int .i64 (p:Int))∧tm.at 6=oa∧tm.at 15=v∧tm.at 16=.d (.int .i64 ((bh r).length:Int))∧tm.at 17=.d (.int .i64 (i:Int))) ?_ (bh r).length _ _ _ ⟨0,_,[],rfl,Nat.zero_le _,Nat.le_refl _,fun _ _ => rfl,rfl,RowN.nil,(fun k hk => by cases hk),?_,?_,?_,?_,?_⟩
  · rintro m tm τ W ⟨i,oa,ob,rfl,hi,hn,hg,rfl,hro,hob,t1,t6,t15,t16,t17⟩ ih
    by_cases hlt:i < (bh r).length
    · have hrvτ:=hrv.stay hn fun k hk => hg k (hrv.1.lt hk)
      obtain ⟨pv,Rv,hiv,Rv',hlv⟩:=hrvτ.idxI hlt
      have hro1:=hro.stay (τ:=τ.push (.cells [.d (.int .i64 ((bh r)[i]:Int)),.d (.int .i64 (p:Int))])) (by rw [St.n_push]; omega) fun k hk => St.get_push_ne (hro.1.lt hk)
      have hlvl:(lvB bh r p).length=(bh r).length:=by simp [lvB]
      have hlen2:((lvB bh r p).take i).length=i:=by rw [List.length_take]; omega
      obtain ⟨oa',τ2,T,ob',happ,hR,hK⟩:=hro1.app (b:=16) (x:=.row τ.n 0 1 2) (ys:=[[.int .i64 ((bh r)[i]:Int),.int .i64 (p:Int)]]) (by rw [sliceCells_row St.get_push_eq (by simp)]; rfl) (by rw [sliceLen_row,St.get_push_eq]; rfl) (by simp) (by rw [stD_len,hlen2]; simp; omega) (by rw [stD_len,hlen2]; simp; omega)
      have hx:stD ((lvB bh r p).take i) ++ [[D.int .i64 ((bh r)[i]:Int),.int .i64 (p:Int)]]=stD ((lvB bh r p).take (i+1)):=by
       rw [List.take_succ_eq_append_getElem (by omega),stD_app]; simp [stD,lvB]
      rw [hx] at hR
      have hKn:=hK.n
      rw [St.n_push] at hKn
      have lT:low σ.n T=[]:=low_all fun k hk => by
       rcases hK.w k hk with q | q
       · exact hob k q
       · rw [St.n_push] at q; omega
      simp only [go_sem,t1,t6,t15,t16,t17,dec_lt' hlt,hiv,hlv,happ,lT,wrap_succ' hlt (show (bh r).length < 1000000000 by omega)]
      refine ih _ _ _ _ (by omega) ⟨i+1,oa',ob',rfl,hlt,by omega,fun k hk => ?_,rfl,hR,fun k hk => ?_,?_,?_,?_,?_,?_⟩
      · rw [hK.same k (by rw [St.n_push]; omega) fun q => by have:=hob k q; omega,St.get_push_ne (by omega)]; exact hg k hk
      · rcases hK.o k hk with q | q
        · exact hob k q
        · rw [St.n_push] at q; omega
      all_goals (simp only [go_sem,t1,t15,t16])
    · obtain rfl:i=(bh r).length:=by omega
      rw [List.take_of_length_le (by simp [lvB])] at hro
      simp only [go_sem,t6,t16,t17,dec_ge' hlt]
      exact ⟨hn,hg,by simp,ob,hro,hob⟩
  all_goals first | (simp only [go_sem]; done) | (simp only [go_sem]; rfl)
 stay σ τ outs lks hI hn hg:=by
  obtain ⟨rfl,h1,h2,h3⟩:=hI
  exact ⟨rfl,(hg _ (.inr h2)).trans h1,h2,h3.stay hn fun k hk => hg k (.inr hk)⟩
 lt σ outs lks hI k hk:=by
  obtain ⟨rfl,-⟩:=hI; cases hk
 at_ r p x hx:=by
  obtain ⟨s,hs,rfl⟩:=List.mem_map.1 hx
  exact ⟨rfl,hb r s hs⟩
 sz r p:=by simp [lvB]; exact hbl r
end Go.Am

/- Part ED of a proof that runs a program's calls on a small machine whose values bear no addresses: no conditions. -/
import Derived.Test.YtfhoagkadjinlaaAmEC
set_option autoImplicit false
set_option linter.unusedSimpArgs false
set_option linter.unusedVariables false
set_option linter.unusedSectionVars false
namespace Go.Am
open Go Go.Proofs
variable {fz:Nat→Md}
section
variable {lo kt km:Nat} {ra ba rea:A} {tb:List Nat} {tok:A} {g:Gr} {l:List Int} {bh:Nat→List Nat} {rch:Nat→Bool}
set_option maxRecDepth 8000 in
set_option maxHeartbeats 16000000 in
theorem waysM_c (h14:fz 14=.keep) (h39:fz 39=.cut) (h40:fz 40=.keep) (h71:fz 71=.cut) (h106:fz 106=.keep) (h107:fz 107=.keep) (h120:fz 120=.keep) (h119:fz 119=.keep) (h108:fz 108=.keep)
 (hs:SmallG g) (hc:checkP g=0) (hL:l.length≤4) (hb:∀ n,∀ s ∈ bh n,s < (newN g).N.es.length) (hbl:∀ n,(bh n).length < 100000000) {s:Nat} (hsN:s < (newN g).N.es.length) {kq:Nat} (σ:St) (hT:TbK lo kt km ra ba rea tb g.rules.length (newN g).N (newX g) bh rch σ) (htok:TokA (kq :: tb) σ tok l) (hkq:kq < σ.n∧kq≠km) :
 ∃ a σ' W,CallsTo (XX fz) (.func 14 []) [.ptr kt 0,.d (.int .i64 (s:Int)),tok] σ (.tup [a,.d (.int .i64 0)]) σ' W∧∃ bs,TbK lo kt km ra ba rea tb g.rules.length (newN g).N (newX g) bh rch σ'∧RowN 1 σ' a (intsD (natsI (waysP l (newN g).N (newX g) bh rch s))) bs∧(∀ k ∈ bs,σ.n≤k)∧σ.n≤σ'.n∧(∀ k,k < σ.n→k≠km→σ'.get k=σ.get k)∧∀ k ∈ W,k=km∨σ.n≤k:=by
 have h:=GOk.of hc
 have hN:=newN_G h
 have key:=CallsTo.keepP (X:=XX fz) (f:=14) (cap:=[]) (args:=[.ptr kt 0,.d (.int .i64 (s:Int)),tok]) (σ:=σ) (P:=fun v σ' W => ∃ a,v=.tup [a,.d (.int .i64 0)]∧∃ bs,TbK lo kt km ra ba rea tb g.rules.length (newN g).N (newX g) bh rch σ'∧RowN 1 σ' a (intsD (natsI (waysP l (newN g).N (newX g) bh rch s))) bs∧(∀ k ∈ bs,σ.n≤k)∧σ.n≤σ'.n∧(∀ k,k < σ.n→k≠km→σ'.get k=σ.get k)∧∀ k ∈ W,k=km∨σ.n≤k) h14 fn14 (by simp) ?_
 · obtain ⟨v,σ',W,c,a,rfl,hh⟩:=key
   exact ⟨a,σ',W,c,hh⟩
 simp only [Try.f14,Option.getD_some]
 obtain ⟨M,mb,hK⟩:=hT.k
 have hno:=noneL_c h39 σ hT.t.tab hK.cell
 obtain ⟨a,σ',W,hcw,bs,u1,u2,u3,u4,u5,u6⟩:=wayT_c h40 h71 h106 h107 h120 h119 h108 hs hc hL hb hbl hsN σ hT htok hkq
 have hlen:=htok.len
 have hct:=hT.t.tab.cell
 obtain ⟨bsr,hrw,-⟩:=hT.t.tab.rules
 have hral:=hrw.len
 rw [intsD_len,hN.rl] at hral
 have e1:decide ((s:Int) < 0)=false:=by simp
 have e2:decide ((s:Int) ≥ ((newN g).N.es.length:Int))=false:=by simpa using hsN
 have e3:decide ((l.length:Int) > 4)=false:=by simp; omega
 simp only [go_sem]
 refine ⟨_,_,_,hno,?_⟩
 simp only [go_sem,e1,e2,hct,hral,hlen,e3]
 refine ⟨_,_,_,hcw,?_⟩
 exact ⟨a,rfl,bs,u1,u2,u3,u4,u5,fun k hk => u6 k (mem_low.1 hk).1⟩
def prU (W:List Int→List Nat) (l:List Int):Nat→Nat→Int × Nat × Bool
 | 0,_ => (-1,0,false)
 | n+1,i => match W (l.take i) with
  | [] => (-1,i,true)
  | [w] => ((w:Int),i,true)
  | _ :: _ :: _ => prU W l n (i+1)
def TkCut (fz:Nat→Md) (ts:List Nat) (σ:St) (tok:A) (l:List Int):Prop:=∀ (τ:St) (u:Nat),σ.n≤τ.n→(∀ k ∈ ts,τ.get k=σ.get k)→u≤l.length→∃ a R,(∀ tm:Tm,sliceT (XX fz) tm τ 25 none (some (.d (.int .i64 (u:Int)))) tok ((XX fz).ti 25)=.val a τ [] R)∧TokA ts τ a (l.take u)
theorem TkCut.data {ts:List Nat} {σ:St} {z:Bool} {l:List Int}:TkCut fz ts σ (.d (.slc z (intsD l))) l:=fun τ u _ _ hu => by
 refine ⟨.d (.slc z (intsD (l.take u))),[],fun tm => ?_,TokA.data⟩
 rw [ti25,sliceT_d,ti3,sliceD_hi,if_pos hu]
set_option maxRecDepth 8000 in
set_option maxHeartbeats 16000000 in
theorem predM_c (h16:fz 16=.keep) (h39:fz 39=.cut) (h40:fz 40=.keep) (h71:fz 71=.cut) (h106:fz 106=.keep) (h107:fz 107=.keep) (h120:fz 120=.keep) (h119:fz 119=.keep) (h108:fz 108=.keep)
 (hs:SmallG g) (hc:checkP g=0) (hL:l.length < 1000000000) (hb:∀ n,∀ s ∈ bh n,s < (newN g).N.es.length) (hbl:∀ n,(bh n).length < 100000000) {s:Nat} (hsN:s < (newN g).N.es.length) {kq:Nat} (σ:St) (hT:TbK lo kt km ra ba rea tb g.rules.length (newN g).N (newX g) bh rch σ) (htok:TokA (kq :: tb) σ tok l) (hcut:TkCut fz (kq :: tb) σ tok l) (hkq:kq < σ.n∧kq≠km) :
 ∃ σ' W,CallsTo (XX fz) (.func 16 []) [.ptr kt 0,.d (.int .i64 (s:Int)),tok] σ (.tup [.d (.int .i64 (prU (fun l => waysP l (newN g).N (newX g) bh rch s) l (min l.length 4+1) 0).1),.d (.int .i64 ((prU (fun l => waysP l (newN g).N (newX g) bh rch s) l (min l.length 4+1) 0).2.1:Nat)),.d (.bool (prU (fun l => waysP l (newN g).N (newX g) bh rch s) l (min l.length 4+1) 0).2.2),.d (.int .i64 0)]) σ' W∧TbK lo kt km ra ba rea tb g.rules.length (newN g).N (newX g) bh rch σ'∧σ.n≤σ'.n∧(∀ k,k < σ.n→k≠km→σ'.get k=σ.get k)∧∀ k ∈ W,k=km∨σ.n≤k:=by
 have h:=GOk.of hc
 have hN:=newN_G h
 refine CallsTo.keepE h16 fn16 (by simp) ?_
 simp only [Try.f16,Option.getD_some]
 obtain ⟨M,mb,hK⟩:=hT.k
 have hno:=noneL_c h39 σ hT.t.tab hK.cell
 have hlen:=htok.len
 have hct:=hT.t.tab.cell
 obtain ⟨bsr,hrw,-⟩:=hT.t.tab.rules
 have hral:=hrw.len
 rw [intsD_len,hN.rl] at hral
 have e1:decide ((s:Int) < 0)=false:=by simp
 have e2:decide ((s:Int) ≥ ((newN g).N.es.length:Int))=false:=by simpa using hsN
 have wr0:=wrap_succ' (show min l.length 4 < 5 by omega) (by omega)
 have hil:∀ i,i < min l.length 4+1→i≤l.length∧(l.take i).length≤4:=fun i hi => by rw [List.length_take]; omega
 simp only [go_sem]
 refine ⟨_,_,_,hno,?_⟩
 simp only [go_sem,e1,e2,hct,hral,hlen,minA,show (4:Int)=((4:Nat):Int) from rfl,wr0]
 generalize hWP:(fun l => waysP l (newN g).N (newX g) bh rch s)=WP
 have hWPe:∀ l,waysP l (newN g).N (newX g) bh rch s=WP l:=fun l => by rw [← hWP]
 refine Ev.loop_ind (fun m tm τ W => ∃ (i:Nat),m=min l.length 4+1 - i∧i≤min l.length 4+1∧(∀ k ∈ W,k=km∨σ.n≤k)∧σ.n≤τ.n∧(∀ k,k < σ.n→k≠km→τ.get k=σ.get k)∧TbK lo kt km ra ba rea tb g.rules.length (newN g).N (newX g) bh rch τ∧prU WP l (min l.length 4+1) 0=prU WP l (min l.length 4+1 - i) i ∧
  tm.at 0=.ptr kt 0∧tm.at 1=.d (.int .i64 (s:Int))∧tm.at 2=tok∧tm.at 30=.d (.int .i64 ((min l.length 4+1:Nat):Int))∧tm.at 31=.d (.int .i64 (i:Int))) ?_ (min l.length 4+1) _ _ _ ⟨0,rfl,Nat.zero_le _,(fun k hk => by cases hk),Nat.le_refl _,fun _ _ _ => rfl,hT,rfl,?_,?_,?_,?_,?_⟩
 · rintro m tm τ W ⟨i,rfl,hi,hW,hn1,hg1,hT1,hpr,t0,t1,t2,t30,t31⟩ ih
   by_cases hlt:i < min l.length 4+1
   · obtain ⟨q1,q2⟩:=hil i hlt
     have hgts:∀ k ∈ kq :: tb,τ.get k=σ.get k:=fun k hk => by
      rcases List.mem_cons.1 hk with rfl | q
      · exact hg1 _ hkq.1 hkq.2
      · exact hg1 k (hT.t.tab.lt k q) fun e => hT.t.km.2.2 (e ▸ q)
     obtain ⟨a,R,hsl,ht⟩:=hcut τ i hn1 hgts q1
     simp only [ti25] at hsl
     obtain ⟨v,τ2,W2,hcw,bs,u1,u2,u3,u4,u5,u6⟩:=wayT_c h40 h71 h106 h107 h120 h119 h108 hs hc q2 hb hbl hsN τ hT1 ht ⟨by omega,hkq.2⟩
     rw [hWPe] at u2
     have hvl:=u2.1.len
     rw [intsD_len,natsI_len] at hvl
     rw [show min l.length 4+1 - i=(min l.length 4+1 - (i+1))+1 by omega] at hpr
     have hW2:∀ k ∈ W ++ low σ.n W2,k=km∨σ.n≤k:=fun k hk => by
      rcases List.mem_append.1 hk with q | q
      · exact hW k q
      · rcases u6 k (mem_low.1 q).1 with q | q
        · exact .inl q
        · right; omega
     have hg2:∀ k,k < σ.n→k≠km→τ2.get k=σ.get k:=fun k q1 q2 => (u5 k (by omega) q2).trans (hg1 k q1 q2)
     simp only [go_sem,t0,t1,t2,t30,t31,dec_lt' hlt,hsl]
     refine ⟨_,_,_,hcw,?_⟩
     have z0:(((0:Nat):Int) == 0)=true:=rfl
     have z1:(((1:Nat):Int) == 0)=false:=rfl
     have z2:(((1:Nat):Int) == 1)=true:=rfl
     match hwp:WP (l.take i) with
     | [] =>
      rw [hwp] at hvl u2
      have hpr2:prU WP l (min l.length 4+1 - (i+1)+1) i=(-1,i,true):=by rw [prU,hwp]
      rw [hpr2] at hpr
      replace hvl:sliceLen τ2 v=some 0:=hvl
      simp only [go_sem,hvl,t31,z0]
      rw [hpr]
      exact ⟨rfl,u1,by omega,hg2,hW2⟩
     | [w] =>
      rw [hwp] at hvl u2
      have hpr2:prU WP l (min l.length 4+1 - (i+1)+1) i=((w:Int),i,true):=by rw [prU,hwp]
      rw [hpr2] at hpr
      replace hvl:sliceLen τ2 v=some 1:=hvl
      obtain ⟨pv,Rv,hiv,Rv',hlv⟩:=u2.idxI (i:=0) (by simp)
      rw [show D.int IntKind.i64 ((0:Nat):Int)=D.int IntKind.i64 0 from rfl] at hiv
      simp only [go_sem,hvl,t31,z1,z2,hiv,hlv]
      rw [hpr]
      exact ⟨rfl,u1,by omega,hg2,hW2⟩
     | w1 :: w2 :: ws =>
      rw [hwp] at hvl u2
      have hpr2:prU WP l (min l.length 4+1 - (i+1)+1) i=prU WP l (min l.length 4+1 - (i+1)) (i+1):=by rw [prU,hwp]
      rw [hpr2] at hpr
      replace hvl:sliceLen τ2 v=some (ws.length+2):=hvl
      have c0:(((ws.length+2:Nat):Int) == 0)=false:=by rw [beq_eq_false_iff_ne]; omega
      have c1:(((ws.length+2:Nat):Int) == 1)=false:=by rw [beq_eq_false_iff_ne]; omega
      simp only [go_sem,hvl,c0,c1,t31,wrap_succ' hlt (show min l.length 4+1 < 1000000000 by omega)]
      refine ih _ _ _ _ (by omega) ⟨i+1,rfl,hlt,hW2,by omega,hg2,u1,hpr,?_,?_,?_,?_,?_⟩
      all_goals (simp only [go_sem,t0,t1,t2,t30,t31])
   · obtain rfl:i=min l.length 4+1:=by omega
     rw [Nat.sub_self] at hpr
     simp only [go_sem,t30,t31,dec_ge' hlt]
     rw [hpr]
     exact ⟨rfl,hT1,hn1,hg1,hW⟩
 all_goals first | (simp only [go_sem]; done) | (simp only [go_sem]; rfl)
end
end Go.Am
namespace Go.Am
open Go Go.Proofs
variable {fz:Nat→Md}
theorem SlV.idxI {σ:St} {a:A} {l:List Int} (h:SlV 1 σ a (intsD l)) {i:Nat} (hi:i < l.length) :
 ∃ p R,indexK σ 1 a (.d (.int .i64 (i:Int)))=.val p σ [] R∧∃ R',loadK σ (some { kind:=TK.int IntKind.i64,size:=1,bytes:=8,zero:=some [A.d (D.int IntKind.i64 0)],zval:=A.d (D.int IntKind.i64 0) }) p=.val (.d (.int .i64 l[i])) σ [] R':=by
 have hx:(intsD l)[i]?=some [.int .i64 l[i]]:=by simp [intsD,hi]
 obtain ⟨p,R,h1,h2⟩:=h.idx .i64 i _ hx
 obtain ⟨R',h3⟩:=h2 (TK.int IntKind.i64) 8 (some [A.d (D.int IntKind.i64 0)]) (A.d (D.int IntKind.i64 0))
 exact ⟨p,R,h1,R',h3⟩
theorem SlV.lenI {σ:St} {a:A} {l:List Int} (h:SlV 1 σ a (intsD l)):sliceLen σ a=some l.length:=by rw [h.len,intsD_len]
set_option maxHeartbeats 4000000 in
theorem has_c (h22:fz 22=.cut) {σ:St} {a:A} {l:List Int} (h:SlV 1 σ a (intsD l)) (hl:l.length < 1000000000) (n:Int):CallsTo (XX fz) (.func 22 []) [a,.d (.int .i64 n)] σ (.d (.bool (decide (n ∈ l)))) σ []:=by
 refine CallsTo.cut0 h22 fn22 (by simp) rfl ?_
 simp only [Try.f22,Option.getD_some]
 have hlen:=h.lenI
 simp only [go_sem]
 refine Ev.loop_ind (fun m tm τ W => ∃ (i:Nat),m=l.length - i∧i≤l.length∧W=[]∧τ=σ∧n ∉ l.take i∧tm.at 0=a∧tm.at 1=.d (.int .i64 n)∧tm.at 5=.d (.int .i64 (i:Int))) ?_ l.length _ _ _ ⟨0,rfl,Nat.zero_le _,rfl,rfl,by simp,?_,?_,?_⟩
 · rintro m tm τ W ⟨i,rfl,hi,rfl,rfl,hno,t0,t1,t5⟩ ih
   by_cases hlt:i < l.length
   · obtain ⟨p,R,hix,R',hld⟩:=h.idxI hlt
     have htk:l.take (i+1)=l.take i ++ [l[i]]:=by simp
     by_cases he:l[i]=n
     · have c:(l[i] == n)=true:=by simpa using he
       have hmem:decide (n ∈ l)=true:=by simp; rw [← he]; exact List.getElem_mem hlt
       simp only [go_sem,t0,t1,t5,hlen,dec_lt' hlt,hix,hld,c,hmem]
     · have c:(l[i] == n)=false:=by simpa using he
       simp only [go_sem,t0,t1,t5,hlen,dec_lt' hlt,hix,hld,c,wrap_succ' hlt hl]
       refine ih _ _ _ _ (by omega) ⟨i+1,rfl,hlt,rfl,rfl,?_,?_,?_,?_⟩
       · rw [htk,List.mem_append]
         rintro (q | q)
         · exact hno q
         · simp at q; exact he q.symm
       all_goals (simp only [go_sem,t0,t1,t5])
   · obtain rfl:i=l.length:=by omega
     rw [List.take_length] at hno
     have hmem:decide (n ∈ l)=false:=by simpa using hno
     simp only [go_sem,t0,t1,t5,hlen,dec_ge' hlt,hmem]
 all_goals first | (simp only [go_sem]; done) | (simp only [go_sem]; rfl)
set_option maxHeartbeats 4000000 in
theorem eqInts_c (h18:fz 18=.cut) {σ:St} {a b:A} {l:List Int} (h:SlV 1 σ a (intsD l)) (hb:SlV 1 σ b (intsD l)) (hl:l.length < 1000000000):CallsTo (XX fz) (.func 18 []) [a,b] σ (.d (.bool true)) σ []:=by
 refine CallsTo.cut0 h18 fn18 (by simp) rfl ?_
 simp only [Try.f18,Option.getD_some]
 have hlen:=h.lenI
 have hlenb:=hb.lenI
 have cl:((l.length:Int) != (l.length:Int))=false:=by simp
 simp only [go_sem,hlen,hlenb,cl]
 refine Ev.loop_ind (fun m tm τ W => ∃ (i:Nat),m=l.length - i∧i≤l.length∧W=[]∧τ=σ∧tm.at 0=a∧tm.at 1=b∧tm.at 5=.d (.int .i64 (i:Int))) ?_ l.length _ _ _ ⟨0,rfl,Nat.zero_le _,rfl,rfl,?_,?_,?_⟩
 · rintro m tm τ W ⟨i,rfl,hi,rfl,rfl,t0,t1,t5⟩ ih
   by_cases hlt:i < l.length
   · obtain ⟨p,R,hix,R',hld⟩:=h.idxI hlt
     obtain ⟨p2,R2,hix2,R2',hld2⟩:=hb.idxI hlt
     have c:(l[i] != l[i])=false:=by simp
     simp only [go_sem,t0,t1,t5,hlen,dec_lt' hlt,hix,hld,hix2,hld2,c]
     refine ⟨drawOk_rel [] [] rfl (by kernel_rfl) rfl (by simp),?_⟩
     simp only [go_sem,t5,wrap_succ' hlt hl]
     refine ih _ _ _ _ (by omega) ⟨i+1,rfl,hlt,rfl,rfl,?_,?_,?_⟩
     all_goals (simp only [go_sem,t0,t1,t5])
   · obtain rfl:i=l.length:=by omega
     simp only [go_sem,t0,t1,t5,hlen,dec_ge' hlt]
 all_goals first | (simp only [go_sem]; done) | (simp only [go_sem]; rfl)
section
variable {lo kt km:Nat} {ra ba rea:A} {tb:List Nat} {tok:A} {g:Gr} {l:List Int} {bh:Nat→List Nat} {rch:Nat→Bool}
theorem TbK.kml {lo kt km:Nat} {ra ba rea:A} {tb:List Nat} {R:Nat} {N:Nv} {X:Nx} {bh:Nat→List Nat} {rch:Nat→Bool} {σ:St} (h:TbK lo kt km ra ba rea tb R N X bh rch σ):lo≤km∧km < σ.n:=⟨h.t.km.1,h.t.km.2.1⟩
set_option maxRecDepth 8000 in
set_option maxHeartbeats 16000000 in
theorem waysL_c (h31:fz 31=.keep) (h18:fz 18=.cut) (h14:fz 14=.keep) (h39:fz 39=.cut) (h40:fz 40=.keep) (h71:fz 71=.cut) (h106:fz 106=.keep) (h107:fz 107=.keep) (h120:fz 120=.keep) (h119:fz 119=.keep) (h108:fz 108=.keep)
 (hs:SmallG g) (hc:checkP g=0) (hL:l.length≤4) (hb:∀ n,∀ s ∈ bh n,s < (newN g).N.es.length) (hbl:∀ n,(bh n).length < 100000000) {s:Nat} (hsN:s < (newN g).N.es.length) {kq:Nat} (σ:St) (hT:TbK lo kt km ra ba rea tb g.rules.length (newN g).N (newX g) bh rch σ) (htok:TokA (kq :: tb) σ tok l) (hkq:kq < σ.n∧kq≠km) {kw:Nat} {want:A} {ws:List Int} (hwt:TokA [kw] σ want ws) (hkw:kw < σ.n∧kw≠km) (hws:natsI (waysP l (newN g).N (newX g) bh rch s)=ws) (hwl:ws.length < 1000000) :
 ∃ σ' W,CallsTo (XX fz) (.func 31 []) [.ptr kt 0,.d (.int .i64 (s:Int)),tok,want] σ (.d (.bool true)) σ' W∧TbK lo kt km ra ba rea tb g.rules.length (newN g).N (newX g) bh rch σ'∧σ.n≤σ'.n∧(∀ k,k < σ.n→k≠km→σ'.get k=σ.get k)∧∀ k ∈ W,k=km∨σ.n≤k:=by
 refine CallsTo.keepE h31 fn31 (by simp) ?_
 simp only [Try.f31,Option.getD_some]
 obtain ⟨a,σ',W,hcw,bs,u1,u2,u3,u4,u5,u6⟩:=waysM_c h14 h39 h40 h71 h106 h107 h120 h119 h108 hs hc hL hb hbl hsN σ hT htok hkq
 rw [hws] at u2
 have hwt2:=hwt.stay (τ:=σ') u4 fun k hk => by simp at hk; subst hk; exact u5 _ hkw.1 hkw.2
 have hq:=eqInts_c h18 (u2.1.sl (by omega)) (hwt2.sl _ (Nat.le_refl _) fun _ _ => rfl) (by omega)
 have c0:((0:Int) == 0)=true:=rfl
 simp only [go_sem]
 refine ⟨_,_,_,hcw,?_⟩
 simp only [go_sem,c0]
 refine ⟨_,_,_,hq,?_⟩
 exact ⟨rfl,u1,u4,u5,fun k hk => by
  rcases List.mem_append.1 hk with q | q
  · exact u6 k (mem_low.1 q).1
  · cases q⟩
set_option maxRecDepth 8000 in
set_option maxHeartbeats 16000000 in
theorem sure_c (h32:fz 32=.keep) (h16:fz 16=.keep) (h39:fz 39=.cut) (h40:fz 40=.keep) (h71:fz 71=.cut) (h106:fz 106=.keep) (h107:fz 107=.keep) (h120:fz 120=.keep) (h119:fz 119=.keep) (h108:fz 108=.keep)
 (hs:SmallG g) (hc:checkP g=0) (hL:l.length < 1000000000) (hb:∀ n,∀ s ∈ bh n,s < (newN g).N.es.length) (hbl:∀ n,(bh n).length < 100000000) {s:Nat} (hsN:s < (newN g).N.es.length) {kq:Nat} (σ:St) (hT:TbK lo kt km ra ba rea tb g.rules.length (newN g).N (newX g) bh rch σ) (htok:TokA (kq :: tb) σ tok l) (hcut:TkCut fz (kq :: tb) σ tok l) (hkq:kq < σ.n∧kq≠km) {w:Int} {n:Nat} (hpr:prU (fun l => waysP l (newN g).N (newX g) bh rch s) l (min l.length 4+1) 0=(w,n,true)) :
 ∃ σ' W,CallsTo (XX fz) (.func 32 []) [.ptr kt 0,.d (.int .i64 (s:Int)),tok,.d (.int .i64 w),.d (.int .i64 (n:Int))] σ (.d (.bool true)) σ' W∧TbK lo kt km ra ba rea tb g.rules.length (newN g).N (newX g) bh rch σ'∧σ.n≤σ'.n∧(∀ k,k < σ.n→k≠km→σ'.get k=σ.get k)∧∀ k ∈ W,k=km∨σ.n≤k:=by
 refine CallsTo.keepE h32 fn32 (by simp) ?_
 simp only [Try.f32,Option.getD_some]
 obtain ⟨σ',W,hcw,u1,u4,u5,u6⟩:=predM_c h16 h39 h40 h71 h106 h107 h120 h119 h108 hs hc hL hb hbl hsN σ hT htok hcut hkq
 rw [hpr] at hcw
 have c0:((0:Int) == 0)=true:=rfl
 have c1:(w == w)=true:=by simp
 have c2:((n:Int) == (n:Int))=true:=by simp
 simp only [go_sem]
 refine ⟨_,_,_,hcw,?_⟩
 simp only [go_sem,c0,c1,c2]
 exact ⟨u1,u4,u5,fun k hk => u6 k (mem_low.1 hk).1⟩
end
end Go.Am

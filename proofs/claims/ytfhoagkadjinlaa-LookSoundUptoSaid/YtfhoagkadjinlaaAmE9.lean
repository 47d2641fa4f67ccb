/- Part E9 of a proof that runs a program's calls on a small machine whose values bear no addresses: no conditions. -/
import Derived.Test.YtfhoagkadjinlaaAmE7
set_option autoImplicit false
set_option linter.unusedSimpArgs false
set_option linter.unusedVariables false
set_option linter.unusedSectionVars false
namespace Go.Am
open Go Go.Proofs
variable {fz:Nat→Md}
theorem CallsTo.cutP {X:X} {f:Nat} {cap args:List A} {F:AFn} {σ:St} {P:A→Prop} (hz:X.fz f=.cut) (hF:X.fn f=some F) (hl:args.length+cap.length≤F.nt)
 (e:Ev X f F.nt none σ.n [.code F.body] (initTm (args ++ cap) 0 .nil) σ [] (RetQ X F.results fun a _ W1 => W1=[]∧a.under σ.n=true∧P a)):∃ a,CallsTo X (.func f cap) args σ a σ []∧P a:=by
 obtain ⟨n,o,hn,hq⟩:=e
 cases o with
 | leave _ _ _ => exact hq.elim
 | ret tm σ1 W1 =>
  unfold RetQ at hq
  dsimp only at hq
  split at hq
  · rename_i l hl'
    obtain ⟨rfl,hr,h6⟩:=hq
    exact ⟨_,CallsTo.ofQ hF hl ⟨n,_,hn,by unfold RetQ; dsimp only; rw [hl']; simp [leaveCall,hz,hr,cutSt]⟩,h6⟩
  · exact hq.elim
structure AwS (b kt km:Nat) (ra ba rea:A) (tb:List Nat) (R:Nat) (tok:A) (l:List Int) (N:Nv) (X:Nx) (bh:Nat→List Nat) (rch:Nat→Bool) (e:Eg) (all:Bool) (M:MpA) (mb:List Nat) (τ:St):Prop where
 n:b+4≤τ.n
 g0:τ.get b=.cells [.ptr kt 0]
 g1:τ.get (b+1)=.cells [.d (.int .i64 e.kind),.d (.int .i64 e.num),.d (.int .i64 (e.to:Int))]
 run:RunL (b+3) (b+2) kt tok all M τ
 memo:MemoL R l N X M all mb τ
 tab:TabS kt km ra ba rea (b :: tb) R N X bh rch τ
 tk:TokA (b :: tb) τ tok l
 mbn:∀ k ∈ mb,k < τ.n∧b+4≤k
theorem AwS.push {b kt km:Nat} {ra ba rea:A} {tb:List Nat} {R:Nat} {tok:A} {l:List Int} {N:Nv} {X:Nx} {bh:Nat→List Nat} {rch:Nat→Bool} {e:Eg} {all:Bool} {M:MpA} {mb:List Nat} {τ:St} (h:AwS b kt km ra ba rea tb R tok l N X bh rch e all M mb τ) (cs:List A):AwS b kt km ra ba rea tb R tok l N X bh rch e all M mb (τ.push (.cells cs)):=by
 have hn:=h.n
 have g:∀ k,k < τ.n→(τ.push (.cells cs)).get k=τ.get k:=fun k hk => St.get_push_ne hk
 have pn:(τ.push (.cells cs)).n=τ.n+1:=St.n_push _ _
 exact ⟨by omega,(g _ (by omega)).trans h.g0,(g _ (by omega)).trans h.g1,h.run.stay (g _ (by omega)) (g _ (by omega)),h.memo.stay (by omega) (fun k hk => g k (h.mbn k hk).1) (fun _ h => h) id,h.tab.stay (by omega) fun k hk => g k (h.tab.lt k hk),h.tk.stay (by omega) fun k hk => g k (h.tab.lt k hk),fun k hk => by have:=h.mbn k hk; exact ⟨by omega,this.2⟩⟩
theorem AwS.app {b kt km:Nat} {ra ba rea:A} {tb:List Nat} {R:Nat} {tok:A} {l:List Int} {N:Nv} {X:Nx} {bh:Nat→List Nat} {rch:Nat→Bool} {e:Eg} {all:Bool} {M:MpA} {mb:List Nat} {τ τ':St} (h:AwS b kt km ra ba rea tb R tok l N X bh rch e all M mb τ) (hn:τ.n≤τ'.n) {ob:List Nat} (hob:∀ k ∈ ob,b+4≤k∧k ∉ mb∧k ∉ b :: tb) (hg:∀ k,k < τ.n→k ∉ ob→τ'.get k=τ.get k):AwS b kt km ra ba rea tb R tok l N X bh rch e all M mb τ':=by
 have hn1:=h.n
 have g:∀ k,k < b+4→τ'.get k=τ.get k:=fun k hk => hg k (by omega) fun q => by have:=(hob k q).1; omega
 exact ⟨by omega,(g _ (by omega)).trans h.g0,(g _ (by omega)).trans h.g1,h.run.stay (g _ (by omega)) (g _ (by omega)),h.memo.stay (by omega) (fun k hk => hg k (h.mbn k hk).1 fun q => (hob k q).2.1 hk) (fun _ h => h) id,h.tab.stay (by omega) fun k hk => hg k (h.tab.lt k hk) fun q => (hob k q).2.2 hk,h.tk.stay (by omega) fun k hk => hg k (h.tab.lt k hk) fun q => (hob k q).2.2 hk,fun k hk => by have:=h.mbn k hk; exact ⟨by omega,this.2⟩⟩
set_option maxHeartbeats 16000000 in
theorem allows_c (h71:fz 71=.cut) (h106:fz 106=.keep) (h107:fz 107=.keep) (h120:fz 120=.keep) (h119:fz 119=.keep) (h108:fz 108=.keep) {kt km:Nat} {ra ba rea:A} {tb:List Nat} {tok:A} {g:Gr} {l:List Int} {bh:Nat→List Nat} {rch:Nat→Bool}
 (hs:SmallG g) (hc:checkP g=0) (hL:l.length≤1000) (hb:∀ n,∀ s ∈ bh n,s < (newN g).N.es.length) (hbl:∀ n,(bh n).length < 100000000) {s:Nat} {r:List Eg} (hget:(newN g).N.es[s]?=some r) {e:Eg} (hem:e ∈ r) (σ:St) (htab:TabS kt km ra ba rea tb g.rules.length (newN g).N (newX g) bh rch σ) (htok:TokA tb σ tok l) :
 ∃ b:Bool,CallsTo (XX fz) (.func 71 []) [.ptr kt 0,.agg [.d (.int .i64 e.kind),.d (.int .i64 e.num),.d (.int .i64 (e.to:Int))],tok] σ (.d (.bool b)) σ []∧(b=true ↔ AlwP l (newN g).N (newX g) bh e):=by
 have h:=GOk.of hc
 have hN:=newN_G h
 have hF:=newN_fits h
 obtain ⟨k1,k2,k3,k4,k5,k6⟩:=hN.ed s _ hget _ hem
 have key:=CallsTo.cutP (X:=XX fz) (f:=71) (cap:=[]) (args:=[.ptr kt 0,.agg [.d (.int .i64 e.kind),.d (.int .i64 e.num),.d (.int .i64 (e.to:Int))],tok]) (σ:=σ) (P:=fun a => ∃ b:Bool,a=.d (.bool b)∧(b=true ↔ AlwP l (newN g).N (newX g) bh e)) h71 fn71 (by simp) ?_
 · obtain ⟨a,c,b,rfl,hh⟩:=key
   exact ⟨b,c,hh⟩
 have hcall:∀ (n p:Nat),n < g.rules.length→p≤l.length→CallSpecL (σ.n+3) (σ.n+2) kt km ra ba rea (σ.n :: tb) g.rules.length tok l (newN g).N (newX g) bh rch fz n p:=fun n p hn hp => callL_all h106 h107 h120 h119 hs hc hL _ n p hn hp (Nat.lt_succ_self _)
 have htl:∀ k ∈ tb,k < σ.n:=htab.lt
 have tc1:=htok.cell
 have tc2:=htok.cells
 simp only [Try.f71,Option.getD_some]
 simp only [go_sem,tc1,tc2]
 have hg0:∀ k,k < σ.n→((((σ.push (.cells [.ptr kt 0])).push (.cells [.d (.int .i64 e.kind),.d (.int .i64 e.num),.d (.int .i64 (e.to:Int))])).push (.map [])).push (.cells [.ptr kt 0,tok,.d (.bool false),.map (σ.n+2)])).get k=σ.get k:=fun k hk => by
  rw [St.get_push_ne (by simp only [St.n_push]; omega),St.get_push_ne (by simp only [St.n_push]; omega),St.get_push_ne (by simp only [St.n_push]; omega),St.get_push_ne hk]
 have hS0:AwS σ.n kt km ra ba rea tb g.rules.length tok l (newN g).N (newX g) bh rch e false [] [] ((((σ.push (.cells [.ptr kt 0])).push (.cells [.d (.int .i64 e.kind),.d (.int .i64 e.num),.d (.int .i64 (e.to:Int))])).push (.map [])).push (.cells [.ptr kt 0,tok,.d (.bool false),.map (σ.n+2)])) :=
  ⟨by simp only [St.n_push]; omega,by rw [St.get_push_ne (by simp only [St.n_push]; omega),St.get_push_ne (by simp only [St.n_push]; omega),St.get_push_ne (by simp only [St.n_push]; omega),St.get_push_eq],by rw [St.get_push_ne (by simp only [St.n_push]; omega),St.get_push_ne (by simp only [St.n_push]; omega),St.get_push_eq' (by simp only [St.n_push])],
   ⟨St.get_push_eq' (by simp only [St.n_push]),by rw [St.get_push_ne (by simp only [St.n_push]; omega),St.get_push_eq' (by simp only [St.n_push])]; rfl⟩,(fun x v hx => by cases hx),(htab.stay (by simp only [St.n_push]; omega) fun k hk => hg0 k (htl k hk)).more (by simp only [St.n_push]; omega),(htok.stay (by simp only [St.n_push]; omega) fun k hk => hg0 k (htl k hk)).more σ.n,fun k hk => by cases hk⟩
 generalize ((((σ.push (.cells [.ptr kt 0])).push (.cells [.d (.int .i64 e.kind),.d (.int .i64 e.num),.d (.int .i64 (e.to:Int))])).push (.map [])).push (.cells [.ptr kt 0,tok,.d (.bool false),.map (σ.n+2)]))=τ0 at hS0
 have he0:=hS0.g1
 have hlen:=hS0.tk.len
 refine Ev.mid (fun tm' τ' W' => ∃ (fa:A) (xs:List (Nat × Nat)) (all:Bool) (M:MpA) (mb:List Nat),AwS σ.n kt km ra ba rea tb g.rules.length tok l (newN g).N (newX g) bh rch e all M mb τ'∧W'=[]∧StA [] τ' fa xs∧(∀ x ∈ xs,x.1 < (newN g).N.es.length∧x.2≤l.length)∧xs.length < 100000000 ∧
  ((all=true∨LkP l (newN g).N (newX g) (lvB bh) xs l.length) ↔ AlwP l (newN g).N (newX g) bh e)∧tm'.at 7=.ptr (σ.n+3) 0∧tm'.at 8=fa∧tm'.at 3=.ptr σ.n 0) ?_ ?_
 · intro K hK
   have hlit:∀ (q:Nat),StA [] (τ0.push (.cells [.d (.int .i64 (e.to:Int)),.d (.int .i64 (q:Int))])) (.row τ0.n 0 1 2) [(e.to,q)]:=fun q => .inr ⟨τ0.n,rfl,St.get_push_eq,by rw [St.n_push]; omega,by simp⟩
   by_cases h0:e.kind=0
   · have c1:(e.kind == 0)=true:=by rw [h0]; rfl
     simp only [go_sem,c1,he0]
     refine hK _ _ _ ⟨_,[(e.to,0)],false,[],[],hS0.push _,rfl,hlit 0,(fun x hx => by simp at hx; subst hx; exact ⟨k4,Nat.zero_le _⟩),by simp,?_,?_,?_,?_⟩
     · unfold AlwP
       constructor
       · rintro (q | q)
         · cases q
         · exact .inl ⟨h0,q⟩
       · rintro (⟨-,q⟩ | ⟨q,-⟩ | ⟨q,-⟩ | ⟨q,-⟩)
         · exact .inr q
         all_goals omega
     all_goals (simp only [go_sem])
   have c1:(e.kind == 0)=false:=by simpa using h0
   by_cases hl0:l.length=0
   · have c2:((l.length:Int) == 0)=true:=by rw [hl0]; rfl
     simp only [go_sem,c1,he0,hlen,c2]
     exact ⟨rfl,true,rfl,fun _ => .inr (.inl ⟨h0,hl0⟩),fun _ => rfl⟩
   have c2:((l.length:Int) == 0)=false:=by rw [beq_eq_false_iff_ne]; omega
   by_cases h2:e.kind=2
   · have c3:(e.kind == 2)=true:=by rw [h2]; rfl
     have hnn:((e.num.toNat:Nat):Int)=e.num:=Int.toNat_of_nonneg k3
     obtain ⟨js,v,bs,all1,M1,mb1,τ1,T1,hc1,m1,m2,m3,m4,m5,m6,m7,m8,m9,m10,m11,m12⟩:=hcall e.num.toNat 0 (k6 h2) (Nat.zero_le _) τ0 false [] [] hS0.run hS0.memo hS0.tab hS0.tk ⟨by have:=hS0.n; omega,by have:=hS0.n; omega,by omega,fun k hk => by
      have:=hS0.n
      rcases List.mem_cons.1 hk with q | q
      · omega
      · have:=htl k q; omega,fun k hk => by cases hk⟩ (fun k hk => by cases hk)
     rw [hnn] at hc1
     have hn0:=hS0.n
     have hgt1:∀ k ∈ σ.n :: tb,τ1.get k=τ0.get k:=fun k hk => by
      have hk2:=hS0.tab.lt k hk
      rcases List.mem_cons.1 hk with q | q
      · exact m9 k hk2 (by omega) (by omega)
      · have:=htl k q; exact m9 k hk2 (by omega) (by omega)
     have hS1:AwS σ.n kt km ra ba rea tb g.rules.length tok l (newN g).N (newX g) bh rch e all1 M1 mb1 τ1 :=
      ⟨by omega,(m9 _ (by omega) (by omega) (by omega)).trans hS0.g0,(m9 _ (by omega) (by omega) (by omega)).trans hS0.g1,m1,m2,hS0.tab.stay m8 hgt1,hS0.tk.stay m8 hgt1,fun k hk => by
       refine ⟨(m12 k hk).1,?_⟩
       rcases m11 k hk with q | q
       · cases q
       · omega⟩
     have hvl:=m3.1.len
     rw [intsD_len,natsI_len] at hvl
     have hCs:(newN g).N.es.length * (l.length+1) < 100000000:=by
      have:=Nat.mul_le_mul hF.e (show l.length+1≤1001 by omega); omega
     have hjl:=m5.len
     have lT1:low σ.n T1=[]:=low_all fun k hk => by rcases m10 k hk with q | q | q <;> omega
     simp only [go_sem,c1,he0,hlen,c2,c3]
     refine ⟨_,_,_,hc1,?_⟩
     simp only [go_sem,hvl,lT1]
     refine Ev.loop_ind (fun m tm τ W => ∃ (i:Nat) (oa:A) (ob:List Nat),m=js.length - i∧i≤js.length∧W=[]∧AwS σ.n kt km ra ba rea tb g.rules.length tok l (newN g).N (newX g) bh rch e all1 M1 mb1 τ∧RowN 1 τ v (intsD (natsI js)) bs∧RowN 2 τ oa (stD ((js.map fun j => (e.to,j)).take i)) ob∧(∀ k ∈ ob,σ.n+4≤k∧k ∉ mb1∧k ∉ σ.n :: tb) ∧
      tm.at 7=.ptr (σ.n+3) 0∧tm.at 8=oa∧tm.at 3=.ptr σ.n 0∧tm.at 4=.ptr (σ.n+1) 0∧tm.at 35=v∧tm.at 36=.d (.int .i64 (js.length:Int))∧tm.at 37=.d (.int .i64 (i:Int))) ?_ js.length _ _ _ ⟨0,_,[],rfl,Nat.zero_le _,rfl,hS1,m3,RowN.nil,(fun k hk => by cases hk),?_,?_,?_,?_,?_,?_,?_⟩
     · clear m1 m2 m3 hc1 hS1
       rintro m tm τ W ⟨i,oa,ob,rfl,hi,rfl,hS,hv,hro,hob,t7,t8,t3,t4,t35,t36,t37⟩ ih
       by_cases hlt:i < js.length
       · obtain ⟨pv,Rv,hiv,Rv',hlv⟩:=hv.idxI hlt
         have hge:=hS.g1
         have hro1:=hro.stay (τ:=τ.push (.cells [.d (.int .i64 (e.to:Int)),.d (.int .i64 (js[i]:Int))])) (by rw [St.n_push]; omega) fun k hk => St.get_push_ne (hro.1.lt hk)
         have hlen2:((js.map fun j => (e.to,j)).take i).length=i:=by rw [List.length_take,List.length_map]; omega
         obtain ⟨oa',τ2,T,ob',happ,hR,hK2⟩:=hro1.app (b:=16) (x:=.row τ.n 0 1 2) (ys:=[[.int .i64 (e.to:Int),.int .i64 (js[i]:Int)]]) (by rw [sliceCells_row St.get_push_eq (by simp)]; rfl) (by rw [sliceLen_row,St.get_push_eq]; rfl) (by simp) (by rw [stD_len,hlen2]; simp; omega) (by rw [stD_len,hlen2]; simp; omega)
         have hx:stD ((js.map fun j => (e.to,j)).take i) ++ [[D.int .i64 (e.to:Int),.int .i64 (js[i]:Int)]]=stD ((js.map fun j => (e.to,j)).take (i+1)):=by
          rw [List.take_succ_eq_append_getElem (by simpa using hlt),stD_app]; simp [stD]
         rw [hx] at hR
         have hKn:=hK2.n
         rw [St.n_push] at hKn
         have hSn:=hS.n
         have g2:∀ k,k < τ.n→k ∉ ob→τ2.get k=τ.get k:=fun k q1 q2 => by rw [hK2.same k (by rw [St.n_push]; omega) q2,St.get_push_ne q1]
         have lT:low σ.n T=[]:=low_all fun k hk => by
          rcases hK2.w k hk with q | q
          · have:=(hob k q).1; omega
          · rw [St.n_push] at q; omega
         simp only [go_sem,t3,t4,t7,t8,t35,t36,t37,dec_lt' hlt,hiv,hlv,hge,happ,lT,wrap_succ' hlt (show js.length < 1000000000 by omega)]
         refine ih _ _ _ _ (by omega) ⟨i+1,oa',ob',rfl,hlt,rfl,hS.app (by omega) hob g2,hv.stay (by omega) fun k hk => g2 k (hv.1.lt hk) fun q => (hob k q).2.1 (m4 k hk),hR,fun k hk => ?_,?_,?_,?_,?_,?_,?_,?_⟩
         · rcases hK2.o k hk with q | q
           · exact hob k q
           · rw [St.n_push] at q
             exact ⟨by omega,fun q2 => by have:=(hS.mbn k q2).1; omega,fun q2 => by have:=hS.tab.lt k q2; omega⟩
         all_goals (simp only [go_sem,t3,t4,t7,t35,t36])
       · obtain rfl:i=js.length:=by omega
         rw [List.take_of_length_le (by simp)] at hro
         simp only [go_sem,t35,t36,t37,dec_ge' hlt]
         refine hK _ _ _ ⟨oa,js.map fun j => (e.to,j),all1,M1,mb1,hS,rfl,hro.stA,fun x hx => ?_,by rw [List.length_map]; omega,?_,?_,?_,?_⟩
         · obtain ⟨j,hj,rfl⟩:=List.mem_map.1 hx
           exact ⟨k4,((m5.mem j).1 hj).len (Nat.zero_le _)⟩
         · unfold AlwP
           constructor
           · rintro (q | q)
             · rcases m7 q with q | q
               · cases q
               · exact .inr (.inr (.inl ⟨h2,.inl q⟩))
             · obtain ⟨x,hx,q⟩:=q.one
               obtain ⟨j,hj,rfl⟩:=List.mem_map.1 hx
               exact .inr (.inr (.inl ⟨h2,.inr ⟨j,(m5.mem j).1 hj,q⟩⟩))
           · rintro (⟨q,-⟩ | ⟨-,q⟩ | ⟨-,q⟩ | ⟨-,q,-⟩)
             · exact absurd q h0
             · exact absurd q hl0
             · rcases q with q | ⟨k,q1,q2⟩
               · exact .inl (m5.all q)
               · exact .inr (q2.more fun x hx => by simp at hx; subst hx; exact List.mem_map.2 ⟨k,(m5.mem k).2 q1,rfl⟩)
             · exact absurd h2 q
         all_goals (simp only [go_sem,t3,t7,t8])
     all_goals first | (simp only [go_sem]; done) | (simp only [go_sem]; rfl)
   have c3:(e.kind == 2)=false:=by simpa using h2
   have hlp:0 < l.length:=by omega
   obtain ⟨pt,Rt,in0,Rt',ldt⟩:=hS0.tk.idx hlp
   have i00:D.int IntKind.i64 ((0:Nat):Int)=D.int IntKind.i64 0:=rfl
   rw [i00] at in0
   have hl00:l[0]?=some l[0]:=List.getElem?_eq_getElem hlp
   by_cases hq:l[0]=e.num
   · have c4:(l[0] == e.num)=true:=by simpa using hq
     simp only [go_sem,c1,he0,hlen,c2,c3,in0,ldt,c4]
     refine ⟨drawOk_rel [] [] rfl (by kernel_rfl) rfl (by simp),?_⟩
     refine hK _ _ _ ⟨_,[(e.to,1)],false,[],[],hS0.push _,rfl,hlit 1,(fun x hx => by simp at hx; subst hx; exact ⟨k4,hlp⟩),by simp,?_,?_,?_,?_⟩
     · unfold AlwP
       constructor
       · rintro (q | q)
         · cases q
         · exact .inr (.inr (.inr ⟨h0,h2,by rw [hl00,hq],q⟩))
       · rintro (⟨q,-⟩ | ⟨-,q⟩ | ⟨q,-⟩ | ⟨-,-,-,q⟩)
         · exact absurd q h0
         · exact absurd q hl0
         · exact absurd q h2
         · exact .inr q
     all_goals (simp only [go_sem])
   · have c4:(l[0] == e.num)=false:=by simpa using hq
     simp only [go_sem,c1,he0,hlen,c2,c3,in0,ldt,c4]
     refine ⟨drawOk_rel [] [] rfl (by kernel_rfl) rfl (by simp),?_⟩
     refine hK _ _ _ ⟨.d (.slc true []),[],false,[],[],hS0,rfl,.inl ⟨true,rfl⟩,(fun x hx => by cases hx),by simp,?_,?_,?_,?_⟩
     · unfold AlwP
       constructor
       · rintro (q | q)
         · cases q
         · obtain ⟨x,hx,-⟩:=q.one; cases hx
       · rintro (⟨q,-⟩ | ⟨-,q⟩ | ⟨q,-⟩ | ⟨-,-,q,-⟩)
         · exact absurd q h0
         · exact absurd q hl0
         · exact absurd q h2
         · rw [hl00] at q; exact absurd (by simpa using q) hq
     all_goals (simp only [go_sem])
 · clear hS0 he0 hg0
   rintro tm τ W ⟨fa,xs,all,M,mb,hS,rfl,hfa,hxs,hxl,hiff,t7,t8,t3⟩
   have hSn:=hS.n
   obtain ⟨σ2,W2,hc2,S,all',M',mb',ks,lks,hA,hxS,hfin⟩:=alongL_c (bh:=bh) (rch:=rch) (km:=km) (lv:=lvB bh) (I:=BehI σ.n kt km ra ba rea (σ.n :: tb) g.rules.length (newN g).N (newX g) bh rch) (fl:=108) (cap:=[.ptr σ.n 0]) h107 h120 hN hF hL (σ:=τ) (all0:=all) (M0:=M) (mb0:=mb) (lk0:=[]) (outs0:=[]) (tb:=σ.n :: tb)
    ⟨by omega,by omega,by omega,fun k hk => by
     rcases List.mem_cons.1 hk with q | q
     · omega
     · have:=htl k q; omega,fun k hk => by cases hk⟩ (behI_ok h108 hb hbl) hfa hxs hxl hS.run hS.memo hS.tab hS.tk ⟨rfl,hS.g0,by simp,hS.tab⟩ (by simp) (fun k hk => by have:=hS.mbn k hk; exact ⟨by omega,by omega,by omega,by simp⟩)
    (fun s q r _ h2 h3 e h4 h5 => hcall _ _ ((hN.ed _ _ h3 _ h4).2.2.2.2.2 h5) h2)
   obtain ⟨f1,f2⟩:=fnD_all hxS hfin
   have hkr:=hA.run.cell
   have lW:low σ.n W2=[]:=low_all fun k hk => by
    rcases hA.w k hk with q | q | q
    · omega
    · omega
    · cases q
   simp only [go_sem,t3,t7,t8]
   refine ⟨_,_,_,hc2,?_⟩
   simp only [go_sem,t7,hkr,lW]
   exact ⟨rfl,all',rfl,by rw [← hiff]; exact ⟨hA.allo,fun q => q.elim hA.allm f2⟩⟩
end Go.Am
namespace Go.Am
open Go Go.Proofs
variable {fz:Nat→Md}
inductive RcP (N:Nv) (a:Nat):Nat→Prop
 | refl:RcP N a a
 | step {m:Nat} {t:Nat} {r:List Eg} {e:Eg}:RcP N a m→N.es[t]?=some r→(N.rule t).toNat=m→e ∈ r→e.kind=2→RcP N a e.num.toNat
theorem RcP.trans {N:Nv} {a b c:Nat} (h:RcP N a b) (k:RcP N b c):RcP N a c:=by
 induction k with
 | refl => exact h
 | step _ h1 h2 h3 h4 ih => exact .step ih h1 h2 h3 h4
def BhP (N:Nv) (A:Nat→Bool) (m s:Nat):Prop:=∃ t r e,N.es[t]?=some r∧e ∈ r∧e.kind=2∧e.num.toNat=m∧e.to=s∧A (N.rule t).toNat=true
def unr (R:Nat) (A:Nat→Bool):Nat:=((List.range R).filter fun m => !A m).length
theorem unr_mono {R:Nat} {A A':Nat→Bool} (h:∀ m,A m=true→A' m=true):unr R A'≤unr R A:=by
 unfold unr
 refine (List.nodup_range.sublist List.filter_sublist).length_le_of_subset fun m hm => ?_
 rw [List.mem_filter] at hm ⊢
 refine ⟨hm.1,?_⟩
 cases hA:A m with
 | false => rfl
 | true => rw [h m hA] at hm; simp at hm
theorem unr_set {R n:Nat} {A:Nat→Bool} (hn:n < R) (h:A n=false):unr R (fun m => if m=n then true else A m)+1≤unr R A:=by
 unfold unr
 have h1:((List.range R).filter fun m => !(if m=n then true else A m)) ++ [n] ⊆ (List.range R).filter fun m => !A m:=by
  intro m hm
  rw [List.mem_append] at hm
  rw [List.mem_filter]
  rcases hm with hm | hm
  · rw [List.mem_filter] at hm
    refine ⟨hm.1,?_⟩
    by_cases q:m=n
    · rw [if_pos q] at hm; simp at hm
    · rw [if_neg q] at hm; exact hm.2
  · simp at hm; subst hm; exact ⟨by simpa using hn,by rw [h]; rfl⟩
 have h2:(((List.range R).filter fun m => !(if m=n then true else A m)) ++ [n]).Nodup:=by
  rw [List.nodup_append]
  refine ⟨List.nodup_range.sublist List.filter_sublist,by simp,fun x hx y hy e => ?_⟩
  simp at hy; subst hy; subst e
  rw [List.mem_filter] at hx
  simp at hx
 have:=h2.length_le_of_subset h1
 simpa using this
def DnR (N:Nv) (m:Nat) (A:Nat→Bool) (B:Nat→List Nat):Prop:=∀ t r e,N.es[t]?=some r→(N.rule t).toNat=m→e ∈ r→e.kind=2→A e.num.toNat=true∧e.to ∈ B e.num.toNat
theorem DnR.mono {N:Nv} {m:Nat} {A A':Nat→Bool} {B B':Nat→List Nat} (h:DnR N m A B) (hA:∀ m,A m=true→A' m=true) (hB:∀ m s,s ∈ B m→s ∈ B' m):DnR N m A' B':=fun t r e h1 h2 h3 h4 => by
 obtain ⟨q1,q2⟩:=h t r e h1 h2 h3 h4
 exact ⟨hA _ q1,hB _ _ q2⟩
structure ReR (N:Nv) (R n:Nat) (A:Nat→Bool) (B:Nat→List Nat) (A':Nat→Bool) (B':Nat→List Nat):Prop where
 mono:∀ m,A m=true→A' m=true
 at_:A' n=true
 snd:∀ m,A' m=true→A m=true∨RcP N n m
 bm:∀ m s,s ∈ B m→s ∈ B' m
 bs:∀ m s,s ∈ B' m→s ∈ B m∨BhP N A' m s
 done:∀ m,A' m=true→A m=false→DnR N m A' B'
 len:∀ m,(B' m).length+N.es.length * unr R A'≤(B m).length+N.es.length * unr R A
structure ReS (lo k7 k6 k11 kt km kb kc:Nat) (ra:A) (R:Nat) (N:Nv) (X:Nx) (Ac:Nat→Bool) (Bc:Nat→List Nat) (bl:Nat→List Nat) (σ:St):Prop where
 ids:lo≤k7∧lo≤k6∧lo≤k11∧lo≤kt∧lo≤km∧lo≤kb∧lo≤kc
 lt:k7 < σ.n∧k6 < σ.n∧k11 < σ.n∧kt < σ.n∧km < σ.n∧kb < σ.n∧kc < σ.n
 ne:kb≠k7∧kb≠k6∧kb≠k11∧kb≠kt∧kb≠km∧kb≠kc∧kc≠k7∧kc≠k6∧kc≠k11∧kc≠kt∧kc≠km
 c7:σ.get k7=.cells [.ptr kt 0]
 c6:σ.get k6=.cells [.d N.esD,.d (slD X.en),.d (slD X.lv)]
 c11:σ.get k11=.cells [.func 36 [.ptr k7 0,.ptr k6 0,.ptr k11 0]]
 ct:σ.get kt=.cells [.d N.esD,.d (slD X.en),.d (slD X.lv),ra,.row kb 0 R 1,.row kc 0 R 1,.map km]
 cm:σ.get km=.map []
 rules:∃ br,RowAt 1 σ ra (intsD N.rs) br∧∀ k ∈ br,lo≤k∧k≠kb∧k≠kc∧∀ n,k ∉ bl n
 behind:∃ cs:List A,σ.get kb=.cells cs∧cs.length=R∧∀ n,n < R→∃ v,cs[n]?=some v∧RowN 1 σ v (intsD (natsI (Bc n))) (bl n)
 bln:∀ n,∀ k ∈ bl n,lo≤k∧k < σ.n∧k≠k7∧k≠k6∧k≠k11∧k≠kt∧k≠km∧k≠kb∧k≠kc
 bld:∀ n m,n≠m→∀ k ∈ bl n,k ∉ bl m
 reached:σ.get kc=.cells ((List.range R).map fun n => A.d (.bool (Ac n)))
theorem ReS.stay {lo k7 k6 k11 kt km kb kc:Nat} {ra:A} {R:Nat} {N:Nv} {X:Nx} {Ac:Nat→Bool} {Bc:Nat→List Nat} {bl:Nat→List Nat} {σ τ:St} (h:ReS lo k7 k6 k11 kt km kb kc ra R N X Ac Bc bl σ) (hn:σ.n≤τ.n) (hg:∀ k,k < σ.n→τ.get k=σ.get k):ReS lo k7 k6 k11 kt km kb kc ra R N X Ac Bc bl τ:=by
 obtain ⟨i1,i2,i3,i4,i5,i6,i7⟩:=h.ids
 obtain ⟨l1,l2,l3,l4,l5,l6,l7⟩:=h.lt
 obtain ⟨br,hr1,hr2⟩:=h.rules
 obtain ⟨cs,hb1,hb2,hb3⟩:=h.behind
 refine ⟨h.ids,by omega,h.ne,(hg _ l1).trans h.c7,(hg _ l2).trans h.c6,(hg _ l3).trans h.c11,(hg _ l4).trans h.ct,(hg _ l5).trans h.cm,⟨br,hr1.stay hn fun k hk => hg k (hr1.lt hk),hr2⟩,⟨cs,(hg _ l6).trans hb1,hb2,fun n hn' => ?_⟩,fun n k hk => ?_,h.bld,(hg _ l7).trans h.reached⟩
 · obtain ⟨v,q1,q2⟩:=hb3 n hn'
   exact ⟨v,q1,q2.stay hn fun k hk => hg k (q2.1.lt hk)⟩
 · obtain ⟨q1,q2,q3⟩:=h.bln n k hk
   exact ⟨q1,by omega,q3⟩
end Go.Am

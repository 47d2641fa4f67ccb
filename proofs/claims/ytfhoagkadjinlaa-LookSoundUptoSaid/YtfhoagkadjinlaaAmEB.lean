/- Part EB of a proof that runs a program's calls on a small machine whose values bear no addresses: no conditions. -/
import Derived.Test.YtfhoagkadjinlaaAmE9
set_option autoImplicit false
set_option linter.unusedSimpArgs false
set_option linter.unusedVariables false
set_option linter.unusedSectionVars false
namespace Go.Am
open Go Go.Proofs
variable {fz:Nat→Md}
structure ReI (N:Nv) (R n t j:Nat) (Ac:Nat→Bool) (Bc:Nat→List Nat) (A1:Nat→Bool) (B1:Nat→List Nat):Prop where
 mono:∀ m,Ac m=true→A1 m=true
 at_:A1 n=true
 snd:∀ m,A1 m=true→Ac m=true∨RcP N n m
 bm:∀ m s,s ∈ Bc m→s ∈ B1 m
 bs:∀ m s,s ∈ B1 m→s ∈ Bc m∨BhP N A1 m s
 done:∀ m,A1 m=true→Ac m=false→m≠n→DnR N m A1 B1
 part:∀ t',t' < t→∀ r e,N.es[t']?=some r→(N.rule t').toNat=n→e ∈ r→e.kind=2→A1 e.num.toNat=true∧e.to ∈ B1 e.num.toNat
 len:∀ m,(B1 m).length+N.es.length * unr R A1+N.es.length≤(Bc m).length+N.es.length * unr R Ac+t+min j 1
theorem ReI.next {N:Nv} {R n t:Nat} {Ac:Nat→Bool} {Bc:Nat→List Nat} {A1:Nat→Bool} {B1:Nat→List Nat} {j:Nat} (h:ReI N R n t j Ac Bc A1 B1) {r:List Eg} (hr:N.es[t]?=some r) (hp:(N.rule t).toNat=n→∀ e ∈ r,e.kind=2→A1 e.num.toNat=true∧e.to ∈ B1 e.num.toNat):ReI N R n (t+1) 0 Ac Bc A1 B1 :=
 { h with
   part:=fun t' ht r' e hr' hn he hk => by
    rcases Nat.lt_or_ge t' t with q | q
    · exact h.part t' q r' e hr' hn he hk
    · obtain rfl:t'=t:=by omega
      rw [hr] at hr'; cases hr'
      exact hp hn e he hk
   len:=fun m => by have:=h.len m; omega }
set_option maxHeartbeats 32000000 in
theorem reachN_c (h36:fz 36=.keep) {lo k7 k6 k11 kt km kb kc:Nat} {ra:A} {R:Nat} {N:Nv} {X:Nx} (hN:NetG N X R) (hF:N.Fits 10000) :
 ∀ (u n:Nat) (Ac:Nat→Bool) (Bc bl:Nat→List Nat) (σ:St),n < R→ReS lo k7 k6 k11 kt km kb kc ra R N X Ac Bc bl σ→unr R Ac≤u→(∀ m,(Bc m).length+N.es.length * unr R Ac≤500000000) →
 ∃ (σ':St) (W:List Nat),CallsTo (XX fz) (.func 36 [.ptr k7 0,.ptr k6 0,.ptr k11 0]) [.d (.int .i64 (n:Int))] σ (.tup []) σ' W∧∃ (A1:Nat→Bool) (B1 bl1:Nat→List Nat),ReS lo k7 k6 k11 kt km kb kc ra R N X A1 B1 bl1 σ'∧ReR N R n Ac Bc A1 B1∧σ.n≤σ'.n∧(∀ k,k < lo→σ'.get k=σ.get k)∧∀ k ∈ W,lo≤k:=by
 intro u
 induction u with
 | zero =>
  intro n Ac Bc bl σ hn hS hu hB
  cases hA:Ac n with
  | false => have:=unr_set hn hA; omega
  | true =>
   refine CallsTo.keepE h36 fn36 (by simp) ?_
   simp only [Try.f36,Option.getD_some]
   have ixc:∀ ρ:St,indexR ρ 1 kc 0 R 1 (n:Int) (.cells ((List.range R).map fun n => A.d (.bool (Ac n))))=.val (.ptr kc (0+n * 1)) ρ [] [kc]:=fun ρ => indexR_nat hn
   simp only [Nat.zero_add,Nat.mul_one] at ixc
   have hcn:((List.range R).map fun n => A.d (.bool (Ac n)))[n]?=some (.d (.bool true)):=by simp [hn,hA]
   simp only [go_sem,hS.c7,hS.ct,hS.reached,ixc,hcn]
   exact ⟨Ac,Bc,bl,hS,⟨fun _ h => h,hA,fun _ h => .inl h,fun _ _ h => h,fun _ _ h => .inl h,(fun m h1 h2 => by rw [h1] at h2; cases h2),fun _ => Nat.le_refl _⟩,fun _ _ => trivial,fun k hk => by cases hk⟩
 | succ u ihu =>
  intro n Ac Bc bl σ hn hS hu hB
  have ixc:∀ ρ:St,indexR ρ 1 kc 0 R 1 (n:Int) (.cells ((List.range R).map fun n => A.d (.bool (Ac n))))=.val (.ptr kc (0+n * 1)) ρ [] [kc]:=fun ρ => indexR_nat hn
  simp only [Nat.zero_add,Nat.mul_one] at ixc
  refine CallsTo.keepE h36 fn36 (by simp) ?_
  simp only [Try.f36,Option.getD_some]
  cases hA:Ac n with
  | true =>
   have hcn:((List.range R).map fun n => A.d (.bool (Ac n)))[n]?=some (.d (.bool true)):=by simp [hn,hA]
   simp only [go_sem,hS.c7,hS.ct,hS.reached,ixc,hcn]
   exact ⟨Ac,Bc,bl,hS,⟨fun _ h => h,hA,fun _ h => .inl h,fun _ _ h => h,fun _ _ h => .inl h,(fun m h1 h2 => by rw [h1] at h2; cases h2),fun _ => Nat.le_refl _⟩,fun _ _ => trivial,fun k hk => by cases hk⟩
  | false =>
   have hcn:((List.range R).map fun n => A.d (.bool (Ac n)))[n]?=some (.d (.bool false)):=by simp [hn,hA]
   obtain ⟨i1,i2,i3,i4,i5,i6,i7⟩:=hS.ids
   obtain ⟨l1,l2,l3,l4,l5,l6,l7⟩:=hS.lt
   obtain ⟨e1,e2,e3,e4,e5,e6,e7,e8,e9,e10,e11⟩:=hS.ne
   have hlenc:n < ((List.range R).map fun n => A.d (.bool (Ac n))).length:=by simpa using hn
   have e7':=e7.symm
   have e8':=e8.symm
   have e9':=e9.symm
   have e10':=e10.symm
   simp only [go_sem,hS.c7,hS.c6,hS.ct,hS.reached,ixc,hcn,hlenc,e8']
   have hel:=hF.e
   have g1:∀ k,k≠kc→(σ.set kc (.cells (((List.range R).map fun n => A.d (.bool (Ac n))).set n (A.d (.bool true))))).get k=σ.get k:=fun k hk => St.get_set_ne hk
   have hset:(((List.range R).map fun n => A.d (.bool (Ac n))).set n (A.d (.bool true)))=(List.range R).map fun m => A.d (.bool (if m=n then true else Ac m)):=by
    refine List.ext_getElem (by simp) fun i h1 h2 => ?_
    rw [List.getElem_set]
    simp only [List.getElem_map,List.getElem_range]
    by_cases q:n=i
    · rw [if_pos q,if_pos q.symm]
    · rw [if_neg q,if_neg (fun e => q e.symm)]
   have hS1:ReS lo k7 k6 k11 kt km kb kc ra R N X (fun m => if m=n then true else Ac m) Bc bl (σ.set kc (.cells (((List.range R).map fun n => A.d (.bool (Ac n))).set n (A.d (.bool true))))):=by
    obtain ⟨br,hr1,hr2⟩:=hS.rules
    obtain ⟨cs,hb1,hb2,hb3⟩:=hS.behind
    exact ⟨hS.ids,by rw [St.n_set]; exact hS.lt,hS.ne,(g1 _ e7').trans hS.c7,(g1 _ e8').trans hS.c6,(g1 _ e9').trans hS.c11,(g1 _ e10').trans hS.ct,(g1 _ e11.symm).trans hS.cm,⟨br,hr1.stay (by rw [St.n_set]; exact Nat.le_refl _) fun k hk => g1 k (hr2 k hk).2.2.1,hr2⟩,
     ⟨cs,(g1 _ e6).trans hb1,hb2,fun m hm => by
      obtain ⟨v,q1,q2⟩:=hb3 m hm
      exact ⟨v,q1,q2.stay (by rw [St.n_set]; exact Nat.le_refl _) fun k hk => g1 k (hS.bln m k hk).2.2.2.2.2.2.2.2⟩⟩,fun m k hk => by rw [St.n_set]; exact hS.bln m k hk,hS.bld,by rw [St.get_set_eq,hset]⟩
   have hlo1:∀ k,k < lo→(σ.set kc (.cells (((List.range R).map fun n => A.d (.bool (Ac n))).set n (A.d (.bool true))))).get k=σ.get k:=fun k hk => g1 k (by omega)
   have hn1:σ.n≤(σ.set kc (.cells (((List.range R).map fun n => A.d (.bool (Ac n))).set n (A.d (.bool true))))).n:=by rw [St.n_set]; exact Nat.le_refl _
   generalize (σ.set kc (.cells (((List.range R).map fun n => A.d (.bool (Ac n))).set n (A.d (.bool true)))))=σ1 at hS1 hlo1 hn1
   have hI0:ReI N R n 0 0 Ac Bc (fun m => if m=n then true else Ac m) Bc:=by
    refine ⟨fun m hm => ?_,?_,fun m hm => ?_,fun _ _ h => h,fun _ _ h => .inl h,fun m h1 h2 h3 => ?_,(fun t' ht => absurd ht (Nat.not_lt_zero _)),fun m => ?_⟩
    · show (if m=n then true else Ac m)=true
      split
      · rfl
      · exact hm
    · simp
    · have hm:(if m=n then true else Ac m)=true:=hm
      split at hm
      · rename_i q; subst q; exact .inr .refl
      · exact .inl hm
    · have h1:(if m=n then true else Ac m)=true:=h1
      rw [if_neg h3,h2] at h1; cases h1
    · have h1:=unr_set hn hA
      have h2:=Nat.mul_le_mul_left N.es.length h1
      rw [Nat.mul_add,Nat.mul_one] at h2
      omega
   have hlenes:∀ ρ:St,sliceLen ρ (.d N.esD)=some N.es.length:=fun ρ => len_es
   simp only [go_sem,hS1.c6,hlenes]
   refine Ev.loop_ind (fun m tm τ W => ∃ (t:Nat) (A1:Nat→Bool) (B1 bl1:Nat→List Nat),m=N.es.length - t∧t≤N.es.length∧ReS lo k7 k6 k11 kt km kb kc ra R N X A1 B1 bl1 τ∧ReI N R n t 0 Ac Bc A1 B1∧σ.n≤τ.n∧(∀ k,k < lo→τ.get k=σ.get k)∧(∀ k ∈ W,lo≤k) ∧
    tm.at 0=.d (.int .i64 (n:Int))∧tm.at 1=.ptr k7 0∧tm.at 2=.ptr k6 0∧tm.at 3=.ptr k11 0∧tm.at 23=.d N.esD∧tm.at 24=.d (.int .i64 (N.es.length:Int))∧tm.at 25=.d (.int .i64 (t:Int))) ?_ N.es.length _ _ _ ⟨0,_,Bc,bl,rfl,Nat.zero_le _,hS1,hI0,hn1,hlo1,fun k hk => by have:=(mem_low.1 hk).1; simp at this; omega,?_,?_,?_,?_,?_,?_,?_⟩
   · clear hS1 hI0 hlo1 hn1
     rintro m tm τ W ⟨t,A1,B1,bl1,rfl,ht,hS,hI,hnτ,hlo,hW,t0,t1,t2,t3,t23,t24,t25⟩ ih
     by_cases hlt:t < N.es.length
     · have hget:N.es[t]?=some N.es[t]:=by simp [hlt]
       have hrl:=hF.l _ (List.getElem_mem hlt)
       have hone:=hN.one t _ hget
       have hed:=hN.ed t _ hget
       generalize N.es[t]=r at hget hrl hone hed
       have ies:=fun (ρ:St) => index_es (σ:=ρ) (kd:=.i64) hget
       simp only [go_sem,t0,t1,t2,t3,t23,t24,t25,dec_lt' hlt,ies,len_rw]
       refine Ev.loop_ind (fun m2 tm τ W => ∃ (j:Nat) (A2:Nat→Bool) (B2 bl2:Nat→List Nat),m2=r.length - j∧j≤r.length∧ReS lo k7 k6 k11 kt km kb kc ra R N X A2 B2 bl2 τ∧ReI N R n t j Ac Bc A2 B2∧((N.rule t).toNat=n→∀ e ∈ r.take j,e.kind=2→A2 e.num.toNat=true∧e.to ∈ B2 e.num.toNat)∧σ.n≤τ.n∧(∀ k,k < lo→τ.get k=σ.get k)∧(∀ k ∈ W,lo≤k) ∧
        tm.at 0=.d (.int .i64 (n:Int))∧tm.at 1=.ptr k7 0∧tm.at 2=.ptr k6 0∧tm.at 3=.ptr k11 0∧tm.at 23=.d N.esD∧tm.at 24=.d (.int .i64 (N.es.length:Int))∧tm.at 25=.d (.int .i64 (t:Int))∧tm.at 5=.d (.int .i64 (t:Int))∧tm.at 30=.d (rowD r)∧tm.at 31=.d (.int .i64 (r.length:Int))∧tm.at 32=.d (.int .i64 (j:Int))) ?_ r.length _ _ _ ⟨0,A1,B1,bl1,rfl,Nat.zero_le _,hS,hI,(fun _ e he => by simp at he),hnτ,hlo,hW,?_,?_,?_,?_,?_,?_,?_,?_,?_,?_,?_⟩
       · clear hS hI hnτ hlo hW t0 t1 t2 t3 t23 t24 t25
         rintro m2 tm τ2 W2 ⟨j,A2,B2,bl2,rfl,hj,hS,hI,hpt,hnτ,hlo,hW,t0,t1,t2,t3,t23,t24,t25,t5,t30,t31,t32⟩ ih2
         by_cases hlj:j < r.length
         · have hge:r[j]?=some r[j]:=by simp [hlj]
           have hem:=List.getElem_mem hlj
           have htk:r.take (j+1)=r.take j ++ [r[j]]:=by simp
           generalize r[j]=e at hge hem htk
           obtain ⟨d1,d2,d3,d4,d5,d6⟩:=hed e hem
           have irw:=fun (ρ:St) => index_rw (σ:=ρ) (kd:=.i64) hge
           have w1:=wrap_succ' hlj (show r.length < 1000000000 by omega)
           have hgx:∀ k,k < τ2.n→((τ2.push (.cells [.d (.int .i64 0),.d (.int .i64 0),.d (.int .i64 0)])).set τ2.n (.cells [.d (.int .i64 e.kind),.d (.int .i64 e.num),.d (.int .i64 (e.to:Int))])).get k=τ2.get k:=fun k hk => by
            rw [St.get_set_ne (by omega),St.get_push_ne hk]
           have hec:((τ2.push (.cells [.d (.int .i64 0),.d (.int .i64 0),.d (.int .i64 0)])).set τ2.n (.cells [.d (.int .i64 e.kind),.d (.int .i64 e.num),.d (.int .i64 (e.to:Int))])).get τ2.n=.cells [.d (.int .i64 e.kind),.d (.int .i64 e.num),.d (.int .i64 (e.to:Int))]:=St.get_set_eq
           have hnx:((τ2.push (.cells [.d (.int .i64 0),.d (.int .i64 0),.d (.int .i64 0)])).set τ2.n (.cells [.d (.int .i64 e.kind),.d (.int .i64 e.num),.d (.int .i64 (e.to:Int))])).n=τ2.n+1:=by simp only [St.n_set,St.n_push]
           have lz:low σ.n [τ2.n]=[]:=by rw [low_cons_ge (by omega)]; rfl
           obtain ⟨y1,y2,y3,y4,y5,y6,y7⟩:=hS.lt
           simp only [go_sem,t0,t1,t2,t3,t23,t24,t25,t5,t30,t31,t32,dec_lt' hlj,irw,Eg.D_c,lz]
           have hS3:=hS.stay (τ:=((τ2.push (.cells [.d (.int .i64 0),.d (.int .i64 0),.d (.int .i64 0)])).set τ2.n (.cells [.d (.int .i64 e.kind),.d (.int .i64 e.num),.d (.int .i64 (e.to:Int))]))) (by omega) hgx
           generalize ((τ2.push (.cells [.d (.int .i64 0),.d (.int .i64 0),.d (.int .i64 0)])).set τ2.n (.cells [.d (.int .i64 e.kind),.d (.int .i64 e.num),.d (.int .i64 (e.to:Int))]))=τ3 at hgx hec hnx hS3
           have hc7:=hS.c7
           have n7:k7≠τ2.n:=by omega
           have hlo3:∀ k,k < lo→τ3.get k=σ.get k:=fun k hk => (hgx k (by omega)).trans (hlo k hk)
           obtain ⟨br,hrw,hrn⟩:=hS3.rules
           have hts:t < N.rs.length:=by rw [hN.rl]; exact hlt
           obtain ⟨pr,Rr,hixr,Rr',hldr⟩:=hrw.idxI hts
           have hrs:N.rs[t]=(((N.rule t).toNat:Nat):Int):=by
            have h1:N.rule t=N.rs[t]:=by unfold Nv.rule; rw [List.getD_eq_getElem?_getD,List.getElem?_eq_getElem hts]; rfl
            rw [← h1]; exact (Int.toNat_of_nonneg (hN.rr t hlt).1).symm
           rw [hrs] at hldr
           have hskip:∀ (h:¬ ((N.rule t).toNat=n∧e.kind=2)),ReI N R n t (j+1) Ac Bc A2 B2∧((N.rule t).toNat=n→∀ e ∈ r.take (j+1),e.kind=2→A2 e.num.toNat=true∧e.to ∈ B2 e.num.toNat):=fun h =>
            ⟨{ hI with len:=fun m => by have:=hI.len m; omega },fun hn' e' he' hk => by
             rw [htk,List.mem_append] at he'
             rcases he' with q | q
             · exact hpt hn' e' q hk
             · simp at q; subst q; exact absurd ⟨hn',hk⟩ h⟩
           by_cases hrn':(N.rule t).toNat=n
           · have c1:((((N.rule t).toNat:Nat):Int) == (n:Int))=true:=by rw [beq_iff_eq]; omega
             by_cases hk2:e.kind=2
             · have c2:(e.kind == 2)=true:=by rw [hk2]; rfl
               have hnum:=d6 hk2
               have hnn:((e.num.toNat:Nat):Int)=e.num:=Int.toNat_of_nonneg d3
               have hj0:j=0:=by
                rcases hone with q | q
                · omega
                · have:=q e hem; omega
               obtain ⟨cs,hb1,hb2,hb3⟩:=hS3.behind
               obtain ⟨v,hv1,hv2⟩:=hb3 _ hnum
               have ixb:∀ ρ:St,indexR ρ 1 kb 0 R 1 e.num (.cells cs)=.val (.ptr kb (0+e.num.toNat * 1)) ρ [] [kb]:=fun ρ => by rw [← hnn]; exact indexR_nat hnum
               simp only [Nat.zero_add,Nat.mul_one] at ixb
               have hBl:(B2 e.num.toNat).length < 600000000:=by
                have h1:=hI.len e.num.toNat
                have h2:=hB e.num.toNat
                omega
               have hv3:=hv2.stay (τ:=τ3.push (.cells [.d (.int .i64 (e.to:Int))])) (by rw [St.n_push]; omega) fun k hk => St.get_push_ne (hv2.1.lt hk)
               obtain ⟨v',τ4,T,blv,happ,hR4,hK⟩:=hv3.app (b:=8) (x:=.row τ3.n 0 1 1) (ys:=[[.int .i64 (e.to:Int)]]) (by rw [sliceCells_row St.get_push_eq (by simp)]; rfl) (by rw [sliceLen_row,St.get_push_eq]; rfl) (by simp) (by rw [intsD_len,natsI_len]; simp; omega) (by rw [intsD_len,natsI_len]; simp; omega)
               have hx4:intsD (natsI (B2 e.num.toNat)) ++ [[D.int .i64 (e.to:Int)]]=intsD (natsI (B2 e.num.toNat ++ [e.to])):=by simp [intsD,natsI]
               rw [hx4] at hR4
               have hKn:=hK.n
               rw [St.n_push] at hKn
               have hbln:=hS3.bln e.num.toNat
               have g4:∀ k,k < τ3.n→k ∉ bl2 e.num.toNat→τ4.get k=τ3.get k:=fun k q1 q2 => by rw [hK.same k (by rw [St.n_push]; omega) q2,St.get_push_ne q1]
               obtain ⟨z1,z2,z3,z4,z5,z6,z7⟩:=hS3.lt
               have gkb:=(g4 kb z6 fun q => (hbln _ q).2.2.2.2.2.2.2.1 rfl).trans hb1
               have gk7:=(g4 k7 z1 fun q => (hbln _ q).2.2.1 rfl).trans hS3.c7
               have gk11:=(g4 k11 z3 fun q => (hbln _ q).2.2.2.2.1 rfl).trans hS3.c11
               have gkt:=(g4 kt z4 fun q => (hbln _ q).2.2.2.2.2.1 rfl).trans hS3.ct
               have nxl:τ2.n ∉ bl2 e.num.toNat:=fun q => by have:=(hS.bln _ _ q).2.1; omega
               have gx4:=(g4 τ2.n (by omega) nxl).trans hec
               have b1:=hR4.1.cell
               have b2:=hR4.1.cells
               have hbl4:∀ k ∈ blv,k ∈ bl2 e.num.toNat∨τ3.n≤k:=fun k hk => by
                rcases hK.o k hk with q | q
                · exact .inl q
                · rw [St.n_push] at q; exact .inr (by omega)
               have m1:k7≠τ3.n:=by omega
               have m2:kt≠τ3.n:=by omega
               have m3:kb≠τ3.n:=by omega
               have m4:τ2.n≠τ3.n:=by omega
               have hncs:e.num.toNat < cs.length:=by omega
               have mkb:τ2.n≠kb:=by omega
               have mk11:k11≠kb:=e3.symm
               simp only [go_sem,t0,t1,t5,n7,hc7,hS3.c7,hS3.ct,hixr,hldr,c1,c2,hec,hb1,ixb,hv1,happ,b1,b2,gkb,hncs,m1,m2,m3,m4]
               have hTn:∀ k ∈ T,k≠k7∧k≠kt∧k≠τ2.n∧lo≤k:=fun k hk => by
                rcases hK.w k hk with q | q
                · obtain ⟨q1,q2,q3,q4,q5,q6,q7⟩:=hbln k q
                  exact ⟨q3,q6,fun e => nxl (e ▸ q),q1⟩
                · rw [St.n_push] at q; exact ⟨by omega,by omega,by omega,by omega⟩
               refine ⟨drawOk_rel [17,19] [(17,0),(17,1),(17,2),(17,3),(17,4),(17,5)] rfl (by kernel_rfl) rfl (by simp [meets]; exact ⟨fun k hk => (hTn k hk).1,fun k hk => (hTn k hk).2.1,fun k hk => (hTn k hk).2.2.1⟩),?_⟩
               have g5:∀ k,k≠kb→(τ4.set kb (.cells (cs.set e.num.toNat v'))).get k=τ4.get k:=fun k hk => St.get_set_ne hk
               have p5:(τ4.set kb (.cells (cs.set e.num.toNat v'))).n=τ4.n:=St.n_set _ _ _
               have g45:∀ k,k < τ3.n→k≠kb→k ∉ bl2 e.num.toNat→(τ4.set kb (.cells (cs.set e.num.toNat v'))).get k=τ3.get k:=fun k q1 q2 q3 => (g5 k q2).trans (g4 k q1 q3)
               have hblv:∀ k ∈ blv,lo≤k∧k < τ4.n∧k≠k7∧k≠k6∧k≠k11∧k≠kt∧k≠km∧k≠kb∧k≠kc:=fun k hk => by
                have hlt4:=hR4.1.lt hk
                rcases hbl4 k hk with q | q
                · obtain ⟨q1,q2,q3⟩:=hbln k q; exact ⟨q1,hlt4,q3⟩
                · exact ⟨by omega,hlt4,by omega,by omega,by omega,by omega,by omega,by omega,by omega⟩
               have hS5:ReS lo k7 k6 k11 kt km kb kc ra R N X A2 (fun m => if m=e.num.toNat then B2 m ++ [e.to] else B2 m) (fun m => if m=e.num.toNat then blv else bl2 m) (τ4.set kb (.cells (cs.set e.num.toNat v'))):=by
                obtain ⟨u1,u2,u3,u4,u5,u6,u7,u8,u9,u10,u11⟩:=hS3.ne
                refine ⟨hS3.ids,by rw [p5]; omega,hS3.ne,(g5 _ u1.symm).trans gk7,(g45 _ z2 u2.symm fun q => (hbln _ q).2.2.2.1 rfl).trans hS3.c6,(g5 _ u3.symm).trans gk11,(g5 _ u4.symm).trans gkt,(g45 _ z5 u5.symm fun q => (hbln _ q).2.2.2.2.2.2.1 rfl).trans hS3.cm,
                 ⟨br,hrw.stay (by rw [p5]; omega) fun k hk => g45 k (hrw.lt hk) (hrn k hk).2.1 ((hrn k hk).2.2.2 _),fun k hk => ?_⟩,⟨_,St.get_set_eq,by rw [List.length_set]; exact hb2,fun m hm => ?_⟩,fun m k hk => ?_,fun m m' hmm k hk => ?_,(g45 _ z7 u6.symm fun q => (hbln _ q).2.2.2.2.2.2.2.2 rfl).trans hS3.reached⟩
                · obtain ⟨q1,q2,q3,q4⟩:=hrn k hk
                  refine ⟨q1,q2,q3,fun m => ?_⟩
                  try dsimp only
                  split
                  · intro q
                    rcases hbl4 k q with q | q
                    · exact q4 _ q
                    · have:=hrw.lt hk; omega
                  · exact q4 m
                · by_cases q:m=e.num.toNat
                  · subst q
                    refine ⟨v',by rw [List.getElem?_set_self (by omega)],?_⟩
                    try dsimp only
                    rw [if_pos rfl,if_pos rfl]
                    exact hR4.stay (by rw [p5]; exact Nat.le_refl _) fun k hk => g5 k (hblv k hk).2.2.2.2.2.2.2.1
                  · obtain ⟨w,w1,w2⟩:=hb3 m hm
                    refine ⟨w,by rw [List.getElem?_set_ne (fun e => q e.symm)]; exact w1,?_⟩
                    try dsimp only
                    rw [if_neg q,if_neg q]
                    exact w2.stay (by rw [p5]; omega) fun k hk => g45 k (w2.1.lt hk) (hS3.bln m k hk).2.2.2.2.2.2.2.1 fun q' => hS3.bld m _ q k hk q'
                · try dsimp only at hk
                  rw [p5]
                  split at hk
                  · exact hblv k hk
                  · obtain ⟨q1,q2,q3⟩:=hS3.bln m k hk; exact ⟨q1,by omega,q3⟩
                · try dsimp only at hk ⊢
                  split at hk
                  · rename_i q
                    rw [if_neg (fun e => hmm (by omega))]
                    intro q'
                    rcases hbl4 k hk with q2 | q2
                    · exact hS3.bld _ _ (fun e => hmm (by omega)) k q2 q'
                    · have:=(hS3.bln _ k q').2.1; omega
                  · rename_i q
                    split
                    · intro q'
                      rcases hbl4 k q' with q2 | q2
                      · exact hS3.bld _ _ q k hk q2
                      · have:=(hS3.bln _ k hk).2.1; omega
                    · exact hS3.bld _ _ hmm k hk
               have gx5:(τ4.set kb (.cells (cs.set e.num.toNat v'))).get τ2.n=_:=(g5 _ mkb).trans gx4
               have glo5:∀ k,k < lo→(τ4.set kb (.cells (cs.set e.num.toNat v'))).get k=σ.get k:=fun k hk => by
                obtain ⟨i1,i2,i3,i4,i5,i6,i7⟩:=hS3.ids
                rw [g45 k (by omega) (by omega) (fun q => by have:=(hbln _ q).1; omega)]; exact hlo3 k hk
               have hσ5:σ.n≤(τ4.set kb (.cells (cs.set e.num.toNat v'))).n:=by rw [p5]; omega
               generalize (τ4.set kb (.cells (cs.set e.num.toNat v')))=τ5 at hS5 gx5 glo5 hσ5
               have hunr:unr R A2≤u:=by
                have h1:=unr_mono (R:=R) (A:=fun m => if m=n then true else Ac m) (A':=A2) (fun m hm => by
                 try dsimp only at hm
                 split at hm
                 · rename_i q; rw [q]; exact hI.at_
                 · exact hI.mono m hm)
                have h2:=unr_set hn hA
                omega
               obtain ⟨τ6,W6,hc6,A3,B3,bl3,hS6,hR6,hn6,hlo6,hW6⟩:=ihu e.num.toNat A2 _ _ τ5 hnum hS5 hunr (fun m => by
                have h1:=hI.len m
                have h2:=hB m
                try dsimp only
                split
                · rw [List.length_append,List.length_singleton]; omega
                · omega)
               rw [hnn] at hc6
               have hReach:RcP N n e.num.toNat:=.step .refl hget hrn' hem hk2
               have hbm':∀ m s,s ∈ B2 m→s ∈ B3 m:=fun m s h => hR6.bm m s (by split; exact List.mem_append_left _ h; exact h)
               have hto:e.to ∈ B3 e.num.toNat:=hR6.bm _ _ (by rw [if_pos rfl]; simp)
               have hI3:ReI N R n t (j+1) Ac Bc A3 B3:=by
                refine ⟨fun m hm => hR6.mono m (hI.mono m hm),hR6.mono n hI.at_,fun m hm => ?_,fun m s h => hbm' m s (hI.bm m s h),fun m s h => ?_,fun m h1 h2 h3 => ?_,fun t' ht' r' e' hr' hn' he' hk' => ?_,fun m => ?_⟩
                · rcases hR6.snd m hm with q | q
                  · exact hI.snd m q
                  · exact .inr (hReach.trans q)
                · rcases hR6.bs m s h with q | q
                  · try dsimp only at q
                    split at q
                    · rename_i qm
                      rcases List.mem_append.1 q with q | q
                      · rcases hI.bs m s q with q | ⟨t',r',e',a1,a2,a3,a4,a5,a6⟩
                        · exact .inl q
                        · exact .inr ⟨t',r',e',a1,a2,a3,a4,a5,hR6.mono _ a6⟩
                      · simp at q
                        exact .inr ⟨t,r,e,hget,hem,hk2,qm.symm,q.symm,hR6.mono _ (by rw [hrn']; exact hI.at_)⟩
                    · rcases hI.bs m s q with q | ⟨t',r',e',a1,a2,a3,a4,a5,a6⟩
                      · exact .inl q
                      · exact .inr ⟨t',r',e',a1,a2,a3,a4,a5,hR6.mono _ a6⟩
                  · exact .inr q
                · by_cases q:A2 m=true
                  · exact (hI.done m q h2 h3).mono hR6.mono hbm'
                  · exact hR6.done m h1 (by simpa using q)
                · obtain ⟨q1,q2⟩:=hI.part t' ht' r' e' hr' hn' he' hk'
                  exact ⟨hR6.mono _ q1,hbm' _ _ q2⟩
                · have h1:=hI.len m
                  have h2:=hR6.len m
                  try dsimp only at h2
                  split at h2
                  · rw [List.length_append,List.length_singleton] at h2; omega
                  · omega
               have hp3:(N.rule t).toNat=n→∀ e ∈ r.take (j+1),e.kind=2→A3 e.num.toNat=true∧e.to ∈ B3 e.num.toNat:=fun hn' e' he' hk' => by
                rw [htk,List.mem_append] at he'
                rcases he' with q | q
                · obtain ⟨q1,q2⟩:=hpt hn' e' q hk'
                  exact ⟨hR6.mono _ q1,hbm' _ _ q2⟩
                · simp at q; subst q; exact ⟨hR6.at_,hto⟩
               simp only [go_sem,t3,hS5.c11,gx5]
               refine ⟨_,_,_,hc6,?_⟩
               simp only [go_sem,t32,w1]
               refine ih2 _ _ _ _ (by omega) ⟨j+1,A3,B3,bl3,rfl,hlj,hS6,hI3,hp3,by omega,fun k hk => (hlo6 k hk).trans (glo5 k hk),fun k hk => ?_,?_,?_,?_,?_,?_,?_,?_,?_,?_,?_,?_⟩
               · simp only [List.mem_append,mem_low,List.mem_singleton] at hk
                 rcases hk with ((hk | ⟨hk,-⟩) | ⟨hk,-⟩) | ⟨hk,-⟩
                 · exact hW k hk
                 · exact (hTn k hk).2.2.2
                 · rw [hk]; exact hS3.ids.2.2.2.2.2.1
                 · exact hW6 k hk
               all_goals (simp only [go_sem,t0,t1,t2,t3,t23,t24,t25,t5,t30,t31])
             · have c2:(e.kind == 2)=false:=by simpa using hk2
               obtain ⟨hI',hpt'⟩:=hskip (fun q => hk2 q.2)
               simp only [go_sem,t0,t5,n7,hc7,hS3.c7,hS3.ct,hixr,hldr,c1,c2,hec,t32,w1]
               refine ih2 _ _ _ _ (by omega) ⟨j+1,A2,B2,bl2,rfl,hlj,hS3,hI',hpt',by omega,hlo3,hW,?_,?_,?_,?_,?_,?_,?_,?_,?_,?_,?_⟩
               all_goals (simp only [go_sem,t0,t1,t2,t3,t23,t24,t25,t5,t30,t31])
           · have c1:((((N.rule t).toNat:Nat):Int) == (n:Int))=false:=by rw [beq_eq_false_iff_ne]; omega
             obtain ⟨hI',hpt'⟩:=hskip (fun q => hrn' q.1)
             simp only [go_sem,t0,t5,n7,hc7,hS3.c7,hS3.ct,hixr,hldr,c1,t32,w1]
             refine ih2 _ _ _ _ (by omega) ⟨j+1,A2,B2,bl2,rfl,hlj,hS3,hI',hpt',by omega,hlo3,hW,?_,?_,?_,?_,?_,?_,?_,?_,?_,?_,?_⟩
             all_goals (simp only [go_sem,t0,t1,t2,t3,t23,t24,t25,t5,t30,t31])
         · obtain rfl:j=r.length:=by omega
           rw [List.take_length] at hpt
           simp only [go_sem,t25,t30,t31,t32,dec_ge' hlj,wrap_succ' hlt (show N.es.length < 1000000000 by omega)]
           refine ih _ _ _ _ (by omega) ⟨t+1,A2,B2,bl2,rfl,hlt,hS,hI.next hget hpt,hnτ,hlo,hW,?_,?_,?_,?_,?_,?_,?_⟩
           all_goals (simp only [go_sem,t0,t1,t2,t3,t23,t24])
       all_goals first | (simp only [go_sem,t0,t1,t2,t3,t23,t24,t25]; done) | (simp only [go_sem]; rfl)
     · obtain rfl:t=N.es.length:=by omega
       simp only [go_sem,t23,t24,t25,dec_ge' hlt]
       refine ⟨A1,B1,bl1,hS,⟨hI.mono,hI.at_,hI.snd,hI.bm,hI.bs,fun m h1 h2 => ?_,fun m => by have:=hI.len m; omega⟩,hnτ,hlo,hW⟩
       by_cases q:m=n
       · subst q
         exact fun t' r e hr hn' he hk => hI.part t' (List.getElem?_eq_some_iff.1 hr).1 r e hr hn' he hk
       · exact hI.done m h1 h2 q
   all_goals first | (simp only [go_sem]; done) | (simp only [go_sem]; rfl)
end Go.Am
namespace Go.Am
open Go Go.Proofs
variable {fz:Nat→Md}
structure BhOk (N:Nv) (R:Nat) (rch:Nat→Bool) (bh:Nat→List Nat):Prop where
 rch:∀ m,rch m=true ↔ RcP N 0 m
 mem:∀ m s,s ∈ bh m ↔ ∃ t r e,N.es[t]?=some r∧e ∈ r∧e.kind=2∧e.num.toNat=m∧e.to=s∧RcP N 0 (N.rule t).toNat
 len:∀ m,(bh m).length < 100000000
structure TblM (lo kt km:Nat) (ra ba rea:A) (tb:List Nat) (R:Nat) (N:Nv) (X:Nx) (bh:Nat→List Nat) (rch:Nat→Bool) (σ:St):Prop where
 tab:TabS kt km ra ba rea tb R N X bh rch σ
 km:lo≤km∧km < σ.n∧km ∉ tb
 lo:∀ k ∈ tb,lo≤k
theorem rep_one (n:Nat) (x:A):rep n [x]=(List.range n).map fun _ => x:=by
 unfold rep
 induction n with
 | zero => rfl
 | succ n ih => rw [List.range_succ,List.flatMap_append,ih]; simp
theorem RowAt.nmap {es:Nat} {σ:St} {a:A} {xs:List (List D)} {bs:List Nat} (h:RowAt es σ a xs bs) {k:Nat} {m:List (A × A)} (hk:σ.get k=.map m):k ∉ bs:=fun hb => by
 obtain ⟨_,⟨_,_,h⟩ | ⟨q,_,h,_,h3⟩⟩:=h
 · rw [h] at hb; cases hb
 · rw [h3] at hb; simp at hb; subst hb; rw [h] at hk; cases hk
structure NwS (n R:Nat) (N:Nv) (X:Nx) (i:Nat) (ra:A) (br:List Nat) (τ:St):Prop where
 nn:n+7≤τ.n
 g1:τ.get (n+1)=.cells [.d N.esD,.d (slD X.en),.d (slD X.lv)]
 g2:τ.get (n+2)=.cells (rep R [.d (.slc true [])])
 g3:τ.get (n+3)=.cells (rep R [.d (.bool false)])
 g4:τ.get (n+4)=.map []
 g5:τ.get (n+5)=.cells [.d N.esD,.d (slD X.en),.d (slD X.lv),ra,.row (n+2) 0 R 1,.row (n+3) 0 R 1,.map (n+4)]
 g6:τ.get (n+6)=.cells [.ptr (n+5) 0]
 row:RowN 1 τ ra (intsD (N.rs.take i)) br
 br:∀ k ∈ br,n+7≤k
set_option maxHeartbeats 16000000 in
theorem lookNew_c (hnew:∀ (g:Gr) (σ:St),SmallG g→CallsTo (XX fz) (.func 19 []) [g.a] σ (.tup [.d (newV g).1,.d (.int .i64 (newV g).2)]) σ [])
 (h11:fz 11=.keep) (h36:fz 36=.keep) (h46:fz 46=.cut) (h65:fz 65=.ice) (h66:fz 66=.ice) (h34:fz 34=.ice) (h67:fz 67=.cut) (h35:fz 35=.cut) (g:Gr) (hg:SmallG g) (σ:St) :
 ∃ a σ' W,CallsTo (XX fz) (.func 11 []) [g.a] σ a σ' W∧σ.n≤σ'.n∧(∀ k,k < σ.n→σ'.get k=σ.get k)∧(∀ k ∈ W,σ.n≤k) ∧
  ((checkP g≠0∧a=.tup [.d .nptr,.d (.int .i64 (checkP g))])∨(checkP g=0∧∃ kt km ra ba rea tb bh rch,a=.tup [.ptr kt 0,.d (.int .i64 0)]∧TblM σ.n kt km ra ba rea tb g.rules.length (newN g).N (newX g) bh rch σ'∧σ'.get km=.map []∧BhOk (newN g).N g.rules.length rch bh)):=by
 refine CallsTo.keepP h11 fn11 (by simp) ?_
 simp only [Try.f11,Option.getD_some]
 simp only [go_sem,Gr.a]
 refine ⟨_,_,_,hnew g _ hg,?_⟩
 unfold newV
 cases hc:(checkP g != 0) with
 | true =>
  have hc':checkP g≠0:=by simpa using hc
  simp only [go_sem,hc]
  exact ⟨Nat.le_succ _,fun k hk => (if_neg (by omega)),(fun k hk => by cases hk),.inl hc'⟩
 | false =>
 have hc':checkP g=0:=by simpa using hc
 have h:=GOk.of hc'
 have hN:=newN_G h
 have hF:=newN_fits h
 have hne:=newN_ne h
 have hel:=hF.e
 have c0:((0:Int) != 0)=false:=rfl
 have hle:=h.le
 have hnet:=fun (ρ:St) => net_c h46 h65 h66 h34 hne hF (by omega) (show (newX g).en.length < 1000000 by have:=hN.enl; omega) (show (newX g).lv.length < 1000000 by have:=hN.lvl; omega) ρ
 have hrule:=fun (ρ:St) (s:Nat) (hs:s < (newN g).N.es.length) => rule_c h46 h67 h35 (newX g) hne hN.rl ρ s hs
 simp only [go_sem,hc]
 refine ⟨_,_,_,hnet _,?_⟩
 clear hnet
 have hrl:∀ ρ:St,sliceLen ρ g.rd=some g.rules.length:=fun ρ => by simp [Gr.rd,sliceLen]
 have hmk1:=fun σ:St => mksE_nat (σ:=σ) (kd:=.slc 3) (s:=1) (b:=24) (n:=g.rules.length) (z:=[.d (.slc true [])]) (zv:=.d (.slc true [])) ⟨rfl,by omega,by omega,by omega⟩
 have hmk2:=fun σ:St => mksE_nat (σ:=σ) (kd:=.bool) (s:=1) (b:=1) (n:=g.rules.length) (z:=[.d (.bool false)]) (zv:=.d (.bool false)) ⟨rfl,by omega,by omega,by omega⟩
 have n1:σ.n≠σ.n+1:=by omega
 simp only [go_sem,netA,netC3,c0,len_es,Gr.c,hrl,hmk1,hmk2,n1]
 refine ⟨drawOk_rel [13] [] rfl (by kernel_rfl) rfl (by simp),?_⟩
 have hS0:NwS σ.n g.rules.length (newN g).N (newX g) 0 (.d (.slc true [])) [] (((((((((σ.push (.cells [.d (.int .i64 g.tokens),g.rd])).push (.cells [.d (.slc true []),.d (.slc true []),.d (.slc true [])])).set (σ.n+1) (.cells [.d (newN g).N.esD,.d (slD (newX g).en),.d (slD (newX g).lv)])).push (.cells (rep g.rules.length [.d (.slc true [])]))).push (.cells (rep g.rules.length [.d (.bool false)]))).push (.map [])).push (.cells [.d (newN g).N.esD,.d (slD (newX g).en),.d (slD (newX g).lv),.d (.slc true []),.row (σ.n+2) 0 g.rules.length 1,.row (σ.n+3) 0 g.rules.length 1,.map (σ.n+4)])).push (.cells [.d .nptr])).set (σ.n+6) (.cells [.ptr (σ.n+5) 0])):=by
  refine ⟨by simp only [St.n_set,St.n_push]; omega,?_,?_,?_,?_,?_,St.get_set_eq,RowN.nil,fun k hk => by cases hk⟩
  all_goals simp [St.get_set,St.get_push,St.n_set,St.n_push]
 have hg0:∀ k,k < σ.n→(((((((((σ.push (.cells [.d (.int .i64 g.tokens),g.rd])).push (.cells [.d (.slc true []),.d (.slc true []),.d (.slc true [])])).set (σ.n+1) (.cells [.d (newN g).N.esD,.d (slD (newX g).en),.d (slD (newX g).lv)])).push (.cells (rep g.rules.length [.d (.slc true [])]))).push (.cells (rep g.rules.length [.d (.bool false)]))).push (.map [])).push (.cells [.d (newN g).N.esD,.d (slD (newX g).en),.d (slD (newX g).lv),.d (.slc true []),.row (σ.n+2) 0 g.rules.length 1,.row (σ.n+3) 0 g.rules.length 1,.map (σ.n+4)])).push (.cells [.d .nptr])).set (σ.n+6) (.cells [.ptr (σ.n+5) 0])).get k=σ.get k:=fun k hk => by
  simp (disch:=omega) only [St.get_set,St.get_push,St.n_set,St.n_push,if_neg]
 generalize (((((((((σ.push (.cells [.d (.int .i64 g.tokens),g.rd])).push (.cells [.d (.slc true []),.d (.slc true []),.d (.slc true [])])).set (σ.n+1) (.cells [.d (newN g).N.esD,.d (slD (newX g).en),.d (slD (newX g).lv)])).push (.cells (rep g.rules.length [.d (.slc true [])]))).push (.cells (rep g.rules.length [.d (.bool false)]))).push (.map [])).push (.cells [.d (newN g).N.esD,.d (slD (newX g).en),.d (slD (newX g).lv),.d (.slc true []),.row (σ.n+2) 0 g.rules.length 1,.row (σ.n+3) 0 g.rules.length 1,.map (σ.n+4)])).push (.cells [.d .nptr])).set (σ.n+6) (.cells [.ptr (σ.n+5) 0]))=τ0 at hS0 hg0
 refine Ev.loop_ind (fun m tm τ W => ∃ (i:Nat) (ra:A) (br:List Nat),m=(newN g).N.es.length - i∧i≤(newN g).N.es.length∧NwS σ.n g.rules.length (newN g).N (newX g) i ra br τ∧(∀ k,k < σ.n→τ.get k=σ.get k)∧W=[] ∧
  tm.at 4=netP (newN g).N (newX g)∧tm.at 6=.ptr (σ.n+1) 0∧tm.at 7=.ptr (σ.n+6) 0∧tm.at 41=.d (newN g).N.esD∧tm.at 42=.d (.int .i64 ((newN g).N.es.length:Int))∧tm.at 43=.d (.int .i64 (i:Int))) ?_ (newN g).N.es.length _ _ _ ⟨0,_,[],rfl,Nat.zero_le _,hS0,hg0,rfl,?_,?_,?_,?_,?_,?_⟩
 · clear hS0 hg0
   rintro m tm τ W ⟨i,ra,br,rfl,hi,hS,hlo,rfl,t4,t6,t7,t41,t42,t43⟩ ih
   have hnn:=hS.nn
   by_cases hlt:i < (newN g).N.es.length
   · have hil:i < (newN g).N.rs.length:=by rw [hN.rl]; exact hlt
     have htl:((newN g).N.rs.take i).length=i:=by rw [List.length_take]; omega
     simp only [go_sem,t4,t6,t7,t41,t42,t43,dec_lt' hlt]
     refine ⟨_,_,_,hrule _ i hlt,?_⟩
     have hr1:=hS.row.stay (τ:=τ.push (.cells [.d (.int .i64 ((newN g).N.rule i))])) (by rw [St.n_push]; omega) fun k hk => St.get_push_ne (hS.row.1.lt hk)
     obtain ⟨ra',τ2,T,br',happ,hR2,hK⟩:=hr1.app (b:=8) (x:=.row τ.n 0 1 1) (ys:=[[.int .i64 ((newN g).N.rule i)]]) (by rw [sliceCells_row St.get_push_eq (by simp)]; rfl) (by rw [sliceLen_row,St.get_push_eq]; rfl) (by simp) (by rw [intsD_len,htl]; simp; omega) (by rw [intsD_len,htl]; simp; omega)
     have hrt:intsD ((newN g).N.rs.take i) ++ [[D.int .i64 ((newN g).N.rule i)]]=intsD ((newN g).N.rs.take (i+1)):=by
      rw [List.take_succ_eq_append_getElem hil]
      have:(newN g).N.rule i=(newN g).N.rs[i]:=by unfold Nv.rule; rw [List.getD_eq_getElem?_getD,List.getElem?_eq_getElem hil]; rfl
      rw [this]; unfold intsD; rw [List.map_append]; rfl
     rw [hrt] at hR2
     have hKn:=hK.n
     rw [St.n_push] at hKn
     have hg2:∀ k,k < τ.n→k ∉ br→τ2.get k=τ.get k:=fun k q1 q2 => by rw [hK.same k (by rw [St.n_push]; omega) q2,St.get_push_ne q1]
     have nb:∀ k,k < σ.n+7→k ∉ br:=fun k q1 q2 => by have:=hS.br k q2; omega
     have gt2:=(hg2 (σ.n+5) (by omega) (nb _ (by omega))).trans hS.g5
     have gt6:=(hg2 (σ.n+6) (by omega) (nb _ (by omega))).trans hS.g6
     have lT:low σ.n T=[]:=low_all fun k hk => by
      rcases hK.w k hk with q | q
      · have:=hS.br k q; omega
      · rw [St.n_push] at q; omega
     have l2:low σ.n [σ.n+5]=[]:=by rw [low_cons_ge (by omega)]; rfl
     have hTn:∀ k ∈ T,k≠σ.n+6:=fun k hk => by
      rcases hK.w k hk with q | q
      · have:=hS.br k q; omega
      · rw [St.n_push] at q; omega
     have c1:=hR2.1.cell
     have c2:=hR2.1.cells
     have m1:σ.n+5≠τ.n:=by omega
     have m2:σ.n+6≠τ.n:=by omega
     simp only [go_sem,t7,c0,hS.g6,hS.g5,happ,c1,c2,gt2,gt6,lT,l2,m1,m2]
     refine ⟨drawOk_rel [7,10] [(7,0)] rfl (by kernel_rfl) rfl (by simp [meets]; exact hTn),?_⟩
     have g3:∀ k,k≠σ.n+5→(τ2.set (σ.n+5) (.cells [.d (newN g).N.esD,.d (slD (newX g).en),.d (slD (newX g).lv),ra',.row (σ.n+2) 0 g.rules.length 1,.row (σ.n+3) 0 g.rules.length 1,.map (σ.n+4)])).get k=τ2.get k:=fun k hk => St.get_set_ne hk
     simp only [go_sem,t43,wrap_succ' hlt (show (newN g).N.es.length < 1000000000 by omega)]
     refine ih _ _ _ _ (by omega) ⟨i+1,ra',br',rfl,hlt,⟨by rw [St.n_set]; omega,(g3 _ (by omega)).trans ((hg2 _ (by omega) (nb _ (by omega))).trans hS.g1),(g3 _ (by omega)).trans ((hg2 _ (by omega) (nb _ (by omega))).trans hS.g2),(g3 _ (by omega)).trans ((hg2 _ (by omega) (nb _ (by omega))).trans hS.g3),(g3 _ (by omega)).trans ((hg2 _ (by omega) (nb _ (by omega))).trans hS.g4),St.get_set_eq,(g3 _ (by omega)).trans gt6,hR2.stay (by rw [St.n_set]; exact Nat.le_refl _) fun k hk => g3 k ?_,fun k hk => ?_⟩,fun k hk => ?_,rfl,?_,?_,?_,?_,?_,?_⟩
     · rcases hK.o k hk with q | q
       · have:=hS.br k q; omega
       · rw [St.n_push] at q; omega
     · rcases hK.o k hk with q | q
       · exact hS.br k q
       · rw [St.n_push] at q; omega
     · rw [g3 k (by omega),hg2 k (by omega) (nb _ (by omega))]; exact hlo k hk
     all_goals (simp only [go_sem,t4,t6,t7,t41,t42])
   · obtain rfl:i=(newN g).N.es.length:=by omega
     have hrow:=hS.row
     rw [List.take_of_length_le (by rw [hN.rl]; exact Nat.le_refl _)] at hrow
     have m6:σ.n+6≠τ.n:=by omega
     simp only [go_sem,t6,t7,t41,t42,t43,dec_ge' hlt]
     have hg4:∀ k,k < τ.n→((τ.push (.cells [.d .nfunc])).set τ.n (.cells [.func 36 [.ptr (σ.n+6) 0,.ptr (σ.n+1) 0,.ptr τ.n 0]])).get k=τ.get k:=fun k hk => by
      rw [St.get_set_ne (by omega),St.get_push_ne hk]
     have hn4:((τ.push (.cells [.d .nfunc])).set τ.n (.cells [.func 36 [.ptr (σ.n+6) 0,.ptr (σ.n+1) 0,.ptr τ.n 0]])).n=τ.n+1:=by simp only [St.n_set,St.n_push]
     have hS4:ReS σ.n (σ.n+6) (σ.n+1) τ.n (σ.n+5) (σ.n+4) (σ.n+2) (σ.n+3) ra g.rules.length (newN g).N (newX g) (fun _ => false) (fun _ => []) (fun _ => []) ((τ.push (.cells [.d .nfunc])).set τ.n (.cells [.func 36 [.ptr (σ.n+6) 0,.ptr (σ.n+1) 0,.ptr τ.n 0]])):=by
      refine ⟨by omega,by rw [hn4]; omega,by omega,(hg4 _ (by omega)).trans hS.g6,(hg4 _ (by omega)).trans hS.g1,St.get_set_eq,(hg4 _ (by omega)).trans hS.g5,(hg4 _ (by omega)).trans hS.g4,⟨br,(hrow.stay (by rw [hn4]; omega) fun k hk => hg4 k (hrow.1.lt hk)).1,fun k hk => by have:=hS.br k hk; exact ⟨by omega,by omega,by omega,fun _ => by simp⟩⟩,⟨_,(hg4 _ (by omega)).trans hS.g2,by rw [rep_one]; simp,fun n hn => ⟨_,by rw [rep_one]; simp [hn],RowN.nil⟩⟩,(fun n k hk => by cases hk),(fun n m _ k hk => by cases hk),(hg4 _ (by omega)).trans (hS.g3.trans (by rw [rep_one]))⟩
     have hlo4:∀ k,k < σ.n→((τ.push (.cells [.d .nfunc])).set τ.n (.cells [.func 36 [.ptr (σ.n+6) 0,.ptr (σ.n+1) 0,.ptr τ.n 0]])).get k=σ.get k:=fun k hk => (hg4 k (by omega)).trans (hlo k hk)
     have hfc:((τ.push (.cells [.d .nfunc])).set τ.n (.cells [.func 36 [.ptr (σ.n+6) 0,.ptr (σ.n+1) 0,.ptr τ.n 0]])).get τ.n=.cells [.func 36 [.ptr (σ.n+6) 0,.ptr (σ.n+1) 0,.ptr τ.n 0]]:=St.get_set_eq
     have lz:low σ.n [τ.n]=[]:=by rw [low_cons_ge (by omega)]; rfl
     generalize ((τ.push (.cells [.d .nfunc])).set τ.n (.cells [.func 36 [.ptr (σ.n+6) 0,.ptr (σ.n+1) 0,.ptr τ.n 0]]))=τ1 at *
     have hunr:unr g.rules.length (fun _ => false)≤32:=by
      unfold unr
      have:=List.length_filter_le (fun m => !(fun _:Nat => false) m) (List.range g.rules.length)
      rw [List.length_range] at this; omega
     have hK32:(newN g).N.es.length * unr g.rules.length (fun _ => false)≤10000 * 32:=Nat.mul_le_mul hel hunr
     obtain ⟨τ2,W2,hc2,A1,B1,bl1,hS2,hR2,hn2,hlo2,hW2⟩:=reachN_c h36 hN hF 32 0 (fun _ => false) (fun _ => []) (fun _ => []) τ1 h.pos hS4 hunr (fun m => by rw [List.length_nil]; omega)
     have c7:=hS2.c7
     refine ⟨_,_,_,hc2,?_⟩
     simp only [go_sem,c7]
     obtain ⟨i1,i2,i3,i4,i5,i6,i7⟩:=hS2.ids
     obtain ⟨l1,l2,l3,l4,l5,l6,l7⟩:=hS2.lt
     obtain ⟨br2,hr1,hr2⟩:=hS2.rules
     obtain ⟨cs,hb1,hb2,hb3⟩:=hS2.behind
     have hmem:∀ k,k ∈ (σ.n+5) :: (σ.n+2) :: (σ.n+3) :: br2 ++ (List.range g.rules.length).flatMap bl1 ↔ k=σ.n+5∨k=σ.n+2∨k=σ.n+3∨k ∈ br2∨∃ n,n < g.rules.length∧k ∈ bl1 n:=by
      intro k
      simp only [List.cons_append,List.mem_cons,List.mem_append,List.mem_flatMap,List.mem_range]
     refine ⟨by omega,fun k hk => (hlo2 k hk).trans (hlo4 k hk),fun k hk => ?_,.inr ⟨hc',σ.n+5,σ.n+4,ra,.row (σ.n+2) 0 g.rules.length 1,.row (σ.n+3) 0 g.rules.length 1,(σ.n+5) :: (σ.n+2) :: (σ.n+3) :: br2 ++ (List.range g.rules.length).flatMap bl1,fun m => B1 m,A1,rfl,⟨⟨hS2.ct,⟨br2,hr1,fun k hk => (hmem k).2 (.inr (.inr (.inr (.inl hk))))⟩,⟨σ.n+2,cs,rfl,(hmem _).2 (.inr (.inl rfl)),hb1,hb2,fun n hn => ?_⟩,⟨σ.n+3,rfl,(hmem _).2 (.inr (.inr (.inl rfl))),hS2.reached⟩,(hmem _).2 (.inl rfl),fun k hk => ?_⟩,⟨by omega,by omega,fun hk => ?_⟩,fun k hk => ?_⟩,hS2.cm,?_⟩⟩
     · rw [List.mem_append] at hk
       rcases hk with q | q
       · rw [lz] at q; cases q
       · exact hW2 k (List.mem_filter.1 q).1
     · obtain ⟨v,q1,q2⟩:=hb3 n hn
       exact ⟨v,bl1 n,q1,q2,fun k hk => (hmem k).2 (.inr (.inr (.inr (.inr ⟨n,hn,hk⟩))))⟩
     · rcases (hmem k).1 hk with rfl | rfl | rfl | q | ⟨n,hn,q⟩
       · exact l4
       · exact l6
       · exact l7
       · exact hr1.lt q
       · exact (hS2.bln n k q).2.1
     · rcases (hmem _).1 hk with q | q | q | q | ⟨n,hn,q⟩
       · omega
       · omega
       · omega
       · exact hr1.nmap hS2.cm q
       · exact (hS2.bln n _ q).2.2.2.2.2.2.1 rfl
     · rcases (hmem k).1 hk with rfl | rfl | rfl | q | ⟨n,hn,q⟩
       · omega
       · omega
       · omega
       · exact (hr2 k q).1
       · exact (hS2.bln n k q).1
     · have hreach:∀ m,A1 m=true ↔ RcP (newN g).N 0 m:=fun m => by
        constructor
        · intro hm
          rcases hR2.snd m hm with q | q
          · cases q
          · exact q
        · intro hm
          induction hm with
          | refl => exact hR2.at_
          | step _ h1 h2 h3 h4 ih => exact (hR2.done _ ih rfl _ _ _ h1 h2 h3 h4).1
       refine ⟨hreach,fun m s => ⟨fun hs => ?_,?_⟩,fun m => ?_⟩
       · rcases hR2.bs m s hs with q | ⟨t,r,e,q1,q2,q3,q4,q5,q6⟩
         · cases q
         · exact ⟨t,r,e,q1,q2,q3,q4,q5,(hreach _).1 q6⟩
       · rintro ⟨t,r,e,q1,q2,q3,q4,q5,q6⟩
         have:=(hR2.done _ ((hreach _).2 q6) rfl _ _ _ q1 rfl q2 q3).2
         rw [q4,q5] at this; exact this
       · have:=hR2.len m
         rw [List.length_nil] at this; omega
 all_goals first | (simp only [go_sem]; done) | (simp only [go_sem]; rfl)
end Go.Am

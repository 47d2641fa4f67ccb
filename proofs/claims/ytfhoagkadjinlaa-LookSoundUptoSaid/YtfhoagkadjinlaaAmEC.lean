/- Part EC of a proof that runs a program's calls on a small machine whose values bear no addresses: no conditions. -/
import Derived.Test.YtfhoagkadjinlaaAmEB
import Derived.Test.YtfhoagkadjinlaaAmL1
set_option autoImplicit false
set_option linter.unusedSimpArgs false
set_option linter.unusedVariables false
set_option linter.unusedSectionVars false
namespace Go.Am
open Go Go.Proofs
variable {fz:Nat→Md}
def keyK (s:Nat) (l:List Int):List Int:=(s:Int) :: (l.length:Int) :: (l ++ List.replicate (4 - l.length) 0)
theorem keyK_len {s:Nat} {l:List Int} (h:l.length≤4):(keyK s l).length=6:=by
 unfold keyK
 rw [List.length_cons,List.length_cons,List.length_append,List.length_replicate]; omega
theorem keyK_inj {s s':Nat} {l l':List Int} (h:keyK s l=keyK s' l'):s=s'∧l=l':=by
 unfold keyK at h
 obtain ⟨h1,h2⟩:=List.cons.inj h
 obtain ⟨h3,h4⟩:=List.cons.inj h2
 have h5:l.length=l'.length:=by omega
 exact ⟨by omega,(List.append_inj h4 h5).1⟩
structure KnS (lo km:Nat) (tb:List Nat) (N:Nv) (X:Nx) (bh:Nat→List Nat) (rch:Nat→Bool) (M:MpK) (mb:List Nat) (σ:St):Prop where
 cell:σ.get km=.map (PK M)
 val:∀ k v,(k,v) ∈ M→∃ s l bs,k=keyK s l∧l.length≤4∧RowN 1 σ v (intsD (natsI (waysP l N X bh rch s))) bs∧∀ b ∈ bs,b ∈ mb
 mb:∀ k ∈ mb,lo≤k∧k < σ.n∧k ∉ tb∧k≠km
structure TbK (lo kt km:Nat) (ra ba rea:A) (tb:List Nat) (R:Nat) (N:Nv) (X:Nx) (bh:Nat→List Nat) (rch:Nat→Bool) (σ:St):Prop where
 t:TblM lo kt km ra ba rea tb R N X bh rch σ
 k:∃ M mb,KnS lo km tb N X bh rch M mb σ
theorem TblM.stay {lo kt km:Nat} {ra ba rea:A} {tb:List Nat} {R:Nat} {N:Nv} {X:Nx} {bh:Nat→List Nat} {rch:Nat→Bool} {σ τ:St} (h:TblM lo kt km ra ba rea tb R N X bh rch σ) (hn:σ.n≤τ.n) (hg:∀ k ∈ tb,τ.get k=σ.get k):TblM lo kt km ra ba rea tb R N X bh rch τ :=
 ⟨h.tab.stay hn hg,⟨h.km.1,by have:=h.km.2.1; omega,h.km.2.2⟩,h.lo⟩
theorem KnS.stay {lo km:Nat} {tb:List Nat} {N:Nv} {X:Nx} {bh:Nat→List Nat} {rch:Nat→Bool} {M:MpK} {mb:List Nat} {σ τ:St} (h:KnS lo km tb N X bh rch M mb σ) (hn:σ.n≤τ.n) (hg:∀ k,k=km∨k ∈ mb→τ.get k=σ.get k):KnS lo km tb N X bh rch M mb τ :=
 ⟨(hg _ (.inl rfl)).trans h.cell,fun k v hk => by
  obtain ⟨s,l,bs,h1,h2,h3,h4⟩:=h.val k v hk
  exact ⟨s,l,bs,h1,h2,h3.stay hn fun b hb => hg b (.inr (h4 b hb)),h4⟩,fun k hk => by obtain ⟨q1,q2,q3⟩:=h.mb k hk; exact ⟨q1,by omega,q3⟩⟩
theorem TbK.stay {lo kt km:Nat} {ra ba rea:A} {tb:List Nat} {R:Nat} {N:Nv} {X:Nx} {bh:Nat→List Nat} {rch:Nat→Bool} {σ τ:St} (h:TbK lo kt km ra ba rea tb R N X bh rch σ) (hn:σ.n≤τ.n) (hg:∀ k,lo≤k→k < σ.n→τ.get k=σ.get k):TbK lo kt km ra ba rea tb R N X bh rch τ:=by
 obtain ⟨h1,M,mb,h2⟩:=h
 exact ⟨h1.stay hn fun k hk => hg k (h1.lo k hk) (h1.tab.lt k hk),M,mb,h2.stay hn fun k hk => by
  rcases hk with rfl | hk
  · exact hg _ h1.km.1 h1.km.2.1
  · obtain ⟨q1,q2,-⟩:=h2.mb k hk; exact hg k q1 q2⟩
theorem eq_ptr_nil {σ:St} {k:Nat} {cs:List A} {e:Nat} {z:Option (List A)} {zv:A} (h:σ.get k=.cells cs):binT (XX fz) σ 30 (A.ptr k 0) (A.d D.nptr) (some { kind:=TK.ptr e,size:=1,bytes:=8,zero:=z,zval:=zv })=some false:=by
 unfold binT eqT
 rw [ti30]; simp [eq1,alive,h]
theorem eq_map_nil {σ:St} {k:Nat} {cs:List (A × A)} {e e2:Nat} {z:Option (List A)} {zv:A} (h:σ.get k=.map cs):binT (XX fz) σ 83 (A.map k) (A.d D.nmap) (some { kind:=TK.map e e2,size:=1,bytes:=8,zero:=z,zval:=zv })=some false:=by
 unfold binT eqT
 rw [ti83]; simp [eq1,alive,h]
theorem noneL_c (h39:fz 39=.cut) {kt km:Nat} {ra ba rea:A} {tb:List Nat} {R:Nat} {N:Nv} {X:Nx} {bh:Nat→List Nat} {rch:Nat→Bool} (σ:St) (h:TabS kt km ra ba rea tb R N X bh rch σ) {M:List (A × A)} (hm:σ.get km=.map M) :
 CallsTo (XX fz) (.func 39 []) [.ptr kt 0] σ (.d (.bool false)) σ []:=by
 refine CallsTo.cut0 h39 fn39 (by simp) (by simp [A.under]) ?_
 simp only [Try.f39,Option.getD_some]
 have c:=h.cell
 have e1:=fun (z:Option (List A)) (zv:A) => eq_ptr_nil (fz:=fz) (e:=85) (z:=z) (zv:=zv) c
 have e2:=fun (e e2:Nat) (z:Option (List A)) (zv:A) => eq_map_nil (fz:=fz) (e:=e) (e2:=e2) (z:=z) (zv:=zv) hm
 simp only [go_sem,c,e1,e2,OpR.of]
theorem slice_arr {tm:Tm} {σ:St} {k:Nat} {a b c d e f:A} {z:Option (List A)} {zv:A} (hk:σ.get k=.cells [a,b,c,d,e,f]):sliceT (XX fz) tm σ 129 (some (A.d (D.int .i64 2))) none (.ptr k 0) (some ⟨.arr 6 1 3,6,48,z,zv⟩)=.val (.row k 2 4 1) σ [] [k]:=by
 unfold sliceT
 simp [evalOp,ev,Tm.at_set,bnd,ti129,hk]
def copyT (ti:Nat→Option TI) (σ:St) (d s:A):Option TI→OpR
 | some { kind:=.slc e,.. } => match ti e with
  | some { size:=es,.. } => if 0 < es then copyA es σ d s else .bad
  | none => .bad
 | _ => .bad
theorem o_copy {X:X} {tm:Tm} {σ:St} {dst:Option Nat} {ty:Nat} {pos:String} {after:Array Edge} {g:Option (Nat × Bool)} {x y:Operand} {t u:Nat}:evalOp X tm σ ⟨dst,.call ⟨.builtin .copy,#[x,y],#[t,u]⟩,ty,pos,after,g⟩=copyT X.ti σ (ev tm x) (ev tm y) (X.ti t):=by
 unfold evalOp copyT; simp
 cases X.ti t with
 | none => simp
 | some i => cases i with | mk k s b z zv => cases k <;> simp; rfl
theorem copy_arr {σ:St} {k s:Nat} {l:List Int} {tok:A} (hk:σ.get k=.cells [.d (.int .i64 s),.d (.int .i64 l.length),.d (.int .i64 0),.d (.int .i64 0),.d (.int .i64 0),.d (.int .i64 0)]) (hl:l.length≤4) (h1:sliceCells σ tok=some (((intsD l).flatMap id).map A.d)) (h2:sliceLen σ tok=some l.length) :
 copyA 1 σ (.row k 2 4 1) tok=.val (.d (.int .i64 ((min l.length 4:Nat):Int))) (σ.set k (.cells ((keyK s l).map fun n => A.d (.int .i64 n)))) [k] []:=by
 unfold copyA
 rw [h1,h2]; dsimp only; rw [hk]; dsimp only
 match l,hl with
 | [],_ => simp [intsD,keyK,putAt]
 | [a],_ => simp [intsD,keyK,putAt,A.isCell]
 | [a,b],_ => simp [intsD,keyK,putAt,A.isCell]
 | [a,b,c],_ => simp [intsD,keyK,putAt,A.isCell]
 | [a,b,c,d],_ => simp [intsD,keyK,putAt,A.isCell]
theorem kA_refs (a:List Int):(kA a).refs=[]:=by
 simp only [kA,A.refs]
 induction a with
 | nil => rfl
 | cons x a ih => simp only [List.map_cons,A.refsL,ih]; rfl
theorem PK_refs (M:MpK):(PK M).flatMap (fun e => e.1.refs)=[]:=by
 rw [List.flatMap_eq_nil_iff]
 intro e he
 obtain ⟨x,-,rfl⟩:=List.mem_map.1 he
 exact kA_refs _
noncomputable def wI (P:Nat→Prop) (i:Nat):List Nat:=by
 classical exact (List.range i).filter fun j => decide (P j)
theorem wI_yes {P:Nat→Prop} {i:Nat} (h:P i):wI P (i+1)=wI P i ++ [i]:=by
 classical
 unfold wI
 rw [List.range_succ,List.filter_append]
 simp [h]
theorem wI_no {P:Nat→Prop} {i:Nat} (h:¬ P i):wI P (i+1)=wI P i:=by
 classical
 unfold wI
 rw [List.range_succ,List.filter_append]
 simp [h]
theorem wI_mem {P:Nat→Prop} {i j:Nat}:j ∈ wI P i ↔ j < i∧P j:=by
 classical
 unfold wI
 rw [List.mem_filter,List.mem_range,decide_eq_true_eq]
theorem wI_inc {P:Nat→Prop} {i:Nat}:(wI P i).Pairwise (· < ·):=by
 classical
 unfold wI
 exact List.Pairwise.filter _ List.pairwise_lt_range
theorem wI_len {P:Nat→Prop} {i:Nat}:(wI P i).length≤i:=by
 classical
 unfold wI
 have:=List.length_filter_le (fun j => decide (P j)) (List.range i)
 rw [List.length_range] at this; exact this
theorem waysP_wI {l:List Int} {N:Nv} {X:Nx} {bh:Nat→List Nat} {rch:Nat→Bool} {s:Nat} {r:List Eg} (hr:N.es[s]?=some r):waysP l N X bh rch s=wI (fun j => rch (N.rule s).toNat=true∧∃ e,r[j]?=some e∧AlwP l N X bh e) r.length:=by
 refine inc_ext waysP_inc wI_inc fun j => ?_
 rw [waysP_mem,wI_mem]
 constructor
 · rintro ⟨h1,r',e,h2,h3,h4⟩
   rw [hr] at h2; cases h2
   exact ⟨(List.getElem?_eq_some_iff.1 h3).1,h1,e,h3,h4⟩
 · rintro ⟨-,h1,e,h3,h4⟩
   exact ⟨h1,r,e,hr,h3,h4⟩
set_option maxRecDepth 8000 in
set_option maxHeartbeats 16000000 in
theorem wayT_c (h40:fz 40=.keep) (h71:fz 71=.cut) (h106:fz 106=.keep) (h107:fz 107=.keep) (h120:fz 120=.keep) (h119:fz 119=.keep) (h108:fz 108=.keep) {lo kt km:Nat} {ra ba rea:A} {tb:List Nat} {tok:A} {g:Gr} {l:List Int} {bh:Nat→List Nat} {rch:Nat→Bool}
 (hs:SmallG g) (hc:checkP g=0) (hL:l.length≤4) (hb:∀ n,∀ s ∈ bh n,s < (newN g).N.es.length) (hbl:∀ n,(bh n).length < 100000000) {s:Nat} (hsN:s < (newN g).N.es.length) {kq:Nat} (σ:St) (hT:TbK lo kt km ra ba rea tb g.rules.length (newN g).N (newX g) bh rch σ) (htok:TokA (kq :: tb) σ tok l) (hkq:kq < σ.n∧kq≠km) :
 ∃ a σ' W,CallsTo (XX fz) (.func 40 []) [.ptr kt 0,.d (.int .i64 (s:Int)),tok] σ a σ' W∧∃ bs,TbK lo kt km ra ba rea tb g.rules.length (newN g).N (newX g) bh rch σ'∧RowN 1 σ' a (intsD (natsI (waysP l (newN g).N (newX g) bh rch s))) bs∧(∀ k ∈ bs,σ.n≤k)∧σ.n≤σ'.n∧(∀ k,k < σ.n→k≠km→σ'.get k=σ.get k)∧∀ k ∈ W,k=km∨σ.n≤k:=by
 have h:=GOk.of hc
 have hN:=newN_G h
 have hF:=newN_fits h
 obtain ⟨hT1,M,mb,hK⟩:=hT
 have htl:=hT1.tab.lt
 obtain ⟨km1,km2,km3⟩:=hT1.km
 refine CallsTo.keepP h40 fn40 (by simp) ?_
 simp only [Try.f40,Option.getD_some]
 have hlen:=htok.len
 have tc1:=htok.cell
 have tc2:=htok.cells
 have tsc:=(htok.sl _ (Nat.le_refl _) fun _ _ => rfl).sc
 simp only [go_sem,tc1,tc2,hlen]
 have hg0:∀ k,k < σ.n→((σ.push (Blk.cells [A.d (D.int IntKind.i64 0),A.d (D.int IntKind.i64 0),A.d (D.int IntKind.i64 0),A.d (D.int IntKind.i64 0),A.d (D.int IntKind.i64 0),A.d (D.int IntKind.i64 0)])).set σ.n (Blk.cells [A.d (D.int IntKind.i64 s),A.d (D.int IntKind.i64 l.length),A.d (D.int IntKind.i64 0),A.d (D.int IntKind.i64 0),A.d (D.int IntKind.i64 0),A.d (D.int IntKind.i64 0)])).get k=σ.get k:=fun k hk => by
  rw [St.get_set_ne (by omega),St.get_push_ne hk]
 have hk0:((σ.push (Blk.cells [A.d (D.int IntKind.i64 0),A.d (D.int IntKind.i64 0),A.d (D.int IntKind.i64 0),A.d (D.int IntKind.i64 0),A.d (D.int IntKind.i64 0),A.d (D.int IntKind.i64 0)])).set σ.n (Blk.cells [A.d (D.int IntKind.i64 s),A.d (D.int IntKind.i64 l.length),A.d (D.int IntKind.i64 0),A.d (D.int IntKind.i64 0),A.d (D.int IntKind.i64 0),A.d (D.int IntKind.i64 0)])).get σ.n=_:=St.get_set_eq
 have hn0:((σ.push (Blk.cells [A.d (D.int IntKind.i64 0),A.d (D.int IntKind.i64 0),A.d (D.int IntKind.i64 0),A.d (D.int IntKind.i64 0),A.d (D.int IntKind.i64 0),A.d (D.int IntKind.i64 0)])).set σ.n (Blk.cells [A.d (D.int IntKind.i64 s),A.d (D.int IntKind.i64 l.length),A.d (D.int IntKind.i64 0),A.d (D.int IntKind.i64 0),A.d (D.int IntKind.i64 0),A.d (D.int IntKind.i64 0)])).n=σ.n+1:=by simp only [St.n_set,St.n_push]
 generalize ((σ.push (Blk.cells [A.d (D.int IntKind.i64 0),A.d (D.int IntKind.i64 0),A.d (D.int IntKind.i64 0),A.d (D.int IntKind.i64 0),A.d (D.int IntKind.i64 0),A.d (D.int IntKind.i64 0)])).set σ.n (Blk.cells [A.d (D.int IntKind.i64 s),A.d (D.int IntKind.i64 l.length),A.d (D.int IntKind.i64 0),A.d (D.int IntKind.i64 0),A.d (D.int IntKind.i64 0),A.d (D.int IntKind.i64 0)]))=τ0 at hg0 hk0 hn0
 have hgk:∀ k ∈ kq :: tb,k < σ.n:=fun k hk => by
  rcases List.mem_cons.1 hk with q | q
  · omega
  · exact htl k q
 have htok0:=htok.stay (τ:=τ0) (by omega) fun k hk => hg0 k (hgk k hk)
 have tsc0:=(htok0.sl _ (Nat.le_refl _) fun _ _ => rfl).sc
 have hsa:=fun tm:Tm => slice_arr (fz:=fz) (tm:=tm) (z:=some [A.d (D.int IntKind.i64 0),A.d (D.int IntKind.i64 0),A.d (D.int IntKind.i64 0),A.d (D.int IntKind.i64 0),A.d (D.int IntKind.i64 0),A.d (D.int IntKind.i64 0)]) (zv:=A.agg [A.d (D.int IntKind.i64 0),A.d (D.int IntKind.i64 0),A.d (D.int IntKind.i64 0),A.d (D.int IntKind.i64 0),A.d (D.int IntKind.i64 0),A.d (D.int IntKind.i64 0)]) hk0
 have hca:=copy_arr hk0 hL tsc0 htok0.len
 have lz:low σ.n [σ.n]=[]:=by rw [low_cons_ge (Nat.le_refl _)]; rfl
 have nk:kt≠σ.n:=by have:=htl _ hT1.tab.kt; omega
 have nm:km≠σ.n:=by omega
 have hct:=(hg0 kt (htl _ hT1.tab.kt)).trans hT1.tab.cell
 have hcm:=(hg0 km km2).trans hK.cell
 have hkl:=keyK_len (s:=s) hL
 have hpt:partOf true 6 ((keyK s l).map fun n => A.d (.int .i64 n)) 0=some (kA (keyK s l)):=partOf_all (by rw [List.length_map,hkl])
 rw [partOf_t] at hpt
 simp only [Nat.zero_add,List.drop_zero] at hpt
 have hkk:=key_kA (fz:=fz) hkl
 have kr1:=kA_refs (keyK s l)
 have kr2:=PK_refs M
 have h6:∀ e ∈ M,e.1.length=6:=fun e he => by
  obtain ⟨s',l',bs,h1,h2,-⟩:=hK.val e.1 e.2 he
  rw [h1]; exact keyK_len h2
 have hgk1:∀ k,k < σ.n→(τ0.set σ.n (Blk.cells ((keyK s l).map fun n => A.d (.int .i64 n)))).get k=σ.get k:=fun k hk => by rw [St.get_set_ne (by omega)]; exact hg0 k hk
 have hkey1:(τ0.set σ.n (Blk.cells ((keyK s l).map fun n => A.d (.int .i64 n)))).get σ.n=.cells ((keyK s l).map fun n => A.d (.int .i64 n)):=St.get_set_eq
 have hn1:(τ0.set σ.n (Blk.cells ((keyK s l).map fun n => A.d (.int .i64 n)))).n=σ.n+1:=by rw [St.n_set]; exact hn0
 have hget:(newN g).N.es[s]?=some (newN g).N.es[s]:=by simp [hsN]
 have hrl:=hF.l _ (List.getElem_mem hsN)
 have hwl:(waysP l (newN g).N (newX g) bh rch s).length≤1000000:=by
  rw [waysP_wI hget]
  have:=wI_len (P:=fun j => rch ((newN g).N.rule s).toNat=true∧∃ e,(newN g).N.es[s][j]?=some e∧AlwP l (newN g).N (newX g) bh e) (i:=(newN g).N.es[s].length)
  omega
 have hfp:=find_PK (fz:=fz) (a:=keyK s l) hkl M 0
 have hfp:=hfp h6
 rcases hfp with ⟨j,v,hj,hfind⟩ | ⟨hno,hfind⟩
 · obtain ⟨s',l',bs,e1,e2,hrv,hbs⟩:=hK.val _ _ (List.mem_of_getElem? hj)
   obtain ⟨rfl,rfl⟩:=keyK_inj e1
   simp only [go_sem,hsa,o_copy,copyT,hca,lz,nk,nm,hct,hcm,hpt,hkk,kr1,kr2,hfind]
   refine ⟨drawOk_rel [] [] rfl (by kernel_rfl) rfl (by simp),?_⟩
   generalize (τ0.set σ.n (Blk.cells ((keyK s l).map fun n => A.d (.int .i64 n))))=τ1 at hgk1 hkey1 hn1
   have hrv1:=hrv.stay (τ:=τ1) (by omega) fun k hk => hgk1 k (hK.mb k (hbs k hk)).2.1
   obtain ⟨a',τ2,T,ob,happ,hR,hKp⟩:=(RowN.nil (es:=1) (σ:=τ1)).app (b:=8) (x:=v) hrv1.1.sc hrv1.1.len hrv1.1.1 (by rw [intsD_len,natsI_len,List.length_nil]; omega) (by rw [intsD_len,natsI_len,List.length_nil]; omega)
   rw [List.nil_append] at hR
   have hKn:=hKp.n
   have hg2:∀ k,k < σ.n→τ2.get k=σ.get k:=fun k hk => (hKp.same k (by omega) (by simp)).trans (hgk1 k hk)
   have lT:low σ.n T=[]:=low_all fun k hk => by
    rcases hKp.w k hk with q | q
    · cases q
    · omega
   simp only [go_sem,happ,lT]
   refine ⟨ob,⟨hT1.stay (by omega) fun k hk => hg2 k (htl k hk),M,mb,hK.stay (by omega) fun k hk => ?_⟩,hR,fun k hk => ?_,by omega,fun k hk _ => hg2 k hk,fun k hk => by cases hk⟩
   · rcases hk with rfl | hk
     · exact hg2 _ km2
     · exact hg2 _ (hK.mb k hk).2.1
   · rcases hKp.o k hk with q | q
     · cases q
     · omega
 · have ies:=fun (ρ:St) => index_es (σ:=ρ) (kd:=.i64) hget
   simp only [go_sem,hsa,o_copy,copyT,hca,lz,nk,nm,hct,hcm,hpt,hkk,kr1,kr2,hfind,ies,len_rw]
   refine ⟨drawOk_rel [] [] rfl (by kernel_rfl) rfl (by simp),?_⟩
   generalize (τ0.set σ.n (Blk.cells ((keyK s l).map fun n => A.d (.int .i64 n))))=τ1 at hgk1 hkey1 hn1
   have hW:=waysP_wI (l:=l) (X:=newX g) (bh:=bh) (rch:=rch) hget
   rw [hW] at hwl ⊢
   generalize hrow:(newN g).N.es[s]=r at hget hrl hwl hW
   generalize hP:(fun (j:Nat) => rch ((newN g).N.rule s).toNat=true∧∃ e,r[j]?=some e∧AlwP l (newN g).N (newX g) bh e)=P at hwl hW ⊢
   have hPi:∀ i e,r[i]?=some e→(P i ↔ rch ((newN g).N.rule s).toNat=true∧AlwP l (newN g).N (newX g) bh e):=fun i e he => by
    rw [← hP]; dsimp only
    constructor
    · rintro ⟨h1,e',h2,h3⟩
      rw [he] at h2; cases h2; exact ⟨h1,h3⟩
    · rintro ⟨h1,h2⟩; exact ⟨h1,e,he,h2⟩
   clear hP
   refine Ev.loop_ind (fun m tm τ W => ∃ (i:Nat) (oa:A) (ob:List Nat),m=r.length - i∧i≤r.length∧W=[]∧σ.n+1≤τ.n∧(∀ k,k < σ.n→τ.get k=σ.get k)∧τ.get σ.n=.cells ((keyK s l).map fun n => A.d (.int .i64 n))∧RowN 1 τ oa (intsD (natsI (wI P i))) ob∧(∀ k ∈ ob,σ.n+1≤k) ∧
    tm.at 0=.ptr kt 0∧tm.at 1=.d (.int .i64 (s:Int))∧tm.at 2=tok∧tm.at 7=.ptr σ.n 0∧tm.at 8=oa∧tm.at 37=.d (rowD r)∧tm.at 38=.d (.int .i64 (r.length:Int))∧tm.at 39=.d (.int .i64 (i:Int))) ?_ r.length _ _ _ ⟨0,_,[],rfl,Nat.zero_le _,rfl,by omega,hgk1,hkey1,RowN.nil,(fun k hk => by cases hk),?_,?_,?_,?_,?_,?_,?_,?_⟩
   · clear hgk1 hkey1 hn1 τ1 hct hcm hsa hca tsc0 htok0 hg0 hk0 hn0 τ0
     rintro m tm τ W ⟨i,oa,ob,rfl,hi,rfl,hn1,hg1,hkey1,hro,hob,t0,t1,t2,t7,t8,t37,t38,t39⟩ ih
     have hct:=(hg1 kt (htl _ hT1.tab.kt)).trans hT1.tab.cell
     have hktn:=htl _ hT1.tab.kt
     by_cases hlt:i < r.length
     · have hge:r[i]?=some r[i]:=by simp [hlt]
       have hem:=List.getElem_mem hlt
       have hPe:=hPi i _ hge
       obtain ⟨k1,k2,k3,k4,k5,k6⟩:=hN.ed s _ hget _ hem
       generalize r[i]=e at hge hem k1 k2 k3 k4 k5 k6 hPe
       have irw:=fun (ρ:St) => index_rw (σ:=ρ) (kd:=.i64) hge
       have lz2:low σ.n [τ.n]=[]:=by rw [low_cons_ge (by omega)]; rfl
       have hg3:∀ k,k < τ.n→((τ.push (.cells [.d (.int .i64 0),.d (.int .i64 0),.d (.int .i64 0)])).set τ.n (.cells [.d (.int .i64 e.kind),.d (.int .i64 e.num),.d (.int .i64 (e.to:Int))])).get k=τ.get k:=fun k hk => by rw [St.get_set_ne (by omega),St.get_push_ne hk]
       have hn3:((τ.push (.cells [.d (.int .i64 0),.d (.int .i64 0),.d (.int .i64 0)])).set τ.n (.cells [.d (.int .i64 e.kind),.d (.int .i64 e.num),.d (.int .i64 (e.to:Int))])).n=τ.n+1:=by simp only [St.n_set,St.n_push]
       have he3:((τ.push (.cells [.d (.int .i64 0),.d (.int .i64 0),.d (.int .i64 0)])).set τ.n (.cells [.d (.int .i64 e.kind),.d (.int .i64 e.num),.d (.int .i64 (e.to:Int))])).get τ.n=.cells [.d (.int .i64 e.kind),.d (.int .i64 e.num),.d (.int .i64 (e.to:Int))]:=St.get_set_eq
       simp only [go_sem,t0,t1,t2,t7,t8,t37,t38,t39,dec_lt' hlt,irw,Eg.D_c,lz2]
       generalize ((τ.push (.cells [.d (.int .i64 0),.d (.int .i64 0),.d (.int .i64 0)])).set τ.n (.cells [.d (.int .i64 e.kind),.d (.int .i64 e.num),.d (.int .i64 (e.to:Int))]))=τ3 at hg3 hn3 he3
       have hg3s:∀ k,k < σ.n→τ3.get k=σ.get k:=fun k hk => (hg3 k (by omega)).trans (hg1 k hk)
       have hT3:=hT1.tab.stay (τ:=τ3) (by omega) fun k hk => hg3s k (htl k hk)
       have htok3:=htok.stay (τ:=τ3) (by omega) fun k hk => hg3s k (hgk k hk)
       obtain ⟨b,hcb,hbi⟩:=allows_c h71 h106 h107 h120 h119 h108 hs hc (by omega) hb hbl hget hem τ3 (hT3.more (k:=kq) (by omega)) htok3
       have hct3:=hT3.cell
       obtain ⟨bsr,hrw,-⟩:=hT3.rules
       obtain ⟨pr,Rr,hixr,Rr',hldr⟩:=hrw.idxI (i:=s) (by rw [hN.rl]; exact hsN)
       have hrs:(newN g).N.rs[s]'(by rw [hN.rl]; exact hsN)=((((newN g).N.rule s).toNat:Nat):Int):=by
        have h1:(newN g).N.rule s=(newN g).N.rs[s]'(by rw [hN.rl]; exact hsN):=by unfold Nv.rule; rw [List.getD_eq_getElem?_getD,List.getElem?_eq_getElem (by rw [hN.rl]; exact hsN)]; rfl
        rw [← h1]; exact (Int.toNat_of_nonneg (hN.rr s hsN).1).symm
       rw [hrs] at hldr
       have hrlR:=(hN.rr s hsN).2
       obtain ⟨kc,rfl,hkc,hrc⟩:=hT3.reached
       have ixc:∀ ρ:St,indexR ρ 1 kc 0 g.rules.length 1 ((((newN g).N.rule s).toNat:Nat):Int) (.cells ((List.range g.rules.length).map fun n => A.d (.bool (rch n))))=.val (.ptr kc (0+((newN g).N.rule s).toNat * 1)) ρ [] [kc]:=fun ρ => indexR_nat hrlR
       simp only [Nat.zero_add,Nat.mul_one] at ixc
       have hcn:((List.range g.rules.length).map fun n => A.d (.bool (rch n)))[((newN g).N.rule s).toNat]?=some (.d (.bool (rch ((newN g).N.rule s).toNat))):=by simp [hrlR]
       have nk2:kt≠τ.n:=by omega
       have wrp:=wrap_succ' hlt (show r.length < 1000000000 by omega)
       have hro3:=hro.stay (τ:=τ3) (by omega) fun k hk => hg3 k (hro.1.lt hk)
       have hkey3:=(hg3 σ.n (by omega)).trans hkey1
       cases hrch:rch ((newN g).N.rule s).toNat with
       | false =>
        have hno2:¬ P i:=fun q => by have:=(hPe.1 q).1; rw [hrch] at this; cases this
        rw [hrch] at hcn
        simp only [go_sem,t0,t1,t2,nk2,hct,hct3,hixr,hldr,hrc,ixc,hcn,he3]
        refine ⟨drawOk_rel [] [] rfl (by kernel_rfl) rfl (by simp),?_⟩
        simp only [go_sem,t39,wrp]
        refine ih _ _ _ _ (by omega) ⟨i+1,oa,ob,rfl,hlt,rfl,by omega,hg3s,hkey3,?_,hob,?_,?_,?_,?_,?_,?_,?_,?_⟩
        · rw [wI_no hno2]; exact hro3
        all_goals (simp only [go_sem,t0,t1,t2,t7,t8,t37,t38,t39])
       | true =>
        rw [hrch] at hcn
        simp only [go_sem,t0,t1,t2,nk2,hct,hct3,hixr,hldr,hrc,ixc,hcn,he3]
        refine ⟨_,_,_,hcb,drawOk_rel [] [] rfl (by kernel_rfl) rfl (by simp),?_⟩
        cases b with
        | false =>
         have hno2:¬ P i:=fun q => by have:=hbi.2 (hPe.1 q).2; cases this
         simp only [go_sem,t39,wrp]
         refine ih _ _ _ _ (by omega) ⟨i+1,oa,ob,rfl,hlt,rfl,by omega,hg3s,hkey3,?_,hob,?_,?_,?_,?_,?_,?_,?_,?_⟩
         · rw [wI_no hno2]; exact hro3
         all_goals (simp only [go_sem,t0,t1,t2,t7,t8,t37,t38,t39])
        | true =>
         have hyes:P i:=hPe.2 ⟨hrch,hbi.1 rfl⟩
         have hil:(wI P i).length≤1000000:=by have:=wI_len (P:=P) (i:=i); omega
         have hro4:=hro3.stay (τ:=τ3.push (.cells [.d (.int .i64 (i:Int))])) (by rw [St.n_push]; omega) fun k hk => St.get_push_ne (hro3.1.lt hk)
         obtain ⟨oa',τ4,T,ob',happ,hR,hKp⟩:=hro4.app (b:=8) (x:=.row τ3.n 0 1 1) (ys:=[[.int .i64 (i:Int)]]) (by rw [sliceCells_row St.get_push_eq (by simp)]; rfl) (by rw [sliceLen_row,St.get_push_eq]; rfl) (by simp) (by rw [intsD_len,natsI_len]; simp; omega) (by rw [intsD_len,natsI_len]; simp; omega)
         have hx:intsD (natsI (wI P i)) ++ [[D.int .i64 (i:Int)]]=intsD (natsI (wI P (i+1))):=by
          rw [wI_yes hyes]; simp [intsD,natsI]
         rw [hx] at hR
         have hKn:=hKp.n
         rw [St.n_push] at hKn
         have g4:∀ k,k < τ3.n→k ∉ ob→τ4.get k=τ3.get k:=fun k q1 q2 => by rw [hKp.same k (by rw [St.n_push]; omega) q2,St.get_push_ne q1]
         have nob:∀ k,k < σ.n+1→k ∉ ob:=fun k q1 q2 => by have:=hob k q2; omega
         have lT:low σ.n T=[]:=low_all fun k hk => by
          rcases hKp.w k hk with q | q
          · have:=hob k q; omega
          · rw [St.n_push] at q; omega
         simp only [go_sem,t8,happ,lT,t39,wrp]
         refine ih _ _ _ _ (by omega) ⟨i+1,oa',ob',rfl,hlt,rfl,by omega,fun k hk => (g4 k (by omega) (nob k (by omega))).trans (hg3s k hk),(g4 _ (by omega) (nob _ (by omega))).trans hkey3,hR,fun k hk => ?_,?_,?_,?_,?_,?_,?_,?_,?_⟩
         · rcases hKp.o k hk with q | q
           · exact hob k q
           · rw [St.n_push] at q; omega
         all_goals (simp only [go_sem,t0,t1,t2,t7,t8,t37,t38,t39])
     · obtain rfl:i=r.length:=by omega
       have hcm:=(hg1 km km2).trans hK.cell
       have c1:=hro.1.cell
       have c2:=hro.1.cells
       have hup:=upd_PK (fz:=fz) (a:=keyK s l) hkl (r:=km) (v:=oa) h6 hno
       have lkm:low σ.n [km]=[km]:=by rw [low_cons_lt km2]; rfl
       simp only [go_sem,t0,t1,t2,t7,t8,t37,t38,t39,dec_ge' hlt,hct,hcm,hkey1,hpt,hup,c1,c2,lkm]
       refine ⟨drawOk_rel [6] [] rfl (by kernel_rfl) rfl (by simp),?_⟩
       have hg5:∀ k,k≠km→(τ.set km (Blk.map (PK (M ++ [(keyK s l,oa)])))).get k=τ.get k:=fun k hk => St.get_set_ne hk
       have hm5:(τ.set km (Blk.map (PK (M ++ [(keyK s l,oa)])))).get km=Blk.map (PK (M ++ [(keyK s l,oa)])):=St.get_set_eq
       have hn5:(τ.set km (Blk.map (PK (M ++ [(keyK s l,oa)])))).n=τ.n:=St.n_set _ _ _
       have hro5:=hro.stay (τ:=(τ.set km (Blk.map (PK (M ++ [(keyK s l,oa)]))))) (by omega) fun k hk => hg5 k (by have:=hob k hk; omega)
       generalize (τ.set km (Blk.map (PK (M ++ [(keyK s l,oa)]))))=τ5 at hg5 hm5 hn5 hro5
       obtain ⟨a',τ6,T,ob6,happ,hR,hKp⟩:=(RowN.nil (es:=1) (σ:=τ5)).app (b:=8) (x:=oa) hro5.1.sc hro5.1.len hro5.1.1 (by rw [intsD_len,natsI_len,List.length_nil]; omega) (by rw [intsD_len,natsI_len,List.length_nil]; omega)
       rw [List.nil_append] at hR
       have hKn:=hKp.n
       have hg6:∀ k,k < τ.n→τ6.get k=τ5.get k:=fun k hk => hKp.same k (by omega) (by simp)
       have hg7:∀ k,k < σ.n→k≠km→τ6.get k=σ.get k:=fun k hk hm => ((hg6 k (by omega)).trans (hg5 k hm)).trans (hg1 k hk)
       have lT:low σ.n T=[]:=low_all fun k hk => by
        rcases hKp.w k hk with q | q
        · cases q
        · omega
       simp only [go_sem,happ,lT]
       refine ⟨ob6,⟨hT1.stay (by omega) fun k hk => hg7 k (htl k hk) fun q => km3 (q ▸ hk),M ++ [(keyK s l,oa)],mb ++ ob,⟨(hg6 _ (by omega)).trans hm5,fun k v hk => ?_,fun k hk => ?_⟩⟩,hR,fun k hk => ?_,by omega,fun k hk hm => hg7 k hk hm,fun k hk => ?_⟩
       · rcases List.mem_append.1 hk with q | q
         · obtain ⟨s',l',bs,e1,e2,e3,e4⟩:=hK.val k v q
           exact ⟨s',l',bs,e1,e2,e3.stay (by omega) fun b hb => hg7 b (hK.mb b (e4 b hb)).2.1 (hK.mb b (e4 b hb)).2.2.2,fun b hb => List.mem_append_left _ (e4 b hb)⟩
         · simp at q
           obtain ⟨rfl,rfl⟩:=q
           refine ⟨s,l,ob,rfl,hL,?_,fun b hb => List.mem_append_right _ hb⟩
           rw [hW]
           exact hro5.stay (by omega) fun b hb => hg6 b (hro.1.lt hb)
       · rcases List.mem_append.1 hk with q | q
         · obtain ⟨q1,q2,q3⟩:=hK.mb k q; exact ⟨q1,by omega,q3⟩
         · have q1:=hob k q
           have q2:=hro.1.lt q
           exact ⟨by omega,by omega,fun h => by have:=htl k h; omega,by omega⟩
       · rcases hKp.o k hk with q | q
         · cases q
         · omega
       · left; simpa using hk
   all_goals first | (simp only [go_sem]; done) | (simp only [go_sem]; rfl)
end Go.Am

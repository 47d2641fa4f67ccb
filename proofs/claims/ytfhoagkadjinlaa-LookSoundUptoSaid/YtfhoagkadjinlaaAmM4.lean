/- Part M4 of a proof that runs a program's calls on a small machine whose values bear no addresses: no conditions. -/
import Derived.Test.YtfhoagkadjinlaaAmM3
set_option autoImplicit false
set_option linter.unusedSimpArgs false
set_option linter.unusedVariables false
set_option linter.unusedSectionVars false
namespace Go.Am
open Go Go.Proofs
variable {fz:Nat→Md}
def rowD (r:List Eg):D:=.slc r.isEmpty (r.map Eg.D)
theorem Nv.esD_eq (N:Nv):N.esD=.slc N.es.isEmpty (N.es.map fun r => [rowD r]):=rfl
section
variable {σ:St} {N:Nv} {r:List Eg} {e:Eg} {i:Nat} {kd:IntKind}
theorem index_es (h:N.es[i]?=some r):indexK σ 1 (.d N.esD) (.d (.int kd (i:Int)))=.val (.d (.vptr [rowD r] 0)) σ [] []:=by
 rw [Nv.esD_eq,indexK_d]; exact indexD_nat (by simp [h]) rfl
theorem index_rw (h:r[i]?=some e):indexK σ 3 (.d (rowD r)) (.d (.int kd (i:Int)))=.val (.d (.vptr e.D 0)) σ [] []:=by
 rw [rowD,indexK_d]; exact indexD_nat (by simp [h]) rfl
theorem index_sl {l:List Int} (h:i < l.length):indexK σ 1 (.d (slD l)) (.d (.int kd (i:Int)))=.val (.d (.vptr [.int .i64 (l.getD i 0)] 0)) σ [] []:=by
 rw [slD,indexK_d]; exact indexD_nat (by simp [intsD,h]) rfl
theorem len_es:sliceLen σ (.d N.esD)=some N.es.length:=by simp [Nv.esD_eq,sliceLen]
theorem len_rw:sliceLen σ (.d (rowD r))=some r.length:=by simp [rowD,sliceLen]
theorem len_sl {l:List Int}:sliceLen σ (.d (slD l))=some l.length:=by simp [slD,sliceLen,intsD]
theorem Eg.D_c:e.D.map A.d=[.d (.int .i64 e.kind),.d (.int .i64 e.num),.d (.int .i64 (e.to:Int))]:=rfl
end
def netP (N:Nv) (X:Nx):A:=.d (.vptr (netC N X) 0)
theorem netC_map (N:Nv) (X:Nx):(netC N X).map A.d=[.d N.esD,.d (slD N.rs),.d (slD X.en),.d (slD X.lv),.d (.slc X.ca.isEmpty (caD X.ca)),.d (.slc X.lg.isEmpty (bsD X.lg))]:=rfl
theorem ne_isEmpty {α:Type} {l:List α} (h:l≠[]):l.isEmpty=false:=by cases l with
 | nil => exact absurd rfl h
 | cons _ _ => rfl
theorem eq_nptr {cs:List D} {o:Nat} {σ:St}:binA (XX fz) σ .eql 49 (.d (.vptr cs o)) (.d .nptr)=some (.d (.bool false)):=by
 unfold binA eqT; simp only [ti49]; rfl
theorem eq_nslc {z:Bool} {xs:List (List D)} {σ:St}:binA (XX fz) σ .eql 59 (.d (.slc z xs)) (.d (.slc true []))=some (.d (.bool z)):=by
 unfold binA eqT; simp only [ti59]; cases z <;> cases xs <;> rfl
set_option maxHeartbeats 1000000 in
theorem none_c (h50:fz 46=.cut) {N:Nv} (X:Nx) (hN:N.es≠[]) (σ:St):CallsTo (XX fz) (.func 46 []) [netP N X] σ (.d (.bool false)) σ []:=by
 refine CallsTo.cut0 h50 fn46 (by simp) rfl ?_
 simp only [Try.f46,Option.getD_some]
 have h:=ne_isEmpty hN
 simp only [go_sem,netP,netC_map,Nv.esD_eq,eq_nptr,eq_nslc,h,OpR.of]
set_option maxHeartbeats 1000000 in
theorem ask_c (h50:fz 46=.cut) (h44:fz 67=.cut) {N:Nv} (X:Nx) (hN:N.es≠[]) (σ:St) (s:Nat) (hs:s < N.es.length):CallsTo (XX fz) (.func 67 []) [netP N X,.d (.int .i64 (s:Int))] σ (.d (.int .i64 0)) σ []:=by
 refine CallsTo.cut0 h44 fn67 (by simp) rfl ?_
 simp only [Try.f67,Option.getD_some]
 have e1:decide ((s:Int) < 0)=false:=by simp
 have e2:decide ((s:Int) ≥ (N.es.length:Int))=false:=by simpa using hs
 simp only [go_sem,netP,netC_map]
 refine ⟨_,_,_,none_c h50 X hN _,?_⟩
 simp only [go_sem,e1,netC_map,len_es,e2]
 done
set_option maxHeartbeats 1000000 in
theorem rule_c (h50:fz 46=.cut) (h44:fz 67=.cut) (h24:fz 35=.cut) {N:Nv} (X:Nx) (hN:N.es≠[]) (hr:N.rs.length=N.es.length) (σ:St) (s:Nat) (hs:s < N.es.length):CallsTo (XX fz) (.func 35 []) [netP N X,.d (.int .i64 (s:Int))] σ (.tup [.d (.int .i64 (N.rule s)),.d (.int .i64 0)]) σ []:=by
 refine CallsTo.cut0 h24 fn35 (by simp) rfl ?_
 simp only [Try.f35,Option.getD_some]
 simp only [go_sem,netP,netC_map]
 refine ⟨_,_,_,ask_c h50 h44 X hN _ s hs,?_⟩
 have hi:=fun σ:St => index_sl (σ:=σ) (kd:=.i64) (l:=N.rs) (i:=s) (by omega)
 simp only [go_sem,netC_map,hi,Nv.rule]
set_option maxHeartbeats 2000000 in
theorem clone3_c (h51:fz 66=.ice) (r:List Eg) (hs:r.length < 1000000) (σ:St):CallsTo (XX fz) (.func 66 []) [.d (rowD r)] σ (.d (rowD r)) σ []:=by
 refine CallsTo.ice0 h51 fn66 (by simp) ?_
 simp only [Try.f66,Option.getD_some]
 have eqn:∀ (z:Bool) (xs:List (List D)) (σ:St),binA (XX fz) σ .eql 67 (.d (.slc z xs)) (.d (.slc true []))=some (.d (.bool z)):=fun z xs σ => by
  unfold binA eqT; simp only [ti67]; cases z <;> cases xs <;> rfl
 cases r with
 | nil =>
  simp only [go_sem,rowD,List.map_nil,List.isEmpty_nil,eqn]
  try rfl
 | cons n s =>
  have hys:∀ x ∈ (n :: s).map Eg.D,x.length=3:=by intro x hx; obtain ⟨y,-,rfl⟩:=List.mem_map.1 hx; rfl
  have hyl:((n :: s).map Eg.D).length < 1000000:=by rw [List.length_map]; exact hs
  have hy0:(n :: s).map Eg.D≠[]:=by simp
  simp only [rowD,List.isEmpty_cons]
  generalize (n :: s).map Eg.D=ys at hys hyl hy0
  simp only [go_sem,eqn]
  have hA:RowAt 3 (σ.push (.cells [])) (.row σ.n 0 0 3) [] [σ.n]:=⟨by simp,.inr ⟨σ.n,rfl,St.get_push_eq,by simp [St.n_push],rfl⟩⟩
  obtain ⟨a',τ',T,bs',happ,hR',hK⟩:=hA.app (x:=.d (.slc false ys)) (ys:=ys) (b:=24) rfl (by simp [sliceLen]) hys (by simp only [List.length_nil]; omega) (by simp only [List.length_nil]; omega)
  have hT:low σ.n T=[]:=low_all fun k hk => by
   rcases hK.w k hk with h | h
   · simp at h; omega
   · simp only [St.n_push] at h; omega
  have hbs:∀ k ∈ bs',σ.n≤k:=fun k hk => by
   rcases hK.o k hk with h | h
   · simp at h; omega
   · simp only [St.n_push] at h; omega
  simp only [go_sem,happ,hT]
  have hf:freeze τ' σ.n fzDepth a'=some (.slc false ys):=by
   rcases hR'.freeze (lo:=σ.n) (n:=fzDepth) hbs (by rw [List.nil_append]; unfold fzDepth; omega) with h | ⟨k,-,h⟩
   · rw [List.nil_append,ne_isEmpty hy0] at h; exact h
   · exact h
  have hfw:freezeV τ' σ.n fzDepth a'=some (.d (.slc false ys)):=by
   rcases hR'.2 with ⟨h,-,-⟩ | ⟨k,rfl,-⟩
   · exact absurd h (by simpa using hy0)
   · rw [List.nil_append] at hf ⊢
     simp only [go_sem,hf]
     try rfl
  first | (rw [hfw]; done) | (rw [hfw]; rfl) | exact hfw
end Go.Am
namespace Go.Am
open Go Go.Proofs
variable {fz:Nat→Md}
def netC3 (N:Nv) (X:Nx):List A:=[.d N.esD,.d (slD X.en),.d (slD X.lv)]
def netA (N:Nv) (X:Nx):A:=.agg (netC3 N X)
set_option maxHeartbeats 4000000 in
theorem net_c (h50:fz 46=.cut) (h48:fz 65=.ice) (h51:fz 66=.ice) (h16:fz 34=.ice) {N:Nv} {X:Nx} {B:Nat} (hN:N.es≠[]) (hB:N.Fits B) (hb:B < 1000000) (he:X.en.length < 1000000) (hl:X.lv.length < 1000000) (σ:St) :
 CallsTo (XX fz) (.func 34 []) [netP N X] σ (.tup [netA N X,.d (.int .i64 0)]) σ []:=by
 refine CallsTo.ice0 h16 fn34 (by simp) ?_
 simp only [Try.f34,Option.getD_some]
 simp only [go_sem,netP,netC_map]
 refine ⟨_,_,_,none_c h50 X hN _,?_⟩
 simp only [go_sem,netC_map]
 refine ⟨_,_,_,clone_c h48 X.en he _,?_⟩
 refine ⟨_,_,_,clone_c h48 X.lv hl _,?_⟩
 simp only [go_sem,len_es]
 refine ⟨drawOk_rel [4,9,12] [(4,5),(4,6),(4,7),(4,8),(4,11),(9,11)] rfl (by kernel_rfl) rfl (by simp [meets]),?_⟩
 have hel:=hB.e
 simp only [go_sem,netC_map,len_es]
 have hlo:=hB.l
 generalize hes:N.es=es at hel hlo
 refine Ev.loop_ind (fun k tm τ W => ∃ (i:Nat) (a:A) (bs:List Nat),k=es.length - i∧i≤es.length∧W=[]∧σ.n+2≤τ.n∧(∃ cs,τ.get σ.n=.cells cs∧cs.length=3)∧τ.get (σ.n+1)=.cells [a,.d (slD X.en),.d (slD X.lv)]∧RowN 1 τ a ((es.take i).map fun r => [rowD r]) bs∧(∀ k ∈ bs,σ.n+2≤k) ∧
  tm.at 2=.ptr σ.n 0∧tm.at 4=.ptr (σ.n+1) 0∧tm.at 24=.d N.esD∧tm.at 25=.d (.int .i64 (es.length:Int))∧tm.at 26=.d (.int .i64 i)) ?_ es.length _ _ _ ⟨0,.d (.slc true []),[],rfl,by omega,rfl,?_,?_,?_,RowN.nil,by simp,?_,?_,?_,?_,?_⟩
 · rintro k tm τ W ⟨i,a,bs,rfl,hi,rfl,hn,⟨cs1,g0,g0l⟩,g1,hR,hbs,t2,t4,t24,t25,t26⟩ ih
   by_cases hl:i < es.length
   · have hget:N.es[i]?=some es[i]:=by rw [hes]; simp [hl]
     have hrl:=hlo _ (List.getElem_mem hl)
     simp only [go_sem,t2,t4,t24,t25,t26,dec_lt' hl,index_es hget,g1]
     refine ⟨_,_,_,clone3_c h51 es[i] (by omega) _,?_⟩
     have hR1:RowN 1 (τ.push (.cells [.d (rowD es[i])])) a ((es.take i).map fun r => [rowD r]) bs:=hR.stay (by simp only [St.n_push]; omega) fun k hk => St.get_push_ne (hR.1.lt hk)
     obtain ⟨a',τ',T,bs',happ,hR',hK,hc1,hc2⟩:=app_ex (es:=1) (b:=24) (x:=[rowD es[i]]) (j:=τ.n) rfl (by omega) hR1 St.get_push_eq (by rw [List.length_map,List.length_take]; omega)
     have hT:low σ.n T=[]:=low_all fun k hk => by
      rcases hK.w k hk with h | h
      · have:=hbs k h; omega
      · simp only [St.n_push] at h; omega
     have hTk:∀ k ∈ T,k≠σ.n+1:=fun k hk => by
      rcases hK.w k hk with h | h
      · have:=hbs k h; omega
      · simp only [St.n_push] at h; omega
     have hn':=hK.n
     simp only [St.n_push] at hn'
     have hold:∀ j,j < σ.n+2→τ'.get j=τ.get j:=fun j hj => by rw [hK.same j (by simp only [St.n_push]; omega) (fun h => by have:=hbs _ h; omega),St.get_push_ne (by omega)]
     have k0:=(hold σ.n (by omega)).trans g0
     have k1:=(hold (σ.n+1) (by omega)).trans g1
     simp only [go_sem,happ,hc1,hc2,k1,t4]
     refine ⟨drawOk_rel [3,5,7] [(3,0),(3,1)] rfl (by kernel_rfl) rfl (by simp [meets]),?_⟩
     simp only [go_sem,hT,t26,wrap_succ' hl (by omega)]
     have lz:low σ.n [σ.n+1]=[]:=by rw [low_cons_ge (by omega)]; rfl
     try simp only [lz]
     refine ih _ _ _ _ (by omega) ⟨i+1,a',bs',rfl,hl,rfl,by simp only [St.n_set]; omega,⟨cs1,?_,g0l⟩,?_,?_,fun k hk => ?_,by simp only [go_sem,t2],by simp only [go_sem,t4],by simp only [go_sem,t24],by simp only [go_sem,t25],by simp only [go_sem]⟩
     · rw [St.get_set_ne (by omega)]; exact k0
     · rw [St.get_set_eq]
     · rw [List.take_succ_eq_append_getElem hl,List.map_append]
       refine RowN.stay hR' (Nat.le_refl _) fun k hk => St.get_set_ne ?_
       rcases hK.o k hk with h | h
       · have:=hbs k h; omega
       · simp only [St.n_push] at h; omega
     · rcases hK.o k hk with h | h
       · exact hbs k h
       · simp only [St.n_push] at h; omega
   · have him:i=es.length:=by omega
     subst him
     rw [List.take_length] at hR
     have hd:List.drop 3 cs1=[]:=List.drop_eq_nil_of_le (by omega)
     have hcell:=hR.1.cell
     simp only [go_sem,t2,t4,t24,t25,t26,dec_ge' hl,g0,g1,g0l,hcell,hd]
     have hR2:RowN 1 (τ.set σ.n (Blk.cells [a,A.d (slD X.en),A.d (slD X.lv)])) a (es.map fun r => [rowD r]) bs:=hR.stay (Nat.le_refl _) fun k hk => St.get_set_ne (by have:=hbs k hk; omega)
     have hf:=hR2.freeze (lo:=σ.n) (n:=fzDepth - 1) (fun k hk => by have:=hbs k hk; omega) (by rw [List.length_map]; unfold fzDepth; omega)
     rw [hf,List.isEmpty_map]
     simp only [fzD0,fzD1,fzD2,if_true]
     unfold netA netC3
     rw [Nv.esD_eq,hes]
     rfl
 · simp [St.n_push,St.n_set]
 · simp only [go_sem]; exact ⟨_,rfl,rfl⟩
 all_goals first | rfl | (simp only [go_sem]; done) | (simp only [go_sem]; rfl)
end Go.Am

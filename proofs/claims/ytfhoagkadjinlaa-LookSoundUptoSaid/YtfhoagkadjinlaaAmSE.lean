/- Part SE of a proof that runs a program's calls on a small machine whose values bear no addresses: no conditions. -/
import Derived.Test.YtfhoagkadjinlaaAmSD
import Derived.Test.YtfhoagkadjinlaaAmM4
set_option autoImplicit false
set_option linter.unusedSimpArgs false
set_option linter.unusedVariables false
set_option linter.unusedSectionVars false
namespace Go.Am.Sm
open Go Go.Am Go.Proofs
variable {fz:Nat→Md}
def clR (r:List Eg):List (List D):=(r.filter fun e => e.kind == 2).map fun e => [.int .i64 (e.to:Int),.int .i64 e.num]
def clX (es:List (List Eg)):List (List D):=es.flatMap clR
def clD (N:Nv):D:=.slc (clX N.es).isEmpty (clX N.es)
theorem clR_app (r s:List Eg):clR (r ++ s)=clR r ++ clR s:=by simp [clR]
def simV (g:Gr):D × Int:=if (checkP g != 0)=true then (.nptr,checkP g) else (.vptr (simC (newN g).N (newX g) (clD (newN g).N)) 0,0)
structure SmM (n:Nat) (N:Nv) (X:Nx) (rs:List Int) (cs:List (List D)) (b1 b2:List Nat) (τ:St):Prop where
 nn:n+3≤τ.n
 net:τ.get (n+1)=.cells [.d N.esD,.d (slD X.en),.d (slD X.lv)]
 cell:∃ ra ca,τ.get (n+2)=.cells [.d N.esD,.d (slD X.en),.d (slD X.lv),ra,ca]∧RowN 1 τ ra (intsD rs) b1∧RowN 2 τ ca cs b2
 h1:∀ k ∈ b1,n+3≤k∧k ∉ b2
 h2:∀ k ∈ b2,n+3≤k
section
variable {n:Nat} {N:Nv} {X:Nx} {rs:List Int} {cs:List (List D)} {b1 b2:List Nat} {τ ρ:St}
theorem SmM.stay (h:SmM n N X rs cs b1 b2 τ) (hn:τ.n≤ρ.n) (hg:∀ k,k < τ.n→ρ.get k=τ.get k):SmM n N X rs cs b1 b2 ρ:=by
 obtain ⟨h0,h1,⟨ra,ca,h2,h3,h4⟩,h5,h6⟩:=h
 exact ⟨by omega,(hg _ (by omega)).trans h1,⟨ra,ca,(hg _ (by omega)).trans h2,h3.stay hn fun k hk => hg k (h3.1.lt hk),h4.stay hn fun k hk => hg k (h4.1.lt hk)⟩,h5,h6⟩
end
set_option maxHeartbeats 16000000 in
theorem simnew_c (hnew:∀ (g:Gr) (σ:St),SmallG g→CallsTo (XX fz) (.func 19 []) [g.a] σ (.tup [.d (newV g).1,.d (.int .i64 (newV g).2)]) σ [])
 (h16:fz 23=.ice) (h63:fz 46=.cut) (h64:fz 65=.ice) (h65:fz 66=.ice) (h21:fz 34=.ice) (h77:fz 67=.cut) (h49:fz 35=.cut) (g:Gr) (hg:SmallG g) (σ:St) :
 CallsTo (XX fz) (.func 23 []) [g.a] σ (.tup [.d (simV g).1,.d (.int .i64 (simV g).2)]) σ []:=by
 refine CallsTo.ice0 h16 fn23 (by simp) ?_
 simp only [Try.f23,Option.getD_some]
 simp only [go_sem,Gr.a]
 refine ⟨_,_,_,hnew g _ hg,?_⟩
 unfold simV newV
 cases hc:(checkP g != 0) with
 | true =>
  have hc':(checkP g != 0)=true:=hc
  simp only [go_sem,hc]
  try rfl
 | false =>
 have hc':checkP g=0:=by simpa using hc
 have h:=GOk.of hc'
 have hN:=newN_G h
 have hF:=newN_fits h
 have hne:=newN_ne h
 have hel:=hF.e
 have c0:((0:Int) != 0)=false:=rfl
 have hnet:=fun (ρ:St) => net_c h63 h64 h65 h21 hne hF (by omega) (show (newX g).en.length < 1000000 by have:=hN.enl; have:=h.le; omega) (show (newX g).lv.length < 1000000 by have:=hN.lvl; have:=h.le; omega) ρ
 have hrule:=fun (ρ:St) (s:Nat) (hs:s < (newN g).N.es.length) => rule_c h63 h77 h49 (newX g) hne hN.rl ρ s hs
 simp only [go_sem,hc]
 refine ⟨_,_,_,hnet _,?_⟩
 clear hnet
 simp only [go_sem,netA,netC3,c0,len_es]
 generalize (newN g).N=N at hN hF hne hrule hel ⊢
 generalize newX g=X at hN hrule ⊢
 have hS0:SmM σ.n N X [] [] [] [] ((((σ.push (.cells g.c)).push (.cells [.d (.slc true []),.d (.slc true []),.d (.slc true [])])).set (σ.n+1) (.cells [.d N.esD,.d (slD X.en),.d (slD X.lv)])).push (.cells [.d N.esD,.d (slD X.en),.d (slD X.lv),.d (.slc true []),.d (.slc true [])])) :=
  ⟨by simp only [St.n_push,St.n_set]; omega,by rw [St.get_push_ne (by simp only [St.n_push,St.n_set]; omega),St.get_set_eq],⟨_,_,by rw [St.get_push_eq' (by simp only [St.n_push,St.n_set])],RowN.nil,RowN.nil⟩,(fun k hk => by cases hk),(fun k hk => by cases hk)⟩
 generalize ((((σ.push (.cells g.c)).push (.cells [.d (.slc true []),.d (.slc true []),.d (.slc true [])])).set (σ.n+1) (.cells [.d N.esD,.d (slD X.en),.d (slD X.lv)])).push (.cells [.d N.esD,.d (slD X.en),.d (slD X.lv),.d (.slc true []),.d (.slc true [])]))=τ0 at hS0
 refine Ev.loop_ind (fun k tm τ W => ∃ (i:Nat) (b1 b2:List Nat),k=N.es.length - i∧i≤N.es.length∧W=[]∧SmM σ.n N X (N.rs.take i) (clX (N.es.take i)) b1 b2 τ∧(clX (N.es.take i)).length≤i * 10000 ∧
  tm.at 4=netP N X∧tm.at 7=.ptr (σ.n+2) 0∧tm.at 34=.d N.esD∧tm.at 35=.d (.int .i64 (N.es.length:Int))∧tm.at 36=.d (.int .i64 (i:Int))) ?_ N.es.length _ _ _ ⟨0,[],[],rfl,Nat.zero_le _,rfl,hS0,by simp [clX],?_,?_,?_,?_,?_⟩
 · clear hS0
   rintro k tm τ W ⟨i,b1,b2,rfl,hi,rfl,hS,hcl,t4,t7,t34,t35,t36⟩ ih
   by_cases hl:i < N.es.length
   · have hget:N.es[i]?=some N.es[i]:=by simp [hl]
     have hrl:=hF.l _ (List.getElem_mem hl)
     have ies:=fun (ρ:St) => index_es (σ:=ρ) (kd:=.i64) hget
     obtain ⟨hn,hnet,⟨ra,ca,hcell,hra,hca⟩,hh1,hh2⟩:=hS
     simp only [go_sem,t4,t7,t34,t35,t36,dec_lt' hl,ies]
     refine ⟨_,_,_,hrule _ i hl,?_⟩
     have hsl1:sliceCells (τ.push (.cells [.d (.int .i64 (N.rule i))])) (.row τ.n 0 1 1)=some [.d (.int .i64 (N.rule i))]:=by rw [sliceCells_row St.get_push_eq (by simp)]; rfl
     have hra1:RowN 1 (τ.push (.cells [.d (.int .i64 (N.rule i))])) ra (intsD (N.rs.take i)) b1:=hra.stay (by rw [St.n_push]; omega) fun k hk => St.get_push_ne (hra.1.lt hk)
     have hil:i < N.rs.length:=by rw [hN.rl]; exact hl
     have htl:(N.rs.take i).length=i:=by rw [List.length_take]; omega
     obtain ⟨ra',τ2,T,b1',happ,hR2,hK⟩:=hra1.app (b:=8) (x:=.row τ.n 0 1 1) (ys:=[[.int .i64 (N.rule i)]]) hsl1 (by rw [sliceLen_row,St.get_push_eq]; rfl) (by simp) (by rw [intsD_len,htl]; simp; omega) (by rw [intsD_len,htl]; simp; omega)
     have hg2:∀ k,k < τ.n→k ∉ b1→τ2.get k=τ.get k:=fun k q1 q2 => by rw [hK.same k (by rw [St.n_push]; omega) q2,St.get_push_ne q1]
     have hn2:=hK.n
     rw [St.n_push] at hn2
     have nb:∀ k,k < σ.n+3→k ∉ b1:=fun k q1 q2 => by have:=(hh1 k q2).1; omega
     have hcell2:τ2.get (σ.n+2)=.cells [.d N.esD,.d (slD X.en),.d (slD X.lv),ra,ca]:=(hg2 _ (by omega) (nb _ (by omega))).trans hcell
     have hne1:σ.n+2≠τ.n:=by omega
     have lt1:σ.n+2 < τ.n:=by omega
     have lT:low σ.n T=[]:=low_all fun k hk => by
      rcases hK.w k hk with q | q
      · have:=(hh1 k q).1; omega
      · rw [St.n_push] at q; omega
     have l2:low σ.n [σ.n+2]=[]:=by rw [low_cons_ge (by omega)]; rfl
     have c1:=hR2.1.cell
     have c2:=hR2.1.cells
     have hrt:intsD (N.rs.take i) ++ [[D.int .i64 (N.rule i)]]=intsD (N.rs.take (i+1)):=by
      rw [List.take_succ_eq_append_getElem hil]
      have:N.rule i=N.rs[i]:=by unfold Nv.rule; rw [List.getD_eq_getElem?_getD,List.getElem?_eq_getElem hil]; rfl
      rw [this]; unfold intsD; rw [List.map_append]; rfl
     rw [hrt] at hR2
     simp only [go_sem,t7,c0,hcell,hne1,lt1,happ,c1,c2,hcell2,lT,l2,len_rw]
     have hS1:SmM σ.n N X (N.rs.take (i+1)) (clX (N.es.take i) ++ clR (N.es[i].take 0)) b1' b2 (τ2.set (σ.n+2) (.cells [.d N.esD,.d (slD X.en),.d (slD X.lv),ra',ca])):=by
      have nb1':∀ k ∈ b1',σ.n+3≤k∧k ∉ b2:=fun k hk => by
       rcases hK.o k hk with q | q
       · exact hh1 k q
       · rw [St.n_push] at q; exact ⟨by omega,fun e => by have:=hca.1.lt e; omega⟩
      refine ⟨by rw [St.n_set]; omega,?_,⟨ra',ca,St.get_set_eq,hR2.stay (by rw [St.n_set]; exact Nat.le_refl _) fun k hk => St.get_set_ne (by have:=(nb1' k hk).1; omega),?_⟩,nb1',hh2⟩
      · rw [St.get_set_ne (by omega),hg2 _ (by omega) (nb _ (by omega))]; exact hnet
      · have:clX (N.es.take i) ++ clR (N.es[i].take 0)=clX (N.es.take i):=by simp [clR]
        rw [this]
        exact hca.stay (by rw [St.n_set]; omega) fun k hk => by
         have h3:=hh2 k hk
         rw [St.get_set_ne (by omega),hg2 k (hca.1.lt hk) fun q => (hh1 k q).2 hk]
     generalize (τ2.set (σ.n+2) (.cells [.d N.esD,.d (slD X.en),.d (slD X.lv),ra',ca]))=τ3 at hS1
     clear hR2 hK hg2 hcell2 lT c1 c2 happ hra1 hsl1 hcell hra hca hnet hh1 nb hne1 lt1 hn2
     refine Ev.loop_ind (fun k2 tm τ W => ∃ (j:Nat) (b2:List Nat),k2=N.es[i].length - j∧j≤N.es[i].length∧W=[]∧SmM σ.n N X (N.rs.take (i+1)) (clX (N.es.take i) ++ clR (N.es[i].take j)) b1' b2 τ∧(clR (N.es[i].take j)).length≤j ∧
      tm.at 4=netP N X∧tm.at 7=.ptr (σ.n+2) 0∧tm.at 34=.d N.esD∧tm.at 35=.d (.int .i64 (N.es.length:Int))∧tm.at 36=.d (.int .i64 (i:Int))∧tm.at 60=.d (rowD N.es[i])∧tm.at 61=.d (.int .i64 (N.es[i].length:Int))∧tm.at 62=.d (.int .i64 (j:Int))) ?_ N.es[i].length _ _ _ ⟨0,b2,rfl,Nat.zero_le _,rfl,hS1,by simp [clR],?_,?_,?_,?_,?_,?_,?_,?_⟩
     · clear hS1 t4 t7 t34 t35 t36 hh2
       rintro k2 tm τ3 W ⟨j,b2,rfl,hj,rfl,hS,hcj,t4,t7,t34,t35,t36,t60,t61,t62⟩ ih2
       by_cases hlj:j < N.es[i].length
       · have hge:N.es[i][j]?=some N.es[i][j]:=by simp [hlj]
         have htk:N.es[i].take (j+1)=N.es[i].take j ++ [N.es[i][j]]:=by simp
         generalize N.es[i][j]=e at hge htk
         have irw:=fun (ρ:St) => index_rw (σ:=ρ) (kd:=.i64) hge
         have hS2:SmM σ.n N X (N.rs.take (i+1)) (clX (N.es.take i) ++ clR (N.es[i].take j)) b1' b2 ((τ3.push (.cells [.d (.int .i64 0),.d (.int .i64 0),.d (.int .i64 0)])).set τ3.n (.cells [.d (.int .i64 e.kind),.d (.int .i64 e.num),.d (.int .i64 (e.to:Int))])) :=
          hS.stay (by simp only [St.n_set,St.n_push]; omega) fun k hk => by rw [St.get_set_ne (by omega),St.get_push_ne hk]
         have hec:((τ3.push (.cells [.d (.int .i64 0),.d (.int .i64 0),.d (.int .i64 0)])).set τ3.n (.cells [.d (.int .i64 e.kind),.d (.int .i64 e.num),.d (.int .i64 (e.to:Int))])).get τ3.n=.cells [.d (.int .i64 e.kind),.d (.int .i64 e.num),.d (.int .i64 (e.to:Int))]:=St.get_set_eq
         have hn3:=hS.nn
         have lz:low σ.n [τ3.n]=[]:=by rw [low_cons_ge (by omega)]; rfl
         simp only [go_sem,t4,t7,t60,t61,t62,dec_lt' hlj,irw,Eg.D_c,lz]
         have hnn:((τ3.push (.cells [.d (.int .i64 0),.d (.int .i64 0),.d (.int .i64 0)])).set τ3.n (.cells [.d (.int .i64 e.kind),.d (.int .i64 e.num),.d (.int .i64 (e.to:Int))])).n=τ3.n+1:=by simp only [St.n_set,St.n_push]
         generalize ((τ3.push (.cells [.d (.int .i64 0),.d (.int .i64 0),.d (.int .i64 0)])).set τ3.n (.cells [.d (.int .i64 e.kind),.d (.int .i64 e.num),.d (.int .i64 (e.to:Int))]))=τ4 at hS2 hec hnn
         have w1:=wrap_succ' hlj (show N.es[i].length < 1000000000 by omega)
         by_cases hk:e.kind=2
         · have c2:(e.kind == 2)=true:=by rw [hk]; rfl
           obtain ⟨hn,hnet,⟨ra,ca,hcell,hra,hca⟩,hh1,hh2⟩:=hS2
           have hcc:clR (N.es[i].take (j+1))=clR (N.es[i].take j) ++ [[.int .i64 (e.to:Int),.int .i64 e.num]]:=by rw [htk,clR_app]; simp [clR,hk]
           have hcl2:(clX (N.es.take i) ++ clR (N.es[i].take j)).length≤200000000:=by
            rw [List.length_append]; have:=Nat.mul_le_mul_right 10000 hl; omega
           have hca1:RowN 2 (τ4.push (.cells [.d (.int .i64 (e.to:Int)),.d (.int .i64 e.num)])) ca (clX (N.es.take i) ++ clR (N.es[i].take j)) b2:=hca.stay (by rw [St.n_push]; omega) fun k hk => St.get_push_ne (hca.1.lt hk)
           obtain ⟨ca',τ5,T,b2',happ,hR2,hK⟩:=hca1.app (b:=16) (x:=.row τ4.n 0 1 2) (ys:=[[.int .i64 (e.to:Int),.int .i64 e.num]]) (by rw [sliceCells_row St.get_push_eq (by simp)]; rfl) (by rw [sliceLen_row,St.get_push_eq]; rfl) (by simp) (by simp only [List.length_singleton]; omega) (by simp only [List.length_singleton]; omega)
           have hg2:∀ k,k < τ4.n→k ∉ b2→τ5.get k=τ4.get k:=fun k q1 q2 => by rw [hK.same k (by rw [St.n_push]; omega) q2,St.get_push_ne q1]
           have hn2:=hK.n
           rw [St.n_push] at hn2
           have nb:∀ k,k < σ.n+3→k ∉ b2:=fun k q1 q2 => by have:=hh2 k q2; omega
           have hcell2:τ5.get (σ.n+2)=.cells [.d N.esD,.d (slD X.en),.d (slD X.lv),ra,ca]:=(hg2 _ (by omega) (nb _ (by omega))).trans hcell
           have hne1:σ.n+2≠τ4.n:=by omega
           have lt1:σ.n+2 < τ4.n:=by omega
           have lT:low σ.n T=[]:=low_all fun k hk => by
            rcases hK.w k hk with q | q
            · have:=hh2 k q; omega
            · rw [St.n_push] at q; omega
           have mT:∀ k ∈ T,k≠σ.n+2:=fun k hk => by
            rcases hK.w k hk with q | q
            · have:=hh2 k q; omega
            · rw [St.n_push] at q; omega
           have l2:low σ.n [σ.n+2]=[]:=by rw [low_cons_ge (by omega)]; rfl
           have q1:=hR2.1.cell
           have q2:=hR2.1.cells
           simp only [go_sem,c2,t7,hcell,hec,hne1,lt1,happ,q1,q2,hcell2,lT,l2]
           refine ⟨drawOk_rel [11,14] [(11,0)] rfl (by kernel_rfl) rfl (by simp [meets]),?_⟩
           have hS3:SmM σ.n N X (N.rs.take (i+1)) (clX (N.es.take i) ++ clR (N.es[i].take (j+1))) b1' b2' (τ5.set (σ.n+2) (.cells [.d N.esD,.d (slD X.en),.d (slD X.lv),ra,ca'])):=by
            have nb2':∀ k ∈ b2',σ.n+3≤k∧k ∉ b1':=fun k hk => by
             rcases hK.o k hk with q | q
             · exact ⟨hh2 k q,fun e => (hh1 k e).2 q⟩
             · rw [St.n_push] at q; exact ⟨by omega,fun e => by have:=hra.1.lt e; omega⟩
            rw [List.append_assoc,← hcc] at hR2
            refine ⟨by rw [St.n_set]; omega,?_,⟨ra,ca',St.get_set_eq,hra.stay (by rw [St.n_set]; omega) fun k hk => ?_,hR2.stay (by rw [St.n_set]; exact Nat.le_refl _) fun k hk => St.get_set_ne (by have:=(nb2' k hk).1; omega)⟩,fun k hk => ⟨(hh1 k hk).1,fun e => (nb2' k e).2 hk⟩,fun k hk => (nb2' k hk).1⟩
            · rw [St.get_set_ne (by omega),hg2 _ (by omega) (nb _ (by omega))]; exact hnet
            · have h3:=(hh1 k hk).1
              rw [St.get_set_ne (by omega),hg2 k (hra.1.lt hk) (hh1 k hk).2]
           simp only [go_sem,t62,w1]
           refine ih2 _ _ _ _ (show N.es[i].length - (j+1) < _ by omega) ⟨j+1,b2',rfl,hlj,rfl,hS3,by rw [hcc,List.length_append]; simp only [List.length_singleton]; omega,?_,?_,?_,?_,?_,?_,?_,?_⟩
           all_goals (simp only [go_sem,t4,t7,t34,t35,t36,t60,t61])
         · have c2:(e.kind == 2)=false:=by simpa using hk
           have hcc:clR (N.es[i].take (j+1))=clR (N.es[i].take j):=by rw [htk,clR_app]; simp [clR,hk]
           simp only [go_sem,c2,t62,w1]
           refine ih2 _ _ _ _ (show N.es[i].length - (j+1) < _ by omega) ⟨j+1,b2,rfl,hlj,rfl,by rw [hcc]; exact hS2,by rw [hcc]; omega,?_,?_,?_,?_,?_,?_,?_,?_⟩
           all_goals (simp only [go_sem,t4,t7,t34,t35,t36,t60,t61])
       · have hjl:j=N.es[i].length:=by omega
         subst hjl
         rw [List.take_length] at hS hcj
         have hcx:clX (N.es.take (i+1))=clX (N.es.take i) ++ clR N.es[i]:=by
          unfold clX; rw [List.take_succ_eq_append_getElem hl,List.flatMap_append,List.flatMap_cons,List.flatMap_nil,List.append_nil]
         simp only [go_sem,t60,t61,t62,dec_ge' hlj,t36,wrap_succ' hl (show N.es.length < 1000000000 by omega)]
         refine ih _ _ _ _ (by omega) ⟨i+1,b1',b2,rfl,hl,rfl,by rw [hcx]; exact hS,by rw [hcx,List.length_append]; omega,?_,?_,?_,?_,?_⟩
         all_goals (simp only [go_sem,t4,t7,t34,t35])
     all_goals first | (simp only [go_sem,t4,t7,t34,t35,t36]; done) | (simp only [go_sem]; rfl)
   · have him:i=N.es.length:=by omega
     subst him
     obtain ⟨hn,hnet,⟨ra,ca,hcell,hra,hca⟩,hh1,hh2⟩:=hS
     have hfz:fzDepth=1000000000000:=rfl
     have hr1:N.rs.take N.es.length=N.rs:=List.take_of_length_le (by rw [hN.rl]; exact Nat.le_refl _)
     rw [List.take_length] at hca hcl
     rw [hr1] at hra
     have f2:∀ m,fzDepth - 10≤m→freeze τ σ.n m ra=some (slD N.rs):=fun m hm => by
      have:=hra.freeze (lo:=σ.n) (n:=m) (fun k hk => by have:=(hh1 k hk).1; omega) (by rw [intsD_len,hN.rl]; omega)
      rw [this,isE]; rfl
     have f3:∀ m,fzDepth - 10≤m→freeze τ σ.n m ca=some (clD N):=fun m hm =>
      hca.freeze (lo:=σ.n) (n:=m) (fun k hk => by have:=hh2 k hk; omega) (by
       have:=Nat.mul_le_mul_right 10000 hel; omega)
     have fd:∀ (m:Nat) (d:D),fzDepth - 10≤m→freeze τ σ.n m (.d d)=some d:=fun m d hm => by
      obtain ⟨q,hq⟩:∃ q,m=q+1:=⟨m - 1,by omega⟩
      rw [hq,freeze]
     have fL:freezeL τ σ.n (fzDepth - 1) [.d N.esD,.d (slD X.en),.d (slD X.lv),ra,ca]=some (simC N X (clD N)):=by
      rw [freezeL_cons (by omega),fd _ _ (by omega),freezeL_cons (by omega),fd _ _ (by omega),freezeL_cons (by omega),fd _ _ (by omega),freezeL_cons (by omega),f2 _ (by omega),freezeL_cons (by omega),f3 _ (by omega),freezeL_nil]
      rfl
     have fp:freeze τ σ.n fzDepth (.ptr (σ.n+2) 0)=some (.vptr (simC N X (clD N)) 0):=by
      obtain ⟨q,hq⟩:∃ q,fzDepth=q+1:=⟨fzDepth - 1,by omega⟩
      rw [hq,Nat.add_sub_cancel] at fL
      rw [hq,freeze,if_neg (by omega),hcell]
      dsimp only
      rw [fL]; rfl
     simp only [go_sem,t4,t7,t34,t35,t36,dec_ge' hl]
     rw [fp]; rfl
 all_goals first | rfl | (simp only [go_sem]; done) | (simp only [go_sem]; rfl)
end Go.Am.Sm

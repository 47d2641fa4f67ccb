/- Part SH of a proof that runs a program's calls on a small machine whose values bear no addresses: no conditions. -/
import Derived.Test.YtfhoagkadjinlaaAmSG
import Derived.Test.YtfhoagkadjinlaaAmL1
import Derived.Test.YtfhoagkadjinlaaAmP1
set_option autoImplicit false
set_option linter.unusedSimpArgs false
set_option linter.unusedVariables false
set_option linter.unusedSectionVars false
namespace Go.Am.Sm
open Go Go.Am Go.Proofs
theorem IsFar.g {l:List Int} {N:Nv} {X:Nx} {R:Nat} (hN:NetG N X R) {a m:Nat} {B:List Nat} (ha:a < N.es.length) (hB:∀ b ∈ B,b < N.es.length) (h:IsFar l N X a B m):IsG l N X a B m :=
 ⟨Gw.of hN ha hB h.1,fun k hk => h.2 k (hk.to hN)⟩
theorem viable_L {zt:Bool} {g:Gr} {l:List Int} (hg:SmallG g) (hc:checkP g=0) (hL:l.length≤1000) {s:Nat} {B:List Nat} (hs:SpOk (newN g).N s B) {σ:St} {ba:A} (hpa:PlA σ.n σ.n σ ba B) :
 IsG l (newN g).N (newX g) s B (farV l (newN g).N (newX g) s B)∧CallsTo (XX mdE) (.func 27 []) [simA (newN g).N (newX g),.agg [.d (.int .i64 (s:Int)),ba],.d (.slc zt (intsD l))] σ (viaV l (newN g).N (newX g) s B) σ []:=by
 obtain ⟨h1,h2⟩:=viable_c (fz:=mdE) (zt:=zt) rfl rfl rfl rfl rfl rfl rfl rfl rfl rfl rfl rfl hg hc hL hs hpa
 exact ⟨h1.g (newN_G (GOk.of hc)) hs.st hs.bs,h2⟩
end Go.Am.Sm
namespace Go.Am
open Go Go.Proofs
section
variable {l:List Int} {N:Nv} {X:Nx} {s:Nat} {B:List Nat}
def NE (l:List Int) (N:Nv) (X:Nx) (B:List Nat) (e:Eg) (n:Nat):Prop:=(e.kind=0∧IsG l N X e.to B n)∨(e.kind=2∧IsG l N X (X.ent e.num.toNat) (e.to :: B) n) ∨
 (e.kind=1∧l[0]?=some e.num∧∃ f,n=f+1∧IsG (l.drop 1) N X e.to B f)∨(e.kind=1∧l[0]?≠some e.num∧n=0)
theorem lvS_end {R:Nat} (hN:NetG N X R) (hs:s < N.es.length) (h:s=lvS N X s):N.es[s]?=some []:=by
 rw [h]; exact hN.lv0 _ (hN.rr s hs).2
theorem IsG.row {R:Nat} (hN:NetG N X R) {r:List Eg} {m:Nat} (hr:N.es[s]?=some r) (hne:r≠[]) (hle:∀ e ∈ r,∀ n,NE l N X B e n→n≤m) (hex:∃ e ∈ r,NE l N X B e m) (hall:∀ e ∈ r,∃ n,NE l N X B e n):IsG l N X s B m:=by
 refine ⟨?_,fun k hk => ?_⟩
 · obtain ⟨e,he,h⟩:=hex
   rcases h with ⟨h1,h2⟩ | ⟨h1,h2⟩ | ⟨h1,h2,f,rfl,h3⟩ | ⟨h1,h2,rfl⟩
   · exact .free hr he h1 h2.1
   · exact .call hr he h1 h2.1
   · exact .tok hr he h1 h2 h3.1.dropTo
   · exact .here _ _ _
 · cases hk with
   | here => exact Nat.zero_le _
   | @free _ _ _ _ _ e h1 h2 h3 h4 =>
    rw [hr] at h1; cases h1
    obtain ⟨n,hn⟩:=hall e h2
    refine Nat.le_trans ?_ (hle e h2 n hn)
    rcases hn with ⟨q1,q2⟩ | ⟨q1,-⟩ | ⟨q1,-⟩ | ⟨q1,-⟩
    · exact q2.2 _ h4
    all_goals omega
   | @tok _ _ _ _ _ e h1 h2 h3 h4 h5 =>
    rw [hr] at h1; cases h1
    obtain ⟨n,hn⟩:=hall e h2
    refine Nat.le_trans ?_ (hle e h2 n hn)
    rcases hn with ⟨q1,-⟩ | ⟨q1,-⟩ | ⟨q1,-,f,rfl,q2⟩ | ⟨q1,q2,-⟩
    · omega
    · omega
    · have:=q2.2 _ (h5.ofDrop (Nat.le_refl _)); omega
    · exact absurd h4 q2
   | @call _ _ _ _ _ e h1 h2 h3 h4 =>
    rw [hr] at h1; cases h1
    obtain ⟨n,hn⟩:=hall e h2
    refine Nat.le_trans ?_ (hle e h2 n hn)
    rcases hn with ⟨q1,-⟩ | ⟨q1,q2⟩ | ⟨q1,-⟩ | ⟨q1,-⟩
    · omega
    · exact q2.2 _ h4
    all_goals omega
   | leave h1 h2 =>
    have hs:s < N.es.length:=(List.getElem?_eq_some_iff.1 hr).1
    rw [lvS_end hN hs h1] at hr
    cases hr; exact absurd rfl hne
theorem NE.eq {e:Eg} {n m:Nat} (h:NE l N X B e n) (k:NE l N X B e m):n=m:=by
 rcases h with ⟨q1,q2⟩ | ⟨q1,q2⟩ | ⟨q1,q2,f,rfl,q3⟩ | ⟨q1,q2,rfl⟩ <;> rcases k with ⟨p1,p2⟩ | ⟨p1,p2⟩ | ⟨p1,p2,f',rfl,p3⟩ | ⟨p1,p2,rfl⟩
 all_goals first | omega | exact q2.eq p2 | (rw [q3.eq p3]) | rfl | exact absurd p2 q2 | exact absurd q2 p2
theorem IsG.one {R:Nat} (hN:NetG N X R) {e:Eg} {m:Nat} (hr:N.es[s]?=some [e]) (h:NE l N X B e m):IsG l N X s B m :=
 IsG.row hN hr (by simp) (fun e' he n hn => by simp at he; subst he; exact Nat.le_of_eq (hn.eq h)) ⟨e,by simp,h⟩ fun e' he => by simp at he; subst he; exact ⟨m,h⟩
end
end Go.Am
namespace Go.Am.Sm
open Go Go.Am Go.Proofs
theorem slD1 {σ:St} {z:Bool} {l:List Int} {eb:Nat} {ez:Option (List A)} {ezv:A} {ek:TK} (h:1≤l.length):sliceD σ z (intsD l) (some (.d (.int .i64 1))) none (some ⟨ek,1,eb,ez,ezv⟩)=.val (.d (.slc z (intsD (l.drop 1)))) σ [] []:=by
 have:=sliceD_lo (σ:=σ) (z:=z) (l:=l) (n:=1) (kd:=.i64) (ek:=ek) (eb:=eb) (ez:=ez) (ezv:=ezv)
 rw [if_pos h] at this
 exact this
end Go.Am.Sm
namespace Go.Am.Sm
open Go Go.Am Go.Proofs
variable {fz:Nat→Md}
noncomputable def wayV (l:List Int) (N:Nv) (X:Nx) (B:List Nat) (e:Eg):Nat :=
 if e.kind=0 then farV l N X e.to B else if e.kind=1 then (if l[0]?=some e.num then 1+farV (l.drop 1) N X e.to B else 0) else farV l N X (X.ent e.num.toNat) (e.to :: B)
noncomputable def wayL (l:List Int) (N:Nv) (X:Nx) (B:List Nat) (r:List Eg):List Int:=r.map fun e => ((wayV l N X B e:Nat):Int)
theorem ints_catA (σ:St) (z:Bool) (l:List Int):sliceCells σ (.d (.slc z (intsD l)))=some (l.map fun n => A.d (.int .i64 n))∧sliceLen σ (.d (.slc z (intsD l)))=some l.length:=by
 refine ⟨?_,len_ints⟩
 rw [sliceCells_d,ints_flat]
theorem frzW {σ:St} {lo n:Nat} {a:A} {d:D} (hc:a.isCell=true) (h:freeze σ lo n a=some d):freezeW σ lo n a=some (.d d):=by
 cases a <;> first | (simp [A.isCell] at hc; done) | (simp only [freezeW,h])
theorem RowN.snoc {τ:St} {ra:A} {L:List Int} {bs:List Nat} (v:Int) (h:RowN 1 τ ra (intsD L) bs) (hL:L.length < 1000000):∃ ra' τ2 T bs',appendA 1 8 (τ.push (.cells [.d (.int .i64 v)])) ra (.row τ.n 0 1 1)=.val ra' τ2 T []∧RowN 1 τ2 ra' (intsD (L ++ [v])) bs'∧τ.n≤τ2.n ∧
 (∀ k,k < τ.n→k ∉ bs→τ2.get k=τ.get k)∧(∀ k ∈ T,k ∈ bs∨τ.n≤k)∧(∀ k ∈ bs',k ∈ bs∨τ.n≤k):=by
 have hsl1:sliceCells (τ.push (.cells [.d (.int .i64 v)])) (.row τ.n 0 1 1)=some [.d (.int .i64 v)]:=by rw [sliceCells_row St.get_push_eq (by simp)]; rfl
 have h1:RowN 1 (τ.push (.cells [.d (.int .i64 v)])) ra (intsD L) bs:=h.stay (by rw [St.n_push]; omega) fun k hk => St.get_push_ne (h.1.lt hk)
 obtain ⟨ra',τ2,T,b1',happ,hR2,hK⟩:=h1.app (b:=8) (x:=.row τ.n 0 1 1) (ys:=[[.int .i64 v]]) hsl1 (by rw [sliceLen_row,St.get_push_eq]; rfl) (by simp) (by rw [intsD_len]; simp; omega) (by rw [intsD_len]; simp; omega)
 have hrt:intsD L ++ [[D.int .i64 v]]=intsD (L ++ [v]):=by unfold intsD; rw [List.map_append]; rfl
 rw [hrt] at hR2
 refine ⟨ra',τ2,T,b1',happ,hR2,by have:=hK.n; rw [St.n_push] at this; omega,fun k q1 q2 => by rw [hK.same k (by rw [St.n_push]; omega) q2,St.get_push_ne q1],fun k hk => ?_,fun k hk => ?_⟩
 · rcases hK.w k hk with q | q
   · exact .inl q
   · rw [St.n_push] at q; exact .inr (by omega)
 · rcases hK.o k hk with q | q
   · exact .inl q
   · rw [St.n_push] at q; exact .inr (by omega)
set_option maxHeartbeats 16000000 in
theorem ways_c (h14:fz 26=.ice) (h13:fz 59=.cut) (h43:fz 87=.cut) (h42:fz 86=.cut) (h44:fz 88=.cut) (h74:fz 112=.cut) (h45:fz 89=.cut) (h75:fz 113=.cut) (h41:fz 60=.cut) (h86:fz 115=.cut) (h73:fz 90=.ice) (h85:fz 114=.keep) (h46:fz 61=.ice) (h76:fz 91=.keep)
 {zt zb:Bool} {g:Gr} {l:List Int} (hg:SmallG g) (hc:checkP g=0) (hL:l.length≤1000) {s:Nat} {B:List Nat} (hs:SpOk (newN g).N s B) (hBl:B.length≤1000) {r:List Eg} (hget:(newN g).N.es[s]?=some r) (σ:St) :
 CallsTo (XX fz) (.func 26 []) [simA (newN g).N (newX g),.agg [.d (.int .i64 (s:Int)),.d (.slc zb (intsD (natsI B)))],.d (.slc zt (intsD l))] σ (.tup [.d (slD (wayL l (newN g).N (newX g) B r)),.d (.int .i64 0)]) σ []:=by
 have h:=GOk.of hc
 have hN:=newN_G h
 have hF:=newN_fits h
 have hel:=hF.e
 have hsN:=hs.st
 have hrl:r.length≤10000:=hF.l _ (List.mem_of_getElem? hget)
 have hed:=hN.ed s _ hget
 have hbl:=hs.ln
 have hfar:∀ {l':List Int} {z:Bool} (a:Nat) (B':List Nat) (z':Bool) (ρ:St),l'.length≤1000→a < (newN g).N.es.length→(∀ b ∈ B',b < (newN g).N.es.length)→B'.length < 1000000000→IsFar l' (newN g).N (newX g) a B' (farV l' (newN g).N (newX g) a B')∧CallsTo (XX fz) (.func 60 []) [.d (.vptr (simC (newN g).N (newX g) (clD (newN g).N)) 0),.d (.int .i64 (a:Int)),.d (.slc z' (intsD (natsI B'))),.d (.slc z (intsD l'))] ρ (.d (.int .i64 ((farV l' (newN g).N (newX g) a B':Nat):Int))) ρ [] :=
  fun a B' z' ρ h1 h2 h3 h4 => far_c h41 h86 h73 h85 hg hc h1 h2 h3 h4 _ _ (.inl ⟨z',rfl⟩)
 refine CallsTo.ice0 h14 fn26 (by simp) ?_
 simp only [Try.f26,Option.getD_some]
 have c0:((0:Int) != 0)=false:=rfl
 have ies:=fun (ρ:St) => index_es (σ:=ρ) (kd:=.i64) hget
 simp only [go_sem]
 refine ⟨_,_,_,check13_c h13 h43 h42 h44 h74 h45 h75 hN hF hs (kr:=σ.n+1) (kM:=σ.n+1) (.inl ⟨zb,rfl⟩),?_⟩
 have hv:∀ (ρ:St) (cs:List D) (o:Nat),True:=fun _ _ _ => trivial
 simp only [go_sem,c0,simA,simC_map,ies,len_rw]
 refine ⟨drawOk_rel [] [] rfl (by kernel_rfl) rfl (by simp),?_⟩
 have hs0:(σ.push (.cells [.d (.int .i64 (s:Int)),.d (.slc zb (intsD (natsI B)))])).get σ.n=.cells [.d (.int .i64 (s:Int)),.d (.slc zb (intsD (natsI B)))]:=St.get_push_eq
 have hn0:σ.n+1≤(σ.push (.cells [.d (.int .i64 (s:Int)),.d (.slc zb (intsD (natsI B)))])).n:=by rw [St.n_push]; omega
 generalize (σ.push (.cells [.d (.int .i64 (s:Int)),.d (.slc zb (intsD (natsI B)))]))=τ0 at hs0 hn0
 have hwl:(wayL l (newN g).N (newX g) B r).length=r.length:=by simp [wayL]
 refine Ev.loop_ind (fun m tm τ W => ∃ (i:Nat) (ra:A) (bs:List Nat),m=r.length - i∧i≤r.length∧W=[]∧σ.n+1≤τ.n∧τ.get σ.n=.cells [.d (.int .i64 (s:Int)),.d (.slc zb (intsD (natsI B)))]∧RowN 1 τ ra (intsD ((wayL l (newN g).N (newX g) B r).take i)) bs∧(∀ k ∈ bs,σ.n+1≤k) ∧
  tm.at 9=ra∧tm.at 0=simA (newN g).N (newX g)∧tm.at 2=.d (.slc zt (intsD l))∧tm.at 4=.ptr σ.n 0∧tm.at 27=.d (rowD r)∧tm.at 28=.d (.int .i64 (r.length:Int))∧tm.at 29=.d (.int .i64 (i:Int))) ?_ r.length _ _ _ ⟨0,.d (.slc true []),[],rfl,Nat.zero_le _,rfl,hn0,hs0,RowN.nil,(fun k hk => by cases hk),?_,?_,?_,?_,?_,?_,?_⟩
 · clear hs0 hn0
   rintro m tm τ W ⟨i,ra,bs,rfl,hi,rfl,hn,hsc,hra,hbs,t9,t0,t2,t4,t27,t28,t29⟩ ih
   by_cases hlj:i < r.length
   · have hge:r[i]?=some r[i]:=by simp [hlj]
     have htake:(wayL l (newN g).N (newX g) B r).take (i+1)=(wayL l (newN g).N (newX g) B r).take i ++ [((wayV l (newN g).N (newX g) B r[i]:Nat):Int)]:=by
      rw [List.take_succ_eq_append_getElem (by omega)]; simp [wayL]
     have hem:=List.getElem_mem hlj
     generalize r[i]=e at hge hem htake
     obtain ⟨k1,k2,k3,k4,k5,k6⟩:=hed e hem
     have irw:=fun (ρ:St) => index_rw (σ:=ρ) (kd:=.i64) hge
     have lze:low σ.n [τ.n]=[]:=by rw [low_cons_ge (by omega)]; rfl
     have w1:=wrap_succ' hlj (show r.length < 1000000000 by omega)
     have hgk:∀ k,k < τ.n→((τ.push (.cells [.d (.int .i64 0),.d (.int .i64 0),.d (.int .i64 0)])).set τ.n (.cells [.d (.int .i64 e.kind),.d (.int .i64 e.num),.d (.int .i64 (e.to:Int))])).get k=τ.get k:=fun k hk => by
      rw [St.get_set_ne (by omega),St.get_push_ne hk]
     have hec:((τ.push (.cells [.d (.int .i64 0),.d (.int .i64 0),.d (.int .i64 0)])).set τ.n (.cells [.d (.int .i64 e.kind),.d (.int .i64 e.num),.d (.int .i64 (e.to:Int))])).get τ.n=.cells [.d (.int .i64 e.kind),.d (.int .i64 e.num),.d (.int .i64 (e.to:Int))]:=St.get_set_eq
     have hn1:((τ.push (.cells [.d (.int .i64 0),.d (.int .i64 0),.d (.int .i64 0)])).set τ.n (.cells [.d (.int .i64 e.kind),.d (.int .i64 e.num),.d (.int .i64 (e.to:Int))])).n=τ.n+1:=by simp only [St.n_set,St.n_push]
     have ne1:σ.n≠τ.n:=by omega
     simp only [go_sem,t0,t2,t4,t9,t27,t28,t29,dec_lt' hlj,irw,Eg.D_c,lze]
     have hsc1:=(hgk σ.n (by omega)).trans hsc
     have hra1:=hra.stay (by rw [hn1]; omega) fun k hk => hgk k (hra.1.lt hk)
     generalize ((τ.push (.cells [.d (.int .i64 0),.d (.int .i64 0),.d (.int .i64 0)])).set τ.n (.cells [.d (.int .i64 e.kind),.d (.int .i64 e.num),.d (.int .i64 (e.to:Int))]))=τ1 at hec hn1 hsc1 hra1
     by_cases e0:e.kind=0
     · have q0:(e.kind == 0)=true:=by rw [e0]; rfl
       have hwv:wayV l (newN g).N (newX g) B e=farV l (newN g).N (newX g) e.to B:=by unfold wayV; rw [if_pos e0]
       simp only [go_sem,t0,t2,t4,t9,q0,hec,hsc1,ne1]
       refine ⟨_,_,_,(hfar e.to B zb _ hL k4 hs.bs (by omega)).2,?_⟩
       rw [← hwv]
       simp only [go_sem,t9]
       obtain ⟨ra',τ2,T,bs',happ,hR2,hn2,hg2,hT,hb2⟩:=RowN.snoc (((wayV l (newN g).N (newX g) B e:Nat):Int)) hra1 (by rw [List.length_take]; omega)
       have q1:=hR2.1.cell
       have q2:=hR2.1.cells
       have lT:low σ.n T=[]:=low_all fun k hk => by rcases hT k hk with q | q; (have:=hbs k q; omega); omega
       simp only [go_sem,t9,t29,happ,q1,q2,lT,w1]
       rw [← htake] at hR2
       refine ih _ _ _ _ (by omega) ⟨i+1,ra',bs',rfl,hlj,rfl,by omega,(hg2 _ (by omega) fun q => by have:=hbs _ q; omega).trans hsc1,hR2,fun k hk => by rcases hb2 k hk with q | q; (exact hbs k q); omega,?_,?_,?_,?_,?_,?_,?_⟩
       all_goals first | (simp only [go_sem,t0,t2,t4,t27,t28]; done) | (simp only [go_sem]; rfl)
     have q0:(e.kind == 0)=false:=by simpa using e0
     by_cases e1:e.kind=1
     · have q1:(e.kind == 1)=true:=by rw [e1]; rfl
       by_cases hl0:l.length=0
       · have d0:decide ((l.length:Int) > 0)=false:=by rw [decide_eq_false_iff_not]; omega
         have hwv:wayV l (newN g).N (newX g) B e=0:=by unfold wayV; rw [if_neg e0,if_pos e1,if_neg]; rw [List.length_eq_zero_iff.1 hl0]; simp
         simp only [go_sem,t0,t2,t4,t9,q0,q1,hec,hsc1,ne1,d0]
         refine ⟨drawOk_rel [] [] rfl (by kernel_rfl) rfl (by simp),?_⟩
         have htake:(wayL l (newN g).N (newX g) B r).take (i+1)=(wayL l (newN g).N (newX g) B r).take i ++ [0]:=by rw [htake,hwv]; rfl
         obtain ⟨ra',τ2,T,bs',happ,hR2,hn2,hg2,hT,hb2⟩:=RowN.snoc 0 hra1 (by rw [List.length_take]; omega)
         have q1:=hR2.1.cell
         have q2:=hR2.1.cells
         have lT:low σ.n T=[]:=low_all fun k hk => by rcases hT k hk with q | q; (have:=hbs k q; omega); omega
         simp only [go_sem,t9,t29,happ,q1,q2,lT,w1]
         rw [← htake] at hR2
         refine ih _ _ _ _ (by omega) ⟨i+1,ra',bs',rfl,hlj,rfl,by omega,(hg2 _ (by omega) fun q => by have:=hbs _ q; omega).trans hsc1,hR2,fun k hk => by rcases hb2 k hk with q | q; (exact hbs k q); omega,?_,?_,?_,?_,?_,?_,?_⟩
         all_goals first | (simp only [go_sem,t0,t2,t4,t27,t28]; done) | (simp only [go_sem]; rfl)
       have d0:decide ((l.length:Int) > 0)=true:=by rw [decide_eq_true_iff]; omega
       have hlp:0 < l.length:=by omega
       have in0:∀ ρ:St,indexD ρ 1 (intsD l) 0=.val (.d (.vptr [.int .i64 l[0]] 0)) ρ [] []:=fun ρ => index_ints (σ:=ρ) (z:=zt) (i:=0) hlp
       by_cases hq:l[0]=e.num
       · have c4:(l[0] == e.num)=true:=by rw [hq]; simp
         have hsome:l[0]?=some e.num:=by rw [List.getElem?_eq_getElem hlp,hq]
         have hwv:wayV l (newN g).N (newX g) B e=1+farV (l.drop 1) (newN g).N (newX g) e.to B:=by unfold wayV; rw [if_neg e0,if_pos e1,if_pos hsome]
         have sl0:=fun (ρ:St) => slD1 (σ:=ρ) (z:=zt) (l:=l) (ek:=.int .i64) (eb:=8) (ez:=some [.d (.int .i64 0)]) (ezv:=.d (.int .i64 0)) hlp
         obtain ⟨hf1,hf2⟩:=hfar (l':=l.drop 1) (z:=zt) e.to B zb τ1 (by rw [List.length_drop]; omega) k4 hs.bs (by omega)
         have hfl:farV (l.drop 1) (newN g).N (newX g) e.to B≤1000:=by have:=PgB.len hf1.1 (Nat.zero_le _); rw [List.length_drop] at this; omega
         have ww:IntKind.i64.wrap (1+((farV (l.drop 1) (newN g).N (newX g) e.to B:Nat):Int))=((wayV l (newN g).N (newX g) B e:Nat):Int):=by rw [wrap_small (by omega) (by omega),hwv]; simp
         simp only [go_sem,t0,t2,t4,t9,q0,q1,hec,hsc1,ne1,d0,in0,c4]
         refine ⟨drawOk_rel [] [] rfl (by kernel_rfl) rfl (by simp),?_⟩
         simp only [go_sem,t0,t2,t4,t9,hec,hsc1,ne1,sl0]
         refine ⟨_,_,_,hf2,?_⟩
         simp only [go_sem,ww,t9,t29]
         refine ⟨drawOk_rel [7] [] rfl (by kernel_rfl) rfl (by simp),?_⟩
         obtain ⟨ra',τ2,T,bs',happ,hR2,hn2,hg2,hT,hb2⟩:=RowN.snoc (((wayV l (newN g).N (newX g) B e:Nat):Int)) hra1 (by rw [List.length_take]; omega)
         have q1:=hR2.1.cell
         have q2:=hR2.1.cells
         have lT:low σ.n T=[]:=low_all fun k hk => by rcases hT k hk with q | q; (have:=hbs k q; omega); omega
         simp only [go_sem,t9,t29,happ,q1,q2,lT,w1]
         rw [← htake] at hR2
         refine ih _ _ _ _ (by omega) ⟨i+1,ra',bs',rfl,hlj,rfl,by omega,(hg2 _ (by omega) fun q => by have:=hbs _ q; omega).trans hsc1,hR2,fun k hk => by rcases hb2 k hk with q | q; (exact hbs k q); omega,?_,?_,?_,?_,?_,?_,?_⟩
         all_goals first | (simp only [go_sem,t0,t2,t4,t27,t28]; done) | (simp only [go_sem]; rfl)
       · have c4:(l[0] == e.num)=false:=by simpa using hq
         have hno:¬ l[0]?=some e.num:=by rw [List.getElem?_eq_getElem hlp]; simpa using hq
         have hwv:wayV l (newN g).N (newX g) B e=0:=by unfold wayV; rw [if_neg e0,if_pos e1,if_neg hno]
         simp only [go_sem,t0,t2,t4,t9,q0,q1,hec,hsc1,ne1,d0,in0,c4]
         refine ⟨drawOk_rel [] [] rfl (by kernel_rfl) rfl (by simp),?_⟩
         have htake:(wayL l (newN g).N (newX g) B r).take (i+1)=(wayL l (newN g).N (newX g) B r).take i ++ [0]:=by rw [htake,hwv]; rfl
         obtain ⟨ra',τ2,T,bs',happ,hR2,hn2,hg2,hT,hb2⟩:=RowN.snoc 0 hra1 (by rw [List.length_take]; omega)
         have q1:=hR2.1.cell
         have q2:=hR2.1.cells
         have lT:low σ.n T=[]:=low_all fun k hk => by rcases hT k hk with q | q; (have:=hbs k q; omega); omega
         simp only [go_sem,t9,t29,happ,q1,q2,lT,w1]
         rw [← htake] at hR2
         refine ih _ _ _ _ (by omega) ⟨i+1,ra',bs',rfl,hlj,rfl,by omega,(hg2 _ (by omega) fun q => by have:=hbs _ q; omega).trans hsc1,hR2,fun k hk => by rcases hb2 k hk with q | q; (exact hbs k q); omega,?_,?_,?_,?_,?_,?_,?_⟩
         all_goals first | (simp only [go_sem,t0,t2,t4,t27,t28]; done) | (simp only [go_sem]; rfl)
     have q1:(e.kind == 1)=false:=by simpa using e1
     have e2:e.kind=2:=by omega
     have q2:(e.kind == 2)=true:=by rw [e2]; rfl
     have hR:=k6 e2
     have hnn:=Int.toNat_of_nonneg k3
     have in2:=fun (ρ:St) => index_sl (σ:=ρ) (kd:=.i64) (l:=(newX g).en) (i:=e.num.toNat) (by rw [hN.enl]; exact hR)
     rw [(hN.en _ hR).2.1,hnn] at in2
     have ne2:τ.n≠τ1.n:=by omega
     have ne3:σ.n≠τ1.n:=by omega
     simp only [go_sem,t0,t2,t4,t9,q0,q1,q2,hec,hsc1,ne1,simC_map,in2,ne2,ne3]
     have hwv:wayV l (newN g).N (newX g) B e=farV l (newN g).N (newX g) ((newX g).ent e.num.toNat) (e.to :: B):=by unfold wayV; rw [if_neg e0,if_neg e1]
     have hG:∀ k,k < τ1.n→((τ1.push (.cells [.d (.int .i64 (e.to:Int))])).push (.cells [.row τ1.n 0 1 1,.d (.slc zb (intsD (natsI B)))])).get k=τ1.get k:=fun k hk => by
      rw [St.get_push_ne (by rw [St.n_push]; omega),St.get_push_ne hk]
     have hGr:((τ1.push (.cells [.d (.int .i64 (e.to:Int))])).push (.cells [.row τ1.n 0 1 1,.d (.slc zb (intsD (natsI B)))])).get τ1.n=.cells [.d (.int .i64 (e.to:Int))]:=by rw [St.get_push_ne (by rw [St.n_push]; omega),St.get_push_eq]
     have hGs:((τ1.push (.cells [.d (.int .i64 (e.to:Int))])).push (.cells [.row τ1.n 0 1 1,.d (.slc zb (intsD (natsI B)))])).get (τ1.n+1)=.cells [.row τ1.n 0 1 1,.d (.slc zb (intsD (natsI B)))]:=St.get_push_eq' (by rw [St.n_push])
     have hGn:((τ1.push (.cells [.d (.int .i64 (e.to:Int))])).push (.cells [.row τ1.n 0 1 1,.d (.slc zb (intsD (natsI B)))])).n=τ1.n+2:=by simp only [St.n_push]
     generalize ((τ1.push (.cells [.d (.int .i64 (e.to:Int))])).push (.cells [.row τ1.n 0 1 1,.d (.slc zb (intsD (natsI B)))]))=τ2 at hG hGr hGs hGn
     have hcat:=concat_c (fz:=fz) h46 h76 [[(e.to:Int)],natsI B] [.row τ1.n 0 1 1,.d (.slc zb (intsD (natsI B)))] (by simp) (by simp [natsI]; omega) (τ1.n+1) τ2 hGs (by omega) (fun i hi => by
      match i,hi with
      | 0,_ => exact ⟨_,rfl,fun ρ hρ => by
       have hr:ρ.get τ1.n=_:=(hρ _ (by omega)).trans hGr
       exact ⟨by rw [sliceCells_row hr (by simp)]; rfl,by rw [sliceLen_row,hr]; rfl⟩⟩
      | 1,_ => exact ⟨_,rfl,fun ρ _ => ints_catA ρ zb (natsI B)⟩)
     have hcat:CallsTo (XX fz) (.func 61 []) [.row (τ1.n+1) 0 2 1] τ2 (.d (.slc false (intsD (natsI (e.to :: B))))) τ2 []:=by
      have:slD [[(e.to:Int)],natsI B].flatten=.slc false (intsD (natsI (e.to :: B))):=by simp [slD,natsI]
      rw [← this]; exact hcat
     refine ⟨_,_,_,hcat,?_⟩
     have hsp:=hs.call hN hget hem e2 (by omega)
     refine ⟨_,_,_,(hfar ((newX g).ent e.num.toNat) (e.to :: B) false τ2 hL (hN.en _ hR).1 hsp.bs (by have:=hsp.ln; omega)).2,?_⟩
     refine ⟨drawOk_rel [16,18] [(16,0),(16,1),(16,2),(16,3),(16,4),(16,5),(16,6),(16,7),(16,8),(16,9),(16,17)] rfl (by kernel_rfl) rfl (by simp [meets]),?_⟩
     rw [← hwv]
     have hra1:=hra1.stay (by rw [hGn]; omega) fun k hk => hG k (hra1.1.lt hk)
     have hsc1:=(hG σ.n (by omega)).trans hsc1
     obtain ⟨ra',τ2,T,bs',happ,hR2,hn2,hg2,hT,hb2⟩:=RowN.snoc (((wayV l (newN g).N (newX g) B e:Nat):Int)) hra1 (by rw [List.length_take]; omega)
     have q1:=hR2.1.cell
     have q2:=hR2.1.cells
     have lT:low σ.n T=[]:=low_all fun k hk => by rcases hT k hk with q | q; (have:=hbs k q; omega); omega
     simp only [go_sem,t9,t29,happ,q1,q2,lT,w1]
     rw [← htake] at hR2
     refine ih _ _ _ _ (by omega) ⟨i+1,ra',bs',rfl,hlj,rfl,by omega,(hg2 _ (by omega) fun q => by have:=hbs _ q; omega).trans hsc1,hR2,fun k hk => by rcases hb2 k hk with q | q; (exact hbs k q); omega,?_,?_,?_,?_,?_,?_,?_⟩
     all_goals first | (simp only [go_sem,t0,t2,t4,t27,t28]; done) | (simp only [go_sem]; rfl)
   · have him:i=r.length:=by omega
     subst him
     rw [List.take_of_length_le (by omega)] at hra
     have f2:=hra.freeze (lo:=σ.n) (n:=fzDepth) (fun k hk => by have:=hbs k hk; omega) (by rw [intsD_len]; unfold fzDepth; omega)
     have f3:=frzW hra.1.cell f2
     rw [isE] at f3
     simp only [go_sem,t9,t27,t28,t29,dec_ge' hlj]
     rw [f3]; rfl
 all_goals first | rfl | (simp only [go_sem]; done) | (simp only [go_sem]; rfl)
end Go.Am.Sm

/- Part SF of a proof that runs a program's calls on a small machine whose values bear no addresses: no conditions. -/
import Derived.Test.YtfhoagkadjinlaaAmSE
set_option autoImplicit false
set_option linter.unusedSimpArgs false
set_option linter.unusedVariables false
set_option linter.unusedSectionVars false
namespace Go.Am.Sm
open Go Go.Am Go.Proofs
variable {fz:Nat→Md}
theorem CallsTo.cutN {X:X} {f:Nat} {cap args:List A} {F:AFn} {σ:St} {P:A→Prop} (hz:X.fz f=.cut) (hF:X.fn f=some F) (hl:args.length+cap.length≤F.nt)
 (e:Ev X f F.nt none σ.n [.code F.body] (initTm (args ++ cap) 0 .nil) σ [] (RetQ X F.results fun a _ W1 => W1=[]∧a.under σ.n=true∧P a)):∃ a,CallsTo X (.func f cap) args σ a σ []∧P a:=by
 obtain ⟨n,o,hn,hq⟩:=e
 cases o with
 | leave _ _ _ => exact hq.elim
 | ret tm σ1 W1 =>
  unfold RetQ at hq
  dsimp only at hq
  split at hq
  · rename_i l hl'
    obtain ⟨rfl,hr,h6⟩:=hq
    exact ⟨_,CallsTo.ofQ hF hl ⟨n,_,hn,by unfold RetQ; dsimp only; rw [hl']; simp [leaveCall,hz,hr,cutSt]⟩,h6⟩
  · exact hq.elim
theorem PlA.any {kr kM kr' kM':Nat} {σ:St} {pa:A} {ps:List Nat} (h:PlA kr kM σ pa ps) (h1:σ.n≤kr') (h2:σ.n≤kM'):PlA kr' kM' σ pa ps:=by
 rcases h with h | ⟨kp,q1,q2,-,-,q5⟩
 · exact .inl h
 · exact .inr ⟨kp,q1,q2,by omega,by omega,q5⟩
abbrev simA (N:Nv) (X:Nx):A:=.d (.vptr (simC N X (clD N)) 0)
theorem eq_sp {cs:List D} {o:Nat} {σ:St}:binA (XX fz) σ .eql 55 (.d (.vptr cs o)) (.d .nptr)=some (.d (.bool false)):=by
 unfold binA eqT; simp only [ti55]; rfl
theorem none2_c (h43:fz 87=.cut) {N:Nv} (X:Nx) (hN:N.es≠[]) (σ:St):CallsTo (XX fz) (.func 87 []) [simA N X] σ (.d (.bool false)) σ []:=by
 refine CallsTo.cut0 h43 fn87 (by simp) rfl ?_
 simp only [Try.f87,Option.getD_some]
 have he:=ne_isEmpty hN
 simp only [go_sem,simA,eq_sp,simC_map,Nv.esD_eq,eq_nslc,he]
theorem away_c (h42:fz 86=.cut) {N:Nv} {X:Nx} {R:Nat} (hN:NetG N X R) {ka:Nat} {σ:St} (hk:σ.get ka=.cells [simA N X]) (hka:ka < σ.n) {n:Nat} (hn:n < N.es.length) :
 CallsTo (XX fz) (.func 86 [.ptr ka 0]) [.d (.int .i64 (n:Int))] σ (.d (.bool false)) σ []:=by
 refine CallsTo.cut0 h42 fn86 (by simp) rfl ?_
 simp only [Try.f86,Option.getD_some]
 have d0:decide ((n:Int) < 0)=false:=by rw [decide_eq_false_iff_not]; omega
 have d1:decide ((n:Int) ≥ (N.rs.length:Int))=false:=by rw [hN.rl,decide_eq_false_iff_not]; omega
 have hs:∀ ρ:St,sliceLen ρ (.d (slD N.rs))=some N.rs.length:=fun ρ => len_sl
 simp only [go_sem,simA,hk,d0,simC_map,hs,d1]
theorem index1_c (h74:fz 112=.cut) (h42:fz 86=.cut) {N:Nv} {X:Nx} {R:Nat} (hN:NetG N X R) {ka kr kM:Nat} {σ:St} (hk:σ.get ka=.cells [simA N X]) (hka:ka < σ.n) {B:List Nat} {pa:A} (hpa:PlA kr kM σ pa B) (hB:∀ b ∈ B,b < N.es.length) (hl:B.length < 1000000000) :
 CallsTo (XX fz) (.func 112 []) [pa,.func 86 [.ptr ka 0]] σ (.d (.int .i64 (-1))) σ []:=by
 refine CallsTo.cut0 h74 fn112 (by simp) rfl ?_
 simp only [Try.f112,Option.getD_some]
 have hsl:=hpa.len
 simp only [go_sem,hsl]
 refine Ev.loop_ind (fun k tm τ W => ∃ i:Nat,k=B.length - i∧i≤B.length∧W=[]∧τ=σ∧tm.at 0=pa∧tm.at 1=.func 86 [.ptr ka 0]∧tm.at 7=.d (.int .i64 (B.length:Int))∧tm.at 8=.d (.int .i64 (i:Int))) ?_ B.length _ _ _ ⟨0,rfl,Nat.zero_le _,rfl,rfl,?_,?_,?_,?_⟩
 · rintro k tm τ W ⟨i,rfl,hi,rfl,rfl,t0,t1,t7,t8⟩ ih
   by_cases hli:i < B.length
   · obtain ⟨Pp,R1,R2,hix,hld⟩:=hpa.idx hli
     simp only [go_sem,t0,t1,t7,t8,dec_lt' hli,hix,hld]
     refine ⟨_,_,_,away_c h42 hN hk hka (hB _ (List.getElem_mem hli)),?_⟩
     simp only [go_sem,t8,wrap_succ' hli hl]
     refine ih _ _ _ _ (by omega) ⟨i+1,rfl,hli,rfl,rfl,?_,?_,?_,?_⟩
     all_goals (simp only [go_sem,t0,t1,t7])
   · simp only [go_sem,t0,t1,t7,t8,dec_ge' hli]
     try rfl
 all_goals first | rfl | (simp only [go_sem]; done) | (simp only [go_sem]; rfl)
theorem contains1_c (h44:fz 88=.cut) (h74:fz 112=.cut) (h42:fz 86=.cut) {N:Nv} {X:Nx} {R:Nat} (hN:NetG N X R) {ka kr kM:Nat} {σ:St} (hk:σ.get ka=.cells [simA N X]) (hka:ka < σ.n) {B:List Nat} {pa:A} (hpa:PlA kr kM σ pa B) (hB:∀ b ∈ B,b < N.es.length) (hl:B.length < 1000000000) :
 CallsTo (XX fz) (.func 88 []) [pa,.func 86 [.ptr ka 0]] σ (.d (.bool false)) σ []:=by
 refine CallsTo.cut0 h44 fn88 (by simp) rfl ?_
 simp only [Try.f88,Option.getD_some]
 simp only [go_sem]
 refine ⟨_,_,_,index1_c h74 h42 hN hk hka hpa hB hl,?_⟩
 have d0:decide ((-1:Int) ≥ 0)=false:=rfl
 simp only [go_sem,d0]
theorem cmp108:(XX fz).cmp 108=true:=by kernel_rfl
theorem eq_ar {σ:St} {a b c d:Int}:binA (XX fz) σ .eql 108 (.agg [.d (.int .i64 a),.d (.int .i64 b)]) (.agg [.d (.int .i64 c),.d (.int .i64 d)])=some (.d (.bool (a == c && b == d))):=by
 have e3:∀ x y:Int,eqT (XX fz) σ 7 3 (.d (.int .i64 x)) (.d (.int .i64 y))=some (x == y):=fun x y => by rw [eqT,ti3]; rfl
 have key:eqT (XX fz) σ 8 108 (.agg [.d (.int .i64 a),.d (.int .i64 b)]) (.agg [.d (.int .i64 c),.d (.int .i64 d)])=some ((a == c) && (b == d)):=by
  rw [eqT,ti108]; dsimp only; rw [cmp108,if_neg (by simp)]
  simp only [eqArr,part3,Nat.zero_mul,Nat.zero_add,Nat.mul_one,List.getElem?_cons_zero,List.getElem?_cons_succ,e3]
  cases (a == c) <;> cases (b == d) <;> rfl
 unfold binA
 dsimp only
 rw [key]; rfl
theorem index_cl {σ:St} {xs:List (List D)} {z:Bool} {i:Nat} {x:List D} (h2:∀ x ∈ xs,x.length=2) (h:xs[i]?=some x):indexK σ 2 (.d (.slc z xs)) (.d (.int .i64 (i:Int)))=.val (.d (.vptr x 0)) σ [] []:=by
 rw [indexK_d]; exact indexD_nat (by simp [h]) (h2 _ (List.mem_of_getElem? h))
theorem index2_c (h75:fz 113=.cut) {xs:List (List D)} {z:Bool} (h2:∀ x ∈ xs,∃ a b:Int,x=[.int .i64 a,.int .i64 b]) (hl:xs.length < 1000000000) {b r:Int} (hm:[D.int .i64 b,D.int .i64 r] ∈ xs) (σ:St) :
 ∃ i:Nat,CallsTo (XX fz) (.func 113 []) [.d (.slc z xs),.agg [.d (.int .i64 b),.d (.int .i64 r)]] σ (.d (.int .i64 (i:Int))) σ []:=by
 suffices h:∃ a,CallsTo (XX fz) (.func 113 []) [.d (.slc z xs),.agg [.d (.int .i64 b),.d (.int .i64 r)]] σ a σ []∧∃ i:Nat,a=.d (.int .i64 (i:Int)) by
  obtain ⟨_,h,i,rfl⟩:=h
  exact ⟨i,h⟩
 refine CallsTo.cutN h75 fn113 (by simp) ?_
 simp only [Try.f113,Option.getD_some]
 have hsl:∀ ρ:St,sliceLen ρ (.d (.slc z xs))=some xs.length:=fun _ => rfl
 simp only [go_sem,hsl]
 refine Ev.loop_ind (fun k tm τ W => ∃ i:Nat,k=xs.length - i∧i≤xs.length∧W=[]∧τ=σ.push (.cells [.d (.int .i64 b),.d (.int .i64 r)])∧(∀ x ∈ xs.take i,x≠[D.int .i64 b,D.int .i64 r])∧tm.at 0=.d (.slc z xs)∧tm.at 3=.ptr σ.n 0∧tm.at 7=.d (.int .i64 (xs.length:Int))∧tm.at 8=.d (.int .i64 (i:Int))) ?_ xs.length _ _ _ ⟨0,rfl,Nat.zero_le _,rfl,rfl,(fun x hx => by simp at hx),?_,?_,?_,?_⟩
 · rintro k tm τ W ⟨i,rfl,hi,rfl,rfl,hno,t0,t3,t7,t8⟩ ih
   by_cases hli:i < xs.length
   · have hget:xs[i]?=some xs[i]:=by simp [hli]
     obtain ⟨c,d,hcd⟩:=h2 _ (List.getElem_mem hli)
     have hix:=fun ρ:St => index_cl (σ:=ρ) (z:=z) (fun x hx => by obtain ⟨_,_,rfl⟩:=h2 x hx; rfl) hget
     rw [hcd] at hix
     simp only [go_sem,t0,t3,t7,t8,dec_lt' hli,hix,eq_ar]
     refine ⟨drawOk_rel [] [] rfl (by kernel_rfl) rfl (by simp),?_⟩
     cases hq:(b == c && r == d) with
     | true =>
      simp only [go_sem,hq]
      exact ⟨rfl,i,rfl⟩
     | false =>
      simp only [go_sem,hq,t8,wrap_succ' hli hl]
      refine ih _ _ _ _ (by omega) ⟨i+1,rfl,hli,rfl,rfl,fun x hx => ?_,?_,?_,?_,?_⟩
      · rw [List.take_succ_eq_append_getElem hli,List.mem_append] at hx
        rcases hx with hx | hx
        · exact hno x hx
        · simp only [List.mem_singleton] at hx
          rw [hx,hcd]
          intro e
          injection e with e1 e2
          injection e2 with e2 _
          injection e1 with _ e1
          injection e2 with _ e2
          subst e1; subst e2
          simp at hq
      all_goals (simp only [go_sem,t0,t3,t7])
   · exfalso
     rw [List.take_of_length_le (by omega)] at hno
     exact hno _ hm rfl
 all_goals first | rfl | (simp only [go_sem]; done) | (simp only [go_sem]; rfl)
end Go.Am.Sm
namespace Go.Am.Sm
open Go Go.Am Go.Proofs
variable {fz:Nat→Md}
theorem contains2_c (h45:fz 89=.cut) (h75:fz 113=.cut) {xs:List (List D)} {z:Bool} (h2:∀ x ∈ xs,∃ a b:Int,x=[.int .i64 a,.int .i64 b]) (hl:xs.length < 1000000000) {b r:Int} (hm:[D.int .i64 b,D.int .i64 r] ∈ xs) (σ:St) :
 CallsTo (XX fz) (.func 89 []) [.d (.slc z xs),.agg [.d (.int .i64 b),.d (.int .i64 r)]] σ (.d (.bool true)) σ []:=by
 refine CallsTo.cut0 h45 fn89 (by simp) rfl ?_
 simp only [Try.f89,Option.getD_some]
 obtain ⟨i,hi⟩:=index2_c h75 (z:=z) h2 hl hm (σ.push (.cells [.d (.int .i64 b),.d (.int .i64 r)]))
 simp only [go_sem]
 refine ⟨_,_,_,hi,?_⟩
 have d0:decide ((i:Int) ≥ 0)=true:=by simp
 simp only [go_sem,d0]
def Chn (N:Nv):Int→List Nat→Prop
 | r,[] => r=0
 | r,b :: B => [D.int .i64 (b:Int),D.int .i64 r] ∈ clX N.es∧Chn N (N.rule b) B
structure SpOk (N:Nv) (s:Nat) (B:List Nat):Prop where
 st:s < N.es.length
 bs:∀ b ∈ B,b < N.es.length
 ch:Chn N (N.rule s) B
 ln:B.length≤8192
theorem clX_2 (es:List (List Eg)):∀ x ∈ clX es,∃ a b:Int,x=[.int .i64 a,.int .i64 b]:=fun x hx => by
 obtain ⟨r,-,hx⟩:=List.mem_flatMap.1 hx
 obtain ⟨e,-,rfl⟩:=List.mem_map.1 hx
 exact ⟨_,_,rfl⟩
theorem clX_len {es:List (List Eg)} {K:Nat} (h:∀ r ∈ es,r.length≤K):(clX es).length≤es.length * K:=by
 induction es with
 | nil => simp [clX]
 | cons r es ih =>
  have h1:=ih fun q hq => h q (by simp [hq])
  have h2:=h r (by simp)
  have h3:(clR r).length≤r.length:=by unfold clR; rw [List.length_map]; exact List.length_filter_le _ _
  unfold clX at h1 ⊢
  rw [List.flatMap_cons,List.length_append,List.length_cons,Nat.add_mul]
  omega
theorem clX_mem {N:Nv} {s:Nat} {r:List Eg} {e:Eg} (h1:N.es[s]?=some r) (h2:e ∈ r) (h3:e.kind=2):[D.int .i64 (e.to:Int),D.int .i64 e.num] ∈ clX N.es:=by
 refine List.mem_flatMap.2 ⟨r,List.mem_of_getElem? h1,List.mem_map.2 ⟨e,?_,rfl⟩⟩
 rw [List.mem_filter]; exact ⟨h2,by rw [h3]; rfl⟩
set_option maxHeartbeats 8000000 in
theorem check13_c (h13:fz 59=.cut) (h43:fz 87=.cut) (h42:fz 86=.cut) (h44:fz 88=.cut) (h74:fz 112=.cut) (h45:fz 89=.cut) (h75:fz 113=.cut) {N:Nv} {X:Nx} {R:Nat} (hN:NetG N X R) (hF:N.Fits 10000) {s:Nat} {B:List Nat} (hs:SpOk N s B) {kr kM:Nat} {σ:St} {ba:A} (hpa:PlA kr kM σ ba B) :
 CallsTo (XX fz) (.func 59 []) [simA N X,.agg [.d (.int .i64 (s:Int)),ba]] σ (.d (.int .i64 0)) σ []:=by
 have hne:N.es≠[]:=fun e => by have:=hs.st; rw [e] at this; simp at this
 have hel:=hF.e
 have hcl:(clX N.es).length < 1000000000:=by
  have h1:=clX_len hF.l
  have h2:=Nat.mul_le_mul_right 10000 hel
  omega
 refine CallsTo.cut0 h13 fn59 (by simp) rfl ?_
 simp only [Try.f59,Option.getD_some]
 have hbl:=hs.ln
 have hg:∀ k,k < σ.n→((σ.push (.cells [simA N X])).push (.cells [.d (.int .i64 (s:Int)),ba])).get k=σ.get k:=fun k hk => by
  rw [St.get_push_ne (by rw [St.n_push]; omega),St.get_push_ne hk]
 have hpa2:=(hpa.any (kr':=σ.n) (kM':=σ.n) (Nat.le_refl _) (Nat.le_refl _)).stay (τ:=(σ.push (.cells [simA N X])).push (.cells [.d (.int .i64 (s:Int)),ba])) (by simp only [St.n_push]; omega) fun k hk _ _ => hg k hk
 have gA:((σ.push (.cells [simA N X])).push (.cells [.d (.int .i64 (s:Int)),ba])).get σ.n=.cells [simA N X]:=by rw [St.get_push_ne (by rw [St.n_push]; omega),St.get_push_eq]
 have gB:((σ.push (.cells [simA N X])).push (.cells [.d (.int .i64 (s:Int)),ba])).get (σ.n+1)=.cells [.d (.int .i64 (s:Int)),ba]:=by rw [St.get_push_eq' (by rw [St.n_push])]
 have hsl:=hpa2.len
 have hcc:ba.cells=some [ba]∧ba.isCell=true:=by
  rcases hpa with ⟨z,rfl⟩ | ⟨kp,rfl,-⟩ <;> exact ⟨rfl,rfl⟩
 obtain ⟨c1,c2⟩:=hcc
 have d0:decide ((B.length:Int) > 8192)=false:=by rw [decide_eq_false_iff_not]; omega
 have n2:((σ.push (.cells [simA N X])).push (.cells [.d (.int .i64 (s:Int)),ba])).n=σ.n+2:=by simp only [St.n_push]
 simp only [go_sem,c1,c2]
 generalize ((σ.push (.cells [simA N X])).push (.cells [.d (.int .i64 (s:Int)),ba]))=τ0 at hpa2 gA gB hsl n2
 refine ⟨_,_,_,none2_c h43 X hne _,?_⟩
 simp only [go_sem,gA,gB,hsl,d0]
 refine ⟨_,_,_,away_c h42 hN gA (by omega) hs.st,?_⟩
 simp only [go_sem,gA,gB,hsl,d0]
 refine ⟨_,_,_,contains1_c h44 h74 h42 hN gA (by omega) hpa2 hs.bs (by omega),?_⟩
 have hil:s < N.rs.length:=by rw [hN.rl]; exact hs.st
 have in1:=fun (ρ:St) => index_sl (σ:=ρ) (kd:=.i64) hil
 simp only [go_sem,gA,gB,simC_map,in1]
 refine ⟨drawOk_rel [] [] rfl (by kernel_rfl) rfl (by simp),?_⟩
 simp only [go_sem,gB,hsl]
 refine Ev.loop_ind (fun k tm τ W => ∃ (i:Nat) (r:Int),k=B.length - i∧i≤B.length∧W=[]∧τ=τ0∧Chn N r (B.drop i)∧tm.at 2=.ptr σ.n 0∧tm.at 3=.ptr (σ.n+1) 0∧tm.at 6=.d (.int .i64 r)∧tm.at 38=ba∧tm.at 39=.d (.int .i64 (B.length:Int))∧tm.at 40=.d (.int .i64 (i:Int))) ?_ B.length _ _ _ ⟨0,N.rule s,rfl,Nat.zero_le _,rfl,rfl,hs.ch,?_,?_,?_,?_,?_,?_⟩
 · rintro k tm τ W ⟨i,r,rfl,hi,rfl,rfl,hch,t2,t3,t6,t38,t39,t40⟩ ih
   by_cases hli:i < B.length
   · obtain ⟨Pp,R1,R2,hix,hld⟩:=hpa2.idx hli
     rw [List.drop_eq_getElem_cons hli] at hch
     obtain ⟨hm,hch⟩:=hch
     have hbs:=hs.bs _ (List.getElem_mem hli)
     have in2:=fun (ρ:St) => index_sl (σ:=ρ) (kd:=.i64) (l:=N.rs) (i:=B[i]) (by rw [hN.rl]; exact hbs)
     simp only [go_sem,t2,t3,t6,t38,t39,t40,dec_lt' hli,hix,hld,gA,simC_map]
     refine ⟨_,_,_,contains2_c h45 h75 (clX_2 _) hcl hm _,?_⟩
     simp only [go_sem,t2,t3,t6,t38,t39,t40,gA,simC_map,in2,wrap_succ' hli (show B.length < 1000000000 by omega)]
     refine ih _ _ _ _ (by omega) ⟨i+1,N.rule B[i],rfl,hli,rfl,rfl,hch,?_,?_,?_,?_,?_,?_⟩
     all_goals first | (simp only [go_sem,t2,t3,t38,t39]; done) | (simp only [go_sem]; rfl)
   · rw [List.drop_eq_nil_of_le (by omega)] at hch
     have hr:r=0:=hch
     subst hr
     have c0:((0:Int) != 0)=false:=rfl
     simp only [go_sem,t2,t3,t6,t38,t39,t40,dec_ge' hli,c0]
 all_goals first | rfl | (simp only [go_sem]; done) | (simp only [go_sem]; rfl)
noncomputable def viaV (l:List Int) (N:Nv) (X:Nx) (s:Nat) (B:List Nat):A:=.tup [.d (.int .i64 ((farV l N X s B:Nat):Int)),.d (.int .i64 0)]
theorem viable_c (h12:fz 27=.cut) (h13:fz 59=.cut) (h43:fz 87=.cut) (h42:fz 86=.cut) (h44:fz 88=.cut) (h74:fz 112=.cut) (h45:fz 89=.cut) (h75:fz 113=.cut) (h41:fz 60=.cut) (h86:fz 115=.cut) (h73:fz 90=.ice) (h85:fz 114=.keep) {zt:Bool} {g:Gr} {l:List Int} (hg:SmallG g) (hc:checkP g=0) (hL:l.length≤1000)
 {s:Nat} {B:List Nat} (hs:SpOk (newN g).N s B) {kr kM:Nat} {σ:St} {ba:A} (hpa:PlA kr kM σ ba B) :
 IsFar l (newN g).N (newX g) s B (farV l (newN g).N (newX g) s B)∧CallsTo (XX fz) (.func 27 []) [simA (newN g).N (newX g),.agg [.d (.int .i64 (s:Int)),ba],.d (.slc zt (intsD l))] σ (viaV l (newN g).N (newX g) s B) σ []:=by
 have h:=GOk.of hc
 have hN:=newN_G h
 have hbl:=hs.ln
 have hcc:ba.cells=some [ba]∧ba.isCell=true:=by
  rcases hpa with ⟨z,rfl⟩ | ⟨kp,rfl,-⟩ <;> exact ⟨rfl,rfl⟩
 obtain ⟨c1,c2⟩:=hcc
 have hpa2:=(hpa.any (kr':=σ.n) (kM':=σ.n) (Nat.le_refl _) (Nat.le_refl _)).stay (τ:=σ.push (.cells [.d (.int .i64 (s:Int)),ba])) (by simp only [St.n_push]; omega) fun k hk _ _ => St.get_push_ne hk
 obtain ⟨hfar,hcall⟩:=far_c (fz:=fz) (cl:=clD (newN g).N) (zt:=zt) h41 h86 h73 h85 hg hc hL hs.st hs.bs (by omega) ba _ (hpa2.any (Nat.le_succ _) (Nat.le_refl _))
 refine ⟨hfar,CallsTo.cut0 h12 fn27 (by simp) rfl ?_⟩
 simp only [Try.f27,Option.getD_some]
 simp only [go_sem,c1,c2]
 refine ⟨_,_,_,check13_c h13 h43 h42 h44 h74 h45 h75 hN (newN_fits h) hs hpa2,?_⟩
 have c0:((0:Int) != 0)=false:=rfl
 simp only [go_sem,c0]
 refine ⟨_,_,_,hcall,?_⟩
 simp only [go_sem,viaV]
end Go.Am.Sm

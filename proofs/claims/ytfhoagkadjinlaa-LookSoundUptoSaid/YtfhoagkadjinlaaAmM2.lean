/- Part M2 of a proof that runs a program's calls on a small machine whose values bear no addresses: no conditions. -/
import Derived.Test.YtfhoagkadjinlaaAmM1
set_option autoImplicit false
set_option linter.unusedSimpArgs false
set_option linter.unusedVariables false
set_option linter.unusedSectionVars false
namespace Go.Am
open Go Go.Proofs
variable {fz:Nat→Md}
theorem layA_cons (y:Ex) (l:List Ex) (f t:Nat) (N:Nv):layA (y :: l) f t N=layA l f t (layW y f t N):=by rw [layA]; rfl
theorem layH_cons (y:Ex) (l:List Ex) (f t:Nat) (N:Nv):layH (y :: l) f t N=layW y f t N:=by rw [layH]; rfl
theorem layW_fits (y:Ex) (f t B:Nat) (N:Nv) (h:N.Fits B):(layW y f t N).Fits (B+5 * y.szS)∧N.es.length≤(layW y f t N).es.length:=by
 have h1:=layE_fits y N.es.length t (B+2) _ ((h.fresh (N.rule f)).edge f 0 0 N.es.length)
 have h3:=y.szS_pos
 rw [Nv.es_edge,Nv.es_fresh] at h1
 exact ⟨h1.1.mono (by omega),by have:=h1.2; unfold layW; omega⟩
theorem Ex.szS_l (x:Ex):x.szS=1+Ex.szSL x.l:=by cases x; rw [Ex.szS]; rfl
theorem slice_hi {fz:Nat→Md} {tm:Tm} {σ:St} {a b:Nat} {z:Bool} {xs:List (List D)} {n:Nat} {dst:Option Nat} {ty:Nat} {pos:String} {af:Array Edge} {g:Option (Nat × Bool)} (ha:tm.at a=.d (.slc z xs)) (hb:tm.at b=.d (.int .i64 (n:Int))) (hn:n≤xs.length) (hall:∀ c ∈ xs,c.length=3) :
 evalOp (XX fz) tm σ { dst:=dst,op:=Op.slice 38 (Operand.tmp a) none (some (Operand.tmp b)) none,type:=ty,pos:=pos,after:=af,guard:=g }=.val (.d (.slc z (xs.take n))) σ [] []:=by
 have h2:bnd tm (some (Operand.tmp b)) xs.length=some n:=by simp [bnd,ev,hb]
 have h3:bnd tm none 0=some 0:=rfl
 have hall2:((List.drop 0 (List.take n xs)).all fun c => c.length == 3)=true:=by
  rw [List.drop_zero,List.all_eq_true]; intro c hc; simpa using hall c (List.mem_of_mem_take hc)
 unfold evalOp
 rw [List.drop_zero] at hall2
 simp only [ti38,ti40,ev,ha,h2,h3,hall2,Nat.zero_le,hn,and_self,if_true,List.drop_zero]
theorem okE.kind0 {t:Int} {r:Nat} {x:Ex} (h:okE t r x) (k1:¬x.kind=1) (k2:¬x.kind=2) (k3:¬x.kind=3) (k4:¬x.kind=4) (k5:¬x.kind=5) (k6:¬x.kind=6):x.kind=0:=by
 have:=h.c
 by_cases k0:x.kind=0
 · exact k0
 · unfold rightN at this
   rw [if_neg k0,if_neg k1,if_neg k2,if_neg k4,if_neg k3,if_neg (by omega)] at this
   cases this
set_option maxHeartbeats 8000000 in
theorem lay_c (h40:fz 44=.keep) (h80:fz 76=.keep) (h39:fz 43=.keep) (h79:fz 75=.keep) {t0:Int} {r0:Nat} {lo p B:Nat} (y:Ex) (hy:SmallE y) (ho:okE t0 r0 y) (f t:Nat)
 {tag:Nat→Nat} {σ:St} {N:Nv} {x:Nx} (h:NetM lo tag σ p N x) (hB:N.Fits B) (hb:B+5 * y.szS < 1000000000) (hf:f < N.es.length) :
 NRun (XX fz) lo p (.func 44 []) [.ptr p 0,y.a,.d (.int .i64 (f:Int)),.d (.int .i64 (t:Int))] tag σ (.tup []) (layE y f t N) x:=by
 refine NRun.of h40 fn44 (by simp) ?_
 simp only [Try.f44,Option.getD_some]
 have h1:=h.push (.cells y.c)
 have hK0:KeptT tag σ tag (σ.push (.cells y.c)) []:=KeptT.refl.push _
 have htl:tag σ.n=7:=h.high _ (Nat.le_refl _)
 have hsz:=y.szS_l
 have hlen:=hy.len
 rw [layE_eq]
 simp only [go_sem,Ex.a]
 by_cases k1:y.kind=1
 · have e:(y.kind == 1)=true:=by simpa using k1
   rw [if_pos k1]
   simp only [go_sem,e]
   obtain ⟨σ3,T3,tag3,c3,h3,hK3⟩:=edge_c h79 h1 hB (by omega) f 1 y.num t hf
   refine ⟨_,_,_,c3,?_⟩
   exact ⟨tag3,h3,hK0.call hK3⟩
 have e1:(y.kind == 1)=false:=by simpa using k1
 rw [if_neg k1]
 by_cases k2:y.kind=2
 · have e:(y.kind == 2)=true:=by simpa using k2
   rw [if_pos k2]
   simp only [go_sem,e1,e]
   obtain ⟨σ3,T3,tag3,c3,h3,hK3⟩:=edge_c h79 h1 hB (by omega) f 2 y.num t hf
   refine ⟨_,_,_,c3,?_⟩
   exact ⟨tag3,h3,hK0.call hK3⟩
 have e2:(y.kind == 2)=false:=by simpa using k2
 rw [if_neg k2]
 by_cases k3:y.kind=3
 · have n4:(y.kind == 4)=false:=by rw [k3]; rfl
   have n5:(y.kind == 5)=false:=by rw [k3]; rfl
   have n6:(y.kind == 6)=false:=by rw [k3]; rfl
   have e:(y.kind == 3)=true:=by simpa using k3
   rw [if_pos k3]
   cases hcl:decide ((y.l.length:Int) > 0) with
   | false =>
    have hl0:y.l=[]:=by
     have:¬ ((y.l.length:Int) > 0):=by simpa using hcl
     exact List.length_eq_zero_iff.1 (by omega)
    simp only [go_sem,e1,e2,n4,n5,n6,e,hcl]
    obtain ⟨σ3,T3,tag3,c3,h3,hK3⟩:=edge_c h79 h1 hB (by omega) f 0 0 t hf
    refine ⟨_,_,_,c3,?_⟩
    rw [hl0,layS]
    exact ⟨tag3,h3,hK0.call hK3⟩
   | true =>
   have hl0:0 < y.l.length:=by have:((y.l.length:Int) > 0):=(by simpa using hcl); omega
   obtain ⟨m,hm⟩:∃ m,y.l.length=m+1:=⟨y.l.length - 1,by omega⟩
   have hld:y.ld=.d (.slc false (y.l.map Ex.cs)):=by
    unfold Ex.ld
    have:y.l.isEmpty=false:=by cases hq:y.l with
     | nil => rw [hq] at hl0; simp at hl0
     | cons _ _ => rfl
    rw [this,Bool.and_false]
   have hw:IntKind.i64.wrap ((y.l.length:Int) - 1)=(m:Int):=by rw [wrap_small (by omega) (by omega)]; omega
   have hsl:∀ (tm:Tm) (σ:St) (pos:String) (af:Array Edge),tm.at 99=y.ld→tm.at 101=.d (.int .i64 (m:Int))→evalOp (XX fz) tm σ { dst:=some 102,op:=Op.slice 38 (Operand.tmp 99) none (some (Operand.tmp 101)) none,type:=38,pos:=pos,after:=af,guard:=none }=.val (Ex.mk 0 0 false (y.l.take m)).ld σ [] []:=fun tm σ pos af q1 q2 => by
    rw [hld] at q1
    rw [slice_hi q1 q2 (by rw [List.length_map]; omega) (by intro c hc; obtain ⟨w,-,rfl⟩:=List.mem_map.1 hc; exact w.cs_len)]
    rw [← List.map_take]; rfl
   simp only [go_sem,e1,e2,n4,n5,n6,e,hcl,hw]
   rw [hsl _ _ _ _ (by simp only [go_sem]) (by simp only [go_sem])]
   have hyl:(Ex.mk 0 0 false (y.l.take m)).l=y.l.take m:=rfl
   generalize Ex.mk 0 0 false (y.l.take m)=ym at hyl
   have hyml:ym.l.length=m:=by rw [hyl,List.length_take]; omega
   have hlast:y.l[m]?=some (y.l[m]'(by omega)):=by simp [hm]
   have hmemL:(y.l[m]'(by omega)) ∈ y.l:=List.getElem_mem _
   generalize (y.l[m]'(by omega))=yl at hlast hmemL
   have hdm:y.l.drop m=[yl]:=by
    have h9:m < y.l.length:=by omega
    rw [List.drop_eq_getElem_cons h9,List.drop_eq_nil_of_le (by omega)]
    have:=List.getElem?_eq_some_iff.1 hlast
    obtain ⟨_,h10⟩:=this
    rw [h10]
   simp only [go_sem,hyml]
   refine Ev.loop_ind (fun k tm τ W => ∃ (i:Nat) (B':Nat) (N':Nv) (tag':Nat→Nat) (f':Nat),k=m - i∧i≤m∧NetM lo tag' τ p N' x∧KeptT tag σ tag' τ W∧N'.Fits B'∧B'+5 * Ex.szSL (y.l.drop i)≤B+5 * Ex.szSL y.l∧f' < N'.es.length∧layS (y.l.drop i) f' t N'=layS y.l f t N∧
    σ.n+1≤τ.n∧τ.get σ.n=.cells y.c∧tag' σ.n=7∧tm.at 0=.ptr p 0∧tm.at 2=.d (.int .i64 (f':Int))∧tm.at 3=.d (.int .i64 (t:Int))∧tm.at 5=.ptr σ.n 0∧tm.at 11=.d (.int .i64 (y.l.length:Int))∧tm.at 102=ym.ld∧tm.at 103=.d (.int .i64 (m:Int))∧tm.at 104=.d (.int .i64 i)) ?_ m _ _ _ ⟨0,B,N,tag,f,rfl,by omega,h1,hK0,hB,by simp,hf,rfl,by simp [St.n_push],St.get_push_eq,htl,?_,?_,?_,?_,?_,?_,?_,?_⟩
   · rintro k tm τ W ⟨i,B',N',tag',f',rfl,hi,hM,hK,hF,hBB,hff,he,hn,gx,tgx,t0',t2,t3,t5,t11,t102,t103,t104⟩ ih
     by_cases hl:i < m
     · have hl':i < y.l.length:=by omega
       have hget:ym.l[i]?=some y.l[i]:=by rw [hyl,List.getElem?_take,if_pos hl]; simp [hl']
       have hmem:y.l[i] ∈ y.l:=List.getElem_mem hl'
       have hd2:y.l.drop (i+1)=y.l[i+1] :: y.l.drop (i+1+1):=List.drop_eq_getElem_cons (by omega)
       rw [List.drop_eq_getElem_cons hl',hd2,layS_cons2,← hd2] at he
       rw [List.drop_eq_getElem_cons hl',Ex.szSL] at hBB
       have hpos:=y.l[i].szS_pos
       obtain ⟨ae,ar,an,al,ac,ag,hc,hE,hR,hX⟩:=hM.cell
       obtain ⟨kr,cr,rfl,hkr,kl,hat⟩:=hR.int_at (i:=f') (by rw [hF.r]; exact hff)
       have hidx:∀ τ:St,indexR τ 1 kr 0 N'.rs.length 1 (f':Int) (.cells cr)=.val (.ptr kr (0+f' * 1)) τ [] [kr]:=fun τ => indexR_nat (by rw [hF.r]; exact hff)
       simp only [Nat.zero_add,Nat.mul_one] at hidx
       have hlt:=hM.lt
       have ne1:p≠τ.n:=by omega
       have ne2:kr≠τ.n:=by omega
       simp only [go_sem,t0',t2,t3,t5,t11,t102,t103,t104,dec_lt' hl,Ex.index_ld hget,hc,hkr,hidx,hat,hlt,ne1,ne2]
       have lz:low σ.n [τ.n]=[]:=by rw [low_cons_ge hK.n]; rfl
       generalize hτ:(τ.push (.cells [.d (.int .i64 0),.d (.int .i64 0),.d (.slc true [])])).set τ.n (.cells y.l[i].c)=τ1
       have hM1:NetM lo tag' τ1 p N' x:=by rw [← hτ]; exact (hM.push _).set (hM.high _ (Nat.le_refl _)) _
       have hK1:KeptT tag σ tag' τ1 W:=by rw [← hτ]; exact (hK.push _).set _ (.inl hK.n)
       have n1:τ1.n=τ.n+1:=by rw [← hτ]; simp [St.n_push,St.n_set]
       have g1:τ1.get τ.n=.cells y.l[i].c:=by rw [← hτ,St.get_set_eq]
       have gs1:τ1.get σ.n=.cells y.c:=by rw [← hτ,St.get_set_ne (by omega),St.get_push_ne (by omega)]; exact gx
       have tg1:tag' τ.n=7:=hM.high _ (Nat.le_refl _)
       obtain ⟨σ2,T2,tag2,c2,h2,hK2⟩:=fresh_c h39 hM1 hF (by omega) (N'.rs.getD f' 0)
       refine ⟨_,_,_,c2,?_⟩
       have hB2:=hF.fresh (N'.rs.getD f' 0)
       have es2:=Nv.es_fresh N' (N'.rs.getD f' 0)
       have g2:σ2.get τ.n=.cells y.l[i].c:=by rw [hK2.same _ (by omega) tg1]; exact g1
       have gs2:σ2.get σ.n=.cells y.c:=by rw [hK2.same _ (by omega) tgx]; exact gs1
       have tg2:tag2 σ.n=7:=by rw [hK2.tags _ (by omega)]; exact tgx
       simp only [go_sem,g2,lz,t2]
       obtain ⟨σ3,T3,tag3,c3,h3,hK3⟩:=lay_c h40 h80 h39 h79 y.l[i] (hy.sub hmem) (ho.sub hmem) f' N'.es.length h2 hB2 (by omega) (by omega)
       refine ⟨_,_,_,c3,?_⟩
       have hW:=layE_fits y.l[i] f' N'.es.length _ _ hB2
       have hn2:=hK2.n
       have hn3:=hK3.n
       simp only [go_sem,t104,wrap_succ' hl (by omega)]
       refine ih _ _ _ _ (by omega) ⟨i+1,_,_,tag3,N'.es.length,rfl,hl,h3,(hK1.call hK2).call hK3,hW.1,by omega,by omega,he,by omega,?_,?_,by simp only [go_sem,t0'],by simp only [go_sem],by simp only [go_sem,t3],by simp only [go_sem,t5],by simp only [go_sem,t11],by simp only [go_sem,t102],by simp only [go_sem,t103],by simp only [go_sem]⟩
       · rw [hK3.same _ (by omega) tg2]; exact gs2
       · rw [hK3.tags _ (by omega)]; exact tg2
     · have him:i=m:=by omega
       subst him
       rw [hdm,layS_one] at he
       rw [hdm,Ex.szSL,Ex.szSL] at hBB
       have hi0:∀ σ:St,indexK σ 3 y.ld (.d (.int .i64 (i:Int)))=.val (.d (.vptr yl.cs 0)) σ [] []:=fun σ => Ex.index_ld (σ:=σ) (kd:=.i64) hlast
       simp only [go_sem,t0',t2,t3,t5,t11,t102,t103,t104,dec_ge' hl,gx,hw,Ex.c,List.getElem?_cons_zero,List.getElem?_cons_succ,hi0]
       obtain ⟨σ3,T3,tag3,c3,h3,hK3⟩:=lay_c h40 h80 h39 h79 yl (hy.sub hmemL) (ho.sub hmemL) f' t hM hF (by omega) hff
       refine ⟨_,_,_,c3,?_⟩
       rw [← he]
       exact ⟨tag3,h3,hK.call hK3⟩
   all_goals first | rfl | (simp only [go_sem]; done) | (simp only [go_sem]; rfl)
 have e3:(y.kind == 3)=false:=by simpa using k3
 rw [if_neg k3]
 by_cases k4:y.kind=4
 · have e:(y.kind == 4)=true:=by simpa using k4
   rw [if_pos k4]
   simp only [go_sem,e1,e2,e3,e]
   refine Ev.loop_ind (fun k tm τ W => ∃ (i:Nat) (B':Nat) (N':Nv) (tag':Nat→Nat),k=y.l.length - i∧i≤y.l.length∧NetM lo tag' τ p N' x∧KeptT tag σ tag' τ W∧N'.Fits B'∧B'+5 * Ex.szSL (y.l.drop i)≤B+5 * Ex.szSL y.l∧N.es.length≤N'.es.length∧layA (y.l.drop i) f t N'=layA y.l f t N∧
    tm.at 0=.ptr p 0∧tm.at 2=.d (.int .i64 (f:Int))∧tm.at 3=.d (.int .i64 (t:Int))∧tm.at 44=y.ld∧tm.at 45=.d (.int .i64 (y.l.length:Int))∧tm.at 46=.d (.int .i64 i)) ?_ y.l.length _ _ _ ⟨0,B,N,tag,rfl,by omega,h1,hK0,hB,by simp,by omega,rfl,?_,?_,?_,?_,?_,?_⟩
   · rintro k tm τ W ⟨i,B',N',tag',rfl,hi,hM,hK,hF,hBB,hNN,he,t0',t2,t3,t44,t45,t46⟩ ih
     by_cases hl:i < y.l.length
     · have hget:y.l[i]?=some y.l[i]:=by simp [hl]
       have hmem:y.l[i] ∈ y.l:=List.getElem_mem hl
       rw [List.drop_eq_getElem_cons hl,layA_cons] at he
       rw [List.drop_eq_getElem_cons hl,Ex.szSL] at hBB
       simp only [go_sem,t0',t2,t3,t44,t45,t46,dec_lt' hl,Ex.index_ld hget]
       generalize hτ:(τ.push (.cells [.d (.int .i64 0),.d (.int .i64 0),.d (.slc true [])])).set τ.n (.cells y.l[i].c)=τ1
       have hM1:NetM lo tag' τ1 p N' x:=by rw [← hτ]; exact (hM.push _).set (hM.high _ (Nat.le_refl _)) _
       have lz:low σ.n [τ.n]=[]:=by rw [low_cons_ge hK.n]; rfl
       have hK1:KeptT tag σ tag' τ1 W:=by rw [← hτ]; exact (hK.push _).set _ (.inl hK.n)
       obtain ⟨σ3,T3,tag3,c3,h3,hK3⟩:=way_c h80 h39 h79 y.l[i] f t (fun B tag σ N x s h1 h2 h3 h4 => lay_c h40 h80 h39 h79 y.l[i] (hy.sub hmem) (ho.sub hmem) s t h1 h2 h3 h4) hM1 hF (by have:=y.l[i].szS_pos; omega) (by omega)
       refine ⟨_,_,_,c3,?_⟩
       have hW:=layW_fits y.l[i] f t B' N' hF
       simp only [go_sem,lz,t46,wrap_succ' hl hlen]
       refine ih _ _ _ _ (by omega) ⟨i+1,_,_,tag3,rfl,hl,h3,hK1.call hK3,hW.1,by omega,by omega,he,by simp only [go_sem,t0'],by simp only [go_sem,t2],by simp only [go_sem,t3],by simp only [go_sem,t44],by simp only [go_sem,t45],by simp only [go_sem]⟩
     · rw [List.drop_eq_nil_of_le (by omega),layA] at he
       simp only [go_sem,t0',t2,t3,t44,t45,t46,dec_ge' hl]
       rw [← he]
       exact ⟨tag',hM,hK⟩
   all_goals first | rfl | (simp only [go_sem]; done) | (simp only [go_sem]; rfl)
 have e4:(y.kind == 4)=false:=by simpa using k4
 rw [if_neg k4]
 by_cases k5:y.kind=5
 · have e:(y.kind == 5)=true:=by simpa using k5
   rw [if_pos k5]
   obtain ⟨z,hz⟩:=ho.star (.inl k5)
   have hget:y.l[0]?=some z:=by rw [hz]; rfl
   have hmem:z ∈ y.l:=by rw [hz]; simp
   have hzs:Ex.szSL y.l=z.szS:=by rw [hz,Ex.szSL,Ex.szSL]; omega
   obtain ⟨ae,ar,an,al,ac,ag,hc,hE,hR,hX⟩:=h.cell
   obtain ⟨kr,cr,rfl,hkr,kl,hat⟩:=hR.int_at (i:=f) (by rw [hB.r]; exact hf)
   have hidx:∀ τ:St,indexR τ 1 kr 0 N.rs.length 1 (f:Int) (.cells cr)=.val (.ptr kr (0+f * 1)) τ [] [kr]:=fun τ => indexR_nat (by rw [hB.r]; exact hf)
   simp only [Nat.zero_add,Nat.mul_one] at hidx
   have hlt:=h.lt
   have ne1:p≠σ.n:=by omega
   have ne2:kr≠σ.n:=by omega
   simp only [go_sem,e1,e2,e3,e4,e,hc,hkr,hidx,hat,hlt,ne1,ne2]
   obtain ⟨σ2,T2,tag2,c2,h2,hK2⟩:=fresh_c h39 h1 hB (by omega) (N.rs.getD f 0)
   refine ⟨_,_,_,c2,?_⟩
   have hB2:=hB.fresh (N.rs.getD f 0)
   have es2:=Nv.es_fresh N (N.rs.getD f 0)
   obtain ⟨σ3,T3,tag3,c3,h3,hK3⟩:=edge_c h79 h2 hB2 (by omega) f 0 0 N.es.length (by omega)
   refine ⟨_,_,_,c3,?_⟩
   have hn2:=hK2.n
   simp only [St.n_push] at hn2
   have g2:tag2 σ.n=7:=by rw [hK2.tags _ (by simp only [St.n_push]; omega)]; exact htl
   have gx3:σ3.get σ.n=.cells y.c:=by
    rw [hK3.same _ (by omega) g2,hK2.same _ (by simp only [St.n_push]; omega) htl]; exact St.get_push_eq
   have hi0:indexK σ3 3 y.ld (.d (.int .i64 0))=.val (.d (.vptr z.cs 0)) σ3 [] []:=Ex.index_ld (σ:=σ3) (kd:=.i64) hget
   simp only [go_sem,gx3,Ex.c,List.getElem?_cons_zero,List.getElem?_cons_succ,hi0]
   have hB3:=hB2.edge f 0 0 N.es.length
   obtain ⟨σ4,T4,tag4,c4,h4,hK4⟩:=way_c h80 h39 h79 z N.es.length N.es.length (fun B tag σ N x s h1 h2 h3 h4 => lay_c h40 h80 h39 h79 z (hy.sub hmem) (ho.sub hmem) s _ h1 h2 h3 h4) h3 hB3 (by omega) (by rw [Nv.es_edge]; omega)
   refine ⟨_,_,_,c4,?_⟩
   have hW:=layW_fits z N.es.length N.es.length _ _ hB3
   rw [Nv.es_edge] at hW
   obtain ⟨σ5,T5,tag5,c5,h5,hK5⟩:=edge_c h79 h4 hW.1 (by omega) N.es.length 0 0 t (by omega)
   refine ⟨_,_,_,c5,?_⟩
   refine ⟨tag5,?_,(((hK0.call hK2).call hK3).call hK4).call hK5⟩
   rw [hz,layH_cons]; exact h5
 have e5:(y.kind == 5)=false:=by simpa using k5
 rw [if_neg k5]
 by_cases k6:y.kind=6
 · have e:(y.kind == 6)=true:=by simpa using k6
   rw [if_pos k6]
   obtain ⟨z,hz⟩:=ho.star (.inr k6)
   have hget:y.l[0]?=some z:=by rw [hz]; rfl
   have hmem:z ∈ y.l:=by rw [hz]; simp
   have hzs:Ex.szSL y.l=z.szS:=by rw [hz,Ex.szSL,Ex.szSL]; omega
   have hi0:∀ σ:St,indexK σ 3 y.ld (.d (.int .i64 0))=.val (.d (.vptr z.cs 0)) σ [] []:=fun σ => Ex.index_ld (σ:=σ) (kd:=.i64) hget
   simp only [go_sem,e1,e2,e3,e4,e5,e,Ex.c,List.getElem?_cons_zero,List.getElem?_cons_succ,hi0]
   obtain ⟨σ4,T4,tag4,c4,h4,hK4⟩:=way_c h80 h39 h79 z f t (fun B tag σ N x s h1 h2 h3 h4 => lay_c h40 h80 h39 h79 z (hy.sub hmem) (ho.sub hmem) s _ h1 h2 h3 h4) h1 hB (by omega) hf
   refine ⟨_,_,_,c4,?_⟩
   have hW:=layW_fits z f t _ _ hB
   obtain ⟨σ5,T5,tag5,c5,h5,hK5⟩:=edge_c h79 h4 hW.1 (by omega) f 0 0 t (by omega)
   refine ⟨_,_,_,c5,?_⟩
   refine ⟨tag5,?_,(hK0.call hK4).call hK5⟩
   rw [hz,layH_cons]; exact h5
 have e6:(y.kind == 6)=false:=by simpa using k6
 rw [if_neg k6]
 have k0:y.kind=0:=ho.kind0 k1 k2 k3 k4 k5 k6
 have e:(y.kind == 0)=true:=by simpa using k0
 simp only [go_sem,e1,e2,e3,e4,e5,e6,e]
 obtain ⟨σ3,T3,tag3,c3,h3,hK3⟩:=edge_c h79 h1 hB (by omega) f 0 0 t hf
 refine ⟨_,_,_,c3,?_⟩
 exact ⟨tag3,h3,hK0.call hK3⟩
termination_by y
decreasing_by all_goals first | exact Ex.sub_lt hmem | exact Ex.sub_lt hmemL
end Go.Am

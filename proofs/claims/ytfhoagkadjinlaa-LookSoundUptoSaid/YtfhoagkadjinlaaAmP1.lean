/- Part P1 of a proof that runs a program's calls on a small machine whose values bear no addresses: no conditions. -/
import Derived.Test.YtfhoagkadjinlaaAmM4
set_option autoImplicit false
set_option linter.unusedSimpArgs false
set_option linter.unusedVariables false
set_option linter.unusedSectionVars false
namespace Go.Am
open Go Go.Proofs
variable {fz:Nat→Md}
section
variable {tm:Tm} {σ:St} {dst:Option Nat} {ty:Nat} {pos:String} {af:Array Edge} {g:Option (Nat × Bool)} {a b:Nat}
theorem ev_cap (ha:tm.at a=.d (.slc true [])):evalOp (XX fz) tm σ { dst:=dst,op:=Op.call { callee:=Callee.builtin Builtin.cap,args:=#[Operand.tmp a],argTypes:=#[25] },type:=ty,pos:=pos,after:=af,guard:=g }=.val (.d (.int .i64 0)) σ [] []:=by
 unfold evalOp
 simp only [List.map_cons,List.map_nil,ev,ha,Array.toList,List.getElem?_toArray,List.getElem?_cons_zero,Option.bind_some,ti25]
theorem ev_slice0 (ha:tm.at a=.d (.slc true [])) (hb:tm.at b=.d (.int .i64 0)):evalOp (XX fz) tm σ { dst:=dst,op:=Op.slice 25 (Operand.tmp a) none (some (Operand.tmp b)) none,type:=ty,pos:=pos,after:=af,guard:=g }=.val (.d (.slc true [])) σ [] []:=by
 have h2:bnd tm (some (Operand.tmp b)) ([]:List (List D)).length=some 0:=by simp [bnd,ev,hb]
 have h3:bnd tm none 0=some 0:=rfl
 unfold evalOp
 simp only [ti25,ti3,ev,ha,h2,h3]
 rfl
theorem ev_slice0r {k n:Nat} {cs:List A} (ha:tm.at a=.row k 0 n 1) (hk:σ.get k=.cells cs) (hb:tm.at b=.d (.int .i64 0)):evalOp (XX fz) tm σ { dst:=dst,op:=Op.slice 25 (Operand.tmp a) none (some (Operand.tmp b)) none,type:=ty,pos:=pos,after:=af,guard:=g }=.val (.row k 0 0 1) σ [] [k]:=by
 have h2:bnd tm (some (Operand.tmp b)) n=some 0:=by simp [bnd,ev,hb]
 have h3:bnd tm none 0=some 0:=rfl
 unfold evalOp
 simp only [ti25,ti3,ev,ha,h2,h3,hk]
 rw [if_pos ⟨Nat.le_refl _,Nat.zero_le _,trivial⟩]
end
set_option maxHeartbeats 1000000 in
theorem grow0_c (h88:fz 91=.keep) (σ:St):CallsTo (XX fz) (.func 91 []) [.d (.slc true []),.d (.int .i64 0)] σ (.d (.slc true [])) σ []:=by
 refine CallsTo.ofQ fn91 (by simp) ?_
 simp only [Try.f91,Option.getD_some,h88]
 simp only [go_sem]
 rw [ev_cap (by simp only [go_sem])]
 have w0:IntKind.i64.wrap (0 - ((0:Nat):Int))=0:=by rw [wrap_small (by omega) (by omega)]; rfl
 have w1:IntKind.i64.wrap (0 - 0)=0:=wrap_small (by omega) (by omega)
 have e2:decide ((0:Int) > 0)=false:=rfl
 simp only [go_sem,w0,w1,e2]
 simp [leaveCall,XX_fz,h88]
set_option maxHeartbeats 1000000 in
theorem grow_c (h88:fz 91=.keep) (σ:St) (n:Nat) (h0:0 < n) (hn:n < 1000000):CallsTo (XX fz) (.func 91 []) [.d (.slc true []),.d (.int .i64 (n:Int))] σ (.row σ.n 0 0 1) (σ.push (.cells (rep n [.d (.int .i64 0)]))) []:=by
 refine CallsTo.ofQ fn91 (by simp) ?_
 simp only [Try.f91,Option.getD_some,h88]
 have e1:decide ((n:Int) < 0)=false:=by simp
 have e2:decide ((n:Int) > 0)=true:=by simpa using h0
 have w1:IntKind.i64.wrap ((n:Int) - 0)=(n:Int):=by rw [wrap_small (by omega) (by omega)]; omega
 simp only [go_sem,e1]
 rw [ev_cap (by simp only [go_sem])]
 have w0:IntKind.i64.wrap (0 - ((0:Nat):Int))=0:=by rw [wrap_small (by omega) (by omega)]; rfl
 simp only [go_sem,w0,w1,e2]
 rw [ev_cap (by simp only [go_sem])]
 simp only [go_sem]
 rw [ev_slice0 (by simp only [go_sem]) (by simp only [go_sem])]
 simp only [go_sem]
 have hg:growA σ n (some { kind:=TK.int IntKind.i64,size:=1,bytes:=8,zero:=some [A.d (D.int IntKind.i64 0)],zval:=A.d (D.int IntKind.i64 0) })=.val (.row σ.n 0 n 1) (σ.push (.cells (rep n [.d (.int .i64 0)]))) [] []:=by
  unfold growA
  dsimp only
  rw [if_pos ⟨by omega,rfl,h0,by omega,by omega⟩]
 simp only [go_sem,hg]
 have e3:((0:Nat):Int)=0:=rfl
 simp only [e3]
 rw [ev_slice0r (by simp only [go_sem]; rfl) (by rw [St.get_push_eq]) (by simp only [go_sem])]
 simp only [go_sem]
 simp [leaveCall,XX_fz,h88]
end Go.Am
namespace Go.Am
open Go Go.Proofs
variable {fz:Nat→Md}
def RowP (lo:Nat) (σ:St) (a:A) (l:List Int):Prop :=
 (a=.d (.slc true [])∧l=[])∨∃ k cs,a=.row k 0 l.length 1∧σ.get k=.cells cs∧cs.take l.length=l.map (fun n => A.d (.int .i64 n))∧l.length≤cs.length∧lo≤k∧k < σ.n
theorem RowP.app {lo:Nat} {σ:St} {a x:A} {l s:List Int} (s1:sliceCells σ x=some (s.map fun n => A.d (.int .i64 n))) (s2:sliceLen σ x=some s.length) (h:RowP lo σ a l) (hl:l.length < 1000000) (hs:s.length < 1000000) (hlo:lo≤σ.n) :
 ∃ a' σ' T,appendA 1 8 σ a x=.val a' σ' T []∧RowP lo σ' a' (l ++ s)∧(a'=.d (.slc true []) ↔ a=.d (.slc true [])∧s=[])∧σ.n≤σ'.n∧(∀ j,j < lo→σ'.get j=σ.get j)∧(∀ j ∈ T,lo≤j):=by
 have hc:(s.map fun n => A.d (.int .i64 n)).all A.isCell=true:=by simp [A.isCell]
 rcases h with ⟨rfl,rfl⟩ | ⟨k,cs,rfl,hk,ht,hle,hlk,hkn⟩
 · rw [appendA_nil s1 s2 (by simp) hc (by omega) (by omega)]
   by_cases e:s.length=0
   · rw [if_pos e]
     obtain rfl:s=[]:=by simpa using e
     exact ⟨_,_,_,rfl,.inl ⟨rfl,rfl⟩,⟨fun _ => ⟨rfl,rfl⟩,fun _ => rfl⟩,Nat.le_refl _,fun _ _ => rfl,by simp⟩
   · rw [if_neg e]
     exact ⟨_,_,_,rfl,.inr ⟨σ.n,_,rfl,St.get_push_eq,by simp; exact List.take_of_length_le (by simp),by simp,hlo,by simp [St.n_push]⟩,⟨(fun h => by cases h),fun h => absurd (by rw [h.2]; rfl) e⟩,by simp [St.n_push],fun j hj => St.get_push_ne (by omega),by simp⟩
 · rw [appendA_row hk s1 s2 (by simp) hc (by omega) (by omega) (by omega)]
   by_cases e:s.length=0
   · rw [if_pos e]
     obtain rfl:s=[]:=by simpa using e
     exact ⟨_,_,_,rfl,.inr ⟨k,cs,by rw [List.append_nil],hk,by rw [List.append_nil]; exact ht,by rw [List.append_nil]; exact hle,hlk,hkn⟩,⟨(fun h => by cases h),(fun h => by cases h.1)⟩,Nat.le_refl _,fun _ _ => rfl,by simp⟩
   · rw [if_neg e]
     refine ⟨_,_,_,rfl,.inr ⟨σ.n,_,by rw [List.length_append],by rw [St.get_push_eq' (by rw [St.n_set])],?_,?_,hlo,by simp [St.n_push,St.n_set]⟩,⟨(fun h => by cases h),(fun h => by cases h.1)⟩,by simp [St.n_push,St.n_set],fun j hj => by rw [St.get_push_ne (by rw [St.n_set]; omega),St.get_set_ne (by omega)],by simpa using hlk⟩
     · rw [List.drop_zero,Nat.mul_one,ht,← List.map_append]; exact List.take_of_length_le (by simp)
     · rw [List.drop_zero,Nat.mul_one,ht]; simp
theorem RowP.freeze {lo:Nat} {σ:St} {a:A} {l:List Int} (h:RowP lo σ a l) (hn:a=.d (.slc true [])→l=[]) (hr:a≠.d (.slc true [])→l≠[]) (hl:l.length < 1000000):freezeV σ lo fzDepth a=some (.d (slD l)):=by
 rcases h with ⟨rfl,rfl⟩ | ⟨k,cs,rfl,hk,ht,hle,hlk,hkn⟩
 · rfl
 · have hne:=hr (by simp)
   have hf:=freeze_row (n:=fzDepth) (len:=l.length) (es:=1) (ds:=l.map fun n => D.int .i64 n) (by unfold fzDepth; omega) hk hlk (by omega) (by
    rw [Nat.mul_one,ht]
    have:(l.map fun n => A.d (.int .i64 n))=(l.map fun n => D.int .i64 n).map A.d:=by rw [List.map_map]; rfl
    rw [this]
    exact freezeL_map (by rw [List.length_map]; unfold fzDepth; omega))
   have hch:chunks 1 l.length (l.map fun n => D.int .i64 n)=intsD l:=by
    have h1:=chunks_flat (es:=1) (xs:=intsD l) (intsD_one l)
    have h2:(intsD l).flatMap id=l.map fun n => D.int .i64 n:=by
     clear hf ht hle hne hl hr hn h1
     induction l with
     | nil => rfl
     | cons n l ih => simp only [intsD,List.map_cons,List.flatMap_cons,id,List.cons_append,List.nil_append] at ih ⊢; rw [ih]
    rw [h2,intsD_len] at h1; exact h1
   rw [hch] at hf
   have e:l.isEmpty=false:=ne_isEmpty hne
   show freezeW σ lo fzDepth (.row k 0 l.length 1)=_
   rw [freezeW,hf,slD,e]
   intro cs h; cases h
set_option maxHeartbeats 4000000 in
theorem concat_c (h46:fz 61=.ice) (h88:fz 91=.keep) (ls:List (List Int)) (xs:List A) (hlen:ls.length < 1000) (htot:ls.flatten.length < 1000000) (k:Nat) (σ:St) (hk:σ.get k=.cells xs) (hkn:k < σ.n)
 (hx:∀ i (hl:i < ls.length),∃ x,xs[i]?=some x∧∀ ρ:St,(∀ j,j < σ.n→ρ.get j=σ.get j)→sliceCells ρ x=some (ls[i].map fun n => A.d (.int .i64 n))∧sliceLen ρ x=some ls[i].length) :
 CallsTo (XX fz) (.func 61 []) [.row k 0 ls.length 1] σ (.d (slD ls.flatten)) σ []:=by
 refine CallsTo.ice0 h46 fn61 (by simp) ?_
 simp only [Try.f61,Option.getD_some]
 have hpre:∀ i,((ls.take i).flatten).length≤ls.flatten.length:=fun i => by
  have h:=congrArg List.length (congrArg List.flatten (List.take_append_drop i ls))
  rw [List.flatten_append,List.length_append] at h; omega
 have hsuc:∀ i (hl:i < ls.length),(ls.take (i+1)).flatten=(ls.take i).flatten ++ ls[i]:=fun i hl => by
  rw [List.take_succ_eq_append_getElem hl,List.flatten_append]; simp
 have hel:∀ i (hl:i < ls.length),ls[i].length < 1000000:=fun i hl => by
  have h1:=hpre (i+1)
  rw [hsuc i hl,List.length_append] at h1; omega
 have hidx:∀ (τ:St) i (hl:i < ls.length),indexR τ 1 k 0 ls.length 1 (i:Int) (.cells xs)=.val (.ptr k (0+i * 1)) τ [] [k]:=fun τ i hl => indexR_nat hl
 simp only [Nat.zero_add,Nat.mul_one] at hidx
 simp only [go_sem,hk]
 refine Ev.loop_ind (fun m tm τ W => ∃ i:Nat,m=ls.length - i∧i≤ls.length∧W=[]∧τ=σ∧tm.at 0=.row k 0 ls.length 1∧tm.at 3=.d (.int .i64 (((ls.take i).flatten.length:Nat):Int))∧tm.at 9=.row k 0 ls.length 1∧tm.at 10=.d (.int .i64 (ls.length:Int))∧tm.at 11=.d (.int .i64 i)) ?_ ls.length _ _ _ ⟨0,rfl,by omega,rfl,rfl,?_,?_,?_,?_,?_⟩
 · rintro m tm τ W ⟨i,rfl,hi,rfl,rfl,t0,t3,t9,t10,t11⟩ ih
   by_cases hl:i < ls.length
   · have h1:=hpre (i+1)
     rw [hsuc i hl,List.length_append] at h1
     have hw:IntKind.i64.wrap ((((ls.take i).flatten.length:Nat):Int)+((ls[i].length:Nat):Int))=(((ls.take (i+1)).flatten.length:Nat):Int):=by
      rw [wrap_small (by omega) (by omega),hsuc i hl,List.length_append]; rfl
     have e0:decide ((((ls.take (i+1)).flatten.length:Nat):Int) < 0)=false:=by simp
     obtain ⟨x,hcl,hxx⟩:=hx i hl
     have hxl:=(hxx τ fun _ _ => rfl).2
     simp only [go_sem,t0,t3,t9,t10,t11,dec_lt' hl,hk,hidx _ i hl,hcl,hxl,hw,e0,wrap_succ' hl (by omega)]
     exact ih _ _ _ _ (by omega) ⟨i+1,rfl,hl,rfl,rfl,by simp only [go_sem,t0],by simp only [go_sem],by simp only [go_sem,t9],by simp only [go_sem,t10],by simp only [go_sem]⟩
   · have him:i=ls.length:=by omega
     subst him
     rw [List.take_length] at t3
     simp only [go_sem,t0,t3,t9,t10,t11,dec_ge' hl]
     obtain ⟨a0,τ0,hcall,hR,hn,hg,hz⟩:∃ a0 τ0,CallsTo (XX fz) (.func 91 []) [.d (.slc true []),.d (.int .i64 ((ls.flatten.length:Nat):Int))] τ a0 τ0 []∧RowP τ.n τ0 a0 []∧τ.n≤τ0.n∧(∀ j,j < τ.n→τ0.get j=τ.get j)∧(a0=.d (.slc true []) ↔ ls.flatten=[]):=by
      rcases Nat.eq_zero_or_pos ls.flatten.length with h0 | h0
      · rw [h0]
        exact ⟨_,_,grow0_c h88 τ,.inl ⟨rfl,rfl⟩,Nat.le_refl _,fun _ _ => rfl,fun _ => List.length_eq_zero_iff.1 h0,fun _ => rfl⟩
      · refine ⟨_,_,grow_c h88 τ _ h0 htot,.inr ⟨τ.n,_,rfl,St.get_push_eq,rfl,Nat.zero_le _,Nat.le_refl _,by simp [St.n_push]⟩,by simp [St.n_push],fun j hj => St.get_push_ne hj,(fun h => by cases h),fun h => by rw [h] at h0; simp at h0⟩
     refine ⟨_,_,_,hcall,?_⟩
     have hk0:τ0.get k=.cells xs:=by rw [hg k hkn]; exact hk
     have lz0:low τ.n []=[]:=rfl
     simp only [go_sem,hk0,lz0]
     refine Ev.loop_ind (fun m tm ρ W => ∃ (i:Nat) (a:A),m=ls.length - i∧i≤ls.length∧W=[]∧τ.n≤ρ.n∧(∀ j,j < τ.n→ρ.get j=τ.get j)∧RowP τ.n ρ a (ls.take i).flatten∧(a=.d (.slc true []) ↔ ls.flatten=[])∧tm.at 6=a∧tm.at 25=.row k 0 ls.length 1∧tm.at 26=.d (.int .i64 (ls.length:Int))∧tm.at 27=.d (.int .i64 i)) ?_ ls.length _ _ _ ⟨0,a0,rfl,by omega,rfl,hn,hg,hR,hz,by simp only [go_sem],by simp only [go_sem],by simp only [go_sem],by simp only [go_sem]; rfl⟩
     rintro m tm ρ W ⟨i,a,rfl,hi,rfl,hn,hg,hR,hz,t6,t25,t26,t27⟩ ih
     have hkr:ρ.get k=.cells xs:=by rw [hg k hkn]; exact hk
     by_cases hl:i < ls.length
     · obtain ⟨x,hcl,hxx⟩:=hx i hl
       obtain ⟨hx1,hx2⟩:=hxx ρ hg
       obtain ⟨a',ρ',T,happ,hR',hz',hn',hg',hT⟩:=hR.app (s:=ls[i]) hx1 hx2 (by have:=hpre i; omega) (hel i hl) hn
       have hTl:low τ.n T=[]:=low_all hT
       simp only [go_sem,t6,t25,t26,t27,dec_lt' hl,hkr,hidx _ i hl,hcl,happ,hTl,wrap_succ' hl (show ls.length < 1000000000 by omega)]
       refine ih _ _ _ _ (by omega) ⟨i+1,a',rfl,hl,rfl,by omega,fun j hj => (hg' j hj).trans (hg j hj),by rw [hsuc i hl]; exact hR',?_,by simp only [go_sem],by simp only [go_sem,t25],by simp only [go_sem,t26],by simp only [go_sem]⟩
       rw [hz',hz]
       refine ⟨fun h => h.1,fun h => ⟨h,?_⟩⟩
       have h1:=hpre (i+1)
       rw [hsuc i hl,List.length_append,h] at h1
       simp at h1
       exact h1.2
     · have him:i=ls.length:=by omega
       subst him
       rw [List.take_length] at hR
       simp only [go_sem,t6,t25,t26,t27,dec_ge' hl]
       exact hR.freeze hz.1 (fun h h' => h (hz.2 h')) htot
 all_goals first | rfl | (simp only [go_sem]; done) | (simp only [go_sem]; rfl)
end Go.Am

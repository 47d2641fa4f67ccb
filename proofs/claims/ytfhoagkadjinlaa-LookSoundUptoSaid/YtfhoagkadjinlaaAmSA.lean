/- Part SA of a proof that runs a program's calls on a small machine whose values bear no addresses: no conditions. -/
import Derived.Test.YtfhoagkadjinlaaAmK1
import Derived.Test.YtfhoagkadjinlaaAmM6
import Derived.Test.YtfhoagkadjinlaaAmV0
set_option autoImplicit false
set_option linter.unusedSimpArgs false
set_option linter.unusedVariables false
set_option linter.unusedSectionVars false
namespace Go.Am.Sm
open Go Go.Am Go.Proofs
variable {fz:Nat→Md}
def prA (s p:Nat):A:=.agg [.d (.int .i64 (s:Int)),.d (.int .i64 (p:Int))]
theorem cmp176:(XX fz).cmp 176=true:=by kernel_rfl
theorem cmp184:(XX fz).cmp 184=true:=by kernel_rfl
def T2 (t:Nat):Prop:=t=176∨t=184
theorem T2.cmp {t:Nat} (h:T2 t):(XX fz).cmp t=true:=by
 rcases h with rfl | rfl
 · exact cmp176
 · exact cmp184
theorem T2.ti {t:Nat} (h:T2 t):∃ i:TI,(XX fz).ti t=some i∧i.kind=TK.struct [(0,1,3),(1,1,3)]:=by
 rcases h with rfl | rfl
 · exact ⟨_,ti176,rfl⟩
 · exact ⟨_,ti184,rfl⟩
theorem part3 {o:Nat} {cs:List A}:partT (XX fz) 3 cs o=cs[o]?:=by
 unfold partT; rw [ti3]; exact partOf_f
theorem eq_pr {t:Nat} (ht:T2 t) {σ:St} {a b c d:Nat}:eqT (XX fz) σ 8 t (prA a b) (prA c d)=some (decide (a=c∧b=d)):=by
 have e3:∀ x y:Int,eqT (XX fz) σ 7 3 (.d (.int .i64 x)) (.d (.int .i64 y))=some (x == y):=fun x y => by rw [eqT,ti3]; rfl
 obtain ⟨i,h1,h2⟩:=ht.ti (fz:=fz)
 have key:eqT (XX fz) σ 8 t (prA a b) (prA c d)=some (((a:Int) == c) && ((b:Int) == d)):=by
  rw [eqT,h1]; unfold prA; dsimp only; rw [h2]; dsimp only; rw [ht.cmp,if_pos rfl]
  simp only [eqFs,part3,List.getElem?_cons_zero,List.getElem?_cons_succ,e3]
  cases ((a:Int) == c) <;> cases ((b:Int) == d) <;> rfl
 rw [key]; refine congrArg some ?_
 rw [Bool.eq_iff_iff]; simp; omega
theorem key_pr {t:Nat} (ht:T2 t) {a b:Nat}:keyT (XX fz) 8 t (prA a b)=true:=by
 have e3:∀ x:Int,keyT (XX fz) 7 3 (.d (.int .i64 x))=true:=fun x => by rw [keyT,ti3]
 obtain ⟨i,h1,h2⟩:=ht.ti (fz:=fz)
 rw [keyT,h1]; unfold prA; dsimp only; rw [h2]; dsimp only; rw [ht.cmp]
 simp only [keyFs,part3,List.getElem?_cons_zero,List.getElem?_cons_succ,e3]; rfl
def PM (M:List ((Nat × Nat) × D)):List (A × A):=M.map fun e => (prA e.1.1 e.1.2,.d e.2)
def FP (M:List ((Nat × Nat) × D)) (x:Nat × Nat):Option D:=(M.find? fun e => decide (x.1=e.1.1∧x.2=e.1.2)).map (·.2)
theorem find_PM {t:Nat} (ht:T2 t) {a b:Nat}:∀ (M:List ((Nat × Nat) × D)) (off:Nat),(∃ j v,M[j]?=some ((a,b),v)∧FP M (a,b)=some v∧∀ σ:St,mapFind (XX fz) σ t (.agg [.d (.int .i64 (a:Int)),.d (.int .i64 (b:Int))]) (PM M) off=some (some (off+j,.d v))) ∨
 FP M (a,b)=none∧∀ σ:St,mapFind (XX fz) σ t (.agg [.d (.int .i64 (a:Int)),.d (.int .i64 (b:Int))]) (PM M) off=some none
 | [],off => .inr ⟨rfl,fun _ => rfl⟩
 | ((c,d),v) :: M,off => by
  have hME:PM (((c,d),v) :: M)=(prA c d,.d v) :: PM M:=rfl
  have hq:∀ σ:St,eqT (XX fz) σ 8 t (.agg [.d (.int .i64 (a:Int)),.d (.int .i64 (b:Int))]) (prA c d)=some (decide (a=c∧b=d)):=fun σ => eq_pr ht
  by_cases e:a=c∧b=d
  · obtain ⟨rfl,rfl⟩:=e
    left
    exact ⟨0,v,rfl,by simp [FP],fun σ => by rw [hME,mapFind,hq]; simp⟩
  · have hF:FP (((c,d),v) :: M) (a,b)=FP M (a,b):=by unfold FP; rw [List.find?_cons_of_neg (by simpa using e)]
    rw [decide_eq_false e] at hq
    rw [hF]
    rcases find_PM ht (a:=a) (b:=b) M (off+1) with ⟨j,s',h1,h2,h3⟩ | ⟨h1,h2⟩
    · left; exact ⟨j+1,s',by simpa using h1,h2,fun σ => by rw [hME,mapFind,hq]; dsimp only; rw [h3]; congr 3; omega⟩
    · right; exact ⟨h1,fun σ => by rw [hME,mapFind,hq]; exact h2 σ⟩
theorem upd_PM {t:Nat} (ht:T2 t) {σ:St} {a b r:Nat} {v:D} {M:List ((Nat × Nat) × D)} (h:FP M (a,b)=none) :
 updB (XX fz) σ t (.agg [.d (.int .i64 (a:Int)),.d (.int .i64 (b:Int))]) (.d v) r (.map (PM M))=.val .top (σ.set r (.map (PM (M ++ [((a,b),v)])))) [r] []:=by
 unfold updB
 dsimp only
 rw [show keyT (XX fz) 8 t (.agg [.d (.int .i64 (a:Int)),.d (.int .i64 (b:Int))])=true from key_pr ht,if_neg (by simp)]
 rcases find_PM (fz:=fz) ht (a:=a) (b:=b) M 0 with ⟨j,s',h1,h2,h3⟩ | ⟨h1,h2⟩
 · rw [h] at h2; cases h2
 · rw [h2]; dsimp only
   rw [show PM (M ++ [((a,b),v)])=PM M ++ [(prA a b,.d v)] by simp [PM]]; rfl
theorem FP_none {M:List ((Nat × Nat) × D)} {x:Nat × Nat}:FP M x=none ↔ ∀ v,(x,v) ∉ M:=by
 unfold FP
 rw [Option.map_eq_none_iff,List.find?_eq_none]
 constructor
 · intro h v hv
   have:=h _ hv
   simp at this
 · rintro h ⟨⟨c,d⟩,v⟩ he hx
   simp at hx
   obtain ⟨a,b⟩:=x
   obtain ⟨rfl,rfl⟩:=hx
   exact h v he
theorem PM_under (M:List ((Nat × Nat) × D)) (n:Nat):(Blk.map (PM M)).under n=true:=by
 rw [Blk.under,List.all_eq_true]
 intro e he
 obtain ⟨x,-,rfl⟩:=List.mem_map.1 he
 rfl
end Go.Am.Sm
namespace Go.Am.Sm
open Go Go.Am Go.Proofs
variable {fz:Nat→Md}
theorem CallsTo.keepE {X:X} {f:Nat} {cap args:List A} {F:AFn} {r:A} {σ:St} {P:St→List Nat→Prop} (hz:X.fz f=.keep) (hF:X.fn f=some F) (hl:args.length+cap.length≤F.nt)
 (e:Ev X f F.nt none σ.n [.code F.body] (initTm (args ++ cap) 0 .nil) σ [] (RetQ X F.results fun a σ1 W1 => a=r∧P σ1 W1)):∃ σ' W,CallsTo X (.func f cap) args σ r σ' W∧P σ' W:=by
 obtain ⟨n,o,hn,hq⟩:=e
 cases o with
 | leave _ _ _ => exact hq.elim
 | ret tm σ1 W1 =>
  unfold RetQ at hq
  dsimp only at hq
  split at hq
  · rename_i l hl'
    obtain ⟨rfl,h5⟩:=hq
    exact ⟨σ1,W1,CallsTo.ofQ hF hl ⟨n,_,hn,by unfold RetQ; dsimp only; rw [hl']; simp [leaveCall,hz]⟩,h5⟩
  · exact hq.elim
theorem maxA {a b:Nat}:minmax true [.d (.int .i64 (a:Int)),.d (.int .i64 (b:Int))]=some (.d (.int .i64 ((max a b:Nat):Int))):=by
 simp only [minmax,List.foldl_cons,List.foldl_nil,mmStep,if_true]
 congr 3
 by_cases h:a < b
 · rw [if_pos (by omega),Nat.max_eq_right (by omega)]
 · rw [if_neg (by omega),Nat.max_eq_left (by omega)]
theorem o_maxA {X:Am.X} {tm:Tm} {σ:St} {dst:Option Nat} {ty:Nat} {pos:String} {after:Array Edge} {g:Option (Nat × Bool)} {x y:Operand} {ts:Array Nat}:evalOp X tm σ ⟨dst,.call ⟨.builtin .max,#[x,y],ts⟩,ty,pos,after,g⟩=OpR.of σ [] (minmax true [ev tm x,ev tm y]):=rfl
def pairsA (l:List (Nat × Nat)):List A:=l.flatMap fun x => [A.d (.int .i64 (x.1:Int)),A.d (.int .i64 (x.2:Int))]
theorem pairsA_len:∀ l:List (Nat × Nat),(pairsA l).length=2 * l.length
 | [] => rfl
 | x :: l => by
  have:=pairsA_len l
  simp only [pairsA,List.flatMap_cons,List.length_append,List.length_cons,List.length_nil] at this ⊢; omega
def TodoP (lo:Nat) (σ:St) (a:A) (todo:List (Nat × Nat)) (ks:List Nat):Prop:=(a=.d (.slc true [])∧todo=[]∧ks=[]) ∨
 ∃ k off cs,ks=[k]∧a=.row k off todo.length 2∧σ.get k=.cells cs∧off+2 * todo.length=cs.length∧cs.drop off=pairsA todo∧lo≤k∧k < σ.n
section
variable {lo:Nat} {σ τ:St} {a:A} {todo:List (Nat × Nat)} {ks:List Nat}
theorem TodoP.lt (h:TodoP lo σ a todo ks):∀ k ∈ ks,lo≤k∧k < σ.n:=by
 rcases h with ⟨-,-,rfl⟩ | ⟨k,off,cs,rfl,-,-,-,-,h5,h6⟩
 · intro k hk; cases hk
 · intro j hj; simp at hj; subst hj; exact ⟨h5,h6⟩
theorem TodoP.stay (h:TodoP lo σ a todo ks) (hn:σ.n≤τ.n) (hg:∀ k ∈ ks,τ.get k=σ.get k):TodoP lo τ a todo ks:=by
 rcases h with h | ⟨k,off,cs,rfl,h1,h2,h3,h4,h5,h6⟩
 · exact .inl h
 · exact .inr ⟨k,off,cs,rfl,h1,(hg k (by simp)).trans h2,h3,h4,h5,by omega⟩
theorem TodoP.cell (h:TodoP lo σ a todo ks):a.cells=some [a]∧a.isCell=true:=by
 rcases h with ⟨rfl,-,-⟩ | ⟨k,off,cs,rfl,rfl,-⟩ <;> exact ⟨rfl,rfl⟩
theorem TodoP.len (h:TodoP lo σ a todo ks):sliceLen σ a=some todo.length:=by
 rcases h with ⟨rfl,rfl,-⟩ | ⟨k,off,cs,rfl,rfl,h2,-⟩
 · rfl
 · rw [sliceLen_row,h2]; rfl
theorem TodoP.app {j n m:Nat} (h:TodoP lo σ a todo ks) (hj:σ.get j=.cells [.d (.int .i64 (n:Int)),.d (.int .i64 (m:Int))]) (hl:todo.length < 1000000000) (hlo:lo≤σ.n) :
 ∃ a' σ' T,appendA 2 16 σ a (.row j 0 1 2)=.val a' σ' T []∧TodoP lo σ' a' (todo ++ [(n,m)]) [σ.n]∧σ'.n=σ.n+1∧(∀ i,i < σ.n→i ∉ ks→σ'.get i=σ.get i)∧T=ks:=by
 have hsc:sliceCells σ (.row j 0 1 2)=some [.d (.int .i64 (n:Int)),.d (.int .i64 (m:Int))]:=by rw [sliceCells_row hj (by simp)]; rfl
 have hsl:sliceLen σ (.row j 0 1 2)=some 1:=by rw [sliceLen_row,hj]; rfl
 rcases h with ⟨rfl,rfl,rfl⟩ | ⟨k,off,cs,rfl,rfl,hk,h3,h4,h5,h6⟩
 · rw [appendA_nil hsc hsl rfl rfl (by omega) (by omega),if_neg (by omega)]
   exact ⟨_,_,_,rfl,.inr ⟨σ.n,0,_,rfl,rfl,St.get_push_eq,rfl,rfl,hlo,by simp [St.n_push]⟩,by simp [St.n_push],fun i hi _ => St.get_push_ne hi,rfl⟩
 · rw [appendA_row hk (new:=[.d (.int .i64 (n:Int)),.d (.int .i64 (m:Int))]) (n:=1) hsc hsl rfl rfl (by omega) (by omega) (by omega),if_neg (by omega)]
   refine ⟨_,_,_,rfl,.inr ⟨σ.n,0,_,rfl,by rw [List.length_append]; rfl,by rw [St.get_push_eq' (by rw [St.n_set])],?_,?_,hlo,by simp [St.n_push,St.n_set]⟩,by simp [St.n_push,St.n_set],fun i hi hne => ?_,rfl⟩
   · rw [h4,List.length_append,List.length_append,List.length_take,pairsA_len]; simp; omega
   · rw [List.drop_zero,h4,List.take_of_length_le (by rw [pairsA_len]; omega)]; simp [pairsA]
   · rw [St.get_push_ne (by rw [St.n_set]; exact hi),St.get_set_ne (by simpa using hne)]
theorem TodoP.tail {s p:Nat} (h:TodoP lo σ a ((s,p) :: todo) ks) :
 ∃ k off cs,ks=[k]∧a=.row k off (todo.length+1) 2∧σ.get k=.cells cs∧cs[off]?=some (.d (.int .i64 (s:Int)))∧cs[off+1]?=some (.d (.int .i64 (p:Int)))∧off+2≤cs.length∧lo≤k∧k < σ.n∧TodoP lo σ (.row k (off+2) todo.length 2) todo ks:=by
 rcases h with ⟨-,h,-⟩ | ⟨k,off,cs,rfl,rfl,hk,h3,h4,h5,h6⟩
 · cases h
 have h4':cs.drop off=A.d (.int .i64 (s:Int)) :: A.d (.int .i64 (p:Int)) :: pairsA todo:=h4
 refine ⟨k,off,cs,rfl,rfl,hk,?_,?_,by simp only [List.length_cons] at h3; omega,h5,h6,.inr ⟨k,off+2,cs,rfl,rfl,hk,by simp only [List.length_cons] at h3; omega,?_,h5,h6⟩⟩
 · have:(cs.drop off)[0]?=some (.d (.int .i64 (s:Int))):=by rw [h4']; rfl
   rw [List.getElem?_drop,Nat.add_zero] at this; exact this
 · have:(cs.drop off)[1]?=some (.d (.int .i64 (p:Int))):=by rw [h4']; rfl
   rw [List.getElem?_drop] at this; exact this
 · rw [← List.drop_drop,h4']; rfl
end
theorem sliceT_row {tm:Tm} {σ:St} {k off n sz bb:Nat} {cs:List A} {zz:Option (List A)} {zv:A} (hk:σ.get k=.cells cs) :
 sliceT (XX fz) tm σ 174 (some (.d (.int .i64 1))) none (.row k off (n+1) 2) (some ⟨.slc 176,sz,bb,zz,zv⟩)=.val (.row k (off+2) n 2) σ [] [k]:=by
 have h0:ev (FT.set (FT.set (FT.set FT.nil 0 (A.row k off (n+1) 2)) 1 (.d (.int .i64 1))) 2 .top) (.tmp 0)=A.row k off (n+1) 2:=by simp [ev,Tm.at_set]
 have h1:ev (FT.set (FT.set (FT.set FT.nil 0 (A.row k off (n+1) 2)) 1 (.d (.int .i64 1))) 2 .top) (.tmp 1)=.d (.int .i64 1):=by simp [ev,Tm.at_set]
 have h2:bnd (FT.set (FT.set (FT.set FT.nil 0 (A.row k off (n+1) 2)) 1 (.d (.int .i64 1))) 2 .top) (some (.tmp 1)) 0=some 1:=by unfold bnd; dsimp only; rw [h1]; rfl
 have h3:∀ tm:Tm,bnd tm none (n+1)=some (n+1):=fun _ => rfl
 unfold sliceT
 show evalOp _ _ _ _=_
 unfold evalOp
 simp only [Option.getD_some,Option.getD_none,Option.map_some,Option.map_none,ti174,ti176,h0,h2,h3,hk]
 rw [if_pos (by refine ⟨by omega,by omega,trivial⟩),Nat.add_sub_cancel,Nat.one_mul]
theorem upd_all {t:Nat} (ht:T2 t) {a b r:Nat} {v:D} {M:List ((Nat × Nat) × D)} (h:FP M (a,b)=none) (σ:St) :
 updB (XX fz) σ t (.agg [.d (.int .i64 (a:Int)),.d (.int .i64 (b:Int))]) (.d v) r (.map (PM M))=.val .top (σ.set r (.map (PM (M ++ [((a,b),v)])))) [r] []:=upd_PM ht h
structure RunM (kr kM:Nat) (sim tok:D) (f:Nat) (M:List ((Nat × Nat) × D)) (σ:St):Prop where
 cell:σ.get kr=.cells [.d sim,.d tok,.d (.int .i64 (f:Int)),.map kM]
 gm:σ.get kM=.map (PM M)
theorem RunM.stay {kr kM:Nat} {sim tok:D} {f:Nat} {M:List ((Nat × Nat) × D)} {σ τ:St} (h:RunM kr kM sim tok f M σ) (h1:τ.get kr=σ.get kr) (h2:τ.get kM=σ.get kM):RunM kr kM sim tok f M τ :=
 ⟨h1.trans h.cell,h2.trans h.gm⟩
def SS (S:List (Nat × Nat)):List ((Nat × Nat) × D):=S.map fun x => (x,.int .i64 1)
theorem SS_app (S:List (Nat × Nat)) (x:Nat × Nat):SS S ++ [(x,.int .i64 1)]=SS (S ++ [x]):=by simp [SS]
theorem SS_mem {S:List (Nat × Nat)} {x:Nat × Nat} {v:D}:(x,v) ∈ SS S ↔ x ∈ S∧v=.int .i64 1:=by
 unfold SS; rw [List.mem_map]
 constructor
 · rintro ⟨y,h1,h2⟩; cases h2; exact ⟨h1,rfl⟩
 · rintro ⟨h1,rfl⟩; exact ⟨x,h1,rfl⟩
structure FrM (b kr kM:Nat) (sim tok:D) (f:Nat) (M:List ((Nat × Nat) × D)) (S todo:List (Nat × Nat)) (ks:List Nat) (σ:St):Prop where
 run:RunM kr kM sim tok f M σ
 gc:σ.get b=.cells [.ptr kr 0]
 gS:σ.get (b+1)=.map (PM (SS S))
 gs:σ.get (b+2)=.cells [.map (b+1)]
 gt:∃ av,σ.get (b+3)=.cells [av]∧TodoP (b+4) σ av todo ks
 n:b+4≤σ.n
structure Plc (b kr kM:Nat):Prop where
 r:kr < b
 m:kM < b
 ne:kr≠kM
set_option maxHeartbeats 4000000 in
theorem reach_c (h85:fz 114=.keep) {b kr kM:Nat} (hP:Plc b kr kM) {sim tok:D} {f:Nat} {M:List ((Nat × Nat) × D)} {S todo:List (Nat × Nat)} {ks:List Nat} {σ:St} (h:FrM b kr kM sim tok f M S todo ks σ) (hl:todo.length < 1000000000) (s p:Nat) :
 ∃ σ' W,CallsTo (XX fz) (.func 114 [.ptr (b+2) 0,.ptr (b+3) 0,.ptr b 0]) [.d (.int .i64 (s:Int)),.d (.int .i64 (p:Int))] σ (.tup []) σ' W∧∃ f' S' todo' ks',FrM b kr kM sim tok f' M S' todo' ks' σ' ∧
  (((s,p) ∈ S∧S'=S∧todo'=todo∧f'=f)∨((s,p) ∉ S∧S'=S ++ [(s,p)]∧todo'=todo ++ [(s,p)]∧f'=max f p))∧Mod σ σ' W∧(ks'=ks∨∃ k,ks'=[k]∧σ.n≤k) ∧
  (∀ k,k < σ.n→k≠kr→k≠b+1→k≠b+3→k ∉ ks→σ'.get k=σ.get k)∧∀ k ∈ W,k=kr∨k=b+1∨k=b+3∨k ∈ ks∨σ.n≤k:=by
 refine CallsTo.keepE h85 fn114 (by simp) ?_
 obtain ⟨av,g3,td⟩:=h.gt
 have hn:=h.n
 have l1:=hP.r
 have l2:=hP.m
 have a1:b+2≠σ.n:=by omega
 have a2:b+2 < σ.n:=by omega
 have a3:b+1≠σ.n:=by omega
 have a4:b+1 < σ.n:=by omega
 have a5:b+3≠σ.n:=by omega
 have a6:b+3 < σ.n:=by omega
 have kp:keyT (XX fz) 8 176 (.agg [.d (.int .i64 (s:Int)),.d (.int .i64 (p:Int))])=true:=key_pr (.inl rfl)
 simp only [Try.f114,Option.getD_some]
 rcases find_PM (fz:=fz) (t:=176) (.inl rfl) (a:=s) (b:=p) (SS S) 0 with ⟨j,v,h1,h2,h3⟩ | ⟨h2,h3⟩
 · obtain ⟨hm,rfl⟩:=SS_mem.1 (List.mem_of_getElem? h1)
   simp only [go_sem,h.gs,h.gS,a1,a2,a3,a4,kp,h3]
   have hg:∀ k,k < σ.n→(if k=σ.n then Blk.cells [A.d (D.int IntKind.i64 (s:Int)),A.d (D.int IntKind.i64 (p:Int))] else if k=σ.n then Blk.cells [A.d (D.int IntKind.i64 0),A.d (D.int IntKind.i64 0)] else σ.get k)=σ.get k:=fun k hk => by
    rw [if_neg (by omega),if_neg (by omega)]
   refine ⟨f,S,todo,ks,⟨h.run.stay (hg _ (by omega)) (hg _ (by omega)),(hg _ (by omega)).trans h.gc,(hg _ (by omega)).trans h.gS,(hg _ (by omega)).trans h.gs,⟨av,(hg _ (by omega)).trans g3,td.stay (Nat.le_succ _) fun k hk => hg k (td.lt k hk).2⟩,Nat.le_succ_of_le hn⟩,.inl ⟨hm,rfl,rfl,rfl⟩,⟨Nat.le_succ _,fun k hk _ => hg k hk,fun k hk => by cases hk⟩,.inl rfl,fun k hk _ _ _ _ => hg k hk,fun k hk => by cases hk⟩
 · have hm:(s,p) ∉ S:=fun q => FP_none.1 h2 (.int .i64 1) (SS_mem.2 ⟨q,rfl⟩)
   have hu:=upd_all (fz:=fz) (t:=176) (.inl rfl) (r:=b+1) (v:=.int .i64 1) h2
   rw [SS_app] at hu
   have td1:TodoP (b+4) ((((σ.push (.cells [.d (.int .i64 0),.d (.int .i64 0)])).set σ.n (.cells [.d (.int .i64 (s:Int)),.d (.int .i64 (p:Int))])).set (b+1) (.map (PM (SS (S ++ [(s,p)]))))).push (.cells [.d (.int .i64 (s:Int)),.d (.int .i64 (p:Int))])) av todo ks :=
    td.stay (by simp only [St.n_push,St.n_set]; omega) fun k hk => by
     have:=td.lt k hk
     rw [St.get_push_ne (by simp only [St.n_push,St.n_set]; omega),St.get_set_ne (by omega),St.get_set_ne (by omega),St.get_push_ne this.2]
   obtain ⟨av',ρ',T,happ,td2,n2,g2,rfl⟩:=td1.app (j:=σ.n+1) (n:=s) (m:=p) (by rw [St.get_push_eq' (by simp only [St.n_push,St.n_set])]) hl (by simp only [St.n_push,St.n_set]; omega)
   simp only [St.n_push,St.n_set] at n2 g2 td2
   have a7:σ.n≠b+1:=by omega
   have nT:∀ k,k < b+4→k ∉ T:=fun k hk q => by have:=(td.lt k q).1; omega
   have g4:∀ k,k < σ.n→k≠b+1→k ∉ T→ρ'.get k=σ.get k:=fun k h1 h2 h3 => by
    rw [g2 k (by omega) h3,St.get_push_ne (by simp only [St.n_push,St.n_set]; omega),St.get_set_ne h2,St.get_set_ne (by omega),St.get_push_ne h1]
   have gS2:ρ'.get (b+1)=.map (PM (SS (S ++ [(s,p)]))):=by
    rw [g2 _ (by omega) (nT _ (by omega)),St.get_push_ne (by simp only [St.n_push,St.n_set]; omega),St.get_set_eq]
   have q3:ρ'.get (b+3)=.cells [av]:=(g4 _ (by omega) (by omega) (nT _ (by omega))).trans g3
   have qc:ρ'.get b=.cells [.ptr kr 0]:=(g4 _ (by omega) (by omega) (nT _ (by omega))).trans h.gc
   have qs:ρ'.get (b+2)=.cells [.map (b+1)]:=(g4 _ (by omega) (by omega) (nT _ (by omega))).trans h.gs
   have qr:ρ'.get kr=.cells [.d sim,.d tok,.d (.int .i64 (f:Int)),.map kM]:=(g4 _ (by omega) (by omega) (nT _ (by omega))).trans h.run.cell
   have qM:ρ'.get kM=.map (PM M):=(g4 _ (by omega) (by omega) (nT _ (by omega))).trans h.run.gm
   obtain ⟨c1,c2⟩:=td2.cell
   have a8:b≠b+3:=by omega
   have a9:kr≠b+3:=by omega
   simp only [go_sem,h.gs,h.gS,a1,a2,a3,a4,a5,a6,a7,kp,h3,hu,g3,happ,c1,c2,q3,qc,qr,a8,a9,o_maxA,maxA]
   refine ⟨drawOk_rel [9] [] rfl (by kernel_rfl) rfl (by simp),?_⟩
   have gg:∀ k,k≠kr→k≠b+3→((ρ'.set (b+3) (.cells [av'])).set kr (.cells [.d sim,.d tok,.d (.int .i64 ((max f p:Nat):Int)),.map kM])).get k=ρ'.get k:=fun k h1 h2 => by rw [St.get_set_ne h1,St.get_set_ne h2]
   have lm:=hP.ne
   refine ⟨max f p,S ++ [(s,p)],todo ++ [(s,p)],_,⟨⟨St.get_set_eq,(gg _ (by omega) (by omega)).trans qM⟩,(gg _ (by omega) (by omega)).trans qc,(gg _ (by omega) (by omega)).trans gS2,(gg _ (by omega) (by omega)).trans qs,⟨av',by rw [St.get_set_ne (by omega),St.get_set_eq],td2.stay (Nat.le_refl _) fun k hk => ?_⟩,by simp only [St.n_set]; omega⟩,.inr ⟨hm,rfl,rfl,rfl⟩,⟨by simp only [St.n_set]; omega,fun k h1 h2 => ?_,fun k hk => ?_⟩,.inr ⟨_,rfl,by omega⟩,fun k h1 h2 h3 h4 h5 => ?_,fun k hk => ?_⟩
   · have:=(td2.lt k hk).1
     exact gg _ (by omega) (by omega)
   · simp only [List.mem_append,mem_low,List.mem_singleton,not_or,not_and] at h2
     obtain ⟨⟨⟨q1,q2⟩,q3'⟩,q4⟩:=h2
     rw [gg _ (fun e => q4 e h1) (fun e => q3' e h1)]
     exact g4 k h1 (fun e => q1 e h1) (fun e => q2 e h1)
   · simp only [List.mem_append,mem_low] at hk
     rcases hk with ((⟨-,hk⟩ | ⟨-,hk⟩) | ⟨-,hk⟩) | ⟨-,hk⟩ <;> exact hk
   · rw [if_neg h2,if_neg h4]; exact g4 k h1 h3 h5
   · simp only [List.mem_append,mem_low,List.mem_singleton] at hk
     rcases hk with ((⟨hk,-⟩ | ⟨hk,-⟩) | ⟨hk,-⟩) | ⟨hk,-⟩
     · exact .inr (.inl hk)
     · exact .inr (.inr (.inr (.inl hk)))
     · exact .inr (.inr (.inl hk))
     · exact .inl hk
end Go.Am.Sm

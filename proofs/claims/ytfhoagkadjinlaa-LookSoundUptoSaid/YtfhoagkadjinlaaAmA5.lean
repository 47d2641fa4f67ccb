/- Part A5 of a proof that runs a program's calls on a small machine whose values bear no addresses: no conditions. -/
import Derived.Test.YtfhoagkadjinlaaAmA1
import Derived.Test.YtfhoagkadjinlaaAmA4
set_option autoImplicit false
set_option linter.unusedSimpArgs false
set_option linter.unusedVariables false
set_option linter.unusedSectionVars false
namespace Go.Am
open Go
variable {X:X} {tm tm':Tm} {σ:St} {o:Oper}
theorem map_ev {tm tm':Tm}:∀ (l:List Operand),(∀ x ∈ l,ev tm x=ev tm' x)→l.map (ev tm)=l.map (ev tm')
 | [],_ => rfl
 | x :: l,h => by rw [List.map_cons,List.map_cons,h x (by simp),map_ev l fun y hy => h y (by simp [hy])]
theorem map_parts {tm tm':Tm} (ps:Array (Nat × Operand)) (h:∀ x ∈ ps.map (·.2),ev tm x=ev tm' x) :
 (ps.toList.map fun p => (p.1,ev tm p.2))=ps.toList.map fun p => (p.1,ev tm' p.2):=by
 refine List.map_congr_left fun p hp => ?_
 rw [h p.2 (Array.mem_map.2 ⟨p,Array.mem_toList_iff.1 hp,rfl⟩)]
theorem evalOp_tm (h:∀ x ∈ o.op.operands,ev tm x=ev tm' x):evalOp X tm σ o=evalOp X tm' σ o:=by
 obtain ⟨dst,op,type,pos,after,guard⟩:=o
 cases op <;> simp only [Op.operands] at h <;> simp only [evalOp]
 case build t ps => rw [map_parts ps fun x hx => h x (by simpa using hx)]
 case buildSlice t n ps => rw [map_parts ps fun x hx => h x (by simpa using hx)]
 case makeFunc fn first captured =>
  cases fn <;> simp only
  rw [map_ev captured.toList fun x hx => h x (by simp; exact .inr (by simpa using hx))]
 case call c =>
  have ha:c.args.toList.map (ev tm)=c.args.toList.map (ev tm'):=map_ev _ fun x hx => h x (by simp [Call.operands]; exact .inr (by simpa using hx))
  simp only [ha]
  cases hc:c.callee with
  | value f =>
   have hf:ev tm f=ev tm' f:=h f (by simp [Call.operands,hc])
   simp only [hf]
  | invoke r m => rfl
  | builtin b => cases b <;> rfl
 case makeMap t r => cases r <;> rfl
 case slice t x lo hi mx =>
  cases mx <;> simp only
  have hx:=h x (by simp)
  have hlo:∀ d,bnd tm lo d=bnd tm' lo d:=fun d => by
   cases lo with
   | none => rfl
   | some p => simp only [bnd,h p (by simp)]
  have hhi:∀ d,bnd tm hi d=bnd tm' hi d:=fun d => by
   cases hi with
   | none => rfl
   | some p => simp only [bnd,h p (by simp)]
  simp only [hx,hlo,hhi]
 all_goals (first | rfl | (simp_all; done))
end Go.Am
namespace Go.Am
open Go
theorem sure_eq (e:Edge):sure e=Region.binds .any e:=by
 unfold sure Region.binds; cases e.ground <;> rfl
def inner (acc:Array Nat) (o:Oper):Nat:=o.after.foldl (fun s e => if sure e then s ||| 2 ^ e.on ||| acc.getD e.on 0 else s) 0
theorem inner_list (acc:Array Nat) (i:Nat):∀ (l:List Edge) (s:Nat),(l.foldl (fun s e => if sure e then s ||| 2 ^ e.on ||| acc.getD e.on 0 else s) s).testBit i=true →
 s.testBit i=true∨∃ e ∈ l,sure e=true∧(e.on=i∨(acc.getD e.on 0).testBit i=true)
 | [],s,h => .inl h
 | e :: l,s,h => by
  rw [List.foldl_cons] at h
  rcases inner_list acc i l _ h with h | ⟨e',he,h⟩
  · split at h
    · rename_i hs
      rw [Nat.testBit_or,Nat.testBit_or,Nat.testBit_two_pow] at h
      simp only [Bool.or_eq_true,decide_eq_true_eq] at h
      rcases h with (h | h) | h
      · exact .inl h
      · exact .inr ⟨e,by simp,hs,.inl h⟩
      · exact .inr ⟨e,by simp,hs,.inr h⟩
    · exact .inl h
  · exact .inr ⟨e',by simp [he],h⟩
theorem aheads_eq (ops:Array Oper):aheads ops=ops.toList.foldl (fun acc o => acc.push (inner acc o)) #[]:=by
 unfold aheads inner; rw [← Array.foldl_toList]
theorem push_getD (a:Array Nat) (x j:Nat):(a.push x).getD j 0=if j=a.size then x else a.getD j 0:=by
 simp only [Array.getD_eq_getD_getElem?,Array.getElem?_push]
 split <;> rfl
theorem aheads_list:∀ (l:List Oper) (acc:Array Nat),
 (∀ j,j < acc.size→(l.foldl (fun acc o => acc.push (inner acc o)) acc).getD j 0=acc.getD j 0) ∧
 (∀ j o,l[j]?=some o→∃ acc':Array Nat,(∀ q,acc'.getD q 0=if q < acc.size+j then (l.foldl (fun acc o => acc.push (inner acc o)) acc).getD q 0 else 0) ∧
  (l.foldl (fun acc o => acc.push (inner acc o)) acc).getD (acc.size+j) 0=inner acc' o)
 | [],acc => ⟨fun _ _ => rfl,fun j o h => by simp at h⟩
 | o :: l,acc => by
  obtain ⟨h1,h2⟩:=aheads_list l (acc.push (inner acc o))
  have hb:∀ j,j < acc.size→((o :: l).foldl (fun acc o => acc.push (inner acc o)) acc).getD j 0=acc.getD j 0:=fun j hj => by
   rw [List.foldl_cons,h1 j (by simp; omega),push_getD,if_neg (by omega)]
  refine ⟨hb,fun j o' hj => ?_⟩
  cases j with
  | zero =>
   simp only [List.getElem?_cons_zero,Option.some.injEq] at hj; subst hj
   refine ⟨acc,fun q => ?_,?_⟩
   · split
     · exact (hb q (by omega)).symm
     · rw [Array.getD_eq_getD_getElem?,Array.getElem?_eq_none (by omega)]; rfl
   · rw [List.foldl_cons,h1 _ (by simp),push_getD,if_pos (by omega)]
  | succ j =>
   simp only [List.getElem?_cons_succ] at hj
   obtain ⟨acc',q1,q2⟩:=h2 j o' hj
   refine ⟨acc',fun q => ?_,?_⟩
   · rw [q1 q,List.foldl_cons,Array.size_push,show acc.size+1+j=acc.size+(j+1) by omega]
   · rw [List.foldl_cons,← q2,Array.size_push,show acc.size+1+j=acc.size+(j+1) by omega]
def bef (ops:Array Oper) (i j:Nat):Prop:=((aheads ops).getD j 0).testBit i=true
theorem bef_spec {ops:Array Oper} {i j:Nat} {o:Oper} (ho:ops[j]?=some o) (h:bef ops i j):∃ e ∈ o.after,sure e=true∧(e.on=i∨(e.on < j∧bef ops i e.on)):=by
 unfold bef at h
 rw [aheads_eq] at h
 obtain ⟨acc',q1,q2⟩:=(aheads_list ops.toList #[]).2 j o (by simpa using ho)
 simp only [List.size_toArray,List.length_nil,Nat.zero_add] at q1 q2
 rw [q2] at h
 unfold inner at h
 rw [← Array.foldl_toList] at h
 rcases inner_list acc' i _ _ h with h | ⟨e,he,hs,h⟩
 · simp at h
 · refine ⟨e,by simpa using he,hs,?_⟩
   rcases h with h | h
   · exact .inl h
   · rw [q1] at h
     split at h
     · rename_i hlt; exact .inr ⟨hlt,by unfold bef; rw [aheads_eq]; exact h⟩
     · simp at h
section
variable {ops:Array Oper} (hok:regionOk ops=true)
include hok
theorem region_at {j:Nat} {oj:Oper} (hj:ops[j]?=some oj):(∀ e ∈ oj.after,sure e=true→e.on < j)∧∀ i oi,ops[i]?=some oi→i < j→oi.apart ops oj=true∨bef ops i j:=by
 unfold regionOk at hok
 simp only [List.all_eq_true,List.mem_range] at hok
 have:=hok j (Array.getElem?_eq_some_iff.1 hj).1
 simp only [hj,Bool.and_eq_true,List.all_eq_true,List.mem_range] at this
 refine ⟨fun e he hs => ?_,fun i oi hi hij => ?_⟩
 · have h1:=Array.all_eq_true_iff_forall_mem.1 this.1 e he
   simpa [hs] using h1
 · have h2:=this.2 i hij
   simp only [hi,Bool.or_eq_true] at h2
   exact h2
theorem bef_lt:∀ {j i:Nat},bef ops i j→j < ops.size→i < j:=by
 intro j
 induction j using Nat.strongRecOn with
 | _ j ih =>
  intro i h hj
  obtain ⟨e,he,hs,h⟩:=bef_spec (Array.getElem?_eq_getElem hj) h
  have hlt:=(region_at hok (Array.getElem?_eq_getElem hj)).1 e he hs
  rcases h with h | ⟨_,h⟩
  · omega
  · have:=ih e.on hlt h (by omega); omega
theorem bef_closed {D:Nat→Prop} (hD:∀ j o,D j→ops[j]?=some o→∀ e ∈ o.after,sure e=true→D e.on):∀ {j i:Nat},j < ops.size→D j→bef ops i j→D i:=by
 intro j
 induction j using Nat.strongRecOn with
 | _ j ih =>
  intro i hj hd h
  have ho:=Array.getElem?_eq_getElem hj
  obtain ⟨e,he,hs,h⟩:=bef_spec ho h
  have hlt:=(region_at hok ho).1 e he hs
  have hde:=hD j _ hd ho e he hs
  rcases h with h | ⟨_,h⟩
  · exact h ▸ hde
  · exact ih e.on hlt (by omega) hde h
end
end Go.Am
namespace Go.Am
open Go
structure Rec where
 tm:Tm
 st:St
 val:A
 T:List Nat
 R:List Nat
def Rec.cons (i:Nat) (x:Rec) (r:Nat→Rec):Nat→Rec:=fun j => if j=i then x else r j
theorem Rec.cons_same (i:Nat) (x:Rec) (r:Nat→Rec):Rec.cons i x r i=x:=by simp [Rec.cons]
theorem Rec.cons_ne {i j:Nat} (x:Rec) (r:Nat→Rec) (h:j≠i):Rec.cons i x r j=r j:=by simp [Rec.cons,h]
theorem trace {X:X} {n nt lo:Nat} {ops:Array Oper} {tm':Tm} {σ':St} {W':List Nat} {log':List Log}:∀ (os:List Oper) (m i:Nat) (tm:Tm) (σ:St) (W:List Nat) (log:List Log),m≤n →
 opsR X m ops nt lo os i tm σ W log=some (tm',σ',W',log') →
 ∃ r:Nat→Rec,(r i).tm=tm∧(r i).st=σ∧(r (i+os.length)).tm=tm'∧(r (i+os.length)).st=σ' ∧
  (∀ j o,os[j]?=some o→OpStep X n ops nt o (r (i+j)).tm (r (i+j)).st (r (i+j)).val (r (i+j+1)).tm (r (i+j+1)).st (r (i+j)).T (r (i+j)).R ∧
   (⟨i+j,(r (i+j)).T,(r (i+j)).R⟩ ∈ log'∨((r (i+j)).T=[]∧(r (i+j)).R=[]∧wantedA ops (r (i+j)).tm o=false))) ∧
  (∀ k,k ∈ W' ↔ k ∈ W∨∃ j,j < os.length∧k ∈ (r (i+j)).T∧k < lo)∧(∀ e,e ∈ log→e ∈ log')
 | [],m,i,tm,σ,W,log,hm,h => by
  cases m with
  | zero => simp [opsR] at h
  | succ m =>
   simp only [opsR,Option.some.injEq,Prod.mk.injEq] at h; obtain ⟨rfl,rfl,rfl,rfl⟩:=h
   exact ⟨fun _ => ⟨tm,σ,.top,[],[]⟩,rfl,rfl,rfl,rfl,fun j o h => by simp at h,fun k => by simp,fun _ h => h⟩
 | o :: os,m,i,tm,σ,W,log,hm,h => by
  cases m with
  | zero => simp [opsR] at h
  | succ m =>
   obtain ⟨a,tm1,σ1,T,R,log1,hst,h,hlog⟩:=opsR_cons h
   have hst:=hst.lift (show m≤n by omega)
   obtain ⟨r,q1,q2,q3,q4,q5,q6,q7⟩:=trace os m (i+1) tm1 σ1 _ _ (Nat.le_of_succ_le hm) h
   have hne:∀ j,i+1+j≠i:=fun j => by omega
   refine ⟨Rec.cons i ⟨tm,σ,a,T,R⟩ r,by rw [Rec.cons_same],by rw [Rec.cons_same],?_,?_,fun j o' hj => ?_,fun k => ?_,fun e he => ?_⟩
   · rw [show i+(o :: os).length=i+1+os.length by simp; omega,Rec.cons_ne _ _ (hne _)]; exact q3
   · rw [show i+(o :: os).length=i+1+os.length by simp; omega,Rec.cons_ne _ _ (hne _)]; exact q4
   · cases j with
     | zero =>
      simp only [List.getElem?_cons_zero,Option.some.injEq] at hj; subst hj
      rw [Nat.add_zero,Rec.cons_same,Rec.cons_ne _ _ (show i+1≠i by omega)]
      dsimp only
      rw [q1,q2]
      refine ⟨hst,?_⟩
      rcases hlog with rfl | ⟨_,h1,h2,h3⟩
      · exact .inl (q7 _ (by simp))
      · exact .inr ⟨h1,h2,h3⟩
     | succ j =>
      simp only [List.getElem?_cons_succ] at hj
      rw [show i+(j+1)=i+1+j by omega,Rec.cons_ne _ _ (hne _),show i+1+j+1=i+1+(j+1) by omega,Rec.cons_ne _ _ (hne _)]
      exact q5 j o' hj
   · rw [q6 k]
     simp only [List.mem_append,low,List.mem_filter,decide_eq_true_eq,List.length_cons]
     constructor
     · rintro ((h | h) | ⟨j,h1,h2⟩)
       · exact .inl h
       · exact .inr ⟨0,by omega,by rw [Nat.add_zero,Rec.cons_same]; exact h⟩
       · exact .inr ⟨j+1,by omega,by rw [show i+(j+1)=i+1+j by omega,Rec.cons_ne _ _ (hne _)]; exact h2⟩
     · rintro (h | ⟨j,h1,h2⟩)
       · exact .inl (.inl h)
       · cases j with
         | zero => rw [Nat.add_zero,Rec.cons_same] at h2; exact .inl (.inr h2)
         | succ j => rw [show i+(j+1)=i+1+j by omega,Rec.cons_ne _ _ (hne _)] at h2; exact .inr ⟨j,by omega,h2⟩
   · rcases hlog with rfl | ⟨rfl,_⟩
     · exact q7 e (by simp [he])
     · exact q7 e he
end Go.Am
namespace Go.Am
open Go
variable {X:X} {n nt:Nat} {ops:Array Oper} {o:Oper} {tm tm' tm₂:Tm} {σ σ':St} {a:A} {T R:List Nat}
theorem looks_ev (h:∀ t ∈ o.looksAt ops,tm₂.at t=tm.at t):∀ x ∈ o.op.operands,ev tm₂ x=ev tm x:=fun x hx => by
 cases x with
 | tmp t => exact h t (List.mem_append_left _ (List.mem_filterMap.2 ⟨.tmp t,by simpa using hx,rfl⟩))
 | _ => rfl
theorem looks_guard (h:∀ t ∈ o.looksAt ops,tm₂.at t=tm.at t):guardOk ops tm₂ o=guardOk ops tm o∧wantedA ops tm₂ o=wantedA ops tm o:=by
 unfold guardOk wantedA
 cases hg:o.guard with
 | none => exact ⟨rfl,rfl⟩
 | some p =>
  obtain ⟨j,want⟩:=p
  cases ht:(ops[j]?).bind (·.dst) with
  | none => simp only [ht,and_self]
  | some t =>
   have:=h t (List.mem_append_right _ (by simp [hg,ht]))
   simp only [ht,this,and_self]
theorem putTm_some {nt:Nat} {dst:Option Nat} {a:A} (h:putTm nt tm dst a=some tm') (tm₂:Tm):∃ tm₃,putTm nt tm₂ dst a=some tm₃:=by
 unfold putTm at h ⊢
 split at h
 · exact ⟨_,rfl⟩
 · split at h
   · rename_i hd; simp only [hd,if_true]; exact ⟨_,rfl⟩
   · cases h
theorem putTm_at {nt:Nat} {dst:Option Nat} {a:A} (h:putTm nt tm dst a=some tm') (t:Nat):tm'.at t=(if dst=some t then a else tm.at t)∧(dst=some t→t < nt):=by
 unfold putTm at h
 split at h
 · cases h; simp
 · rename_i d
   split at h
   · rename_i hd
     cases h
     rw [Tm.at_set]
     by_cases e:t=d
     · subst e; simp [hd]
     · simp [e,Ne.symm e]
   · cases h
theorem OpStep.on (h:OpStep X n ops nt o tm σ a tm' σ' T R) (ht:∀ t ∈ o.looksAt ops,tm₂.at t=tm.at t):∃ tm₃,OpStep X n ops nt o tm₂ σ a tm₃ σ' T R:=by
 obtain ⟨hg,hp,h⟩:=h
 obtain ⟨tm₃,hp'⟩:=putTm_some hp tm₂
 obtain ⟨e1,e2⟩:=looks_guard (ops:=ops) ht
 have e3:evalOp X tm₂ σ o=evalOp X tm σ o:=evalOp_tm (looks_ev ht)
 exact ⟨tm₃,e1.trans hg,hp',by rw [e2,e3]; exact h⟩
theorem OpStep.quiet (h:OpStep X n ops nt o tm σ a tm' σ' T R) (hq:heavy o=false∨wantedA ops tm o=false) :
 T=[]∧∃ b,σ'=pushO σ b∧∀ σ₂:St,σ₂.n=σ.n→AgreeOn R σ σ₂→OpStep X n ops nt o tm σ₂ a tm' (pushO σ₂ b) [] R:=by
 obtain ⟨hg,hp,h⟩:=h
 rcases h with ⟨hw,rfl,rfl,rfl,rfl⟩ | ⟨hw,he⟩ | ⟨hw,g,args,he,hc,rfl⟩
 · exact ⟨rfl,none,rfl,fun σ₂ _ _ => ⟨hg,hp,.inl ⟨hw,rfl,rfl,rfl,rfl⟩⟩⟩
 · have hq:heavy o=false:=hq.resolve_right (by simp [hw])
   obtain ⟨h1,b,_,h2,h3⟩:=evalOp_quiet hq he
   exact ⟨h1,b,h2,fun σ₂ hn hR => ⟨hg,hp,.inr (.inl ⟨hw,h3 σ₂ hn hR⟩)⟩⟩
 · obtain ⟨c,g',e1,e2,_,_⟩:=evalOp_call he
   have hq:heavy o=false:=hq.resolve_right (by simp [hw])
   simp [heavy,e1,e2] at hq
theorem OpStep.light (h:OpStep X n ops nt o tm σ a tm' σ' T R) (hq:light o=true∨wantedA ops tm o=false) {σ₂:St} (hn:σ₂.n=σ.n) (hR:AgreeOn (R ++ T) σ σ₂) :
 ∃ σ₃,OpStep X n ops nt o tm σ₂ a tm' σ₃ T R∧σ₃.n=σ'.n∧∀ k,(k ∈ T∧k < σ.n)∨(σ.n≤k∧k < σ'.n)→σ₃.get k=σ'.get k:=by
 by_cases hh:heavy o=false∨wantedA ops tm o=false
 · obtain ⟨rfl,b,rfl,h3⟩:=h.quiet hh
   refine ⟨_,h3 σ₂ hn (fun k hk => hR k (by simpa using hk)),by rw [pushO_n,pushO_n,hn],fun k hk => ?_⟩
   rcases hk with ⟨hk,_⟩ | ⟨h1,h2⟩
   · cases hk
   · cases b with
     | none => simp only [pushO] at h2; omega
     | some b => simp only [pushO,St.n_push] at h2 ⊢; rw [St.get_push,St.get_push,hn]; rw [if_pos (by omega),if_pos (by omega)]
 · rw [not_or] at hh
   have hw:wantedA ops tm o=true:=by simpa using hh.2
   have hl:Am.light o=true:=hq.resolve_right hh.2
   have hv:heavy o=true:=by simpa using hh.1
   unfold Am.light at hl
   rw [hv] at hl
   simp only [Bool.not_true,Bool.false_or] at hl
   split at hl
   · rename_i t x v ho
     obtain ⟨hg,hp,h⟩:=h
     have key:∀ τ:St,evalOp X tm τ o=match X.ti t with
      | some i => match storeA i τ (ev tm x) (ev tm v) with
       | some (σ',T) => .val .top σ' T []
       | none => .bad
      | none => .bad:=fun τ => by unfold evalOp; simp only [ho]; rfl
     rcases h with ⟨hw',_⟩ | ⟨_,he⟩ | ⟨_,g,args,he,_⟩
     · rw [hw] at hw'; cases hw'
     · rw [key] at he
       split at he
       · rename_i i hi
         split at he
         · rename_i σ3 T3 hs
           cases he
           unfold storeA at hs
           split at hs
           · rename_i k off vs hp1 hv1
             split at hs
             · rename_i cs hcs
               split at hs
               · rename_i hc
                 cases hs
                 have e2:σ₂.get k=.cells cs:=by rw [hR k (by simp)]; exact hcs
                 refine ⟨σ₂.set k (.cells (putAt cs off vs)),⟨hg,hp,.inr (.inl ⟨hw,?_⟩)⟩,hn,fun j hj => ?_⟩
                 · rw [key,hi]; dsimp only
                   unfold storeA; rw [hp1,hv1]; dsimp only; rw [e2]; dsimp only; rw [if_pos hc]
                 · rcases hj with ⟨hj,_⟩ | ⟨h1,h2⟩
                   · simp at hj; subst hj; rw [St.get_set_eq',St.get_set_eq']
                   · rw [St.n_set] at h2; omega
               · cases hs
             · cases hs
           · cases hs
         · cases he
       · cases he
     · rw [key] at he
       split at he
       · split at he <;> cases he
       · cases he
   · cases hl
def only (l:List Nat) (tm:Tm):Tm:=l.foldl (fun t d => FT.set t d (tm.at d)) .nil
theorem only_fold (tm:Tm):∀ (l:List Nat) (t:Tm) (d:Nat),Tm.at (l.foldl (fun t d => FT.set t d (tm.at d)) t) d=if d ∈ l then tm.at d else t.at d
 | [],t,d => by simp
 | x :: l,t,d => by
  rw [List.foldl_cons,only_fold tm l _ d,Tm.at_set]
  by_cases h:d ∈ l
  · simp [h]
  · by_cases e:d=x
    · subst e; simp [h]
    · simp [h,e]
theorem only_at (l:List Nat) (tm:Tm) (d:Nat):Tm.at (only l tm) d=if d ∈ l then tm.at d else .top:=by
 unfold only; rw [only_fold]; simp [Tm.at,FT.get_nil]
def onlySt (σ:St) (R:List Nat):St:=cutSt ⟨σ.n,fun _ => .dead⟩ σ R
theorem onlySt_get (σ:St) (R:List Nat) (k:Nat):(onlySt σ R).get k=if k ∈ R then σ.get k else .dead:=by
 unfold onlySt; rw [get_cutSt]; simp [St.get]
theorem onlySt_n (σ:St) (R:List Nat):(onlySt σ R).n=σ.n:=by unfold onlySt; rw [n_cutSt]
structure DC (X:Am.X) (n:Nat) (ops:Array Oper) (nt:Nat) (r:Nat→Rec):Prop where
 ok:regionOk ops=true
 step:∀ i o,ops[i]?=some o→OpStep X n ops nt o (r i).tm (r i).st (r i).val (r (i+1)).tm (r (i+1)).st (r i).T (r i).R
 ax:∀ i,i < ops.size→AX (r i).st (r (i+1)).st (r i).T
 loops:∀ i,i≤ops.size→LoopsOk (r i).st
 ord:∀ i j o,i < ops.size→ops[j]?=some o→i≠j→(r i).T≠[]→bef ops i j∨bef ops j i∨((light o=true∨wantedA ops (r j).tm o=false)∧∀ k,k ∈ (r i).T→k ∉ (r j).R∧k ∉ (r j).T)
theorem DC.of {X:Am.X} {lo:Nat} {W':List Nat} {log':List Log} {W:List Nat} (hX:∀ f F,X.fn f=some F→codeOk F.body=true) (hok:regionOk ops=true)
 (h:opsR X n ops nt lo ops.toList 0 tm σ W []=some (tm',σ',W',log')) (hd:drawOk ops log'=true) (hl:LoopsOk σ) :
 ∃ r,DC X n ops nt r∧(r 0).tm=tm∧(r 0).st=σ∧(r ops.size).tm=tm'∧(r ops.size).st=σ'∧(∀ k,k ∈ W' ↔ k ∈ W∨∃ j,j < ops.size∧k ∈ (r j).T∧k < lo):=by
 obtain ⟨r,q1,q2,q3,q4,q5,q6,q7⟩:=trace ops.toList n 0 tm σ W [] (Nat.le_refl _) h
 simp only [Nat.zero_add,Array.length_toList,Array.getElem?_toList] at q3 q4 q5 q6
 have hloops:∀ i,i≤ops.size→LoopsOk (r i).st:=by
  intro i
  induction i with
  | zero => intro _; rw [q2]; exact hl
  | succ i ih => intro hi; exact ((q5 i _ (Array.getElem?_eq_getElem (by omega))).1.rest hX (ih (by omega))).1
 refine ⟨r,⟨hok,fun i o ho => (q5 i o ho).1,fun i hi => ((q5 i _ (Array.getElem?_eq_getElem hi)).1.rest hX (hloops i (by omega))).2,hloops,fun i j o hi hj hne hT => ?_⟩,q1,q2,q3,q4,q6⟩
 have hi':=(q5 i _ (Array.getElem?_eq_getElem hi)).2.resolve_right (fun e => hT e.1)
 rcases (q5 j o hj).2 with hj' | ⟨hTj',hR,hw⟩
 · unfold drawOk at hd
   split at hd
   · rename_i hall
     have:=List.all_eq_true.1 hall _ hi'
     simp only [List.isEmpty_iff] at this
     exact absurd this hT
   · have h1:=List.all_eq_true.1 hd _ hi'
     simp only [Bool.or_eq_true,List.isEmpty_iff,hT,false_or] at h1
     have h2:=List.all_eq_true.1 h1 _ hj'
     simp only [Bool.or_eq_true,beq_iff_eq,hne,false_or,ordered,Bool.and_eq_true,Bool.not_eq_true',lightAt,hj] at h2
     rcases h2 with (h2 | h2) | ⟨⟨h2,h3⟩,h4⟩
     · exact .inr (.inl h2)
     · exact .inl h2
     · refine .inr (.inr ⟨.inl h2,fun k hk => ⟨fun hk' => ?_,fun hk' => ?_⟩⟩)
       · unfold meets at h3
         rw [List.any_eq_false] at h3
         exact h3 k hk (by simpa using hk')
       · unfold meets at h4
         rw [List.any_eq_false] at h4
         exact h4 k hk (by simpa using hk')
 · have hTj:=hTj'
   exact .inr (.inr ⟨.inr hw,fun k _ => ⟨(fun hk => by rw [hR] at hk; cases hk),(fun hk => by rw [hTj] at hk; cases hk)⟩⟩)
end Go.Am
namespace Go.Am
open Go
variable {P:Program} {fz:Nat→Md} {n nt:Nat} {ops:Array Oper} {r:Nat→Rec} {hF:Nat→Option Obj} {w₀ w:World} {M₀ M:Mem} {β₀ β:Bt} {D:Nat→Prop}
def writes (ops:Array Oper) (t i:Nat):Prop:=∃ o,ops[i]?=some o∧o.dst=some t
def Tn (r:Nat→Rec) (i:Nat):List Nat:=(r i).T.filter (· < (r i).st.n)
theorem mem_Tn {k i:Nat}:k ∈ Tn r i ↔ k ∈ (r i).T∧k < (r i).st.n:=by simp [Tn]
def touches (ops:Array Oper) (r:Nat→Rec) (k i:Nat):Prop:=i < ops.size∧(k ∈ Tn r i∨((r i).st.n≤k∧k < (r (i+1)).st.n))
def CutAt (D:Nat→Prop) (touch:Nat→Prop) (p:Nat):Prop:=(∀ i,i < p→touch i→D i)∧(∀ i,p≤i→touch i→¬ D i)
theorem DC.n_le {X:Am.X} (h:DC X n ops nt r):∀ {i j:Nat},i≤j→j≤ops.size→(r i).st.n≤(r j).st.n:=by
 intro i j hij hj
 induction hij with
 | refl => exact Nat.le_refl _
 | step _ ih => exact Nat.le_trans (ih (by omega)) (h.ax _ (by omega)).n
theorem DC.chain {X:Am.X} (h:DC X n ops nt r) {k:Nat}:∀ {i j:Nat},i≤j→j≤ops.size→k < (r i).st.n→(∀ q,i≤q→q < j→¬ touches ops r k q)→(r j).st.get k=(r i).st.get k:=by
 intro i j hij hj hk
 induction hij with
 | refl => intro _; rfl
 | @step q hq ih =>
  intro hu
  have hkq:k < (r q).st.n:=Nat.lt_of_lt_of_le hk (h.n_le hq (by omega))
  have hn:k ∉ (r q).T:=fun e => hu q hq (by omega) ⟨by omega,.inl (mem_Tn.2 ⟨e,hkq⟩)⟩
  rw [(h.ax q (by omega)).rest k hkq hn]
  exact ih (by omega) (fun x h1 h2 => hu x h1 (by omega))
theorem DC.chain_tm {X:Am.X} (h:DC X n ops nt r) {t:Nat}:∀ {i j:Nat},i≤j→j≤ops.size→(∀ q,i≤q→q < j→¬ writes ops t q)→(r j).tm.at t=(r i).tm.at t:=by
 intro i j hij hj
 induction hij with
 | refl => intro _; rfl
 | @step q hq ih =>
  intro hu
  have ho:=Array.getElem?_eq_getElem (show q < ops.size by omega)
  have hst:=h.step q _ ho
  rw [(putTm_at hst.2.1 t).1,if_neg (fun e => hu q hq (by omega) ⟨_,ho,e⟩)]
  exact ih (by omega) (fun x h1 h2 => hu x h1 (by omega))
structure Inv (X:Am.X) (n:Nat) (ops:Array Oper) (nt:Nat) (r:Nat→Rec) (hF:Nat→Option Obj) (w₀:World) (M₀:Mem) (β₀:Bt) (D:Nat→Prop) (tmps:Array Value) (w:World) (M:Mem) (β:Bt) (cur:St):Prop where
 lt:∀ j,D j→j < ops.size
 closed:∀ j o,D j→ops[j]?=some o→∀ e ∈ o.after,sure e=true→D e.on
 tsize:tmps.size=nt
 tmp:∀ t,∃ p,(p=0∨∃ q,p=q+1∧D q∧writes ops t q)∧CutAt D (writes ops t) p∧VR M (β.upto (r p).st.n) ((r p).tm.at t) (tmps.getD t undef)
 sat:Sat w M β cur hF
 curn:cur.n=(r ops.size).st.n
 blk:∀ k,β k≠.absent→∃ p,(p=0∨∃ q,p=q+1∧D q∧touches ops r k q)∧k < (r p).st.n∧CutAt D (touches ops r k) p∧cur.get k=(r p).st.get k∧(cur.get k).under (r p).st.n=true
 new:∀ i,i < ops.size→¬ D i→∀ k,(r i).st.n≤k→k < (r (i+1)).st.n→β k=.absent
 dom:∀ i,D i→∀ k,k ∈ Tn r i→β k≠.absent
 grow:∃ T,(∀ k,k ∈ T ↔ ∃ i,D i∧k ∈ Tn r i)∧Grow w₀ M₀ β₀ (r 0).st hF T w M β cur
theorem cut_agree {X:Am.X} (h:DC X n ops nt r) {k p i:Nat} (hp:p≤ops.size) (hi:i≤ops.size) (hkp:k < (r p).st.n) (hki:k < (r i).st.n) (c1:CutAt D (touches ops r k) p) (c2:CutAt D (touches ops r k) i) :
 (r p).st.get k=(r i).st.get k:=by
 rcases Nat.le_total p i with e | e
 · exact (h.chain e hi hkp fun q h1 h2 ht => c1.2 q h1 ht (c2.1 q h2 ht)).symm
 · exact h.chain e hp hki fun q h1 h2 ht => c2.2 q h1 ht (c1.1 q h2 ht)
theorem Inv.start {X:Am.X} (h:DC X n ops nt r) {tmps:Array Value} (ht:TR M₀ β₀ nt (r 0).tm tmps) (hs:Sat w₀ M₀ β₀ (r 0).st hF) :
 Inv X n ops nt r hF w₀ M₀ β₀ (fun _ => False) tmps w₀ M₀ β₀ ⟨(r ops.size).st.n,(r 0).st.m⟩ where
 lt:=fun _ h => h.elim
 closed:=fun _ _ h => h.elim
 tsize:=ht.1
 tmp:=fun t => ⟨0,.inl rfl,⟨fun i hi => absurd hi (Nat.not_lt_zero i),fun _ _ _ h => h⟩,(ht.2 t).upto ((ht.2 t).under hs.lt)⟩
 sat:=⟨hs.frame,hs.mem,hs.own,hs.apF,hs.apM,hs.inj,fun k hk => hs.lt k (Nat.le_trans (h.n_le (Nat.zero_le _) (Nat.le_refl _)) hk),hs.dead⟩
 curn:=rfl
 blk:=fun k hk => ⟨0,.inl rfl,Nat.lt_of_not_le fun e => hk (hs.lt k e),⟨fun i hi => absurd hi (Nat.not_lt_zero i),fun _ _ _ h => h⟩,rfl,by
  show ((r 0).st.get k).under _=true
  cases e:β₀ k with
  | absent => exact absurd e hk
  | dead => rw [hs.dead k e]; rfl
  | live i => exact (hs.own k i e).under_of hs.lt⟩
 new:=fun i hi _ k hk _ => hs.lt k (Nat.le_trans (h.n_le (Nat.zero_le _) (by omega)) hk)
 dom:=fun _ h => h.elim
 grow:=⟨[],fun k => by simp,{ Grow.refl w₀ M₀ β₀ (r 0).st hF with n:=h.n_le (Nat.zero_le _) (Nat.le_refl _),rest:=fun _ _ _ => ⟨rfl,rfl⟩ }⟩
theorem Inv.done {X:Am.X} (h:DC X n ops nt r) {tmps:Array Value} {cur:St} (v:Inv X n ops nt r hF w₀ M₀ β₀ D tmps w M β cur) (hall:∀ i,i < ops.size→D i) :
 TR M β nt (r ops.size).tm tmps∧Sat w M β (r ops.size).st hF∧∃ T,(∀ k,k ∈ T ↔ ∃ i,i < ops.size∧k ∈ Tn r i)∧Grow w₀ M₀ β₀ (r 0).st hF T w M β (r ops.size).st:=by
 have hget:∀ k,β k≠.absent→cur.get k=(r ops.size).st.get k:=fun k hk => by
  obtain ⟨p,hp',hkp,hc,e,_⟩:=v.blk k hk
  have hp:p≤ops.size:=by
   rcases hp' with rfl | ⟨q,rfl,hq,_⟩
   · exact Nat.zero_le _
   · exact v.lt q hq
  rw [e]
  exact (h.chain hp (Nat.le_refl _) hkp fun q h1 h2 ht => hc.2 q h1 ht (hall q h2)).symm
 refine ⟨⟨v.tsize,fun t => ?_⟩,⟨v.sat.frame,v.sat.mem,fun k i hk => ?_,v.sat.apF,v.sat.apM,v.sat.inj,fun k hk => v.sat.lt k (by rw [v.curn]; exact hk),fun k hk => ?_⟩,?_⟩
 · obtain ⟨p,hp,hc,hv⟩:=v.tmp t
   have hpm:p≤ops.size:=by
    rcases hp with rfl | ⟨q,rfl,hq,_⟩
    · exact Nat.zero_le _
    · exact v.lt q hq
   rw [h.chain_tm hpm (Nat.le_refl _) fun q h1 h2 hw => hc.2 q h1 hw (hall q h2)]
   exact hv.mono (Mem.le_refl M) (Bt.upto_le β _)
 · rw [← hget k (by rw [hk]; intro h; cases h)]; exact v.sat.own k i hk
 · rw [← hget k (by rw [hk]; intro h; cases h)]; exact v.sat.dead k hk
 · obtain ⟨T,hT,g⟩:=v.grow
   refine ⟨T,fun k => (hT k).trans ⟨fun ⟨i,h1,h2⟩ => ⟨i,v.lt i h1,h2⟩,fun ⟨i,h1,h2⟩ => ⟨i,hall i h1,h2⟩⟩,{ g with n:=h.n_le (Nat.zero_le _) (Nat.le_refl _),rest:=fun k hk hn => ⟨(g.rest k hk hn).1,?_⟩ }⟩
   refine h.chain (Nat.zero_le _) (Nat.le_refl _) hk fun q _ h2 ht => ?_
   rcases ht.2 with ht | ⟨h3,_⟩
   · exact hn ((hT k).2 ⟨q,hall q h2,ht⟩)
   · have:=h.n_le (Nat.zero_le q) (by omega); omega
end Go.Am
namespace Go.Am
open Go
variable {P:Program} {fz:Nat→Md} {hF:Nat→Option Obj} {w w₁:World} {M M₁:Mem} {β β₁:Bt} {σ cur:St}
mutual
theorem A.under_mono {n m:Nat} (h:n≤m):∀ (a:A),a.under n=true→a.under m=true
 | .d _,_ => rfl
 | .ptr _ _,u => by simp only [A.under,decide_eq_true_eq] at u ⊢; omega
 | .row _ _ _ _,u => by simp only [A.under,decide_eq_true_eq] at u ⊢; omega
 | .map _,u => by simp only [A.under,decide_eq_true_eq] at u ⊢; omega
 | .func _ cap,u => by simp only [A.under] at u ⊢; exact A.underL_mono h cap u
 | .yld _,u => by simp only [A.under,decide_eq_true_eq] at u ⊢; omega
 | .agg cs,u => by simp only [A.under] at u ⊢; exact A.underL_mono h cs u
 | .tup cs,u => by simp only [A.under] at u ⊢; exact A.underL_mono h cs u
 | .top,_ => rfl
theorem A.underL_mono {n m:Nat} (h:n≤m):∀ (l:List A),A.underL n l=true→A.underL m l=true
 | [],_ => rfl
 | a :: l,u => by
  simp only [A.underL,Bool.and_eq_true] at u ⊢
  exact ⟨A.under_mono h a u.1,A.underL_mono h l u.2⟩
end
theorem Blk.under_mono {n m:Nat} (h:n≤m) {b:Blk} (u:b.under n=true):b.under m=true:=by
 cases b with
 | cells cs => exact A.underL_mono h cs u
 | map es =>
  simp only [Blk.under,List.all_eq_true,Bool.and_eq_true] at u ⊢
  exact fun e he => ⟨A.under_mono h _ (u e he).1,A.under_mono h _ (u e he).2⟩
 | loop L => rfl
 | dead => rfl
open Classical in
noncomputable def hold (β:Bt) (w:World) (n:Nat) (hF:Nat→Option Obj):Nat→Option Obj:=fun b => if ∃ k i,n≤k∧β k=.live i∧i.block=b then w.heap[b]? else hF b
theorem hold_in {n k:Nat} {i:BI} (hk:n≤k) (h:β k=.live i):hold β w n hF i.block=w.heap[i.block]?:=by
 unfold hold; rw [if_pos ⟨k,i,hk,h,rfl⟩]
theorem hold_out {n b:Nat} (h:¬ ∃ k i,n≤k∧β k=.live i∧i.block=b):hold β w n hF b=hF b:=by
 unfold hold; rw [if_neg h]
theorem hold_le (h:Sat w M β cur hF) (n:Nat):∀ b o,hF b=some o→hold β w n hF b=some o:=fun b o hb => by
 rw [hold_out]; exact hb
 rintro ⟨k,i,_,hk,rfl⟩
 rw [h.apF k i hk] at hb; cases hb
theorem Sat.hold (h:Sat w M β cur hF) {n:Nat} (hn:σ.n=n) (hget:∀ k,k < n→β k≠.absent→(σ.get k=cur.get k∧(cur.get k).under n=true)∨σ.get k=.dead):Sat w M (β.upto n) σ (hold β w n hF):=by
 have low:∀ {k x},β.upto n k=x→x≠.absent→k < n∧β k=x:=fun {k x} e hx => by
  unfold Bt.upto at e
  split at e
  · exact ⟨‹_›,e⟩
  · exact absurd e.symm hx
 refine ⟨fun b o hb => ?_,h.mem,fun k i hk => ?_,fun k i hk => ?_,fun k i a hk => ?_,fun k k' i i' hk hk' => ?_,fun k hk => ?_,fun k hk => ?_⟩
 · unfold Am.hold at hb
   split at hb
   · exact hb
   · exact h.frame b o hb
 · obtain ⟨hkn,hk'⟩:=low hk (by intro h; cases h)
   rcases hget k hkn (by rw [hk']; intro h; cases h) with ⟨e,u⟩ | e
   · rw [e]; exact (h.own k i hk').upto u (Nat.le_of_lt hkn)
   · rw [e]; exact ⟨_,Array.getElem?_eq_getElem (h.own k i hk').lt⟩
 · obtain ⟨hkn,hk'⟩:=low hk (by intro h; cases h)
   rw [hold_out]; exact h.apF k i hk'
   rintro ⟨j,x,hj,hx,e⟩
   have:=h.inj j k x i hx hk' e
   omega
 · exact h.apM k i a (low hk (by intro h; cases h)).2
 · exact h.inj k k' i i' (low hk (by intro h; cases h)).2 (low hk' (by intro h; cases h)).2
 · unfold Bt.upto; rw [if_neg (by omega)]
 · obtain ⟨hkn,hk'⟩:=low hk (by intro h; cases h)
   rcases hget k hkn (by rw [hk']; intro h; cases h) with ⟨e,_⟩ | e
   · rw [e]; exact h.dead k hk'
   · exact e
end Go.Am
namespace Go.Am
open Go
variable {hF:Nat→Option Obj} {w w₁:World} {M M₁:Mem} {β β₁:Bt} {σ σ₁ cur cur':St} {T:List Nat} {n n₁:Nat}
def mrg (β β₁:Bt) (n₁:Nat):Bt:=fun k => if k < n₁ then β₁ k else β k
theorem mrg_lt {k:Nat} (h:k < n₁):mrg β β₁ n₁ k=β₁ k:=by simp [mrg,h]
theorem mrg_ge {k:Nat} (h:n₁≤k):mrg β β₁ n₁ k=β k:=by unfold mrg; rw [if_neg (by omega)]
def Tch (T:List Nat) (n n₁ k:Nat):Prop:=(k ∈ T∧k < n)∨(n≤k∧k < n₁)
section
variable (h:Sat w M β cur hF) (s:Sat w₁ M₁ β₁ σ₁ (hold β w n hF)) (hσn:σ.n=n) (hσn₁:σ₁.n=n₁) (g:Grow w M (β.upto n) σ (hold β w n hF) T w₁ M₁ β₁ σ₁) (hnew:∀ k,n≤k→k < n₁→β k=.absent)
include g hσn hσn₁ in
theorem mrg_n:n≤n₁:=by have:=g.n; omega
include g hσn hσn₁ in
theorem mrg_keep {k:Nat} (hk:k < n) (ht:k ∉ T):mrg β β₁ n₁ k=β k:=by
 rw [mrg_lt (Nat.lt_of_lt_of_le hk (mrg_n hσn hσn₁ g)),(g.rest k (by omega) ht).1]
 unfold Bt.upto; rw [if_pos hk]
include g hσn hσn₁ hnew in
theorem mrg_le:β.le (mrg β β₁ n₁):=fun k => by
 rcases Nat.lt_or_ge k n₁ with h1 | h1
 · rcases Nat.lt_or_ge k n with h2 | h2
   · rw [mrg_lt h1]
     have:=g.le k
     unfold Bt.upto at this; rw [if_pos h2] at this; exact this
   · exact .inl (hnew k h2 h1)
 · rw [mrg_ge h1]; exact .inr (.inl rfl)
include s hσn₁ in
theorem mrg_le₁:β₁.le (mrg β β₁ n₁):=fun k => by
 rcases Nat.lt_or_ge k n₁ with h1 | h1
 · rw [mrg_lt h1]; exact .inr (.inl rfl)
 · exact .inl (s.lt k (by omega))
include s hσn₁ in
theorem mrg_upto:(mrg β β₁ n₁).upto n₁=β₁:=by
 funext k; unfold Bt.upto
 split
 · rename_i h1; exact mrg_lt h1
 · exact (s.lt k (by omega)).symm
include h g in
theorem mrg_out (a:Addr) (v:Value) (e:M₁ a=some v):M a=some v∨hF a.block=none:=by
 rcases g.out a v e with e | e
 · exact .inl e
 · exact .inr (none_of_le (hold_le h n) e)
include h s g hσn hσn₁ hnew in
theorem merge (hn₁:n₁≤cur.n) (hcn:cur'.n=cur.n) (hc1:∀ k,Tch T n n₁ k→cur'.get k=σ₁.get k) (hc2:∀ k,¬ Tch T n n₁ k→cur'.get k=cur.get k):Sat w₁ M₁ (mrg β β₁ n₁) cur' hF:=by
 have nn:=mrg_n hσn hσn₁ g
 have le1:=mrg_le₁ (β:=β) s hσn₁
 have le0:=mrg_le hσn hσn₁ g hnew
 -- a live block is the operation's own or as it was
 have cases3:∀ {k x},mrg β β₁ n₁ k=x→x≠.absent→(Tch T n n₁ k∧β₁ k=x)∨(¬ Tch T n n₁ k∧β k=x∧k < n∧k ∉ T∧β₁ k=x)∨(¬ Tch T n n₁ k∧β k=x∧n₁≤k):=fun {k x} hk hx => by
  rcases Nat.lt_or_ge k n₁ with h1 | h1
  · rcases Nat.lt_or_ge k n with h2 | h2
    · by_cases ht:k ∈ T
      · exact .inl ⟨.inl ⟨ht,h2⟩,by rw [mrg_lt h1] at hk; exact hk⟩
      · exact .inr (.inl ⟨fun e => by rcases e with e | e; exact ht e.1; omega,by rw [mrg_keep hσn hσn₁ g h2 ht] at hk; exact hk,h2,ht,by rw [mrg_lt h1] at hk; exact hk⟩)
    · exact .inl ⟨.inr ⟨h2,h1⟩,by rw [mrg_lt h1] at hk; exact hk⟩
  · exact .inr (.inr ⟨fun e => by rcases e with e | e <;> omega,by rw [mrg_ge h1] at hk; exact hk,h1⟩)
 have held:∀ {k i},β k=.live i→n₁≤k→w₁.heap[i.block]?=w.heap[i.block]?∧∃ o,hold β w n hF i.block=some o:=fun {k i} hk hn => by
  have hin:=hold_in (hF:=hF) (w:=w) (n:=n) (Nat.le_trans nn hn) hk
  have ho:=Array.getElem?_eq_getElem (h.own k i hk).lt
  exact ⟨(s.frame _ _ (hin.trans ho)).trans ho.symm,_,hin.trans ho⟩
 have apF1:∀ {k i},β₁ k=.live i→hF i.block=none:=fun {k i} hk => none_of_le (hold_le h n) (s.apF k i hk)
 refine ⟨fun b o hb => s.frame b o (hold_le h n b o hb),s.mem,fun k i hk => ?_,fun k i hk => ?_,fun k i a hk ha => ?_,fun k k' i i' hk hk' he => ?_,fun k hk => ?_,fun k hk => ?_⟩
 · rcases cases3 hk (by intro h; cases h) with ⟨ht,hb⟩ | ⟨ht,hb,hkn,hkT,_⟩ | ⟨ht,hb,hkn⟩
   · rw [hc1 k ht]; exact (s.own k i hb).mono (Mem.le_refl _) le1
   · rw [hc2 k ht]
     exact ((h.own k i hb).world (g.heap k i (by omega) hkT (by unfold Bt.upto; rw [if_pos hkn]; exact hb))).mono g.mem le0
   · rw [hc2 k ht]
     exact ((h.own k i hb).world (held hb hkn).1).mono g.mem le0
 · rcases cases3 hk (by intro h; cases h) with ⟨_,hb⟩ | ⟨_,hb,_⟩ | ⟨_,hb,_⟩
   · exact apF1 hb
   · exact h.apF k i hb
   · exact h.apF k i hb
 · rcases cases3 hk (by intro h; cases h) with ⟨_,hb⟩ | ⟨_,_,_,_,hb⟩ | ⟨_,hb,hkn⟩
   · exact s.apM k i a hb ha
   · exact s.apM k i a hb ha
   · cases e:M₁ a with
     | none => rfl
     | some v =>
      rcases g.out a v e with e | e
      · rw [h.apM k i a hb ha] at e; cases e
      · obtain ⟨_,o,ho⟩:=held hb hkn
        rw [ha,ho] at e; cases e
 · have mix:∀ {k k' i i'},β₁ k=.live i→β k'=.live i'→n₁≤k'→i.block≠i'.block:=fun {k k' i i'} h1 h2 h3 e => by
    obtain ⟨_,o,ho⟩:=held h2 h3
    have:=s.apF _ _ h1
    rw [e,ho] at this; cases this
   rcases cases3 hk (by intro h; cases h) with ⟨_,hb⟩ | ⟨_,_,_,_,hb⟩ | ⟨_,hb,hkn⟩ <;> rcases cases3 hk' (by intro h; cases h) with ⟨_,hb'⟩ | ⟨_,_,_,_,hb'⟩ | ⟨_,hb',hkn'⟩
   · exact s.inj k k' i i' hb hb' he
   · exact s.inj k k' i i' hb hb' he
   · exact absurd he (mix hb hb' hkn')
   · exact s.inj k k' i i' hb hb' he
   · exact s.inj k k' i i' hb hb' he
   · exact absurd he (mix hb hb' hkn')
   · exact absurd he.symm (mix hb' hb hkn)
   · exact absurd he.symm (mix hb' hb hkn)
   · exact h.inj k k' i i' hb hb' he
 · rw [hcn] at hk
   rw [mrg_ge (by omega)]; exact h.lt k hk
 · rcases cases3 hk (by intro h; cases h) with ⟨ht,hb⟩ | ⟨ht,hb,_⟩ | ⟨ht,hb,_⟩
   · rw [hc1 k ht]; exact s.dead k hb
   · rw [hc2 k ht]; exact h.dead k hb
   · rw [hc2 k ht]; exact h.dead k hb
end
end Go.Am

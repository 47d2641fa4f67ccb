/- Part A4 of a proof that runs a program's calls on a small machine whose values bear no addresses: no conditions. -/
import Derived.Test.YtfhoagkadjinlaaAmA3
import Derived.Test.YtfhoagkadjinlaaAmAR
import Derived.Test.YtfhoagkadjinlaaAmA1
import Derived.RangeFuncNested
set_option autoImplicit false
set_option linter.unusedSimpArgs false
set_option linter.unusedVariables false
set_option linter.unusedSectionVars false
namespace Go.Am
open Go
variable {P:Program} {fz:Nat→Md} {w w':World} {M M':Mem} {β β':Bt} {σ σ':St} {hF:Nat→Option Obj} {tm tm':Tm}
def CallR (a:A) (w:World) (M:Mem) (β:Bt) (σ:St) (hF:Nat→Option Obj) (T:List Nat) (σ':St) (v:Value) (w':World):Prop :=
 ∃ M' β',VR M' β' a v∧Sat w' M' β' σ' hF∧Grow w M β σ hF T w' M' β' σ'
def CallS (P:Program) (fz:Nat→Md) (n:Nat):Prop :=
 ∀ f args σ a σ' T,callA (mkX P fz) n f args σ=some (a,σ',T)→LoopsOk σ→∀ w M β hF fv vs,VR M β f fv→VRL M β args vs→Sat w M β σ hF →
  Enters P fv vs.toArray w (CallR a w M β σ hF T σ')
def OpStep (X:X) (n:Nat) (ops:Array Oper) (nt:Nat) (o:Oper) (tm:Tm) (σ:St) (a:A) (tm':Tm) (σ':St) (T R:List Nat):Prop :=
 guardOk ops tm o=true∧putTm nt tm o.dst a=some tm' ∧
 ((wantedA ops tm o=false∧a=.tup []∧σ'=σ∧T=[]∧R=[]) ∨
  (wantedA ops tm o=true∧evalOp X tm σ o=.val a σ' T R) ∨
  (wantedA ops tm o=true∧∃ f args,evalOp X tm σ o=.call f args∧callA X n f args σ=some (a,σ',T)∧R=[]))
theorem evalOp_call {X:X} {o:Oper} {f:A} {args:List A} (he:evalOp X tm σ o=.call f args):∃ c g,o.op=.call c∧c.callee=.value g∧f=ev tm g∧args=c.args.toList.map (ev tm):=by
 have hq:heavy o=true∨heavy o=false:=by cases heavy o <;> simp
 unfold evalOp at he
 cases ho:o.op <;> simp only [ho] at he
 case call c =>
  cases hc:c.callee with
  | value g => simp only [hc] at he; cases he; exact ⟨c,g,rfl,hc,rfl,rfl⟩
  | invoke r m => simp [hc] at he
  | builtin b =>
   exfalso
   cases b <;> (try simp only [hc] at he) <;> (repeat' (split at he)) <;> first
    | (cases he; done)
    | (simp only [OpR.of] at he; split at he <;> cases he; done)
    | (unfold appendA at he; (repeat' (split at he)) <;> cases he; done)
    | (unfold copyA at he; dsimp only at he; (repeat' (split at he)) <;> cases he; done)
    | (unfold growA at he; (repeat' (split at he)) <;> cases he; done)
 all_goals exfalso
 case makeMap t r => cases r <;> simp only at he <;> (repeat' (split at he)) <;> cases he
 case makeFunc g fi cp => cases g <;> simp only at he <;> (repeat' (split at he)) <;> cases he
 case slice t x lo hi mx => cases mx <;> simp only at he <;> (repeat' (split at he)) <;> cases he
 all_goals (repeat' (split at he)) <;> first
  | (cases he; done)
  | (simp only [OpR.of] at he; (repeat' (split at he)) <;> cases he; done)
theorem vrl_map {nt:Nat} {tmps:Array Value} (h:TR M β nt tm tmps):∀ l:List Operand,VRL M β (l.map (ev tm)) (l.map (rho tmps))
 | [] => .nil
 | x :: l => .cons (rho_rel h x) (vrl_map h l)
theorem op_step {n nt f i:Nat} {ro:Option Nat} {ds:List Deferred} {tmps:Array Value} {k:List Item} {cs:List Frame} {ops:Array Oper} {rest:List Nat} {o:Oper} {a:A} {T R:List Nat}
 (hn:CallS P fz n) (ho:ops[i]?=some o) (h:OpStep (mkX P fz) n ops nt o tm σ a tm' σ' T R) (hl:LoopsOk σ) (ht:TR M β nt tm tmps) (hs:Sat w M β σ hF) :
 ∃ w' M' β' v,Steps P (lone (fat f ro ds tmps (.inRegion ops (i :: rest) :: k)) cs w) (lone (fat f ro ds (putV tmps o.dst v) (.inRegion ops rest :: k)) cs w') ∧
  VR M' β' a v∧Sat w' M' β' σ' hF∧Grow w M β σ hF T w' M' β' σ':=by
 obtain ⟨hg,hp,h⟩:=h
 have hwr:=wanted_rel ht hg
 rcases h with ⟨hw,rfl,rfl,rfl,rfl⟩ | ⟨hw,he⟩ | ⟨hw,g,args,he,hc,rfl⟩
 · exact ⟨w,M,β,undef,.one (st_pass ho (hwr.trans hw)),.tup .nil,hs,.refl _ _ _ _ _⟩
 · have hd:∀ c,o.op≠.defer c:=fun c e => by
    have:evalOp (mkX P fz) tm σ o=.bad:=by unfold evalOp; rw [e]
    rw [this] at he; cases he
   obtain ⟨nx,w',M',β',hr,⟨v,hv,hvr⟩,hs',hgr⟩:=op_sound hs (fun x => rho_rel ht x) he
   exact ⟨w',M',β',v,.one (st_value ho (hwr.trans hw) hd hr hv),hvr,hs',hgr⟩
 · obtain ⟨c,g',e1,e2,rfl,rfl⟩:=evalOp_call he
   have hd:∀ c,o.op≠.defer c:=fun c e => by rw [e1] at e; cases e
   obtain ⟨nx,w1,hrun,hnx⟩:=hn _ _ _ _ _ _ hc hl w M β hF (rho tmps g') _ (rho_rel ht g') (vrl_map ht _) hs
   have hrun':(execOp (rho tmps) o).run P w=.ok nx w1:=by
    have:(c.args.toList.map (rho tmps)).toArray=c.args.map (rho tmps):=by apply Array.ext'; rw [Array.toList_map]
    rw [this] at hrun
    simpa only [execOp,e1,resolve,e2] using hrun
   rcases hnx with ⟨g,as,rfl,hnx⟩ | ⟨l,g,tt,as,bd,rfl,hnx⟩
   · obtain ⟨v,w2,⟨M',β',hv,hs',hgr⟩,hst⟩:=hnx (fat f ro ds tmps (.inRegion ops (i :: rest) :: k)) cs
     refine ⟨w2,M',β',v,.head (st_enter ho (hwr.trans hw) hd hrun') ?_,hv,hs',hgr⟩
     rw [fat_finish ho] at hst; exact hst
   · obtain ⟨v,w2,⟨M',β',hv,hs',hgr⟩,hst⟩:=hnx (fat f ro ds tmps (.inRegion ops (i :: rest) :: k)) cs
     refine ⟨w2,M',β',v,.head (st_round ho (hwr.trans hw) hd hrun') ?_,hv,hs',hgr⟩
     rw [fat_finish ho] at hst; exact hst
theorem opsR_cons {X:X} {n nt lo i:Nat} {ops:Array Oper} {o:Oper} {rest:List Oper} {W:List Nat} {log:List Log} {r:Tm × St × List Nat × List Log}
 (h:opsR X (n+1) ops nt lo (o :: rest) i tm σ W log=some r) :
 ∃ a tm1 σ1 T R log1,OpStep X n ops nt o tm σ a tm1 σ1 T R∧opsR X n ops nt lo rest (i+1) tm1 σ1 (W ++ low lo T) log1=some r ∧
  (log1=log ++ [⟨i,T,R⟩]∨(log1=log∧T=[]∧R=[]∧wantedA ops tm o=false)):=by
 rw [opsR] at h
 split at h
 · cases h
 · rename_i hg
   have hg':guardOk ops tm o=true:=by simpa using hg
   split at h
   · rename_i hw
     split at h
     · rename_i a σ1 T R he
       split at h
       · rename_i tm1 hp
         exact ⟨a,tm1,σ1,T,R,_,⟨hg',hp,.inr (.inl ⟨hw,he⟩)⟩,h,.inl rfl⟩
       · cases h
     · rename_i f args he
       split at h
       · rename_i a σ1 T hc
         split at h
         · rename_i tm1 hp
           exact ⟨a,tm1,σ1,T,[],_,⟨hg',hp,.inr (.inr ⟨hw,f,args,he,hc,rfl⟩)⟩,h,.inl rfl⟩
         · cases h
       · cases h
     · cases h
   · rename_i hw
     have hw':wantedA ops tm o=false:=by simpa using hw
     split at h
     · rename_i tm1 hp
       exact ⟨.tup [],tm1,σ,[],[],_,⟨hg',hp,.inl ⟨hw',rfl,rfl,rfl,rfl⟩⟩,by simpa [low] using h,.inr ⟨rfl,rfl,rfl,hw'⟩⟩
     · cases h
theorem OpStep.lift {X:X} {n m nt:Nat} {ops:Array Oper} {o:Oper} {a:A} {T R:List Nat} (hm:n≤m) (h:OpStep X n ops nt o tm σ a tm' σ' T R):OpStep X m ops nt o tm σ a tm' σ' T R:=by
 obtain ⟨hg,hp,h⟩:=h
 refine ⟨hg,hp,?_⟩
 rcases h with h | h | ⟨hw,f,args,he,hc,hR⟩
 · exact .inl h
 · exact .inr (.inl h)
 · exact .inr (.inr ⟨hw,f,args,he,(mono_le hm).2.2 _ _ _ _ hc,hR⟩)
theorem OpStep.rest {X:X} (hX:∀ f F,X.fn f=some F→codeOk F.body=true) {n nt:Nat} {ops:Array Oper} {o:Oper} {a:A} {T R:List Nat} (h:OpStep X n ops nt o tm σ a tm' σ' T R)
 (hl:LoopsOk σ):LoopsOk σ'∧AX σ σ' T:=by
 obtain ⟨_,_,h⟩:=h
 rcases h with ⟨_,_,rfl,rfl,_⟩ | ⟨_,he⟩ | ⟨_,f,args,he,hc,_⟩
 · exact ⟨hl,.refl _ _⟩
 · exact ⟨(evalOp_rest he).ok hl,(evalOp_rest he).ax⟩
 · exact (rest_all hX n).2.2 _ _ _ _ _ _ hc hl
theorem ops_sound {n nt lo f:Nat} {ro:Option Nat} {ds:List Deferred} {k:List Item} {cs:List Frame} {ops:Array Oper} {W':List Nat} {log':List Log}
 (hX:∀ f F,(mkX P fz).fn f=some F→codeOk F.body=true) (hn:CallS P fz n):∀ (os:List Oper) (m i:Nat) (tm:Tm) (σ:St) (W:List Nat) (log:List Log) (w:World) (M:Mem) (β:Bt) (tmps:Array Value),m≤n →
 opsR (mkX P fz) m ops nt lo os i tm σ W log=some (tm',σ',W',log')→(∀ j o,os[j]?=some o→ops[i+j]?=some o)→LoopsOk σ→TR M β nt tm tmps→Sat w M β σ hF →
 ∃ w' M' β' tmps' T,Steps P (lone (fat f ro ds tmps (.inRegion ops (List.range' i os.length) :: k)) cs w) (lone (fat f ro ds tmps' (.inRegion ops [] :: k)) cs w') ∧
  TR M' β' nt tm' tmps'∧Sat w' M' β' σ' hF∧Grow w M β σ hF T w' M' β' σ'∧Wrote lo W W' T
 | [],m,i,tm,σ,W,log,w,M,β,tmps,hm,h,ha,hl,ht,hs => by
  cases m with
  | zero => simp [opsR] at h
  | succ m =>
   simp only [opsR,Option.some.injEq,Prod.mk.injEq] at h; obtain ⟨rfl,rfl,rfl,_⟩:=h
   exact ⟨w,M,β,tmps,[],.refl _ _,ht,hs,.refl _ _ _ _ _,.nil _ _⟩
 | o :: os,m,i,tm,σ,W,log,w,M,β,tmps,hm,h,ha,hl,ht,hs => by
  cases m with
  | zero => simp [opsR] at h
  | succ m =>
   obtain ⟨a,tm1,σ1,T,R,log1,hst,h,-⟩:=opsR_cons h
   have hst:=hst.lift (show m≤n by omega)
   have ho:ops[i]?=some o:=ha 0 o rfl
   obtain ⟨w1,M1,β1,v,s1,hv,hs1,g1⟩:=op_step (f:=f) (ro:=ro) (ds:=ds) (k:=k) (cs:=cs) (rest:=List.range' (i+1) os.length) hn ho hst hl ht hs
   have ht1:TR M1 β1 nt tm1 (putV tmps o.dst v):=(ht.mono g1.mem g1.le).put hv hst.2.1
   obtain ⟨w2,M2,β2,tmps2,T2,s2,ht2,hs2,g2,wr⟩:=ops_sound hX hn os m (i+1) tm1 σ1 _ _ w1 M1 β1 _ (by omega) h
    (fun j o' hj => by have:=ha (j+1) o' hj; rwa [show i+(j+1)=i+1+j by omega] at this) (hst.rest hX hl).1 ht1 hs1
   refine ⟨w2,M2,β2,tmps2,_,?_,ht2,hs2,g1.trans g2,wr.step⟩
   rw [show (o :: os).length=os.length+1 from rfl,List.range'_succ]
   exact s1.trans s2
end Go.Am
namespace Go.Am
open Go
variable {P:Program} {fz:Nat→Md} {w w':World} {M M':Mem} {β β':Bt} {σ σ':St} {hF hF':Nat→Option Obj} {tm tm':Tm}
theorem none_of_le (hs:∀ b o,hF' b=some o→hF b=some o) {b:Nat} (h:hF b=none):hF' b=none:=by
 cases e:hF' b with
 | none => rfl
 | some o => rw [hs _ _ e] at h; cases h
theorem Sat.weakenF (h:Sat w M β σ hF) (hs:∀ b o,hF' b=some o→hF b=some o):Sat w M β σ hF' :=
 ⟨fun b o hb => h.frame b o (hs b o hb),h.mem,h.own,fun k i hk => none_of_le hs (h.apF k i hk),h.apM,h.inj,h.lt,h.dead⟩
theorem Grow.weakenF {T:List Nat} (h:Grow w M β σ hF T w' M' β' σ') (hs:∀ b o,hF' b=some o→hF b=some o):Grow w M β σ hF' T w' M' β' σ' :=
 { h with out:=fun a v e => (h.out a v e).imp id fun hn => none_of_le hs hn }
mutual
theorem VR.under {n:Nat} (hlt:∀ k,n≤k→β k=.absent) {a:A} {v:Value}:VR M β a v→a.under n=true
 | .d _ => rfl
 | .ptr h => by simp only [A.under,decide_eq_true_eq]; exact Nat.lt_of_not_le fun e => by rw [hlt _ e] at h; cases h
 | .ptrX h _ => by simp only [A.under,decide_eq_true_eq]; exact Nat.lt_of_not_le fun e => by rw [hlt _ e] at h; cases h
 | .row h _ _ _ => by simp only [A.under,decide_eq_true_eq]; exact Nat.lt_of_not_le fun e => by rw [hlt _ e] at h; cases h
 | .rowX h _ => by simp only [A.under,decide_eq_true_eq]; exact Nat.lt_of_not_le fun e => by rw [hlt _ e] at h; cases h
 | .map h => by simp only [A.under,decide_eq_true_eq]; exact Nat.lt_of_not_le fun e => by rw [hlt _ e] at h; cases h
 | .mapX h _ => by simp only [A.under,decide_eq_true_eq]; exact Nat.lt_of_not_le fun e => by rw [hlt _ e] at h; cases h
 | .func h => by simp only [A.under]; exact VRL.under hlt h
 | .yld h => by simp only [A.under,decide_eq_true_eq]; exact Nat.lt_of_not_le fun e => by rw [hlt _ e] at h; cases h
 | .yldX h _ => by simp only [A.under,decide_eq_true_eq]; exact Nat.lt_of_not_le fun e => by rw [hlt _ e] at h; cases h
 | .agg h => by simp only [A.under]; exact VRL.under hlt h
 | .tup h => by simp only [A.under]; exact VRL.under hlt h
 | .top => rfl
theorem VRL.under {n:Nat} (hlt:∀ k,n≤k→β k=.absent) {l:List A} {vs:List Value}:VRL M β l vs→A.underL n l=true
 | .nil => rfl
 | .cons h t => by simp only [A.underL,Bool.and_eq_true]; exact ⟨VR.under hlt h,VRL.under hlt t⟩
end
theorem underL_get:∀ {n:Nat} {l:List A} {j:Nat} {c:A},A.underL n l=true→l[j]?=some c→c.under n=true
 | n,[],j,c,_,h => by simp at h
 | n,a :: l,0,c,u,h => by simp only [A.underL,Bool.and_eq_true] at u; simp at h; subst h; exact u.1
 | n,a :: l,j+1,c,u,h => by simp only [A.underL,Bool.and_eq_true] at u; simp at h; exact underL_get u.2 h
theorem BR.upto {n k:Nat} {i:BI} {b:Blk} (h:BR M β w k i b) (hu:b.under n=true) (hk:k≤n):BR M (β.upto n) w k i b:=by
 cases b with
 | cells cs =>
  obtain ⟨arr,ty,h1,h2,h3,h4⟩:=h
  exact ⟨arr,ty,h1,h2,h3,fun j c hj => let ⟨v,hv,hr⟩:=h4 j c hj; ⟨v,hv,hr.upto (underL_get hu hj)⟩⟩
 | map es =>
  obtain ⟨ents,clock,h1,h2,h3⟩:=h
  refine ⟨ents,clock,h1,h2,fun j a b hj => ?_⟩
  obtain ⟨e,he,ha,hb⟩:=h3 j a b hj
  simp only [Blk.under,List.all_eq_true,Bool.and_eq_true] at hu
  have:=hu (a,b) (List.mem_of_getElem? hj)
  exact ⟨e,he,ha.upto this.1,hb.upto this.2⟩
 | loop L =>
  obtain ⟨l,h1,h2,h3,h4,h5,h6,h7,h8⟩:=h
  have:(β.upto n).upto k=β.upto k:=by
   funext j; unfold Bt.upto; split
   · rw [if_pos (by omega)]
   · rfl
  exact ⟨l,h1,h2,h3,h4,h5,h6,h7,this ▸ h8⟩
 | dead => exact h
theorem BR.under_of (hlt:∀ k,σ.n≤k→β k=.absent) {k:Nat} {i:BI} {b:Blk} (h:BR M β w k i b):b.under σ.n=true:=by
 cases b with
 | cells cs =>
  obtain ⟨arr,ty,h1,h2,h3,h4⟩:=h
  have:∀ cs:List A,(∀ (j:Nat) (c:A),cs[j]?=some c→∃ v,VR M β c v)→A.underL σ.n cs=true:=by
   intro cs
   induction cs with
   | nil => intro _; rfl
   | cons a l ih =>
    intro hh
    simp only [A.underL,Bool.and_eq_true]
    obtain ⟨v,hv⟩:=hh 0 a rfl
    exact ⟨hv.under hlt,ih fun j c hj => hh (j+1) c (by simpa using hj)⟩
  exact this cs fun j c hj => let ⟨v,_,hr⟩:=h4 j c hj; ⟨v,hr⟩
 | map es =>
  obtain ⟨ents,clock,h1,h2,h3⟩:=h
  simp only [Blk.under,List.all_eq_true,Bool.and_eq_true]
  intro e he
  obtain ⟨j,hj⟩:=List.getElem?_of_mem he
  obtain ⟨en,_,ha,hb⟩:=h3 j e.1 e.2 hj
  exact ⟨ha.under hlt,hb.under hlt⟩
 | loop L => rfl
 | dead => rfl
theorem Sat.cut {T W:List Nat} (h0:Sat w M β σ hF) (h:Sat w' M' β' σ' hF) (g:Grow w M β σ hF T w' M' β' σ')
 (hT:∀ k,k ∈ T→k < σ.n→k ∈ W) (hW:∀ k,k ∈ W→k < σ.n∧β k≠.absent) (hu:∀ k,k ∈ W→(σ'.get k).under σ.n=true) :
 Sat w' M' (β'.upto σ.n) (cutSt σ σ' W) hF∧Grow w M β σ hF W w' M' (β'.upto σ.n) (cutSt σ σ' W):=by
 have keep:∀ k,k < σ.n→k ∉ W→β' k=β k∧σ'.get k=σ.get k:=fun k hk hw => g.rest k hk fun ht => hw (hT k ht hk)
 have low:∀ {k x},β'.upto σ.n k=x→x≠.absent→k < σ.n∧β' k=x:=fun {k x} e hx => by
  unfold Bt.upto at e
  split at e
  · exact ⟨‹_›,e⟩
  · exact absurd e.symm hx
 refine ⟨⟨h.frame,h.mem,fun k i hk => ?_,fun k i hk => ?_,fun k i a hk => ?_,fun k k' i i' hk hk' => ?_,fun k hk => ?_,fun k hk => ?_⟩,⟨g.same,g.mem,g.out,fun k => ?_,by rw [n_cutSt]; exact Nat.le_refl _,fun k hk hw => ?_,fun k hk _ => (hW k hk).2,fun k i hk hw hl => ?_⟩⟩
 · obtain ⟨hkn,hk'⟩:=low hk (by intro h; cases h)
   rw [get_cutSt]
   split
   · rename_i hw; exact (h.own k i hk').upto (hu k hw) (Nat.le_of_lt hkn)
   · rename_i hw
     have e:=keep k hkn hw
     have:=h.own k i hk'
     rw [e.2] at this
     exact this.upto ((h0.own k i (e.1 ▸ hk')).under_of h0.lt) (Nat.le_of_lt hkn)
 · exact h.apF k i (low hk (by intro h; cases h)).2
 · exact h.apM k i a (low hk (by intro h; cases h)).2
 · exact h.inj k k' i i' (low hk (by intro h; cases h)).2 (low hk' (by intro h; cases h)).2
 · rw [n_cutSt] at hk
   unfold Bt.upto; rw [if_neg (by omega)]
 · obtain ⟨hkn,hk'⟩:=low hk (by intro h; cases h)
   rw [get_cutSt]
   split
   · exact h.dead k hk'
   · rename_i hw; rw [← (keep k hkn hw).2]; exact h.dead k hk'
 · unfold Bt.upto
   split
   · exact g.le k
   · exact .inl (h0.lt k (by omega))
 · rw [get_cutSt,if_neg hw]
   unfold Bt.upto; rw [if_pos hk]
   exact ⟨(keep k hk hw).1,rfl⟩
 · exact g.heap k i hk (fun ht => hw (hT k ht hk)) hl
theorem Same.putObj {w:World} {r:Nat} {o p:Obj} (hp:w.heap[r]?=some p) (h:∀ n,icy (some o) n=icy (some p) n):Same w (w.putObj r o) :=
 .turn (b:=r) rfl rfl rfl World.putObj_size (fun _ hj => World.putObj_heap_other hj) fun n => by
  rw [World.putObj_heap_same (Array.getElem?_eq_some_iff.1 hp).1,hp]; exact h n
def marks (rs:List Nat):List Deferred:=rs.map fun r => { target:=.collected r,args:=#[] }
def withMarks (rs:List Nat) (hF:Nat→Option Obj):Nat→Option Obj:=fun b => if b ∈ rs then some (.deferred (some [])) else hF b
theorem Sat.mark {rs:List Nat} (h:Sat w M β σ (withMarks rs hF)):Sat (w.alloc (.deferred (some []))) M β σ (withMarks (w.heap.size :: rs) hF):=by
 have hn:withMarks rs hF w.heap.size=none:=by
  cases e:withMarks rs hF w.heap.size with
  | none => rfl
  | some o => exact absurd (h.frame_lt e) (Nat.lt_irrefl _)
 have hold:∀ b,b≠w.heap.size→withMarks (w.heap.size :: rs) hF b=withMarks rs hF b:=fun b hb => by
  unfold withMarks; simp [hb]
 refine ⟨fun b o hb => ?_,fun a v ha => ?_,fun k i hk => ?_,fun k i hk => ?_,h.apM,h.inj,h.lt,h.dead⟩
 · by_cases e:b=w.heap.size
   · subst e
     rw [heap_alloc_new]
     unfold withMarks at hb; simp at hb; exact congrArg some hb
   · rw [hold b e] at hb
     rw [heap_alloc_other _ _ (h.frame_lt hb)]; exact h.frame b o hb
 · rw [cell_of_block (heap_alloc_other w _ (h.mem_lt ha))]; exact h.mem a v ha
 · exact (h.own k i hk).world (heap_alloc_other w _ (h.lt_size hk))
 · rw [hold _ (Nat.ne_of_lt (h.lt_size hk))]; exact h.apF k i hk
theorem Grow.mark (h:Sat w M β σ hF) (hF':Nat→Option Obj) (o:Obj) (ho:cold o=true:=by rfl):Grow w M β σ hF' [] (w.alloc o) M β σ :=
 { Grow.refl w M β σ hF' with same:=Same.alloc w o ho,heap:=fun _ _ _ _ hk => heap_alloc_other w o (h.lt_size hk) }
theorem Sat.unmark {r:Nat} {rs:List Nat} (h:Sat w M β σ (withMarks (r :: rs) hF)) (hr:hF r=none) (hd:r ∉ rs):Sat (w.putObj r (.deferred none)) M β σ (withMarks rs hF)∧Grow w M β σ hF [] (w.putObj r (.deferred none)) M β σ:=by
 have hin:withMarks (r :: rs) hF r=some (.deferred (some [])):=by unfold withMarks; simp
 have hlt:=h.frame_lt hin
 have hne:∀ k i,β k=.live i→i.block≠r:=fun k i hk e => by
  have:=h.apF k i hk; rw [e,hin] at this; cases this
 have hother:∀ {j},j≠r→(w.putObj r (.deferred none)).heap[j]?=w.heap[j]?:=fun e => World.putObj_heap_other e
 refine ⟨⟨fun b o hb => ?_,fun a v ha => ?_,fun k i hk => ?_,fun k i hk => ?_,h.apM,h.inj,h.lt,h.dead⟩,?_⟩
 · have hb':b≠r:=fun e => by subst e; unfold withMarks at hb; simp [hd,hr] at hb
   rw [hother hb']
   refine h.frame b o ?_
   unfold withMarks at hb ⊢; simpa [hb'] using hb
 · have hc:=h.mem a v ha
   have:a.block≠r:=fun e => by
    have h2:=h.frame r _ hin
    unfold World.cell? at hc
    rw [e,h2] at hc; simp at hc
   rw [cell_of_block (hother this)]; exact hc
 · exact (h.own k i hk).world (hother (hne k i hk))
 · have h1:=h.apF k i hk
   have h2:=hne k i hk
   unfold withMarks at h1 ⊢; simpa [h2] using h1
 · exact { Grow.refl w M β σ hF with same:=Same.putObj (h.frame r _ hin) (fun _ => rfl),heap:=fun k i _ _ hk => hother (hne k i hk) }
theorem withMarks_nil (hF:Nat→Option Obj):withMarks [] hF=hF:=by funext b; simp [withMarks]
theorem withMarks_le {rs:List Nat} (hr:∀ r,r ∈ rs→hF r=none):∀ b o,hF b=some o→withMarks rs hF b=some o:=fun b o hb => by
 unfold withMarks
 split
 · rename_i h; rw [hr b h] at hb; cases hb
 · exact hb
end Go.Am
namespace Go.Am
open Go
variable {P:Program} {fz:Nat→Md} {w w':World} {M M':Mem} {β β':Bt} {σ σ':St} {hF hF':Nat→Option Obj} {tm tm':Tm}
section
variable {f:Nat} {ro:Option Nat} {ds:List Deferred} {tmps:Array Value} {k:List Item} {cs:List Frame} {w₁ w₂:World}
theorem st_rangeFunc {g:Operand} {ps:Array Tmp} {assign body:Code} {l h:Nat} {mark:List Deferred} {args:Array Value}
 (he:(Instr.enterLoop f tmps ps assign body ro).run P w=.ok (l,mark) w₁)
 (hi:(do let d ← Deferred.ofValue (rho tmps g) #[.func (.yield l) #[] #[]]; invoke d.target d.args:Sem Next).run P w₁=.ok (.enter h args) w₂) :
 step P (lone (fat f ro ds tmps (.code (.rangeFunc g ps assign body) :: k)) cs w)=.next (lone (Frame.enter P h args .normal) (fat f ro (mark ++ ds) tmps (.inRangeFunc l :: k) :: cs) w₂) :=
 step_lone_go (by
  have hev:=congrFun (fat_eval (f:=f) (ro:=ro) (ds:=mark ++ ds) (tmps:=tmps) (.inRangeFunc l :: k))
  simp only [fat] at hev
  have hr:rho tmps (.const (.func (.yield l) #[] #[]))=.func (.yield l) #[] #[]:=rfl
  simp only [stepG,stepG.exec,fat,Sem.runT_eq,he,GStep.bare_after,stepG.apply,resolve,List.map_toArray,List.map_cons,List.map_nil,hev,hr,hi,if_true]; rfl)
theorem st_rangeFunc' {g:Operand} {ps:Array Tmp} {assign body:Code} {l l' h:Nat} {mark:List Deferred} {tt:Array Value} {as bd:Code}
 (he:(Instr.enterLoop f tmps ps assign body ro).run P w=.ok (l,mark) w₁)
 (hi:(do let d ← Deferred.ofValue (rho tmps g) #[.func (.yield l) #[] #[]]; invoke d.target d.args:Sem Next).run P w₁=.ok (.round l' h tt as bd) w₂) :
 step P (lone (fat f ro ds tmps (.code (.rangeFunc g ps assign body) :: k)) cs w)=.next (lone (Frame.round l' h tt as bd .normal) (fat f ro (mark ++ ds) tmps (.inRangeFunc l :: k) :: cs) w₂) :=
 step_lone_go (by
  have hev:=congrFun (fat_eval (f:=f) (ro:=ro) (ds:=mark ++ ds) (tmps:=tmps) (.inRangeFunc l :: k))
  simp only [fat] at hev
  have hr:rho tmps (.const (.func (.yield l) #[] #[]))=.func (.yield l) #[] #[]:=rfl
  simp only [stepG,stepG.exec,fat,Sem.runT_eq,he,GStep.bare_after,stepG.apply,resolve,List.map_toArray,List.map_cons,List.map_nil,hev,hr,hi,if_true]; rfl)
theorem finish_inRangeFunc (l:Nat) (v:Value):(fat f ro ds tmps (.inRangeFunc l :: k)).finish v=fat f ro ds tmps (.endRangeFunc l :: k):=by simp [Frame.finish,fat]
theorem st_endRangeFunc {l:Nat} {jump:Option Code} (h:(Instr.endLoop l).run P w=.ok jump w') :
 step P (lone (fat f ro ds tmps (.endRangeFunc l :: k)) cs w)=.next (lone (fat f ro ds tmps ((jump.map Item.code).toList ++ k)) cs w') :=
 step_lone_go (by simp [stepG,stepG.exec,fat,Sem.runT_eq,h,GStep.bare_after])
theorem st_beginRound {l:Nat} (hr:(Instr.beginRound l).run P w=.ok () w') :
 step P (lone (fat f (some l) ds tmps (.beginRound :: k)) cs w)=.next (lone (fat f (some l) ds tmps k) cs w') :=
 step_lone_go (by simp [stepG,stepG.exec,stepG.apply,fat,Sem.runT_eq,hr,Result.andThen,Frame.finish])
variable {c:Frame}
theorem st_round_end {l:Nat} {v:Value} (hr:(Instr.endRound l none).run P w=.ok v w') :
 step P (lone (fat f (some l) ds tmps []) (c :: cs) w)=.next (lone (c.finish v) cs w') :=
 step_lone_go (by simp [stepG,stepG.exec,fat,Sem.runT_eq,hr,doReturn])
theorem st_round_ret {l:Nat} {v:Value} (hr:(Instr.endRound l (some .ret)).run P w=.ok v w') :
 step P (lone (fat f (some l) ds tmps (.code .ret :: k)) (c :: cs) w)=.next (lone (c.finish v) cs w') :=
 step_lone_go (by simp [stepG,stepG.exec,fat,Sem.runT_eq,hr,doReturn])
theorem st_round_exit {l id:Nat} {v:Value} (hx:exitTo id k=none) (hr:(Instr.endRound l (some (.exit id))).run P w=.ok v w') :
 step P (lone (fat f (some l) ds tmps (.code (.exit id) :: k)) (c :: cs) w)=.next (lone (c.finish v) cs w') :=
 step_lone_go (by simp [stepG,stepG.exec,fat,hx,Sem.runT_eq,hr,doReturn])
end
theorem unwind_marks {f:Nat} {tmps:Array Value} {k:List Item} {cs:List Frame}:∀ (rs:List Nat) (w:World),Sat w M β σ (withMarks rs hF)→(∀ r,r ∈ rs→hF r=none)→rs.Nodup →
 ∃ w',Steps P (lone { fat f none (marks rs) tmps k with mode:=.returning } cs w) (lone { fat f none [] tmps k with mode:=.returning } cs w')∧Sat w' M β σ hF∧Grow w M β σ hF [] w' M β σ
 | [],w,hs,_,_ => ⟨w,.refl _ _,withMarks_nil hF ▸ hs,.refl _ _ _ _ _⟩
 | r :: rs,w,hs,hr,hd => by
  have hd':=List.nodup_cons.1 hd
  obtain ⟨h1,g1⟩:=hs.unmark (hr r (by simp)) hd'.1
  obtain ⟨w',s2,h2,g2⟩:=unwind_marks (f:=f) (tmps:=tmps) (k:=k) (cs:=cs) rs _ h1 (fun x hx => hr x (by simp [hx])) hd'.2
  have ht:(Instr.takeDeferred r).run P w=.ok [] (w.putObj r (.deferred none)):=run_takeDeferred (hs.frame r _ (by unfold withMarks; simp))
  refine ⟨w',.head (step_lone_go ?_) s2,h2,g1.trans g2⟩
  simp [stepG,unwind,fat,marks,Sem.runT_eq,ht,GStep.bare_after]
theorem initTm_at:∀ (l:List A) (i:Nat) (t:Tm) (j:Nat),Tm.at (initTm l i t) j=if i≤j∧j < i+l.length then l.getD (j - i) .top else Tm.at t j
 | [],i,t,j => by simp only [initTm,List.length_nil]; rw [if_neg (by omega)]
 | a :: l,i,t,j => by
  rw [initTm,initTm_at l (i+1) _ j,Tm.at_set,List.length_cons]
  by_cases h1:j=i
  · subst h1; rw [if_neg (by omega),if_pos rfl,if_pos (by omega)]; simp
  · by_cases h2:i+1≤j∧j < i+1+l.length
    · rw [if_pos h2,if_pos (by omega),show j - i=(j - (i+1))+1 by omega,List.getD_cons_succ]
    · rw [if_neg h2,if_neg h1,if_neg (by omega)]
theorem init_tr {nt:Nat} {l:List A} {vs:List Value} (h:VRL M β l vs) (hl:l.length≤nt):TR M β nt (initTm l 0 .nil) (vs.toArray ++ Array.replicate (nt - vs.toArray.size) undef):=by
 have hlen:=h.length
 refine ⟨by simp; omega,fun t => ?_⟩
 rw [initTm_at]
 by_cases ht:t < l.length
 · rw [if_pos (by omega)]
   have hq:l[t]?=some (l.getD (t - 0) .top):=by simp [List.getD_eq_getElem?_getD,List.getElem?_eq_getElem ht]
   obtain ⟨v,hv,hr⟩:=h.get hq
   have:(vs.toArray ++ Array.replicate (nt - vs.toArray.size) undef).getD t undef=v:=by
    rw [Array.getD_eq_getD_getElem?,Array.getElem?_append_left (by simpa using (hlen ▸ ht))]
    simp [hv]
   rw [this]; exact hr
 · rw [if_neg (by omega)]
   have:Tm.at FT.nil t=.top:=by simp [Tm.at,FT.get_nil]
   rw [this]; exact .top
theorem setParams_tr {nt:Nat}:∀ (ps:List Nat) (l:List A) (vs:List Value) (tm:Tm) (tmps:Array Value),VRL M β l vs→TR M β nt tm tmps→(∀ p,p ∈ ps→p < nt) →
 TR M β nt (setParams ps l tm) ((ps.zip vs).foldl (fun tmps x => tmps.setIfInBounds x.1 x.2) tmps)
 | [],l,vs,tm,tmps,_,h,_ => by cases l <;> simpa [setParams] using h
 | p :: ps,[],vs,tm,tmps,hl,h,_ => by cases hl; simpa [setParams] using h
 | p :: ps,a :: l,vs,tm,tmps,hl,h,hp => by
  cases hl with
  | cons hv ht =>
   rw [setParams,List.zip_cons_cons,List.foldl_cons]
   refine setParams_tr ps l _ _ _ ht ?_ (fun q hq => hp q (by simp [hq]))
   have:=TR.put (dst:=some p) h hv (tm':=FT.set tm p a) (by simp [putTm,hp p (by simp)])
   exact this
def resF (tmps:Array Value):ResultVar→Sem Value
 | .tmp t => pure (tmps.getD t undef)
 | .cell a t => do loadVar t (← asAddr (tmps.getD a undef))
theorem results_list {tmps:Array Value} {nt:Nat} (hs:Sat w M β σ hF) (ht:TR M β nt tm tmps):∀ (rs:List ResultVar) (l:List A),results (mkX P fz) tm σ rs=some l →
 ∃ vs,(rs.mapM (resF tmps)).run P w=.ok vs w∧VRL M β l vs
 | [],l,h => by simp only [results,Option.some.injEq] at h; subst h; exact ⟨[],by simp,.nil⟩
 | .tmp t :: rs,l,h => by
  simp only [results] at h
  cases hr:results (mkX P fz) tm σ rs with
  | none => simp [hr] at h
  | some l' =>
   simp only [hr,Option.map_some,Option.some.injEq] at h; subst h
   obtain ⟨vs,hv,hl⟩:=results_list hs ht rs l' hr
   exact ⟨_ :: vs,by rw [List.mapM_cons]; simp only [Sem.run_bind,resF,Sem.run_pure,hv,Result.andThen],.cons (ht.2 t) hl⟩
 | .cell a t :: rs,l,h => by
  simp only [results] at h
  split at h
  · rename_i i hi
    split at h
    · rename_i v R hl
      cases hr:results (mkX P fz) tm σ rs with
      | none => simp [hr] at h
      | some l' =>
       simp only [hr,Option.map_some,Option.some.injEq] at h; subst h
       obtain ⟨vs,hv,hl'⟩:=results_list hs ht rs l' hr
       obtain ⟨b,cs,off,hb,hc,hp⟩:=loadA_at hs (ht.2 a) hl
       obtain ⟨u,hu,hur⟩:=run_loadVar (P:=P) hi hc hp
       exact ⟨u :: vs,by rw [List.mapM_cons]; simp only [Sem.run_bind,resF,Sem.run_pure,hv,Result.andThen,hb,asAddr,hu],.cons hur hl'⟩
    · cases h
  · cases h
theorem results_sound {fn:Func} {tmps:Array Value} {nt:Nat} {l:List A} (hs:Sat w M β σ hF) (ht:TR M β nt tm tmps) (h:results (mkX P fz) tm σ fn.results.toList=some l) :
 ∃ v,(Go.results fn tmps).run P w=.ok v w∧VR M β (tupOf l) v:=by
 obtain ⟨vs,hv,hl⟩:=results_list (P:=P) hs ht _ _ h
 have hrw:Go.results fn tmps=(do let vs ← fn.results.mapM (resF tmps); pure (if h:vs.size=1 then vs[0] else .tuple vs):Sem Value):=rfl
 rw [hrw,Array.mapM_eq_mapM_toList]
 refine ⟨if h:vs.toArray.size=1 then vs.toArray[0] else .tuple vs.toArray,?_,?_⟩
 · simp only [Sem.run_bind,Sem.run_map,hv,Result.andThen]
   rfl
 · unfold tupOf
   split
   · cases hl with
     | cons h t => cases t; exact h
   · rename_i h1
     have:vs.toArray.size≠1:=by
      intro e
      have hlen:=hl.length
      match l,h1 with
      | [],_ => simp at hlen e; omega
      | [a],h1 => exact h1 a rfl
      | _ :: _ :: _,_ => simp at hlen e; omega
     rw [dif_neg this]; exact .tup hl
end Go.Am
namespace Go.Am
open Go
variable {P:Program} {fz:Nat→Md} {w w' w₁:World} {M M' M₁:Mem} {β β' β₁:Bt} {σ σ' σ₁:St} {hF hF':Nat→Option Obj} {tm tm':Tm}
theorem leaveCall_sound {z:Md} {r a:A} {σ'':St} {W T T0:List Nat} {v:Value} (hz:z≠.ice) (h:leaveCall z σ r σ' W=some (a,σ'',T)) (hv:VR M' β' r v) (h0:Sat w M β σ hF) (hs:Sat w' M' β' σ' hF)
 (g:Grow w M β σ hF T0 w' M' β' σ') (hW1:∀ k,k ∈ T0→k < σ.n→k ∈ W) (hW2:∀ k,k ∈ W→k < σ.n∧β k≠.absent):CallR a w M β σ hF T σ'' v w':=by
 have hkeep:some (r,σ',W)=some (a,σ'',T)→CallR a w M β σ hF T σ'' v w':=fun h => by
  simp only [Option.some.injEq,Prod.mk.injEq] at h
  obtain ⟨rfl,rfl,rfl⟩:=h
  exact ⟨M',β',hv,hs,{ g with rest:=fun k hk ht => g.rest k hk (fun e => ht (hW1 k e hk)),dom:=fun k hk _ => (hW2 k hk).2,heap:=fun k i hk ht => g.heap k i hk (fun e => ht (hW1 k e hk)) }⟩
 cases z with
 | ice => exact absurd rfl hz
 | keep => exact hkeep h
 | ora F => simp [leaveCall] at h
 | cut =>
 unfold leaveCall at h
 dsimp only at h
 split at h
 · rename_i hu
   simp only [Option.some.injEq,Prod.mk.injEq] at h
   obtain ⟨rfl,rfl,rfl⟩:=h
   simp only [Bool.and_eq_true,List.all_eq_true] at hu
   obtain ⟨s1,g1⟩:=h0.cut hs g hW1 hW2 hu.2
   exact ⟨M',_,hv.upto hu.1,s1,g1⟩
 · exact hkeep h
def RoR (β:Bt):Option Nat→Option Nat→Prop
 | none,none => True
 | some k,some b => (∃ i,β k=.live i∧i.block=b)∨β k=.dead
 | _,_ => False
theorem RoR.mono (hβ:β.le β') {ro ro':Option Nat} (h:RoR β ro ro'):RoR β' ro ro':=by
 cases ro <;> cases ro' <;> simp only [RoR] at h ⊢
 rcases h with ⟨i,h,hb⟩ | h
 · rcases Bt.le_live hβ h with h | h
   · exact .inl ⟨i,h,hb⟩
   · exact .inr h
 · exact .inr (Bt.le_dead hβ h)
theorem Wrote.trans {lo:Nat} {W W₁ W' T S:List Nat} (h:Wrote lo W W₁ S) (g:Wrote lo W₁ W' T):Wrote lo W W' (S ++ T):=fun k => by
 rw [g k,h k,List.mem_append]
 constructor
 · rintro ((h | h) | h)
   · exact .inl h
   · exact .inr ⟨.inl h.1,h.2⟩
   · exact .inr ⟨.inr h.1,h.2⟩
 · rintro (h | ⟨h | h,h'⟩)
   · exact .inl (.inl h)
   · exact .inl (.inr ⟨h,h'⟩)
   · exact .inr ⟨h,h'⟩
theorem Wrote.low (lo:Nat) (W T:List Nat):Wrote lo W (W ++ low lo T) T:=fun k => by simp [Am.low]
theorem Grow.re {T S:List Nat} (g:Grow w M β σ hF T w' M' β' σ') (h:∀ k,k < σ.n→(k ∈ T ↔ k ∈ S)):Grow w M β σ hF S w' M' β' σ' :=
 { g with rest:=fun k hk ht => g.rest k hk (fun e => ht ((h k hk).1 e)),dom:=fun k hk hn => g.dom k ((h k hn).2 hk) hn,heap:=fun k i hk ht => g.heap k i hk (fun e => ht ((h k hk).1 e)) }
def Res (P:Program) (fn nt:Nat) (ro ro':Option Nat) (lo:Nat) (rs:List Nat) (todo:List Item) (tmps:Array Value) (cs:List Frame) (w:World) (M:Mem) (β:Bt) (σ:St) (W:List Nat)
 (hF:Nat→Option Obj) (o:Out):Prop :=
 ∃ w' M' β' T,Sat w' M' β' o.st hF∧Grow w M β σ hF T w' M' β' o.st∧Wrote lo W o.W T ∧
  (∀ tm' σ' W',o=.ret tm' σ' W'→ro=none∧∃ tmps' todo',Steps P (lone (fat fn ro' (marks rs) tmps todo) cs w) (lone { fat fn none [] tmps' todo' with mode:=.returning } cs w')∧TR M' β' nt tm' tmps') ∧
  (∀ j σ' W',o=.leave j σ' W'→∃ fr',Steps P (lone (fat fn ro' (marks rs) tmps todo) cs w) (lone fr' cs w') ∧
   ∀ l',ro'=some l'→∀ v w'' c cs',cs=c :: cs'→(Instr.endRound l' j).run P w'=.ok v w''→step P (lone fr' cs w')=.next (lone (c.finish v) cs' w''))
section
variable {fn nt lo:Nat} {ro ro':Option Nat} {rs rs₁:List Nat} {todo todo₁:List Item} {tmps tmps₁:Array Value} {cs:List Frame} {W W₁:List Nat} {o:Out}
theorem Res.pre {T₁:List Nat} (h:Steps P (lone (fat fn ro' (marks rs) tmps todo) cs w) (lone (fat fn ro' (marks rs₁) tmps₁ todo₁) cs w₁)) (g:Grow w M β σ hF T₁ w₁ M₁ β₁ σ₁) (hW:Wrote lo W W₁ T₁)
 (r:Res P fn nt ro ro' lo rs₁ todo₁ tmps₁ cs w₁ M₁ β₁ σ₁ W₁ hF o):Res P fn nt ro ro' lo rs todo tmps cs w M β σ W hF o:=by
 obtain ⟨w',M',β',T,s,g',wr,h1,h2⟩:=r
 refine ⟨w',M',β',_,s,g.trans g',hW.trans wr,fun a b c e => ?_,fun a b c e => ?_⟩
 · obtain ⟨e1,t',k',st,tr⟩:=h1 a b c e
   exact ⟨e1,t',k',h.trans st,tr⟩
 · obtain ⟨fr,st,q⟩:=h2 a b c e
   exact ⟨fr,h.trans st,q⟩
theorem Res.head (h:step P (lone (fat fn ro' (marks rs) tmps todo) cs w)=.next (lone (fat fn ro' (marks rs) tmps todo₁) cs w))
 (r:Res P fn nt ro ro' lo rs todo₁ tmps cs w M β σ W hF o):Res P fn nt ro ro' lo rs todo tmps cs w M β σ W hF o:=.pre (.one h) (.refl _ _ _ _ _) (.nil _ _) r
theorem leave_sound {j:Option Code} (h:leaveA ro tm σ W j=some o) (hro:RoR β ro ro') (h0:ro≠none→rs=[]) (hd:rs.Nodup) (hr:∀ r,r ∈ rs→hF r=none) (ht:TR M β nt tm tmps) (hs:Sat w M β σ (withMarks rs hF))
 (hret:ro'=none→(j=none∨j=some .ret)→step P (lone (fat fn none (marks rs) tmps todo) cs w)=.next (lone { fat fn none (marks rs) tmps todo with mode:=.returning } cs w))
 (hround:∀ l',ro'=some l'→∀ v w'' c cs',cs=c :: cs'→(Instr.endRound l' j).run P w=.ok v w''→step P (lone (fat fn (some l') (marks rs) tmps todo) cs w)=.next (lone (c.finish v) cs' w'')) :
 Res P fn nt ro ro' lo rs todo tmps cs w M β σ W hF o:=by
 cases ro with
 | none =>
  cases ro' with
  | some _ => exact hro.elim
  | none =>
   have hq:o=.ret tm σ W∧(j=none∨j=some .ret):=by
    unfold leaveA at h
    dsimp only at h
    split at h
    · cases h; exact ⟨rfl,.inl rfl⟩
    · cases h; exact ⟨rfl,.inr rfl⟩
    · cases h
   obtain ⟨rfl,hj⟩:=hq
   obtain ⟨w',s1,s2,g⟩:=unwind_marks (f:=fn) (tmps:=tmps) (k:=todo) (cs:=cs) rs w hs hr hd
   refine ⟨w',M,β,[],s2,g,.nil _ _,fun a b c e => ?_,(fun a b c e => by cases e)⟩
   cases e
   exact ⟨rfl,tmps,todo,.head (hret rfl hj) s1,ht⟩
 | some k =>
  cases ro' with
  | none => exact hro.elim
  | some l =>
   simp only [leaveA,Option.some.injEq] at h; subst h
   have:=h0 (by simp); subst this
   rw [withMarks_nil] at hs
   refine ⟨w,M,β,[],hs,.refl _ _ _ _ _,.nil _ _,(fun a b c e => by cases e),fun a b c e => ?_⟩
   cases e
   exact ⟨_,.refl _ _,(fun l' e => by cases e; exact hround _ rfl)⟩
end
def DrawS (P:Program) (fz:Nat→Md) (n:Nat):Prop :=
 ∀ (nt lo f:Nat) (ro:Option Nat) (ds:List Deferred) (k:List Item) (cs:List Frame) (ops:Array Oper) (W W':List Nat) (tm tm':Tm) (σ σ':St) (log':List Log) (w:World) (M:Mem) (β:Bt) (hF:Nat→Option Obj) (tmps:Array Value) (t:Nat),
  regionOk ops=true→opsR (mkX P fz) n ops nt lo ops.toList 0 tm σ W []=some (tm',σ',W',log')→drawOk ops log'=true→LoopsOk σ→lo≤σ.n→TR M β nt tm tmps→Sat w M β σ hF →
  ∃ w' M' β' tmps' T,Steps P (lone (fat f ro ds tmps (.inRegion ops (Region.linearise .any ops t) :: k)) cs w) (lone (fat f ro ds tmps' (.inRegion ops [] :: k)) cs w') ∧
   TR M' β' nt tm' tmps'∧Sat w' M' β' σ' hF∧Grow w M β σ hF T w' M' β' σ'∧Wrote lo W W' T
def ExecS (P:Program) (fz:Nat→Md) (n:Nat):Prop :=
 ∀ fn nt ro lo todo tm σ W o,exec (mkX P fz) n fn nt ro lo todo tm σ W=some o→todo.all itemOk=true→LoopsOk σ→lo≤σ.n →
  ∀ w M β hF tmps rs cs ro',RoR β ro ro'→(ro≠none→rs=[])→rs.Nodup→(∀ r,r ∈ rs→hF r=none)→TR M β nt tm tmps→Sat w M β σ (withMarks rs hF) →
   Res P fn nt ro ro' lo rs todo tmps cs w M β σ W hF o
end Go.Am
namespace Go.Am
open Go
variable {P:Program} {fz:Nat→Md} {w w' w₁:World} {M M' M₁:Mem} {β β' β₁:Bt} {σ σ' σ₁:St} {hF hF':Nat→Option Obj} {tm tm':Tm}
theorem TR.upto {nt n:Nat} {tmps:Array Value} (hlt:∀ k,n≤k→β k=.absent) (h:TR M β nt tm tmps):TR M (β.upto n) nt tm tmps:=⟨h.1,fun t => (h.2 t).upto ((h.2 t).under hlt)⟩
theorem Bt.new_upto (β:Bt) (n:Nat) (i:BI):(β.new n i).upto n=β.upto n:=by
 funext j; unfold Bt.upto
 split
 · rw [Bt.new_other _ _ (by omega)]
 · rfl
theorem enter_sound {fn nt:Nat} {ro ro':Option Nat} {rs:List Nat} {tmps:Array Value} {params:Array Nat} {assign body:Code} (hin:inLoop ro σ=true) (hro:RoR β ro ro') (h0:ro≠none→rs=[]) (hd:rs.Nodup) (hr:∀ r,r ∈ rs→hF r=none)
 (ht:TR M β nt tm tmps) (hs:Sat w M β σ (withMarks rs hF)) :
 ∃ l mark w₁ rs₁,(Instr.enterLoop fn tmps params assign body ro').run P w=.ok (l,mark) w₁∧marks rs₁=mark ++ marks rs∧(ro≠none→rs₁=[])∧rs₁.Nodup∧(∀ r,r ∈ rs₁→hF r=none) ∧
  Sat w₁ M (β.new σ.n ⟨l,0,0⟩) (σ.push (.loop { fn,nt,tm,params,assign,body,st:=.ready,pending:=none })) (withMarks rs₁ hF) ∧
  Grow w M β σ hF [] w₁ M (β.new σ.n ⟨l,0,0⟩) (σ.push (.loop { fn,nt,tm,params,assign,body,st:=.ready,pending:=none })):=by
 have tr:∀ i:BI,TR M ((β.new σ.n i).upto σ.n) nt tm tmps:=fun i => by rw [Bt.new_upto]; exact ht.upto hs.lt
 cases ro with
 | none =>
  cases ro' with
  | some _ => exact hro.elim
  | none =>
   have hn:withMarks rs hF w.heap.size=none:=by
    cases e:withMarks rs hF w.heap.size with
    | none => rfl
    | some o => exact absurd (hs.frame_lt e) (Nat.lt_irrefl _)
   have hnot:w.heap.size ∉ rs:=fun e => by unfold withMarks at hn; simp [e] at hn
   have hFn:hF w.heap.size=none:=by unfold withMarks at hn; simpa [hnot] using hn
   have s1:=hs.mark
   have s2:=s1.alloc (.loop { state:=.ready,pending:=none,fn,tmps,params,assign,body,defers:=w.heap.size }) (.loop { fn,nt,tm,params,assign,body,st:=.ready,pending:=none }) 0
    ⟨_,heap_alloc_new _ _,rfl,rfl,rfl,rfl,rfl,trivial,tr _⟩
   rw [World.size_alloc] at s2
   refine ⟨_,_,_,w.heap.size :: rs,run_enterLoop_outer fn tmps params assign body,rfl,fun h => (h rfl).elim,List.nodup_cons.2 ⟨hnot,hd⟩,?_,s2,?_⟩
   · intro r hm
     rcases List.mem_cons.1 hm with rfl | hm
     · exact hFn
     · exact hr r hm
   · have g1:Grow w M β σ hF [] (w.alloc (.deferred (some []))) M β σ:=Grow.mark hs hF _
     have g2:=(Grow.alloc s1 (.loop { state:=.ready,pending:=none,fn,tmps,params,assign,body,defers:=w.heap.size }) (.loop { fn,nt,tm,params,assign,body,st:=.ready,pending:=none }) ⟨w.heap.size+1,0,0⟩).weakenF (hF':=hF) (withMarks_le (fun r hm => by
      rcases List.mem_cons.1 hm with rfl | hm
      · exact hFn
      · exact hr r hm))
     exact g1.trans g2
 | some k =>
  cases ro' with
  | none => exact hro.elim
  | some b =>
   have:=h0 (by simp); subst this
   unfold inLoop at hin
   dsimp only at hin
   split at hin
   · rename_i L hL
     rcases hro with ⟨i,hk,rfl⟩ | hk
     · have hb:=hs.own k i hk
       rw [hL] at hb
       obtain ⟨l₀,hl₀,-⟩:=hb
       refine ⟨_,_,_,[],run_enterLoop_inner hl₀ fn tmps params assign body,rfl,fun _ => rfl,.nil,(by intro r h; cases h),hs.alloc _ _ 0 ?_,?_⟩
       · exact ⟨_,heap_alloc_new _ _,rfl,rfl,rfl,rfl,rfl,trivial,tr _⟩
       · exact (Grow.alloc hs _ _ _).weakenF (withMarks_le (by intro r h; cases h))
     · have:=hs.dead k hk; rw [hL] at this; cases this
   · cases hin
theorem Sat.free (h:Sat w M β σ hF) {b:Nat} (hw:∀ j,j≠b→w'.heap[j]?=w.heap[j]?) (h1:∀ k i,β k=.live i→i.block≠b) (h2:hF b=none) (h3:∀ a,a.block=b→M a=none):Sat w' M β σ hF :=
 ⟨fun c o hc => by rw [hw c (fun e => by rw [e,h2] at hc; cases hc)]; exact h.frame c o hc,
  fun a v ha => by rw [cell_of_block (hw a.block (fun e => by rw [h3 a e] at ha; cases ha))]; exact h.mem a v ha,
  fun k i hk => (h.own k i hk).world (hw _ (h1 k i hk)),h.apF,h.apM,h.inj,h.lt,h.dead⟩
theorem Sat.bury (h:Sat w M β σ hF) {k:Nat} {i:BI} (hk:β k=.live i) (hw:∀ j,j≠i.block→w'.heap[j]?=w.heap[j]?) (hsame:Same w w') :
 Sat w' M (β.kill k) (σ.set k .dead) hF∧Grow w M β σ hF [k] w' M (β.kill k) (σ.set k .dead):=by
 have hkn:=h.known hk
 refine ⟨(h.kill k hkn).free hw (fun j x hj e => ?_) (h.apF k i hk) (fun a e => h.apM k i a hk e),{ Grow.kill w M hF (by rw [hk]; intro h; cases h) with same:=hsame,heap:=fun j x _ hT hj => hw _ fun e => ?_ }⟩
 · by_cases e':j=k
   · subst e'; rw [Bt.kill_same] at hj; cases hj
   · rw [Bt.kill_other _ e'] at hj; exact e' (h.inj j k x i hj hk e)
 · have:=h.inj j k x i hj hk e
   subst this; simp at hT
theorem exec_step {n:Nat} (hX:∀ f F,(mkX P fz).fn f=some F→codeOk F.body=true) (hm:P.follows .mixedOrders=true) (hc:CallS P fz n) (hD:DrawS P fz n) (ih:ExecS P fz n):ExecS P fz (n+1):=by
 intro fn nt ro lo todo tm σ W o h hk hl hlo w M β hF tmps rs cs ro' hro h0 hd hr ht hs
 have step0:∀ {todo₁:List Item},exec (mkX P fz) n fn nt ro lo todo₁ tm σ W=some o→todo₁.all itemOk=true →
  step P (lone (fat fn ro' (marks rs) tmps todo) cs w)=.next (lone (fat fn ro' (marks rs) tmps todo₁) cs w)→Res P fn nt ro ro' lo rs todo tmps cs w M β σ W hF o:=fun h1 h2 h3 =>
  .head h3 (ih _ _ _ _ _ _ _ _ _ h1 h2 hl hlo w M β hF tmps rs cs ro' hro h0 hd hr ht hs)
 rw [exec.eq_def] at h
 dsimp only at h
 split at h
 · exact leave_sound (j:=none) h hro h0 hd hr ht hs (fun _ _ => st_fin) (fun l' e v w'' c cs' e1 e2 => by subst e1; exact st_round_end e2)
 · exact leave_sound (j:=some .ret) h hro h0 hd hr ht hs (fun _ _ => st_ret) (fun l' e v w'' c cs' e1 e2 => by subst e1; exact st_round_ret e2)
 · exact step0 h (all_cons.1 hk).2 st_skip
 · exact step0 h (all_cons.1 hk).2 st_label
 · exact step0 h (all_cons.1 hk).2 st_inBlock
 · exact step0 h (all_cons.1 hk).2 st_inScope
 · rw [all_cons,itemOk,codeOk,Bool.and_eq_true] at hk
   exact step0 h (all_cons.2 ⟨hk.1.1,all_cons.2 ⟨hk.1.2,hk.2⟩⟩) st_seq
 · split at h
   · rename_i c a b k x t hx
     rw [all_cons,itemOk,codeOk,Bool.and_eq_true] at hk
     have hv:=rho_rel ht c
     rw [hx] at hv
     exact step0 h (all_cons.2 ⟨by
      simp only [itemOk]
      split
      · exact hk.1.1
      · exact hk.1.2,hk.2⟩) (st_cond (vr_bool hv))
   · cases h
 · rw [all_cons,itemOk,codeOk] at hk; exact step0 h (all_cons.2 ⟨hk.1,all_cons.2 ⟨rfl,hk.2⟩⟩) st_block
 · rw [all_cons,itemOk,codeOk] at hk; exact step0 h (all_cons.2 ⟨hk.1,all_cons.2 ⟨hk.1,hk.2⟩⟩) st_loop
 · rw [all_cons,itemOk] at hk; exact step0 h (all_cons.2 ⟨hk.1,all_cons.2 ⟨hk.1,hk.2⟩⟩) st_inLoop
 · rw [all_cons,itemOk,codeOk] at hk; exact step0 h (all_cons.2 ⟨hk.1,all_cons.2 ⟨rfl,hk.2⟩⟩) st_scope
 · rename_i id k
   split at h
   · rename_i k' hx
     exact step0 h (exitTo_ok hx (all_cons.1 hk).2) (st_exit hx)
   · rename_i hx
     exact leave_sound (tm:=tm) (j:=some (.exit id)) h hro h0 hd hr ht hs (fun _ e => by rcases e with e | e <;> cases e) (fun l' e v w'' c cs' e1 e2 => by subst e1; exact st_round_exit hx e2)
 · rename_i id ops draw k
   split at h
   · rename_i tm1 σ1 W1 log hops
     split at h
     · rename_i hdr
       obtain ⟨hl1,T1,ax,wr⟩:=(rest_all hX n).1 _ _ _ _ _ _ _ _ _ _ _ _ _ hops hl
       have hk':=all_cons.1 hk
       have hsB:∀ b o,hF b=some o→withMarks rs hF b=some o:=withMarks_le hr
       cases draw with
       | false =>
        obtain ⟨w1,M1,β1,tmps1,T,st,ht1,hs1,g1,wr1⟩:=ops_sound (f:=fn) (ro:=ro') (ds:=marks rs) (k:=k) (cs:=cs) hX hc ops.toList n 0 tm σ W [] w M β tmps (Nat.le_refl _) hops (fun j o hj => by rw [Nat.zero_add]; simpa using hj) hl ht hs
        have hrange:List.range' 0 ops.toList.length=List.range ops.size:=by rw [List.range_eq_range']; simp
        rw [hrange] at st
        exact .pre (.head st_region (st.trans (.one st_region_end))) (g1.weakenF hsB) wr1
         (ih _ _ _ _ _ _ _ _ _ h hk'.2 hl1 (Nat.le_trans hlo ax.n) w1 M1 β1 hF tmps1 rs cs ro' (hro.mono g1.le) h0 hd hr ht1 hs1)
       | true =>
        have hok:regionOk ops=true:=by have:=hk'.1; simpa [itemOk,codeOk] using this
        obtain ⟨w1,M1,β1,tmps1,T,st,ht1,hs1,g1,wr1⟩:=hD nt lo fn ro' (marks rs) k cs ops W W1 tm tm1 σ σ1 log w.drew M β (withMarks rs hF) tmps (w.tape w.drawn (.order fn id)) hok hops (by simpa using hdr) hl hlo ht hs.drew
        exact .pre (.head (st_region_draw hm) (st.trans (.one st_region_end))) (((Grow.drew w M β σ _).trans g1).weakenF hsB) (by simpa using wr1)
         (ih _ _ _ _ _ _ _ _ _ h hk'.2 hl1 (Nat.le_trans hlo ax.n) w1 M1 β1 hF tmps1 rs cs ro' (hro.mono g1.le) h0 hd hr ht1 hs1)
     · cases h
   · cases h
 · rename_i f params assign body k
   rw [all_cons,itemOk,codeOk,Bool.and_eq_true] at hk
   split at h
   · cases h
   rename_i hin
   have hin':inLoop ro σ=true:=by simpa using hin
   obtain ⟨l,mark,w1,rs1,he,hmk,h01,hd1,hr1,hs1,g1⟩:=enter_sound (P:=P) (fn:=fn) (nt:=nt) (params:=params) (assign:=assign) (body:=body) hin' hro h0 hd hr ht hs
   revert h hs1 g1
   generalize hσ1:(σ.push (Blk.loop { fn:=fn,nt:=nt,tm:=tm,params:=params,assign:=assign,body:=body,st:=LState.ready,pending:=none }))=σ1
   intro h hs1 g1
   split at h
   · rename_i a σ2 T hcall
     split at h
     · rename_i L hL
       split at h
       · cases h
       · rename_i hb
         have c0:LoopsOk σ1:=hσ1 ▸ hl.push fun L h => by cases h; exact ⟨hk.1.1,hk.1.2,fun c h => by cases h⟩
         have hn1:σ1.n=σ.n+1:=by rw [← hσ1,St.n_push]
         obtain ⟨c1,a1⟩:=(rest_all hX n).2.2 _ _ _ _ _ _ hcall c0
         have c2:LoopsOk (σ2.set σ.n .dead):=c1.set _ fun L h => by cases h
         have hsB1:∀ b o,hF b=some o→withMarks rs1 hF b=some o:=withMarks_le hr1
         obtain ⟨nx,w1',hrun,hnx⟩:=hc _ _ _ _ _ _ hcall c0 w1 M (β.new σ.n ⟨l,0,0⟩) (withMarks rs1 hF) (rho tmps f) [.func (.yield l) #[] #[]] ((rho_rel ht f).mono (Mem.le_refl M) (Bt.le_new _ (hs.lt _ (Nat.le_refl _))))
          (.cons (.yld (Bt.new_same _ _ _)) .nil) hs1
         have fin:∃ v w2,CallR a w1 M (β.new σ.n ⟨l,0,0⟩) σ1 (withMarks rs1 hF) T σ2 v w2 ∧
          Steps P (lone (fat fn ro' (marks rs) tmps (.code (.rangeFunc f params assign body) :: k)) cs w) (lone (fat fn ro' (marks rs1) tmps (.endRangeFunc l :: k)) cs w2):=by
          rcases hnx with ⟨g,as,rfl,hq⟩ | ⟨l',g,tt,as,bd,rfl,hq⟩
          · obtain ⟨v,w2,hR,hst⟩:=hq (fat fn ro' (marks rs1) tmps (.inRangeFunc l :: k)) cs
            rw [finish_inRangeFunc] at hst
            exact ⟨v,w2,hR,.head (hmk ▸ st_rangeFunc he hrun) hst⟩
          · obtain ⟨v,w2,hR,hst⟩:=hq (fat fn ro' (marks rs1) tmps (.inRangeFunc l :: k)) cs
            rw [finish_inRangeFunc] at hst
            exact ⟨v,w2,hR,.head (hmk ▸ st_rangeFunc' he hrun) hst⟩
         obtain ⟨v,w2,⟨M2,β2,-,hs2,g2⟩,st2⟩:=fin
         have hlive:β2 σ.n=.live ⟨l,0,0⟩:=by
          rcases Bt.le_live g2.le (Bt.new_same β σ.n ⟨l,0,0⟩) with e | e
          · exact e
          · have:=hs2.dead _ e; rw [hL] at this; cases this
         have hbr:=hs2.own _ _ hlive
         rw [hL] at hbr
         obtain ⟨lp,q1,q2,q3,q4,q5,q6,q7,q8⟩:=hbr
         have hnb:lp.state≠.busy:=fun e => by rw [e] at q7; cases hst:L.st <;> simp [hst,LState.of] at q7 hb
         have hend:=run_endLoop (P:=P) q1 hnb
         obtain ⟨hs3,g3⟩:=hs2.bury hlive (w':=w2.putObj l (.loop { lp with state:=.exhausted })) (fun j hj => World.putObj_heap_other hj) (Same.putObj (o:=.loop { lp with state:=.exhausted }) q1 (fun _ => rfl))
         have gall:Grow w M β σ hF T (w2.putObj l (.loop { lp with state:=.exhausted })) M2 (β2.kill σ.n) (σ2.set σ.n .dead) :=
          ((g1.trans (g2.weakenF hsB1)).trans (g3.weakenF hsB1)).re (fun j hj => by simp; omega)
         refine .pre (T₁:=T) (st2.trans (.one (st_endRangeFunc hend))) gall (Wrote.low lo W T) ?_
         have e3:(Option.map Item.code lp.pending).toList ++ k=(Option.map Item.code L.pending).toList ++ k:=by rw [q6]
         rw [e3]
         refine ih _ _ _ _ _ _ _ _ _ h ?_ c2 (by rw [St.n_set]; have:=a1.n; omega) _ M2 _ hF tmps rs1 cs ro' (hro.mono gall.le) h01 hd1 hr1 (ht.mono gall.mem gall.le) hs3
         cases hp:L.pending with
         | none => exact hk.2
         | some c => exact all_cons.2 ⟨(c1 _ L hL).2.2 c hp,hk.2⟩
     · cases h
   · cases h
 · split at h
   · rename_i l
     split at h
     · rename_i L hL
       split at h
       · rename_i hready
         cases ro' with
         | none => exact hro.elim
         | some b =>
          have:=h0 (by simp); subst this
          rcases hro with ⟨i,hk',rfl⟩ | hk'
          · have hb:=hs.own _ _ hk'
            rw [hL] at hb
            obtain ⟨lp,q1,q2,q3,q4,q5,q6,q7,q8⟩:=hb
            have hst:lp.state=.ready:=by rw [hready] at q7; cases e:lp.state <;> simp [e,LState.of] at q7 ⊢
            have hrun:=run_beginRound (P:=P) q1 hst
            have hlt:i.block < w.heap.size:=(Array.getElem?_eq_some_iff.1 q1).1
            have hother:∀ j,j≠i.block→(w.putObj i.block (.loop { lp with state:=.busy })).heap[j]?=w.heap[j]?:=fun j hj => World.putObj_heap_other hj
            have hs1:=hs.write hk' (.loop { L with st:=.busy }) hother ⟨_,World.putObj_heap_same hlt,q2,q3,q4,q5,q6,trivial,q8⟩
            have g1:Grow w M β σ (withMarks [] hF) [l] (w.putObj i.block (.loop { lp with state:=.busy })) M β (σ.set l (.loop { L with st:=.busy })):=Grow.write hs (Same.putObj (o:=.loop { lp with state:=.busy }) q1 (fun _ => rfl)) hk' _ hother
            refine .pre (T₁:=[l]) (.one (st_beginRound hrun)) (g1.weakenF (withMarks_le hr)) (Wrote.low lo W [l]) ?_
            exact ih _ _ _ _ _ _ _ _ _ h (all_cons.1 hk).2 (hl.set _ fun L' h' => by cases h'; exact hl l L hL) hlo _ M β hF tmps [] cs _ (.inl ⟨i,hk',rfl⟩) h0 hd hr ht hs1
          · have:=hs.dead _ hk'; rw [hL] at this; cases this
       · cases h
     · cases h
   · cases h
 · cases h
end Go.Am
namespace Go.Am
open Go
variable {P:Program} {fz:Nat→Md} {w w' w₁:World} {M M' M₁:Mem} {β β' β₁:Bt} {σ σ' σ₁:St} {hF hF':Nat→Option Obj} {tm tm':Tm}
theorem mkFn_some {f:Nat} {F:AFn} (h:(mkX P fz).fn f=some F):∃ fn b,P.funcs[f]?=some fn∧fn.body=some b∧codeOk b=true∧fn.name ≠ "runtime.NumGoroutine"∧F={ nt:=fn.ntmps,results:=fn.results.toList,body:=b }:=by
 simp only [mkX,mkFn] at h
 cases hf:P.funcs[f]? with
 | none => simp [hf] at h
 | some fn =>
  cases hb:fn.body with
  | none => simp [hf,hb] at h
  | some b =>
   simp only [hf,hb,Option.bind_some] at h
   split at h
   · rename_i hc
     simp only [Bool.and_eq_true,bne_iff_ne,ne_eq] at hc
     cases h; exact ⟨fn,b,rfl,hb,hc.1,hc.2,rfl⟩
   · cases h
theorem fn_codeOk (f:Nat) (F:AFn) (h:(mkX P fz).fn f=some F):codeOk F.body=true:=by
 obtain ⟨fn,b,_,_,h1,_,rfl⟩:=mkFn_some h; exact h1
def FzS:Prop :=
 ∀ (w w':World) (M M':Mem) (β β':Bt) (σ σ' σ'':St) (hF:Nat→Option Obj) (r a:A) (W T T0:List Nat) (v:Value) (z:Md),leaveCall z σ r σ' W=some (a,σ'',T)→VR M' β' r v→Sat w M β σ hF→Sat w' M' β' σ' hF →
  Grow w M β σ hF T0 w' M' β' σ'→(∀ k,k ∈ T0→k < σ.n→k ∈ W)→(∀ k,k ∈ W→k < σ.n∧β k≠.absent)→CallR a w M β σ hF T σ'' v w'
def OraCallS (P:Program) (fz:Nat→Md):Prop :=
 ∀ (f:Nat) (F:List A→Option A) (args:List A) (σ:St) (a:A) (σ':St) (T:List Nat),oraOf (fz f)=some F→oraCall F args σ=some (a,σ',T) →
  ∀ (w:World) (M:Mem) (β:Bt) (hF:Nat→Option Obj) (vs:List Value),VRL M β args vs→Sat w M β σ hF→Calls P f vs.toArray w fun e w' => ∃ v,e=.returned v∧CallR a w M β σ hF T σ' v w'
theorem call_step {n:Nat} (hz:FzS) (hO:OraCallS P fz) (ih:ExecS P fz n):CallS P fz (n+1):=by
 intro f args σ a σ'' T h hl w M β hF fv vs hfv hvs hs
 have hlen:=hvs.length
 cases f with
 | func f cap =>
  rw [callA] at h
  cases ho:oraOf ((mkX P fz).fz f) with
  | some F =>
   simp only [ho] at h
   split at h
   · rename_i hce
     simp only [Bool.and_eq_true,List.isEmpty_iff,Option.isSome_iff_exists] at hce
     obtain ⟨rfl,G,hG⟩:=hce
     obtain ⟨fn,b,h1,h2,h3,h4,rfl⟩:=mkFn_some hG
     obtain ⟨cvs,rfl,hcap⟩:=vr_func hfv
     cases hcap
     have hrun:(do let d ← Deferred.ofValue (.func (.func f) #[] #[]) vs.toArray; invoke d.target d.args:Sem Next).run P w=.ok (.enter f vs.toArray) w:=by
      simp [Deferred.ofValue,invoke,callFunc,h1,h2,h4,Sem.run_bind,Result.andThen]
     refine ⟨_,w,hrun,.inl ⟨f,_,rfl,fun fr cs => ?_⟩⟩
     obtain ⟨e,w',fr',⟨v,rfl,hR⟩,st,hfn,hlv⟩:=hO f F args σ a σ'' T ho h w M β hF vs hvs hs (fr :: cs)
     exact ⟨v,w',hR,st.trans (.one (step_leave_returned hlv))⟩
   · cases h
  | none =>
  simp only [ho] at h
  split at h
  · rename_i F hFn
    split at h
    · rename_i hnt
      split at h
      · rename_i tm1 σ1 W1 he
        split at h
        · rename_i l hres
          obtain ⟨fn,b,h1,h2,h3,h4,rfl⟩:=mkFn_some hFn
          obtain ⟨cvs,rfl,hcap⟩:=vr_func hfv
          have htr:TR M β fn.ntmps (initTm (args ++ cap) 0 .nil) ((vs ++ cvs).toArray ++ Array.replicate (fn.ntmps - (vs ++ cvs).toArray.size) undef) :=
           init_tr (hvs.append hcap) (by simpa using hnt)
          have r:=fun cs => ih _ _ _ _ _ _ _ _ _ he (all_cons.2 ⟨h3,rfl⟩) hl (Nat.le_refl _) w M β hF _ [] cs none trivial (fun _ => rfl) .nil (by intro r h; cases h) htr (withMarks_nil hF ▸ hs)
          have hrun:(do let d ← Deferred.ofValue (.func (.func f) #[] cvs.toArray) vs.toArray; invoke d.target d.args:Sem Next).run P w=.ok (.enter f (vs ++ cvs).toArray) w:=by
           simp [Deferred.ofValue,invoke,callFunc,h1,h2,h4,Sem.run_bind,Result.andThen]
          refine ⟨_,w,hrun,.inl ⟨f,_,rfl,fun fr cs => ?_⟩⟩
          obtain ⟨w',M',β',T0,hs',g,wr,hret,-⟩:=r (fr :: cs)
          obtain ⟨-,tmps',todo',st,tr⟩:=hret _ _ _ rfl
          obtain ⟨v,hv,hvr⟩:=results_sound (P:=P) hs' tr hres
          refine ⟨v,w',hz w w' M M' β β' σ σ1 σ'' hF _ a W1 T T0 v _ h hvr hs hs' g (fun k h1 h2 => (wr k).2 (.inr ⟨h1,h2⟩)) (fun k hk => ?_),?_⟩
          · rcases (wr k).1 hk with h | ⟨h1,h2⟩
            · cases h
            · exact ⟨h2,g.dom k h1 h2⟩
          · have henter:Frame.enter P f (vs ++ cvs).toArray .normal=fat f none (marks []) ((vs ++ cvs).toArray ++ Array.replicate (fn.ntmps - (vs ++ cvs).toArray.size) undef) [.code b]:=by
             simp [Frame.enter,fat,h1,h2,marks]
            rw [henter]
            refine st.trans (.one (step_leave_returned ⟨rfl,rfl,rfl,fn,h1,hv⟩))
        · cases h
      · cases h
    · cases h
  · cases h
 | yld k =>
  rw [callA] at h
  split at h
  · rename_i L hL
    split at h
    · rename_i hps
      split at h
      · rename_i j σ1 W1 he
        split at h
        · rename_i L' hL'
          have hlive:∃ i,β k=.live i∧fv=.func (.yield i.block) #[] #[]:=by
           cases hfv with
           | yld h => exact ⟨_,h,rfl⟩
           | yldX h _ => have:=hs.dead _ h; rw [hL] at this; cases this
          obtain ⟨i,hk,rfl⟩:=hlive
          have hbr:=hs.own _ _ hk
          rw [hL] at hbr
          obtain ⟨lp,q1,q2,q3,q4,q5,q6,q7,q8⟩:=hbr
          have o:=hl k L hL
          have htr0:TR M β L.nt L.tm lp.tmps:=q8.mono (Mem.le_refl M) (Bt.upto_le β k)
          have htr:=setParams_tr L.params.toList args vs L.tm lp.tmps hvs htr0 (fun p hp => by
           have:=hps.2
           rw [Array.all_eq_true_iff_forall_mem] at this
           simpa using this p (by simpa using hp))
          have r:=fun cs => ih _ _ _ _ _ _ _ _ _ he (all_cons.2 ⟨o.1,all_cons.2 ⟨rfl,all_cons.2 ⟨o.2.1,rfl⟩⟩⟩) hl (Nat.le_refl _) w M β hF _ [] cs (some i.block) (.inl ⟨i,hk,rfl⟩) (fun _ => rfl) .nil (by intro r h; cases h) htr (withMarks_nil hF ▸ hs)
          have hsz:vs.toArray.size=lp.params.size:=by rw [q3,← hps.1,hlen]; simp
          have hy:=run_yield (P:=P) q1 hsz
          have hfold:((lp.params.zip vs.toArray).foldl (fun tmps (t,a) => tmps.setIfInBounds t a) lp.tmps)=((L.params.toList.zip vs).foldl (fun tmps x => tmps.setIfInBounds x.1 x.2) lp.tmps):=by
           rw [q3,← Array.foldl_toList,Array.toList_zip]
          rw [hfold,q2,q4,q5] at hy
          have hrun:(do let d ← Deferred.ofValue (.func (.yield i.block) #[] #[]) vs.toArray; invoke d.target d.args:Sem Next).run P w =
           .ok (.round i.block L.fn ((L.params.toList.zip vs).foldl (fun tmps x => tmps.setIfInBounds x.1 x.2) lp.tmps) L.assign L.body) w:=by
           simp only [Deferred.ofValue,Sem.run_bind,Sem.run_pure,Result.andThen,invoke]
           simpa using hy
          refine ⟨_,w,hrun,.inr ⟨_,_,_,_,_,rfl,fun fr cs => ?_⟩⟩
          obtain ⟨w',M',β',T0,hs',g,wr,-,hlv⟩:=r (fr :: cs)
          obtain ⟨fr',st,hend⟩:=hlv _ _ _ rfl
          have hlive':β' k=.live i:=by
           rcases Bt.le_live g.le hk with e | e
           · exact e
           · have:=hs'.dead _ e; rw [show (Out.leave j σ1 W1).st=σ1 from rfl,hL'] at this; cases this
          have hbr':=hs'.own _ _ hlive'
          rw [show (Out.leave j σ1 W1).st=σ1 from rfl,hL'] at hbr'
          obtain ⟨lp',p1,p2,p3,p4,p5,p6,p7,p8⟩:=hbr'
          have hre:=run_endRound (P:=P) j p1
          have hlt:i.block < w'.heap.size:=(Array.getElem?_eq_some_iff.1 p1).1
          have hother:∀ b,b≠i.block→(w'.putObj i.block (.loop { lp' with state:=if j.isNone then .ready else .done,pending:=j })).heap[b]?=w'.heap[b]?:=fun b hb => World.putObj_heap_other hb
          have hs2:=hs'.write hlive' (.loop { L' with st:=if j.isNone then .ready else .over,pending:=j }) hother ⟨_,World.putObj_heap_same hlt,p2,p3,p4,p5,rfl,by
           cases j <;> trivial,p8⟩
          have g2:Grow w' M' β' σ1 hF [k] _ M' β' (σ1.set k (.loop { L' with st:=if j.isNone then .ready else .over,pending:=j })):=Grow.write hs' (Same.putObj (o:=.loop { lp' with state:=if j.isNone then .ready else .done,pending:=j }) p1 (fun _ => rfl)) hlive' _ hother
          refine ⟨.bool j.isNone,_,hz w _ M M' β β' σ _ σ'' hF _ a _ T (T0 ++ [k]) _ .keep h (.d (.bool _)) hs hs2 (g.trans g2) (fun x hx hn => ?_) (fun x hx => ?_),?_⟩
          · rcases List.mem_append.1 hx with hx | hx
            · exact List.mem_append.2 (.inl ((wr x).2 (.inr ⟨hx,hn⟩)))
            · exact List.mem_append.2 (.inr hx)
          · rcases List.mem_append.1 hx with hx | hx
            · rcases (wr x).1 hx with h | ⟨h1,h2⟩
              · cases h
              · exact ⟨h2,g.dom x h1 h2⟩
            · simp only [List.mem_singleton] at hx; subst hx
              exact ⟨hs.known hk,by rw [hk]; intro h; cases h⟩
          · exact st.trans (.one (hend i.block rfl _ _ fr cs rfl hre))
        · cases h
      · cases h
    · cases h
  · cases h
 | _ => rw [callA] at h <;> simp_all
theorem sound_all (hz:FzS) (hO:OraCallS P fz) (hm:P.follows .mixedOrders=true) (hD:∀ n,CallS P fz n→DrawS P fz n):∀ n,CallS P fz n∧ExecS P fz n:=by
 intro n
 induction n with
 | zero =>
  refine ⟨fun f args σ a σ' T h => by simp [callA] at h,fun fn nt ro lo todo tm σ W o h => by rw [exec.eq_def] at h; cases h⟩
 | succ n ih => exact ⟨call_step hz hO ih.2,exec_step fn_codeOk hm ih.1 (hD n ih.1) ih.2⟩
end Go.Am

/- Part S1 of a proof that runs a program's calls on a small machine whose values bear no addresses: no conditions. -/
import Derived.Test.YtfhoagkadjinlaaAmA1
import Derived.Attr
set_option autoImplicit false
set_option linter.unusedSimpArgs false
set_option linter.unusedVariables false
set_option linter.unusedSectionVars false
namespace Go.Am
open Go
section
variable {X:X} {fn nt:Nat} {ro:Option Nat} {lo:Nat} {k:List Item} {tm:Tm} {σ:St} {W:List Nat} {Q:Out→Prop}
theorem sx_loop {b:Code}:Ev X fn nt ro lo (.code (.loop b) :: k) tm σ W Q=Ev X fn nt ro lo (.inLoop b :: k) tm σ W Q:=by
 have h:∀ n,exec X n fn nt ro lo (.code (.loop b) :: k) tm σ W=exec X n fn nt ro lo (.inLoop b :: k) tm σ W:=fun n => by cases n <;> (rw [exec.eq_def,exec.eq_def])
 unfold Ev; simp only [h]
theorem sx_beginRound {l:Nat}:Ev X fn nt (some l) lo (.beginRound :: k) tm σ W Q =
 match σ.get l with
 | .loop L => if L.st=.ready then Ev X fn nt (some l) lo k tm (σ.set l (.loop { L with st:=.busy })) (W ++ low lo [l]) Q else False
 | _ => False:=by
 cases h:σ.get l with
 | loop L =>
  dsimp only
  by_cases hr:L.st=.ready
  · rw [if_pos hr]; exact Ev_iff fun _ => by rw [exec.eq_def]; simp only [h,hr,if_true]
  · rw [if_neg hr]
    exact propext ⟨fun ⟨n,o,hn,_⟩ => by (cases n <;> (rw [exec.eq_def] at hn; simp [h,hr] at hn)),False.elim⟩
 | _ => exact propext ⟨fun ⟨n,o,hn,_⟩ => by (cases n <;> (rw [exec.eq_def] at hn; simp [h] at hn)),False.elim⟩
def brK (X:Am.X) (fn nt l lo:Nat) (k:List Item) (tm:Tm) (σ:St) (W:List Nat) (Q:Out→Prop):Blk→Prop
 | .loop L => if L.st=.ready then Ev X fn nt (some l) lo k tm (σ.set l (.loop { L with st:=.busy })) (W ++ low lo [l]) Q else False
 | _ => False
theorem sx_begin {l:Nat}:Ev X fn nt (some l) lo (.beginRound :: k) tm σ W Q=brK X fn nt l lo k tm σ W Q (σ.get l):=by
 rw [sx_beginRound]; unfold brK; cases σ.get l <;> rfl
theorem brK_loop {l:Nat} {L:ALoop}:brK X fn nt l lo k tm σ W Q (.loop L)=if L.st=.ready then Ev X fn nt (some l) lo k tm (σ.set l (.loop { L with st:=.busy })) (W ++ low lo [l]) Q else False:=rfl
theorem Ev.loop_ind {b:Code} (Inv:Nat→Tm→St→List Nat→Prop)
 (step:∀ m tm σ W,Inv m tm σ W→(∀ m' tm' σ' W',m' < m→Inv m' tm' σ' W'→Ev X fn nt ro lo (.inLoop b :: k) tm' σ' W' Q)→Ev X fn nt ro lo (.code b :: .inLoop b :: k) tm σ W Q) :
 ∀ m tm σ W,Inv m tm σ W→Ev X fn nt ro lo (.inLoop b :: k) tm σ W Q:=by
 intro m
 induction m using Nat.strongRecOn with
 | ind m ih => exact fun tm σ W h => Ev.inLoop (step m tm σ W h fun m' tm' σ' W' hlt h' => ih m' hlt tm' σ' W' h')
theorem CallsTo.yld {l:Nat} {args:List A} {L:ALoop} {r:A} {σ':St} {W':List Nat} (hL:σ.get l=.loop L) (hl:args.length=L.params.size∧L.params.all (· < L.nt)=true)
 (e:Ev X L.fn L.nt (some l) σ.n [.code L.assign,.beginRound,.code L.body] (setParams L.params.toList args L.tm) σ [] fun o =>
  ∃ jump σ1 W1 L',o=.leave jump σ1 W1∧σ1.get l=.loop L'∧r=.d (.bool jump.isNone)∧σ'=σ1.set l (.loop { L' with st:=if jump.isNone then .ready else .over,pending:=jump })∧W'=W1 ++ [l]) :
 CallsTo X (.yld l) args σ r σ' W':=by
 obtain ⟨n,o,hn,jump,σ1,W1,L',rfl,h1,rfl,rfl,rfl⟩:=e
 exact ⟨n+1,by rw [callA]; simp only [hL,hl,and_self,if_true,hn,h1,leaveCall]⟩
end
theorem low_cons_ge {lo k:Nat} {T:List Nat} (h:lo≤k):low lo (k :: T)=low lo T:=by simp [low,Nat.not_lt.2 h]
theorem low_cons_lt {lo k:Nat} {T:List Nat} (h:k < lo):low lo (k :: T)=k :: low lo T:=by simp [low,h]
theorem low_all {lo:Nat} {T:List Nat} (h:∀ k ∈ T,lo≤k):low lo T=[]:=by
 simp only [low,List.filter_eq_nil_iff,decide_eq_true_eq]; intro k hk; have:=h k hk; omega
theorem St.get_push_ne {σ:St} {b:Blk} {j:Nat} (h:j < σ.n):(σ.push b).get j=σ.get j:=by rw [St.get_push,if_neg (by omega)]
theorem St.get_push_eq {σ:St} {b:Blk}:(σ.push b).get σ.n=b:=by rw [St.get_push,if_pos rfl]
theorem St.get_push_eq' {σ:St} {b:Blk} {k:Nat} (h:k=σ.n):(σ.push b).get k=b:=by subst h; exact St.get_push_eq
theorem St.get_set_ne {σ:St} {b:Blk} {k j:Nat} (h:j≠k):(σ.set k b).get j=σ.get j:=by rw [St.get_set,if_neg h]
theorem St.get_set_eq {σ:St} {b:Blk} {k:Nat}:(σ.set k b).get k=b:=by rw [St.get_set,if_pos rfl]
structure Kept (σ:St) (own:List Nat) (σ':St) (own' W:List Nat):Prop where
 n:σ.n≤σ'.n
 same:∀ k,k < σ.n→k ∉ own→σ'.get k=σ.get k
 w:∀ k,k ∈ W→k ∈ own∨σ.n≤k
 o:∀ k,k ∈ own'→k ∈ own∨σ.n≤k
section
variable {σ σ1 σ2:St} {own own1 own2 W T:List Nat} {b:Blk} {k:Nat}
theorem Kept.refl:Kept σ own σ own []:=⟨Nat.le_refl _,fun _ _ _ => rfl,(fun _ h => by cases h),fun _ h => .inl h⟩
theorem Kept.push (h:Kept σ own σ1 own1 W):Kept σ own (σ1.push b) own1 W :=
 ⟨by have:=h.n; rw [St.n_push]; omega,fun k h1 h2 => by have:=h.n; rw [St.get_push_ne (by omega)]; exact h.same k h1 h2,h.w,h.o⟩
theorem Kept.set (h:Kept σ own σ1 own1 W) (hk:k ∈ own∨σ.n≤k):Kept σ own (σ1.set k b) own1 W :=
 ⟨h.n,fun j h1 h2 => by rw [St.get_set_ne (by rintro rfl; rcases hk with hk | hk; exact h2 hk; omega)]; exact h.same j h1 h2,h.w,h.o⟩
theorem Kept.write (h:Kept σ own σ1 own1 W) (hk:k ∈ own∨σ.n≤k):Kept σ own (σ1.set k b) own1 (W ++ low σ.n [k]) :=
 ⟨(h.set (b:=b) hk).n,(h.set (b:=b) hk).same,fun j hj => by
  rcases List.mem_append.1 hj with hj | hj
  · exact h.w j hj
  · simp only [low,List.mem_filter,List.mem_singleton] at hj; rw [hj.1]; exact hk,h.o⟩
theorem Kept.call (h:Kept σ own σ1 own1 W) (g:Kept σ1 own1 σ2 own2 T):Kept σ own σ2 own2 (W ++ low σ.n T) where
 n:=Nat.le_trans h.n g.n
 same:=fun k h1 h2 => by
  rw [g.same k (Nat.lt_of_lt_of_le h1 h.n) (fun hk => by rcases h.o k hk with hk | hk; exact h2 hk; omega)]; exact h.same k h1 h2
 w:=fun k hk => by
  rcases List.mem_append.1 hk with hk | hk
  · exact h.w k hk
  · simp only [low,List.mem_filter,decide_eq_true_eq] at hk
    rcases g.w k hk.1 with h' | h'
    · exact h.o k h'
    · have:=h.n; omega
 o:=fun k hk => by
  rcases g.o k hk with h' | h'
  · exact h.o k h'
  · have:=h.n; exact .inr (by omega)
theorem Kept.owns (h:Kept σ own σ1 own1 W) (hs:∀ k,k ∈ own2→k ∈ own∨σ.n≤k):Kept σ own σ1 own2 W:=⟨h.n,h.same,h.w,hs⟩
end
def Run (X:X) (f:A) (args:List A) (σ:St) (own:List Nat) (r:A) (P:St→List Nat→Prop):Prop :=
 ∃ σ' T own',CallsTo X f args σ r σ' T∧Kept σ own σ' own' T∧P σ' own'
def YQ (K:Option Code→St→List Nat→Prop):Out→Prop
 | .leave j σ W => K j σ W
 | .ret _ _ _ => False
theorem yq_leave {K:Option Code→St→List Nat→Prop} {j:Option Code} {σ:St} {W:List Nat}:YQ K (.leave j σ W)=K j σ W:=rfl
theorem Run.yld {X:X} {σ:St} {l:Nat} {args:List A} {L:ALoop} {r:A} {own:List Nat} {P:St→List Nat→Prop} (hL:σ.get l=.loop L) (hl:args.length=L.params.size∧L.params.all (· < L.nt)=true)
 (e:Ev X L.fn L.nt (some l) σ.n [.code L.assign,.beginRound,.code L.body] (setParams L.params.toList args L.tm) σ [] (YQ fun jump σ1 W1 => ∃ L',σ1.get l=.loop L'∧r=.d (.bool jump.isNone) ∧
  ∃ own',Kept σ own (σ1.set l (.loop { L' with st:=if jump.isNone then .ready else .over,pending:=jump })) own' (W1 ++ [l])∧P (σ1.set l (.loop { L' with st:=if jump.isNone then .ready else .over,pending:=jump })) own')) :
 Run X (.yld l) args σ own r P:=by
 obtain ⟨n,o,hn,hq⟩:=e
 cases o with
 | ret _ _ _ => exact hq.elim
 | leave j σ1 W1 =>
  obtain ⟨L',h1,rfl,own',h2,h3⟩:=hq
  exact ⟨_,_,own',CallsTo.yld hL hl ⟨n,_,hn,j,σ1,W1,L',rfl,h1,rfl,rfl,rfl⟩,h2,h3⟩
def RetQ (X:X) (rs:List ResultVar) (K:A→St→List Nat→Prop):Out→Prop
 | .ret tm σ W => match results X tm σ rs with
  | some l => K (tupOf l) σ W
  | none => False
 | .leave _ _ _ => False
section
variable {X:X} {f:Nat} {cap args:List A} {F:AFn} {r:A} {σ σ':St} {W':List Nat}
theorem CallsTo.ofQ (hF:X.fn f=some F) (hl:args.length+cap.length≤F.nt)
 (e:Ev X f F.nt none σ.n [.code F.body] (initTm (args ++ cap) 0 .nil) σ [] (RetQ X F.results fun a σ1 W1 => leaveCall (X.fz f) σ a σ1 W1=some (r,σ',W'))):CallsTo X (.func f cap) args σ r σ' W':=by
 refine CallsTo.of hF hl ?_
 obtain ⟨n,o,hn,hq⟩:=e
 refine ⟨n,o,hn,?_⟩
 cases o with
 | leave _ _ _ => exact hq.elim
 | ret tm σ1 W1 =>
  unfold RetQ at hq
  dsimp only at hq
  split at hq
  · rename_i l hl; exact ⟨_,_,_,_,rfl,hl,hq⟩
  · exact hq.elim
theorem CallsTo.cut0 (hz:X.fz f=.cut) (hF:X.fn f=some F) (hl:args.length+cap.length≤F.nt) (hr:r.under σ.n=true)
 (e:Ev X f F.nt none σ.n [.code F.body] (initTm (args ++ cap) 0 .nil) σ [] (RetQ X F.results fun a _ W1 => a=r∧W1=[])):CallsTo X (.func f cap) args σ r σ []:=by
 refine CallsTo.ofQ hF hl ?_
 obtain ⟨n,o,hn,hq⟩:=e
 refine ⟨n,o,hn,?_⟩
 cases o with
 | leave _ _ _ => exact hq.elim
 | ret tm σ1 W1 =>
  unfold RetQ at hq ⊢
  dsimp only at hq ⊢
  split at hq
  · obtain ⟨rfl,rfl⟩:=hq
    simp [leaveCall,hz,hr,cutSt]
  · exact hq.elim
theorem CallsTo.ice0 (hz:X.fz f=.ice) (hF:X.fn f=some F) (hl:args.length+cap.length≤F.nt)
 (e:Ev X f F.nt none σ.n [.code F.body] (initTm (args ++ cap) 0 .nil) σ [] (RetQ X F.results fun a σ1 W1 => freezeV σ1 σ.n fzDepth a=some r∧W1=[])):CallsTo X (.func f cap) args σ r σ []:=by
 refine CallsTo.ofQ hF hl ?_
 obtain ⟨n,o,hn,hq⟩:=e
 refine ⟨n,o,hn,?_⟩
 cases o with
 | leave _ _ _ => exact hq.elim
 | ret tm σ1 W1 =>
  unfold RetQ at hq ⊢
  dsimp only at hq ⊢
  split at hq
  · obtain ⟨h,rfl⟩:=hq
    simp [leaveCall,hz,h,cutSt]
  · exact hq.elim
theorem Run.keep {own:List Nat} {P:St→List Nat→Prop} (hz:X.fz f=.keep) (hF:X.fn f=some F) (hl:args.length+cap.length≤F.nt)
 (e:Ev X f F.nt none σ.n [.code F.body] (initTm (args ++ cap) 0 .nil) σ [] (RetQ X F.results fun a σ1 W1 => a=r∧∃ own',Kept σ own σ1 own' W1∧P σ1 own')):Run X (.func f cap) args σ own r P:=by
 obtain ⟨n,o,hn,hq⟩:=e
 cases o with
 | leave _ _ _ => exact hq.elim
 | ret tm σ1 W1 =>
  unfold RetQ at hq
  dsimp only at hq
  split at hq
  · rename_i l hl'
    obtain ⟨rfl,own',h4,h5⟩:=hq
    exact ⟨σ1,W1,own',CallsTo.ofQ hF hl ⟨n,_,hn,by unfold RetQ; dsimp only; rw [hl']; simp [leaveCall,hz]⟩,h4,h5⟩
  · exact hq.elim
end
end Go.Am
namespace Go.Am
open Go
section
variable (X:X) (ops:Array Oper) (draw:Bool) (rest:List Oper) (i:Nat) (log:List Log) (fn nt:Nat) (ro:Option Nat) (lo:Nat) (k:List Item) (tm:Tm) (W:List Nat) (Q:Out→Prop) (dst:Option Nat)
def OpK:OpR→Prop
 | .val a σ' T R => match putTm nt tm dst a with
  | some tm' => EvO X ops draw rest (i+1) (log ++ [⟨i,T,R⟩]) fn nt ro lo k tm' σ' (W ++ low lo T) Q
  | none => False
 | .call f args => False∨∃ σ,False∧CallsTo X f args σ f σ []
 | .bad => False
def CallK (σ:St) (f:A) (args:List A):Prop:=∃ a σ' T,CallsTo X f args σ a σ' T∧match putTm nt tm dst a with
 | some tm' => EvO X ops draw rest (i+1) (log ++ [⟨i,T,[]⟩]) fn nt ro lo k tm' σ' (W ++ low lo T) Q
 | none => False
def PassK (σ:St):Prop:=match putTm nt tm dst (.tup []) with
 | some tm' => EvO X ops draw rest (i+1) log fn nt ro lo k tm' σ W Q
 | none => False
end
def guardV (ops:Array Oper) (tm:Tm) (j:Nat):Option (Option Bool):=match (ops[j]?).bind (·.dst) with
 | some t => match tm.at t with
  | .d (.bool b) => some (some b)
  | .tup [] => some none
  | _ => none
 | none => none
def GK (g:Option (Option Bool)) (want:Bool) (p q:Prop):Prop:=match g with
 | some (some b) => if b == want then p else q
 | some none => q
 | none => False
section
variable {X:X} {ops:Array Oper} {draw:Bool} {rest:List Oper} {i:Nat} {log:List Log} {fn nt:Nat} {ro:Option Nat} {lo:Nat} {k:List Item} {tm:Tm} {σ:St} {W:List Nat} {Q:Out→Prop} {dst:Option Nat}
 {d ty:Nat} {pos:String} {after:Array Edge} {g:Option (Nat × Bool)}
theorem OpK_some {a:A} {T R:List Nat}:OpK X ops draw rest i log fn nt ro lo k tm W Q (some d) (.val a σ T R) =
 if d < nt then EvO X ops draw rest (i+1) (log ++ [⟨i,T,R⟩]) fn nt ro lo k (FT.set tm d a) σ (W ++ low lo T) Q else False:=by
 unfold OpK putTm; by_cases h:d < nt <;> simp [h]
theorem OpK_none {a:A} {T R:List Nat}:OpK X ops draw rest i log fn nt ro lo k tm W Q none (.val a σ T R) =
 EvO X ops draw rest (i+1) (log ++ [⟨i,T,R⟩]) fn nt ro lo k tm σ (W ++ low lo T) Q:=rfl
theorem OpK_bad:OpK X ops draw rest i log fn nt ro lo k tm W Q dst .bad=False:=rfl
theorem PassK_some:PassK X ops draw rest i log fn nt ro lo k tm W Q (some d) σ =
 if d < nt then EvO X ops draw rest (i+1) log fn nt ro lo k (FT.set tm d (.tup [])) σ W Q else False:=by
 unfold PassK putTm; by_cases h:d < nt <;> simp [h]
theorem PassK_none:PassK X ops draw rest i log fn nt ro lo k tm W Q none σ=EvO X ops draw rest (i+1) log fn nt ro lo k tm σ W Q:=rfl
theorem CallK_some {f:A} {args:List A}:CallK X ops draw rest i log fn nt ro lo k tm W Q (some d) σ f args =
 ∃ a σ' T,CallsTo X f args σ a σ' T∧if d < nt then EvO X ops draw rest (i+1) (log ++ [⟨i,T,[]⟩]) fn nt ro lo k (FT.set tm d a) σ' (W ++ low lo T) Q else False:=by
 unfold CallK putTm; by_cases h:d < nt <;> simp [h]
theorem CallK_none {f:A} {args:List A}:CallK X ops draw rest i log fn nt ro lo k tm W Q none σ f args =
 ∃ a σ' T,CallsTo X f args σ a σ' T∧EvO X ops draw rest (i+1) (log ++ [⟨i,T,[]⟩]) fn nt ro lo k tm σ' (W ++ low lo T) Q:=rfl
def plain:Op→Bool
 | .call c => match c.callee with
  | .value _ => false
  | _ => true
 | _ => true
theorem plain_val {o:Oper} (h:plain o.op=true) (f:A) (args:List A):evalOp X tm σ o≠.call f args:=by
 intro he
 have key:∃ c g,o.op=.call c∧c.callee=.value g:=by
  unfold evalOp at he
  split at he <;> (try (first | (cases he; done) | (unfold OpR.of at he; split at he <;> cases he; done)))
  all_goals (try (repeat' (first | (split at he) | (cases he; done) | (unfold OpR.of at he; split at he <;> cases he; done))))
  all_goals (try (cases he; done))
  all_goals (try (unfold appendA at he; (repeat' split at he) <;> cases he; done))
  all_goals (try (unfold growA at he; (repeat' split at he) <;> cases he; done))
  all_goals (try (unfold copyA at he; dsimp only at he; (repeat' split at he) <;> cases he; done))
  all_goals (try (exact ⟨_,_,‹_›,‹_›⟩))
 obtain ⟨c,g,h1,h2⟩:=key
 rw [h1] at h; simp [plain,h2] at h
theorem sx_o {op:Op} (h:plain op=true):EvO X ops draw (⟨dst,op,ty,pos,after,none⟩ :: rest) i log fn nt ro lo k tm σ W Q =
 OpK X ops draw rest i log fn nt ro lo k tm W Q dst (evalOp X tm σ ⟨dst,op,ty,pos,after,none⟩):=by
 rw [sx_op,if_pos (by rfl),if_pos (by rfl)]
 have:=plain_val (X:=X) (tm:=tm) (σ:=σ) (o:=⟨dst,op,ty,pos,after,none⟩) h
 cases he:evalOp X tm σ ⟨dst,op,ty,pos,after,none⟩ with
 | val a σ' T R => rfl
 | call f args => exact absurd he (this _ _)
 | bad => rfl
theorem guard_eq {o:Oper} {j:Nat} {want:Bool} (h:o.guard=some (j,want)):guardOk ops tm o=(guardV ops tm j).isSome∧wantedA ops tm o=(guardV ops tm j == some (some want)):=by
 unfold guardOk wantedA guardV
 rw [h]; dsimp only
 cases (ops[j]?).bind (·.dst) with
 | none => exact ⟨rfl,rfl⟩
 | some t =>
  dsimp only
  cases tm.at t with
  | d x => cases x <;> first | exact ⟨rfl,rfl⟩ | (rename_i b; exact ⟨rfl,by cases b <;> cases want <;> rfl⟩)
  | tup l => cases l <;> exact ⟨rfl,rfl⟩
  | _ => exact ⟨rfl,rfl⟩
theorem gk_eq {o:Oper} {j:Nat} {want:Bool} (h:o.guard=some (j,want)) {p q:Prop}:(if guardOk ops tm o=true then (if wantedA ops tm o=true then p else q) else False)=GK (guardV ops tm j) want p q:=by
 obtain ⟨h1,h2⟩:=guard_eq (ops:=ops) (tm:=tm) h
 rw [h1,h2]
 cases guardV ops tm j with
 | none => simp [GK]
 | some c => cases c with
  | none => simp [GK]
  | some b => cases b <;> cases want <;> simp [GK]
theorem sx_og {op:Op} {j:Nat} {want:Bool} (h:plain op=true):EvO X ops draw (⟨dst,op,ty,pos,after,some (j,want)⟩ :: rest) i log fn nt ro lo k tm σ W Q =
 GK (guardV ops tm j) want (OpK X ops draw rest i log fn nt ro lo k tm W Q dst (evalOp X tm σ ⟨dst,op,ty,pos,after,some (j,want)⟩))
  (PassK X ops draw rest i log fn nt ro lo k tm W Q dst σ):=by
 rw [sx_op,gk_eq rfl]
 congr 1
 have:=plain_val (X:=X) (tm:=tm) (σ:=σ) (o:=⟨dst,op,ty,pos,after,some (j,want)⟩) h
 cases he:evalOp X tm σ ⟨dst,op,ty,pos,after,some (j,want)⟩ with
 | val a σ' T R => rfl
 | call f args => exact absurd he (this _ _)
 | bad => rfl
theorem sx_c {f:Operand} {as:Array Operand} {ts:Array Nat}:EvO X ops draw (⟨dst,.call ⟨.value f,as,ts⟩,ty,pos,after,none⟩ :: rest) i log fn nt ro lo k tm σ W Q =
 CallK X ops draw rest i log fn nt ro lo k tm W Q dst σ (ev tm f) (as.toList.map (ev tm)):=by
 rw [sx_op,if_pos (by rfl),if_pos (by rfl)]; rfl
theorem sx_cg {f:Operand} {as:Array Operand} {ts:Array Nat} {j:Nat} {want:Bool}:EvO X ops draw (⟨dst,.call ⟨.value f,as,ts⟩,ty,pos,after,some (j,want)⟩ :: rest) i log fn nt ro lo k tm σ W Q =
 GK (guardV ops tm j) want (CallK X ops draw rest i log fn nt ro lo k tm W Q dst σ (ev tm f) (as.toList.map (ev tm)))
  (PassK X ops draw rest i log fn nt ro lo k tm W Q dst σ):=by
 rw [sx_op,gk_eq rfl]; rfl
theorem gk_ite {g:Option (Option Bool)} {want:Bool} {p q:Prop}:GK g want p q=if g=some (some want) then p else if g=some (some (!want)) then q else if g=some none then q else False:=by
 cases g with
 | none => simp [GK]
 | some c => cases c with
  | none => simp [GK]
  | some b => cases b <;> cases want <;> simp [GK]
variable {o:Oper}
theorem ev_tmp {t:Nat}:ev tm (.tmp t)=tm.at t:=rfl
theorem ev_const {v:Value}:ev tm (.const v)=ofV v:=rfl
theorem ev_func {f:Nat}:ev tm (.func f)=.func f []:=rfl
theorem o_move {x:Operand}:evalOp X tm σ ⟨dst,.move x,ty,pos,after,g⟩=.val (ev tm x) σ [] []:=rfl
theorem o_assign {x:Operand}:evalOp X tm σ ⟨dst,.assign x,ty,pos,after,g⟩=.val (ev tm x) σ [] []:=rfl
def pickK (σ:St):A→A→A→OpR
 | .d (.bool t),a,b => .val (if t then a else b) σ [] []
 | _,_,_ => .bad
theorem o_pick {c a b:Operand}:evalOp X tm σ ⟨dst,.pick c a b,ty,pos,after,g⟩=pickK σ (ev tm c) (ev tm a) (ev tm b):=by
 unfold evalOp pickK; dsimp only
 cases ev tm c with
 | d x => cases x <;> rfl
 | _ => rfl
theorem pickK_t {t:Bool} {a b:A}:pickK σ (.d (.bool t)) a b=.val (if t then a else b) σ [] []:=rfl
def allocK (σ:St):Option TI→OpR
 | some { zero:=some z,.. } => .val (.ptr σ.n 0) (σ.push (.cells z)) [] []
 | _ => .bad
theorem o_alloc {t:Nat}:evalOp X tm σ ⟨dst,.alloc t,ty,pos,after,g⟩=allocK σ (X.ti t):=by
 unfold evalOp; dsimp only
 cases X.ti t with
 | none => rfl
 | some i => obtain ⟨_,_,_,z,_⟩:=i; cases z <;> rfl
theorem allocK_some {kd:TK} {s b:Nat} {z:List A} {zv:A}:allocK σ (some ⟨kd,s,b,some z,zv⟩)=.val (.ptr σ.n 0) (σ.push (.cells z)) [] []:=rfl
def boxK (σ:St):Option (List A)→OpR
 | some cs => .val (.ptr σ.n 0) (σ.push (.cells cs)) [] []
 | none => .bad
theorem o_box {t:Nat} {x:Operand}:evalOp X tm σ ⟨dst,.box t x,ty,pos,after,g⟩=boxK σ (ev tm x).cells:=by
 unfold evalOp boxK; dsimp only; cases (ev tm x).cells <;> rfl
theorem boxK_some {cs:List A}:boxK σ (some cs)=.val (.ptr σ.n 0) (σ.push (.cells cs)) [] []:=rfl
theorem cells_agg {cs:List A}:A.cells (.agg cs)=some cs:=rfl
theorem cells_d {x:D}:A.cells (.d x)=some [.d x]:=rfl
theorem cells_ptr {a b:Nat}:A.cells (.ptr a b)=some [.ptr a b]:=rfl
theorem cells_row {a b c e:Nat}:A.cells (.row a b c e)=some [.row a b c e]:=rfl
theorem cells_map {a:Nat}:A.cells (.map a)=some [.map a]:=rfl
theorem cells_func {a:Nat} {l:List A}:A.cells (.func a l)=some [.func a l]:=rfl
theorem cells_yld {a:Nat}:A.cells (.yld a)=some [.yld a]:=rfl
def loadV (σ:St) (R:List Nat):Option A→OpR
 | some a => .val a σ [] R
 | none => .bad
def loadB (σ:St) (agg:Bool) (size k off:Nat):Blk→OpR
 | .cells cs => loadV σ [k] (partOf agg size cs off)
 | _ => .bad
def loadK (σ:St):Option TI→A→OpR
 | some i,.ptr k off => loadB σ i.kind.agg i.size k off (σ.get k)
 | some i,.d (.vptr cs off) => loadV σ [] (partOf i.kind.agg i.size (cs.map A.d) off)
 | _,_ => .bad
theorem o_load {t:Nat} {x:Operand}:evalOp X tm σ ⟨dst,.load t x,ty,pos,after,g⟩=loadK σ (X.ti t) (ev tm x):=by
 unfold evalOp; dsimp only
 cases X.ti t with
 | none => rfl
 | some i =>
  dsimp only [loadK]
  unfold loadA
  cases ev tm x with
  | ptr k off =>
   dsimp only [loadB]
   cases σ.get k with
   | cells cs => dsimp only [TI.agg]; cases partOf i.kind.agg i.size cs off <;> rfl
   | _ => rfl
  | d x =>
   cases x with
   | vptr cs off => dsimp only [TI.agg]; cases partOf i.kind.agg i.size (cs.map A.d) off <;> rfl
   | _ => rfl
  | _ => rfl
theorem loadK_ptr {kd:TK} {s b k off:Nat} {z:Option (List A)} {zv:A}:loadK σ (some ⟨kd,s,b,z,zv⟩) (.ptr k off)=loadB σ kd.agg s k off (σ.get k):=rfl
theorem loadK_vptr {kd:TK} {s b off:Nat} {cs:List D} {z:Option (List A)} {zv:A}:loadK σ (some ⟨kd,s,b,z,zv⟩) (.d (.vptr cs off))=loadV σ [] (partOf kd.agg s (cs.map A.d) off):=rfl
theorem loadB_cells {agg:Bool} {s k off:Nat} {cs:List A}:loadB σ agg s k off (.cells cs)=loadV σ [k] (partOf agg s cs off):=rfl
theorem loadV_some {R:List Nat} {a:A}:loadV σ R (some a)=.val a σ [] R:=rfl
theorem partOf_t {s off:Nat} {cs:List A}:partOf true s cs off=if off+s≤cs.length then some (.agg ((cs.drop off).take s)) else none:=rfl
theorem partOf_f {s off:Nat} {cs:List A}:partOf false s cs off=cs[off]?:=rfl
theorem partOf_all {s:Nat} {cs:List A} (h:cs.length=s):partOf true s cs 0=some (.agg cs):=by subst h; simp [partOf]
theorem agg_struct {fs:List (Nat × Nat × Nat)}:TK.agg (.struct fs)=true:=rfl
theorem agg_arr {a b c:Nat}:TK.agg (.arr a b c)=true:=rfl
theorem agg_bool:TK.agg .bool=false:=rfl
theorem agg_int {kd:IntKind}:TK.agg (.int kd)=false:=rfl
theorem agg_str:TK.agg .str=false:=rfl
theorem agg_slc {e:Nat}:TK.agg (.slc e)=false:=rfl
theorem agg_ptr {e:Nat}:TK.agg (.ptr e)=false:=rfl
theorem agg_map {a e:Nat}:TK.agg (.map a e)=false:=rfl
theorem agg_func:TK.agg .func=false:=rfl
theorem agg_other:TK.agg .other=false:=rfl
def storeV (σ:St) (k:Nat):Option (List A)→OpR
 | some cs => .val .top (σ.set k (.cells cs)) [k] []
 | none => .bad
def storeC (size off:Nat) (vs cs:List A):Option (List A):=if vs.length=size∧off+vs.length≤cs.length∧vs.all A.isCell=true then some (putAt cs off vs) else none
def storeB (σ:St) (size k off:Nat) (vs:List A):Blk→OpR
 | .cells cs => storeV σ k (storeC size off vs cs)
 | _ => .bad
def storeK (σ:St):Option TI→A→Option (List A)→OpR
 | some i,.ptr k off,some vs => storeB σ i.size k off vs (σ.get k)
 | _,_,_ => .bad
theorem o_store {t:Nat} {x v:Operand}:evalOp X tm σ ⟨dst,.store t x v,ty,pos,after,g⟩=storeK σ (X.ti t) (ev tm x) (ev tm v).cells:=by
 unfold evalOp; dsimp only
 cases X.ti t with
 | none => rfl
 | some i =>
  dsimp only [storeK]
  unfold storeA
  cases ev tm x with
  | ptr k off =>
   cases (ev tm v).cells with
   | none => rfl
   | some vs =>
    dsimp only [storeB]
    cases σ.get k with
    | cells cs =>
     dsimp only [storeC]
     by_cases h:vs.length=i.size∧off+vs.length≤cs.length∧vs.all A.isCell=true
     · rw [if_pos h,if_pos h]; rfl
     · rw [if_neg h,if_neg h]; rfl
    | _ => rfl
  | d x => cases x <;> rfl
  | _ => rfl
theorem storeK_ptr {kd:TK} {s b k off:Nat} {z:Option (List A)} {zv:A} {vs:List A}:storeK σ (some ⟨kd,s,b,z,zv⟩) (.ptr k off) (some vs)=storeB σ s k off vs (σ.get k):=rfl
theorem storeB_cells {s k off:Nat} {vs cs:List A}:storeB σ s k off vs (.cells cs)=storeV σ k (storeC s off vs cs):=rfl
theorem storeV_some {k:Nat} {cs:List A}:storeV σ k (some cs)=.val .top (σ.set k (.cells cs)) [k] []:=rfl
theorem storeC_zero {s:Nat} {vs cs:List A}:storeC s 0 vs cs=if vs.length=s∧s≤cs.length∧vs.all A.isCell=true then some (vs ++ cs.drop s) else none:=by
 by_cases h:vs.length=s∧s≤cs.length∧vs.all A.isCell=true
 · obtain ⟨h1,h2,h3⟩:=h
   rw [if_pos ⟨h1,h2,h3⟩]
   subst h1
   unfold storeC; rw [if_pos ⟨rfl,by omega,h3⟩]
   have:∀ (vs cs pre:List A),vs.length≤cs.length→putAt (pre ++ cs) pre.length vs=pre ++ vs ++ cs.drop vs.length:=by
    intro vs
    induction vs with
    | nil => intro cs pre h; simp [putAt]
    | cons a r ih =>
     intro cs pre h
     cases cs with
     | nil => simp at h
     | cons c cr =>
      rw [putAt]
      have h1:(pre ++ c :: cr).set pre.length a=(pre ++ [a]) ++ cr:=by simp
      have h2:pre.length+1=(pre ++ [a]).length:=by simp
      rw [h1,h2,ih cr (pre ++ [a]) (by simpa using h)]; simp
   have:=this vs cs [] h2
   simpa using this
 · rw [if_neg h]; unfold storeC; rw [if_neg]; rintro ⟨h1,h2,h3⟩; exact h ⟨h1,by omega,h3⟩
theorem storeC_one {off:Nat} {v:A} {cs:List A}:storeC 1 off [v] cs=if off < cs.length∧v.isCell=true then some (cs.set off v) else none:=by
 unfold storeC; simp only [List.length_singleton,List.all_cons,List.all_nil,Bool.and_true,true_and,putAt,Nat.succ_le_iff,Nat.add_one_le_iff]
theorem isCell_d {x:D}:A.isCell (.d x)=true:=rfl
theorem isCell_ptr {a b:Nat}:A.isCell (.ptr a b)=true:=rfl
theorem isCell_row {a b c e:Nat}:A.isCell (.row a b c e)=true:=rfl
theorem isCell_map {a:Nat}:A.isCell (.map a)=true:=rfl
theorem isCell_func {a:Nat} {l:List A}:A.isCell (.func a l)=true:=rfl
theorem isCell_yld {a:Nat}:A.isCell (.yld a)=true:=rfl
theorem o_bin {op:BinOp} {t t':Nat} {x y:Operand}:evalOp X tm σ ⟨dst,.binOp op t x y t',ty,pos,after,g⟩=OpR.of σ ((ev tm x).refs ++ (ev tm y).refs) (binA X σ op t (ev tm x) (ev tm y)):=rfl
theorem opr_some {R:List Nat} {a:A}:OpR.of σ R (some a)=.val a σ [] R:=rfl
theorem refs_d {x:D}:A.refs (.d x)=[]:=by rw [A.refs]
theorem refs_row {a b c e:Nat}:A.refs (.row a b c e)=[a]:=by rw [A.refs]
theorem refs_ptr {a b:Nat}:A.refs (.ptr a b)=[a]:=by rw [A.refs]
section
variable {t:Nat} {kd:IntKind} {a b:Int}
theorem bin_add:binA X σ .add t (.d (.int kd a)) (.d (.int kd b))=some (.d (.int kd (kd.wrap (a+b)))):=by simp [binA,intOp]
theorem bin_sub:binA X σ .sub t (.d (.int kd a)) (.d (.int kd b))=some (.d (.int kd (kd.wrap (a - b)))):=by simp [binA,intOp]
theorem bin_mul:binA X σ .mul t (.d (.int kd a)) (.d (.int kd b))=some (.d (.int kd (kd.wrap (a * b)))):=by simp [binA,intOp]
theorem bin_eql:binA X σ .eql t (.d (.int kd a)) (.d (.int kd b))=some (.d (.bool (a == b))):=by simp [binA,intOp]
theorem bin_neq:binA X σ .neq t (.d (.int kd a)) (.d (.int kd b))=some (.d (.bool (a != b))):=by simp [binA,intOp]
theorem bin_lss:binA X σ .lss t (.d (.int kd a)) (.d (.int kd b))=some (.d (.bool (decide (a < b)))):=by simp [binA,intOp]
theorem bin_leq:binA X σ .leq t (.d (.int kd a)) (.d (.int kd b))=some (.d (.bool (decide (a≤b)))):=by simp [binA,intOp]
theorem bin_gtr:binA X σ .gtr t (.d (.int kd a)) (.d (.int kd b))=some (.d (.bool (decide (a > b)))):=by simp [binA,intOp]
theorem bin_geq:binA X σ .geq t (.d (.int kd a)) (.d (.int kd b))=some (.d (.bool (decide (a ≥ b)))):=by simp [binA,intOp]
theorem bin_rem (h:b≠0):binA X σ .rem t (.d (.int kd a)) (.d (.int kd b))=some (.d (.int kd (a.tmod b))):=by simp [binA,intOp,h]
theorem bin_quo (h:b≠0):binA X σ .quo t (.d (.int kd a)) (.d (.int kd b))=some (.d (.int kd (kd.wrap (a.tdiv b)))):=by simp [binA,intOp,h]
theorem bin_xor:binA X σ .xor t (.d (.int kd a)) (.d (.int kd b))=some (.d (.int kd (kd.wrap (BitVec.ofInt kd.bits a ^^^ BitVec.ofInt kd.bits b).toNat))):=by simp [binA,intOp]
theorem bin_or:binA X σ .or t (.d (.int kd a)) (.d (.int kd b))=some (.d (.int kd (kd.wrap (BitVec.ofInt kd.bits a ||| BitVec.ofInt kd.bits b).toNat))):=by simp [binA,intOp]
theorem bin_and:binA X σ .and t (.d (.int kd a)) (.d (.int kd b))=some (.d (.int kd (kd.wrap (BitVec.ofInt kd.bits a &&& BitVec.ofInt kd.bits b).toNat))):=by simp [binA,intOp]
end
def eqlK (X:Am.X) (σ:St) (ti:Option TI) (t:Nat) (x y:A):Option Bool:=match ti with
 | some i => match i.kind,x,y with
  | .struct fs,.agg cs,.agg ds => if X.cmp t then eqFs X (eqT X σ 7) cs ds fs else none
  | .arr len es e,.agg cs,.agg ds => if es=0∨X.cmp t=false then none else eqArr X (eqT X σ 7) cs ds es e len 0
  | k,x,y => eq1 X σ k x y
 | none => none
def unK (σ:St):UnOp→A→OpR
 | .not,.d (.bool b) => .val (.d (.bool !b)) σ [] []
 | .neg,.d (.int k n) => .val (.d (.int k (k.wrap (0 - n)))) σ [] []
 | _,_ => .bad
theorem o_un {op:UnOp} {t:Nat} {x:Operand}:evalOp X tm σ ⟨dst,.unOp op t x,ty,pos,after,g⟩=unK σ op (ev tm x):=by
 unfold evalOp unK; dsimp only; cases op <;> (cases ev tm x with | d y => (cases y <;> rfl) | _ => rfl)
theorem unK_not {b:Bool}:unK σ .not (.d (.bool b))=.val (.d (.bool !b)) σ [] []:=rfl
theorem o_func {f:Nat} {cap:Array Operand}:evalOp X tm σ ⟨dst,.makeFunc (.func f) #[] cap,ty,pos,after,g⟩=.val (.func f (cap.toList.map (ev tm))) σ [] []:=rfl
def aliveK (σ:St) (k:Nat) (r:OpR):OpR:=match σ.get k with
 | .dead => .bad
 | _ => r
def fieldK (σ:St) (f:Option (Nat × Nat × Nat)) (p:A):OpR:=match f,p with
 | some (o,size,_),.ptr k off => match σ.get k with
  | .dead => .bad
  | _ => if size=0 then .bad else .val (.ptr k (off+o)) σ [] [k]
 | some (o,size,_),.d (.vptr cs off) => if size=0 then .bad else .val (.d (.vptr cs (off+o))) σ [] []
 | _,_ => .bad
def fieldT (σ:St) (f:Nat) (p:A):Option TI→OpR
 | some { kind:=.struct fs,.. } => fieldK σ fs[f]? p
 | _ => .bad
theorem o_field {t f:Nat} {x:Operand} :
 evalOp X tm σ ⟨dst,.fieldAddr t x f,ty,pos,after,g⟩=fieldT σ f (ev tm x) (X.ti t):=rfl
theorem fieldT_struct {f:Nat} {p:A} {fs:List (Nat × Nat × Nat)} {s b:Nat} {z:Option (List A)} {zv:A}:fieldT σ f p (some ⟨.struct fs,s,b,z,zv⟩)=fieldK σ fs[f]? p:=rfl
theorem fieldK_vptr {o s t off:Nat} {cs:List D}:fieldK σ (some (o,s+1,t)) (.d (.vptr cs off))=.val (.d (.vptr cs (off+o))) σ [] []:=rfl
def fieldB (σ:St) (k off o:Nat):Blk→OpR
 | .dead => .bad
 | _ => .val (.ptr k (off+o)) σ [] [k]
theorem fieldK_ptr {o s t k off:Nat}:fieldK σ (some (o,s+1,t)) (.ptr k off)=fieldB σ k off o (σ.get k):=by
 unfold fieldK fieldB; dsimp only; cases σ.get k <;> rfl
theorem fieldB_cells {k off o:Nat} {cs:List A}:fieldB σ k off o (.cells cs)=.val (.ptr k (off+o)) σ [] [k]:=rfl
def lenT (σ:St) (a:A):Option TI→OpR
 | some i => match [a],some i with
  | [a],some { kind:=.slc _,.. } => OpR.of σ a.refs ((sliceLen σ a).map fun n => .d (.int .i64 n))
  | [.d (.str s)],some { kind:=.str,.. } => .val (.d (.int .i64 s.size)) σ [] []
  | [_],some { kind:=.arr n _ _,.. } => .val (.d (.int .i64 n)) σ [] []
  | [.d .nmap],some { kind:=.map _ _,.. } => .val (.d (.int .i64 0)) σ [] []
  | [.map m],some { kind:=.map _ _,.. } => match σ.get m with
   | .map es => .val (.d (.int .i64 es.length)) σ [] [m]
   | _ => .bad
  | _,_ => .bad
 | none => .bad
theorem o_len {x:Operand} {t:Nat}:evalOp X tm σ ⟨dst,.call ⟨.builtin .len,#[x],#[t]⟩,ty,pos,after,g⟩=lenT σ (ev tm x) (X.ti t):=by
 unfold evalOp lenT; simp
 cases X.ti t with
 | none => simp
 | some i => rfl
def lenV (σ:St) (R:List Nat):Option Nat→OpR
 | some n => .val (.d (.int .i64 n)) σ [] R
 | none => .bad
theorem lenT_slc {e s b:Nat} {z:Option (List A)} {zv a:A}:lenT σ a (some ⟨.slc e,s,b,z,zv⟩)=lenV σ a.refs (sliceLen σ a):=by
 unfold lenT lenV; dsimp only; cases sliceLen σ a <;> rfl
theorem lenV_some {R:List Nat} {n:Nat}:lenV σ R (some n)=.val (.d (.int .i64 n)) σ [] R:=rfl
theorem lenT_str {s b:Nat} {z:Option (List A)} {zv:A} {x:ByteArray}:lenT σ (.d (.str x)) (some ⟨.str,s,b,z,zv⟩)=.val (.d (.int .i64 x.size)) σ [] []:=rfl
theorem sliceLen_d {z:Bool} {xs:List (List D)}:sliceLen σ (.d (.slc z xs))=some xs.length:=rfl
def aliveB:Blk→Bool
 | .dead => false
 | _ => true
theorem sliceLen_row {k off n e:Nat}:sliceLen σ (.row k off n e)=if aliveB (σ.get k) then some n else none:=by unfold sliceLen alive aliveB; rfl
theorem aliveB_cells {cs:List A}:aliveB (.cells cs)=true:=rfl
def indexD (σ:St) (size:Nat) (xs:List (List D)) (i:Int):OpR:=if 0≤i then match xs[i.toNat]? with
 | some c => if c.length=size then .val (.d (.vptr c 0)) σ [] [] else .bad
 | none => .bad else .bad
def indexR (σ:St) (size k off len es:Nat) (i:Int):Blk→OpR
 | .dead => .bad
 | _ => if 0≤i∧i < len∧size=es then .val (.ptr k (off+i.toNat * es)) σ [] [k] else .bad
def indexK (σ:St) (size:Nat):A→A→OpR
 | .d (.slc _ xs),.d (.int _ i) => indexD σ size xs i
 | .row k off len es,.d (.int _ i) => indexR σ size k off len es i (σ.get k)
 | _,_ => .bad
def indexT (σ:St) (a b:A) (ti:Nat→Option TI):Option TI→OpR
 | some { kind:=.slc e,.. } => match ti e with
  | some i => indexK σ i.size a b
  | none => .bad
 | some { kind:=.arr n es _,.. } => match a,b with
  | .ptr k off,.d (.int _ i) => match σ.get k with
   | .dead => .bad
   | _ => if 0≤i∧i < n∧0 < es then .val (.ptr k (off+i.toNat * es)) σ [] [k] else .bad
  | _,_ => .bad
 | _ => .bad
theorem o_index {t:Nat} {x ix:Operand}:evalOp X tm σ ⟨dst,.indexAddr t x ix,ty,pos,after,g⟩=indexT σ (ev tm x) (ev tm ix) X.ti (X.ti t):=by
 unfold evalOp indexT; dsimp only
 cases X.ti t with
 | none => rfl
 | some i =>
  obtain ⟨kd,s,b,z,zv⟩:=i
  cases kd with
  | slc e =>
   dsimp only
   unfold indexK
   cases ev tm x with
   | d v =>
    cases v with
    | slc nil xs =>
     cases ev tm ix with
     | d w => cases w <;> first | (dsimp only; done) | (dsimp only; cases X.ti e <;> rfl) | (cases X.ti e <;> rfl)
     | _ => cases X.ti e <;> rfl
    | _ => cases X.ti e <;> rfl
   | row k off len es =>
    cases ev tm ix with
    | d w =>
     cases w with
     | int kk i => dsimp only; cases X.ti e with | none => rfl | some ie => (dsimp only; unfold indexR; cases σ.get k <;> rfl)
     | _ => cases X.ti e <;> rfl
    | _ => cases X.ti e <;> rfl
   | _ => cases X.ti e <;> rfl
  | arr n es e =>
   cases ev tm x with
   | ptr k off => cases ev tm ix with | d w => cases w <;> rfl | _ => rfl
   | d v => cases v <;> rfl
   | _ => rfl
  | _ => 
   cases ev tm x with
   | d v => cases v <;> rfl
   | _ => rfl
def indexE (σ:St) (a b:A):Option TI→OpR
 | some i => indexK σ i.size a b
 | none => .bad
theorem indexT_slc {e s b:Nat} {x ix:A} {ti:Nat→Option TI} {z:Option (List A)} {zv:A}:indexT σ x ix ti (some ⟨.slc e,s,b,z,zv⟩)=indexE σ x ix (ti e):=by
 unfold indexT indexE; rfl
theorem indexE_some {s b:Nat} {x ix:A} {z:Option (List A)} {zv:A} {kd:TK}:indexE σ x ix (some ⟨kd,s,b,z,zv⟩)=indexK σ s x ix:=rfl
theorem indexK_d {z:Bool} {xs:List (List D)} {s:Nat} {kd:IntKind} {i:Int}:indexK σ s (.d (.slc z xs)) (.d (.int kd i))=indexD σ s xs i:=rfl
theorem indexK_row {k off len es s:Nat} {kd:IntKind} {i:Int}:indexK σ s (.row k off len es) (.d (.int kd i))=indexR σ s k off len es i (σ.get k):=rfl
theorem indexD_nat {s:Nat} {xs:List (List D)} {i:Nat} {c:List D} (h:xs[i]?=some c) (hs:c.length=s):indexD σ s xs (i:Int)=.val (.d (.vptr c 0)) σ [] []:=by
 unfold indexD; rw [if_pos (by omega)]; simp [h,hs]
theorem indexR_nat {s k off len:Nat} {i:Nat} {cs:List A} (h:i < len):indexR σ s k off len s (i:Int) (.cells cs)=.val (.ptr k (off+i * s)) σ [] [k]:=by
 unfold indexR; simp [h]
end
theorem wrap_small {z:Int} (h1:-9223372036854775808≤z) (h2:z < 9223372036854775808):IntKind.i64.wrap z=z:=by
 unfold IntKind.wrap; simp [IntKind.signed,IntKind.bits]; omega
section
variable {X:X} {ops:Array Oper} {draw:Bool} {rest:List Oper} {i:Nat} {log:List Log} {fn nt:Nat} {ro:Option Nat} {lo:Nat} {k:List Item} {tm:Tm} {σ:St} {W:List Nat} {Q:Out→Prop} {dst:Option Nat} {ty:Nat} {pos:String} {after:Array Edge} {j:Nat} {want:Bool}
theorem so_move {x:Operand}:EvO X ops draw (⟨dst,.move x,ty,pos,after,none⟩ :: rest) i log fn nt ro lo k tm σ W Q=OpK X ops draw rest i log fn nt ro lo k tm W Q dst (evalOp X tm σ ⟨dst,.move x,ty,pos,after,none⟩):=sx_o rfl
theorem sg_move {x:Operand}:EvO X ops draw (⟨dst,.move x,ty,pos,after,some (j,want)⟩ :: rest) i log fn nt ro lo k tm σ W Q=(if guardV ops tm j=some (some want) then OpK X ops draw rest i log fn nt ro lo k tm W Q dst (evalOp X tm σ ⟨dst,.move x,ty,pos,after,some (j,want)⟩) else if guardV ops tm j=some (some (!want)) then PassK X ops draw rest i log fn nt ro lo k tm W Q dst σ else if guardV ops tm j=some none then PassK X ops draw rest i log fn nt ro lo k tm W Q dst σ else False):=(sx_og rfl).trans gk_ite
theorem so_assign {x:Operand}:EvO X ops draw (⟨dst,.assign x,ty,pos,after,none⟩ :: rest) i log fn nt ro lo k tm σ W Q=OpK X ops draw rest i log fn nt ro lo k tm W Q dst (evalOp X tm σ ⟨dst,.assign x,ty,pos,after,none⟩):=sx_o rfl
theorem sg_assign {x:Operand}:EvO X ops draw (⟨dst,.assign x,ty,pos,after,some (j,want)⟩ :: rest) i log fn nt ro lo k tm σ W Q=(if guardV ops tm j=some (some want) then OpK X ops draw rest i log fn nt ro lo k tm W Q dst (evalOp X tm σ ⟨dst,.assign x,ty,pos,after,some (j,want)⟩) else if guardV ops tm j=some (some (!want)) then PassK X ops draw rest i log fn nt ro lo k tm W Q dst σ else if guardV ops tm j=some none then PassK X ops draw rest i log fn nt ro lo k tm W Q dst σ else False):=(sx_og rfl).trans gk_ite
theorem so_pick {a b c:Operand}:EvO X ops draw (⟨dst,.pick a b c,ty,pos,after,none⟩ :: rest) i log fn nt ro lo k tm σ W Q=OpK X ops draw rest i log fn nt ro lo k tm W Q dst (evalOp X tm σ ⟨dst,.pick a b c,ty,pos,after,none⟩):=sx_o rfl
theorem sg_pick {a b c:Operand}:EvO X ops draw (⟨dst,.pick a b c,ty,pos,after,some (j,want)⟩ :: rest) i log fn nt ro lo k tm σ W Q=(if guardV ops tm j=some (some want) then OpK X ops draw rest i log fn nt ro lo k tm W Q dst (evalOp X tm σ ⟨dst,.pick a b c,ty,pos,after,some (j,want)⟩) else if guardV ops tm j=some (some (!want)) then PassK X ops draw rest i log fn nt ro lo k tm W Q dst σ else if guardV ops tm j=some none then PassK X ops draw rest i log fn nt ro lo k tm W Q dst σ else False):=(sx_og rfl).trans gk_ite
theorem so_alloc {t:Nat}:EvO X ops draw (⟨dst,.alloc t,ty,pos,after,none⟩ :: rest) i log fn nt ro lo k tm σ W Q=OpK X ops draw rest i log fn nt ro lo k tm W Q dst (evalOp X tm σ ⟨dst,.alloc t,ty,pos,after,none⟩):=sx_o rfl
theorem sg_alloc {t:Nat}:EvO X ops draw (⟨dst,.alloc t,ty,pos,after,some (j,want)⟩ :: rest) i log fn nt ro lo k tm σ W Q=(if guardV ops tm j=some (some want) then OpK X ops draw rest i log fn nt ro lo k tm W Q dst (evalOp X tm σ ⟨dst,.alloc t,ty,pos,after,some (j,want)⟩) else if guardV ops tm j=some (some (!want)) then PassK X ops draw rest i log fn nt ro lo k tm W Q dst σ else if guardV ops tm j=some none then PassK X ops draw rest i log fn nt ro lo k tm W Q dst σ else False):=(sx_og rfl).trans gk_ite
theorem so_box {t:Nat} {x:Operand}:EvO X ops draw (⟨dst,.box t x,ty,pos,after,none⟩ :: rest) i log fn nt ro lo k tm σ W Q=OpK X ops draw rest i log fn nt ro lo k tm W Q dst (evalOp X tm σ ⟨dst,.box t x,ty,pos,after,none⟩):=sx_o rfl
theorem sg_box {t:Nat} {x:Operand}:EvO X ops draw (⟨dst,.box t x,ty,pos,after,some (j,want)⟩ :: rest) i log fn nt ro lo k tm σ W Q=(if guardV ops tm j=some (some want) then OpK X ops draw rest i log fn nt ro lo k tm W Q dst (evalOp X tm σ ⟨dst,.box t x,ty,pos,after,some (j,want)⟩) else if guardV ops tm j=some (some (!want)) then PassK X ops draw rest i log fn nt ro lo k tm W Q dst σ else if guardV ops tm j=some none then PassK X ops draw rest i log fn nt ro lo k tm W Q dst σ else False):=(sx_og rfl).trans gk_ite
theorem so_build {t:Nat} {ps:Array (Nat × Operand)}:EvO X ops draw (⟨dst,.build t ps,ty,pos,after,none⟩ :: rest) i log fn nt ro lo k tm σ W Q=OpK X ops draw rest i log fn nt ro lo k tm W Q dst (evalOp X tm σ ⟨dst,.build t ps,ty,pos,after,none⟩):=sx_o rfl
theorem sg_build {t:Nat} {ps:Array (Nat × Operand)}:EvO X ops draw (⟨dst,.build t ps,ty,pos,after,some (j,want)⟩ :: rest) i log fn nt ro lo k tm σ W Q=(if guardV ops tm j=some (some want) then OpK X ops draw rest i log fn nt ro lo k tm W Q dst (evalOp X tm σ ⟨dst,.build t ps,ty,pos,after,some (j,want)⟩) else if guardV ops tm j=some (some (!want)) then PassK X ops draw rest i log fn nt ro lo k tm W Q dst σ else if guardV ops tm j=some none then PassK X ops draw rest i log fn nt ro lo k tm W Q dst σ else False):=(sx_og rfl).trans gk_ite
theorem so_buildSlice {t n:Nat} {ps:Array (Nat × Operand)}:EvO X ops draw (⟨dst,.buildSlice t n ps,ty,pos,after,none⟩ :: rest) i log fn nt ro lo k tm σ W Q=OpK X ops draw rest i log fn nt ro lo k tm W Q dst (evalOp X tm σ ⟨dst,.buildSlice t n ps,ty,pos,after,none⟩):=sx_o rfl
theorem sg_buildSlice {t n:Nat} {ps:Array (Nat × Operand)}:EvO X ops draw (⟨dst,.buildSlice t n ps,ty,pos,after,some (j,want)⟩ :: rest) i log fn nt ro lo k tm σ W Q=(if guardV ops tm j=some (some want) then OpK X ops draw rest i log fn nt ro lo k tm W Q dst (evalOp X tm σ ⟨dst,.buildSlice t n ps,ty,pos,after,some (j,want)⟩) else if guardV ops tm j=some (some (!want)) then PassK X ops draw rest i log fn nt ro lo k tm W Q dst σ else if guardV ops tm j=some none then PassK X ops draw rest i log fn nt ro lo k tm W Q dst σ else False):=(sx_og rfl).trans gk_ite
theorem so_load {t:Nat} {x:Operand}:EvO X ops draw (⟨dst,.load t x,ty,pos,after,none⟩ :: rest) i log fn nt ro lo k tm σ W Q=OpK X ops draw rest i log fn nt ro lo k tm W Q dst (evalOp X tm σ ⟨dst,.load t x,ty,pos,after,none⟩):=sx_o rfl
theorem sg_load {t:Nat} {x:Operand}:EvO X ops draw (⟨dst,.load t x,ty,pos,after,some (j,want)⟩ :: rest) i log fn nt ro lo k tm σ W Q=(if guardV ops tm j=some (some want) then OpK X ops draw rest i log fn nt ro lo k tm W Q dst (evalOp X tm σ ⟨dst,.load t x,ty,pos,after,some (j,want)⟩) else if guardV ops tm j=some (some (!want)) then PassK X ops draw rest i log fn nt ro lo k tm W Q dst σ else if guardV ops tm j=some none then PassK X ops draw rest i log fn nt ro lo k tm W Q dst σ else False):=(sx_og rfl).trans gk_ite
theorem so_store {t:Nat} {x y:Operand}:EvO X ops draw (⟨dst,.store t x y,ty,pos,after,none⟩ :: rest) i log fn nt ro lo k tm σ W Q=OpK X ops draw rest i log fn nt ro lo k tm W Q dst (evalOp X tm σ ⟨dst,.store t x y,ty,pos,after,none⟩):=sx_o rfl
theorem sg_store {t:Nat} {x y:Operand}:EvO X ops draw (⟨dst,.store t x y,ty,pos,after,some (j,want)⟩ :: rest) i log fn nt ro lo k tm σ W Q=(if guardV ops tm j=some (some want) then OpK X ops draw rest i log fn nt ro lo k tm W Q dst (evalOp X tm σ ⟨dst,.store t x y,ty,pos,after,some (j,want)⟩) else if guardV ops tm j=some (some (!want)) then PassK X ops draw rest i log fn nt ro lo k tm W Q dst σ else if guardV ops tm j=some none then PassK X ops draw rest i log fn nt ro lo k tm W Q dst σ else False):=(sx_og rfl).trans gk_ite
theorem so_nilCheck {x:Operand}:EvO X ops draw (⟨dst,.nilCheck x,ty,pos,after,none⟩ :: rest) i log fn nt ro lo k tm σ W Q=OpK X ops draw rest i log fn nt ro lo k tm W Q dst (evalOp X tm σ ⟨dst,.nilCheck x,ty,pos,after,none⟩):=sx_o rfl
theorem sg_nilCheck {x:Operand}:EvO X ops draw (⟨dst,.nilCheck x,ty,pos,after,some (j,want)⟩ :: rest) i log fn nt ro lo k tm σ W Q=(if guardV ops tm j=some (some want) then OpK X ops draw rest i log fn nt ro lo k tm W Q dst (evalOp X tm σ ⟨dst,.nilCheck x,ty,pos,after,some (j,want)⟩) else if guardV ops tm j=some (some (!want)) then PassK X ops draw rest i log fn nt ro lo k tm W Q dst σ else if guardV ops tm j=some none then PassK X ops draw rest i log fn nt ro lo k tm W Q dst σ else False):=(sx_og rfl).trans gk_ite
theorem so_binOp {op:BinOp} {t u:Nat} {x y:Operand}:EvO X ops draw (⟨dst,.binOp op t x y u,ty,pos,after,none⟩ :: rest) i log fn nt ro lo k tm σ W Q=OpK X ops draw rest i log fn nt ro lo k tm W Q dst (evalOp X tm σ ⟨dst,.binOp op t x y u,ty,pos,after,none⟩):=sx_o rfl
theorem sg_binOp {op:BinOp} {t u:Nat} {x y:Operand}:EvO X ops draw (⟨dst,.binOp op t x y u,ty,pos,after,some (j,want)⟩ :: rest) i log fn nt ro lo k tm σ W Q=(if guardV ops tm j=some (some want) then OpK X ops draw rest i log fn nt ro lo k tm W Q dst (evalOp X tm σ ⟨dst,.binOp op t x y u,ty,pos,after,some (j,want)⟩) else if guardV ops tm j=some (some (!want)) then PassK X ops draw rest i log fn nt ro lo k tm W Q dst σ else if guardV ops tm j=some none then PassK X ops draw rest i log fn nt ro lo k tm W Q dst σ else False):=(sx_og rfl).trans gk_ite
theorem so_unOp {op:UnOp} {t:Nat} {x:Operand}:EvO X ops draw (⟨dst,.unOp op t x,ty,pos,after,none⟩ :: rest) i log fn nt ro lo k tm σ W Q=OpK X ops draw rest i log fn nt ro lo k tm W Q dst (evalOp X tm σ ⟨dst,.unOp op t x,ty,pos,after,none⟩):=sx_o rfl
theorem sg_unOp {op:UnOp} {t:Nat} {x:Operand}:EvO X ops draw (⟨dst,.unOp op t x,ty,pos,after,some (j,want)⟩ :: rest) i log fn nt ro lo k tm σ W Q=(if guardV ops tm j=some (some want) then OpK X ops draw rest i log fn nt ro lo k tm W Q dst (evalOp X tm σ ⟨dst,.unOp op t x,ty,pos,after,some (j,want)⟩) else if guardV ops tm j=some (some (!want)) then PassK X ops draw rest i log fn nt ro lo k tm W Q dst σ else if guardV ops tm j=some none then PassK X ops draw rest i log fn nt ro lo k tm W Q dst σ else False):=(sx_og rfl).trans gk_ite
theorem so_convert {t u:Nat} {x:Operand}:EvO X ops draw (⟨dst,.convert t u x,ty,pos,after,none⟩ :: rest) i log fn nt ro lo k tm σ W Q=OpK X ops draw rest i log fn nt ro lo k tm W Q dst (evalOp X tm σ ⟨dst,.convert t u x,ty,pos,after,none⟩):=sx_o rfl
theorem sg_convert {t u:Nat} {x:Operand}:EvO X ops draw (⟨dst,.convert t u x,ty,pos,after,some (j,want)⟩ :: rest) i log fn nt ro lo k tm σ W Q=(if guardV ops tm j=some (some want) then OpK X ops draw rest i log fn nt ro lo k tm W Q dst (evalOp X tm σ ⟨dst,.convert t u x,ty,pos,after,some (j,want)⟩) else if guardV ops tm j=some (some (!want)) then PassK X ops draw rest i log fn nt ro lo k tm W Q dst σ else if guardV ops tm j=some none then PassK X ops draw rest i log fn nt ro lo k tm W Q dst σ else False):=(sx_og rfl).trans gk_ite
theorem so_makeFunc {f:Fn} {x y:Array Operand}:EvO X ops draw (⟨dst,.makeFunc f x y,ty,pos,after,none⟩ :: rest) i log fn nt ro lo k tm σ W Q=OpK X ops draw rest i log fn nt ro lo k tm W Q dst (evalOp X tm σ ⟨dst,.makeFunc f x y,ty,pos,after,none⟩):=sx_o rfl
theorem sg_makeFunc {f:Fn} {x y:Array Operand}:EvO X ops draw (⟨dst,.makeFunc f x y,ty,pos,after,some (j,want)⟩ :: rest) i log fn nt ro lo k tm σ W Q=(if guardV ops tm j=some (some want) then OpK X ops draw rest i log fn nt ro lo k tm W Q dst (evalOp X tm σ ⟨dst,.makeFunc f x y,ty,pos,after,some (j,want)⟩) else if guardV ops tm j=some (some (!want)) then PassK X ops draw rest i log fn nt ro lo k tm W Q dst σ else if guardV ops tm j=some none then PassK X ops draw rest i log fn nt ro lo k tm W Q dst σ else False):=(sx_og rfl).trans gk_ite
theorem so_makeMap {t:Nat} {x:Option Operand}:EvO X ops draw (⟨dst,.makeMap t x,ty,pos,after,none⟩ :: rest) i log fn nt ro lo k tm σ W Q=OpK X ops draw rest i log fn nt ro lo k tm W Q dst (evalOp X tm σ ⟨dst,.makeMap t x,ty,pos,after,none⟩):=sx_o rfl
theorem sg_makeMap {t:Nat} {x:Option Operand}:EvO X ops draw (⟨dst,.makeMap t x,ty,pos,after,some (j,want)⟩ :: rest) i log fn nt ro lo k tm σ W Q=(if guardV ops tm j=some (some want) then OpK X ops draw rest i log fn nt ro lo k tm W Q dst (evalOp X tm σ ⟨dst,.makeMap t x,ty,pos,after,some (j,want)⟩) else if guardV ops tm j=some (some (!want)) then PassK X ops draw rest i log fn nt ro lo k tm W Q dst σ else if guardV ops tm j=some none then PassK X ops draw rest i log fn nt ro lo k tm W Q dst σ else False):=(sx_og rfl).trans gk_ite
theorem so_makeSlice {t:Nat} {x y:Operand}:EvO X ops draw (⟨dst,.makeSlice t x y,ty,pos,after,none⟩ :: rest) i log fn nt ro lo k tm σ W Q=OpK X ops draw rest i log fn nt ro lo k tm W Q dst (evalOp X tm σ ⟨dst,.makeSlice t x y,ty,pos,after,none⟩):=sx_o rfl
theorem sg_makeSlice {t:Nat} {x y:Operand}:EvO X ops draw (⟨dst,.makeSlice t x y,ty,pos,after,some (j,want)⟩ :: rest) i log fn nt ro lo k tm σ W Q=(if guardV ops tm j=some (some want) then OpK X ops draw rest i log fn nt ro lo k tm W Q dst (evalOp X tm σ ⟨dst,.makeSlice t x y,ty,pos,after,some (j,want)⟩) else if guardV ops tm j=some (some (!want)) then PassK X ops draw rest i log fn nt ro lo k tm W Q dst σ else if guardV ops tm j=some none then PassK X ops draw rest i log fn nt ro lo k tm W Q dst σ else False):=(sx_og rfl).trans gk_ite
theorem so_slice {t:Nat} {x:Operand} {a b c:Option Operand}:EvO X ops draw (⟨dst,.slice t x a b c,ty,pos,after,none⟩ :: rest) i log fn nt ro lo k tm σ W Q=OpK X ops draw rest i log fn nt ro lo k tm W Q dst (evalOp X tm σ ⟨dst,.slice t x a b c,ty,pos,after,none⟩):=sx_o rfl
theorem sg_slice {t:Nat} {x:Operand} {a b c:Option Operand}:EvO X ops draw (⟨dst,.slice t x a b c,ty,pos,after,some (j,want)⟩ :: rest) i log fn nt ro lo k tm σ W Q=(if guardV ops tm j=some (some want) then OpK X ops draw rest i log fn nt ro lo k tm W Q dst (evalOp X tm σ ⟨dst,.slice t x a b c,ty,pos,after,some (j,want)⟩) else if guardV ops tm j=some (some (!want)) then PassK X ops draw rest i log fn nt ro lo k tm W Q dst σ else if guardV ops tm j=some none then PassK X ops draw rest i log fn nt ro lo k tm W Q dst σ else False):=(sx_og rfl).trans gk_ite
theorem so_fieldAddr {t:Nat} {x:Operand} {f:Nat}:EvO X ops draw (⟨dst,.fieldAddr t x f,ty,pos,after,none⟩ :: rest) i log fn nt ro lo k tm σ W Q=OpK X ops draw rest i log fn nt ro lo k tm W Q dst (evalOp X tm σ ⟨dst,.fieldAddr t x f,ty,pos,after,none⟩):=sx_o rfl
theorem sg_fieldAddr {t:Nat} {x:Operand} {f:Nat}:EvO X ops draw (⟨dst,.fieldAddr t x f,ty,pos,after,some (j,want)⟩ :: rest) i log fn nt ro lo k tm σ W Q=(if guardV ops tm j=some (some want) then OpK X ops draw rest i log fn nt ro lo k tm W Q dst (evalOp X tm σ ⟨dst,.fieldAddr t x f,ty,pos,after,some (j,want)⟩) else if guardV ops tm j=some (some (!want)) then PassK X ops draw rest i log fn nt ro lo k tm W Q dst σ else if guardV ops tm j=some none then PassK X ops draw rest i log fn nt ro lo k tm W Q dst σ else False):=(sx_og rfl).trans gk_ite
theorem so_indexAddr {t:Nat} {x y:Operand}:EvO X ops draw (⟨dst,.indexAddr t x y,ty,pos,after,none⟩ :: rest) i log fn nt ro lo k tm σ W Q=OpK X ops draw rest i log fn nt ro lo k tm W Q dst (evalOp X tm σ ⟨dst,.indexAddr t x y,ty,pos,after,none⟩):=sx_o rfl
theorem sg_indexAddr {t:Nat} {x y:Operand}:EvO X ops draw (⟨dst,.indexAddr t x y,ty,pos,after,some (j,want)⟩ :: rest) i log fn nt ro lo k tm σ W Q=(if guardV ops tm j=some (some want) then OpK X ops draw rest i log fn nt ro lo k tm W Q dst (evalOp X tm σ ⟨dst,.indexAddr t x y,ty,pos,after,some (j,want)⟩) else if guardV ops tm j=some (some (!want)) then PassK X ops draw rest i log fn nt ro lo k tm W Q dst σ else if guardV ops tm j=some none then PassK X ops draw rest i log fn nt ro lo k tm W Q dst σ else False):=(sx_og rfl).trans gk_ite
theorem so_lookup {t:Nat} {x y:Operand} {b:Bool}:EvO X ops draw (⟨dst,.lookup t x y b,ty,pos,after,none⟩ :: rest) i log fn nt ro lo k tm σ W Q=OpK X ops draw rest i log fn nt ro lo k tm W Q dst (evalOp X tm σ ⟨dst,.lookup t x y b,ty,pos,after,none⟩):=sx_o rfl
theorem sg_lookup {t:Nat} {x y:Operand} {b:Bool}:EvO X ops draw (⟨dst,.lookup t x y b,ty,pos,after,some (j,want)⟩ :: rest) i log fn nt ro lo k tm σ W Q=(if guardV ops tm j=some (some want) then OpK X ops draw rest i log fn nt ro lo k tm W Q dst (evalOp X tm σ ⟨dst,.lookup t x y b,ty,pos,after,some (j,want)⟩) else if guardV ops tm j=some (some (!want)) then PassK X ops draw rest i log fn nt ro lo k tm W Q dst σ else if guardV ops tm j=some none then PassK X ops draw rest i log fn nt ro lo k tm W Q dst σ else False):=(sx_og rfl).trans gk_ite
theorem so_mapUpdate {t:Nat} {x y z:Operand}:EvO X ops draw (⟨dst,.mapUpdate t x y z,ty,pos,after,none⟩ :: rest) i log fn nt ro lo k tm σ W Q=OpK X ops draw rest i log fn nt ro lo k tm W Q dst (evalOp X tm σ ⟨dst,.mapUpdate t x y z,ty,pos,after,none⟩):=sx_o rfl
theorem sg_mapUpdate {t:Nat} {x y z:Operand}:EvO X ops draw (⟨dst,.mapUpdate t x y z,ty,pos,after,some (j,want)⟩ :: rest) i log fn nt ro lo k tm σ W Q=(if guardV ops tm j=some (some want) then OpK X ops draw rest i log fn nt ro lo k tm W Q dst (evalOp X tm σ ⟨dst,.mapUpdate t x y z,ty,pos,after,some (j,want)⟩) else if guardV ops tm j=some (some (!want)) then PassK X ops draw rest i log fn nt ro lo k tm W Q dst σ else if guardV ops tm j=some none then PassK X ops draw rest i log fn nt ro lo k tm W Q dst σ else False):=(sx_og rfl).trans gk_ite
theorem so_insert {t:Nat} {x y z:Operand}:EvO X ops draw (⟨dst,.insert t x y z,ty,pos,after,none⟩ :: rest) i log fn nt ro lo k tm σ W Q=OpK X ops draw rest i log fn nt ro lo k tm W Q dst (evalOp X tm σ ⟨dst,.insert t x y z,ty,pos,after,none⟩):=sx_o rfl
theorem sg_insert {t:Nat} {x y z:Operand}:EvO X ops draw (⟨dst,.insert t x y z,ty,pos,after,some (j,want)⟩ :: rest) i log fn nt ro lo k tm σ W Q=(if guardV ops tm j=some (some want) then OpK X ops draw rest i log fn nt ro lo k tm W Q dst (evalOp X tm σ ⟨dst,.insert t x y z,ty,pos,after,some (j,want)⟩) else if guardV ops tm j=some (some (!want)) then PassK X ops draw rest i log fn nt ro lo k tm W Q dst σ else if guardV ops tm j=some none then PassK X ops draw rest i log fn nt ro lo k tm W Q dst σ else False):=(sx_og rfl).trans gk_ite
theorem so_entryStore {t:Nat} {x y z:Operand}:EvO X ops draw (⟨dst,.entryStore t x y z,ty,pos,after,none⟩ :: rest) i log fn nt ro lo k tm σ W Q=OpK X ops draw rest i log fn nt ro lo k tm W Q dst (evalOp X tm σ ⟨dst,.entryStore t x y z,ty,pos,after,none⟩):=sx_o rfl
theorem sg_entryStore {t:Nat} {x y z:Operand}:EvO X ops draw (⟨dst,.entryStore t x y z,ty,pos,after,some (j,want)⟩ :: rest) i log fn nt ro lo k tm σ W Q=(if guardV ops tm j=some (some want) then OpK X ops draw rest i log fn nt ro lo k tm W Q dst (evalOp X tm σ ⟨dst,.entryStore t x y z,ty,pos,after,some (j,want)⟩) else if guardV ops tm j=some (some (!want)) then PassK X ops draw rest i log fn nt ro lo k tm W Q dst σ else if guardV ops tm j=some none then PassK X ops draw rest i log fn nt ro lo k tm W Q dst σ else False):=(sx_og rfl).trans gk_ite
theorem so_mapEntry {t:Nat} {x y:Operand}:EvO X ops draw (⟨dst,.mapEntry t x y,ty,pos,after,none⟩ :: rest) i log fn nt ro lo k tm σ W Q=OpK X ops draw rest i log fn nt ro lo k tm W Q dst (evalOp X tm σ ⟨dst,.mapEntry t x y,ty,pos,after,none⟩):=sx_o rfl
theorem sg_mapEntry {t:Nat} {x y:Operand}:EvO X ops draw (⟨dst,.mapEntry t x y,ty,pos,after,some (j,want)⟩ :: rest) i log fn nt ro lo k tm σ W Q=(if guardV ops tm j=some (some want) then OpK X ops draw rest i log fn nt ro lo k tm W Q dst (evalOp X tm σ ⟨dst,.mapEntry t x y,ty,pos,after,some (j,want)⟩) else if guardV ops tm j=some (some (!want)) then PassK X ops draw rest i log fn nt ro lo k tm W Q dst σ else if guardV ops tm j=some none then PassK X ops draw rest i log fn nt ro lo k tm W Q dst σ else False):=(sx_og rfl).trans gk_ite
theorem so_extract {x:Operand} {n:Nat}:EvO X ops draw (⟨dst,.extract x n,ty,pos,after,none⟩ :: rest) i log fn nt ro lo k tm σ W Q=OpK X ops draw rest i log fn nt ro lo k tm W Q dst (evalOp X tm σ ⟨dst,.extract x n,ty,pos,after,none⟩):=sx_o rfl
theorem sg_extract {x:Operand} {n:Nat}:EvO X ops draw (⟨dst,.extract x n,ty,pos,after,some (j,want)⟩ :: rest) i log fn nt ro lo k tm σ W Q=(if guardV ops tm j=some (some want) then OpK X ops draw rest i log fn nt ro lo k tm W Q dst (evalOp X tm σ ⟨dst,.extract x n,ty,pos,after,some (j,want)⟩) else if guardV ops tm j=some (some (!want)) then PassK X ops draw rest i log fn nt ro lo k tm W Q dst σ else if guardV ops tm j=some none then PassK X ops draw rest i log fn nt ro lo k tm W Q dst σ else False):=(sx_og rfl).trans gk_ite
theorem so_builtin {b:Builtin} {xs:Array Operand} {ts:Array Nat}:EvO X ops draw (⟨dst,.call ⟨.builtin b,xs,ts⟩,ty,pos,after,none⟩ :: rest) i log fn nt ro lo k tm σ W Q=OpK X ops draw rest i log fn nt ro lo k tm W Q dst (evalOp X tm σ ⟨dst,.call ⟨.builtin b,xs,ts⟩,ty,pos,after,none⟩):=sx_o rfl
theorem sg_builtin {b:Builtin} {xs:Array Operand} {ts:Array Nat}:EvO X ops draw (⟨dst,.call ⟨.builtin b,xs,ts⟩,ty,pos,after,some (j,want)⟩ :: rest) i log fn nt ro lo k tm σ W Q=(if guardV ops tm j=some (some want) then OpK X ops draw rest i log fn nt ro lo k tm W Q dst (evalOp X tm σ ⟨dst,.call ⟨.builtin b,xs,ts⟩,ty,pos,after,some (j,want)⟩) else if guardV ops tm j=some (some (!want)) then PassK X ops draw rest i log fn nt ro lo k tm W Q dst σ else if guardV ops tm j=some none then PassK X ops draw rest i log fn nt ro lo k tm W Q dst σ else False):=(sx_og rfl).trans gk_ite
end
attribute [go_sem] so_insert sg_insert so_entryStore sg_entryStore so_mapEntry sg_mapEntry so_move sg_move so_assign sg_assign so_pick sg_pick so_alloc sg_alloc so_box sg_box so_build sg_build so_buildSlice sg_buildSlice so_load sg_load so_store sg_store so_nilCheck sg_nilCheck so_binOp sg_binOp so_unOp sg_unOp so_convert sg_convert so_makeFunc sg_makeFunc so_makeMap sg_makeMap so_makeSlice sg_makeSlice so_slice sg_slice so_fieldAddr sg_fieldAddr so_indexAddr sg_indexAddr so_lookup sg_lookup so_mapUpdate sg_mapUpdate so_extract sg_extract so_builtin sg_builtin
attribute [go_sem] sx_seq sx_skip sx_label sx_inBlock sx_inScope sx_scope sx_block sx_cond sx_region sx_nil sx_exit sx_ret sx_fin sx_retR sx_finR sx_loop sx_begin brK_loop low_nil
theorem sx_cg' {X:X} {ops:Array Oper} {draw:Bool} {rest:List Oper} {i:Nat} {log:List Log} {fn nt:Nat} {ro:Option Nat} {lo:Nat} {k:List Item} {tm:Tm} {σ:St} {W:List Nat} {Q:Out→Prop} {dst:Option Nat} {ty:Nat} {pos:String} {after:Array Edge} {f:Operand} {as:Array Operand} {ts:Array Nat} {j:Nat} {want:Bool}:EvO X ops draw (⟨dst,.call ⟨.value f,as,ts⟩,ty,pos,after,some (j,want)⟩ :: rest) i log fn nt ro lo k tm σ W Q=(if guardV ops tm j=some (some want) then CallK X ops draw rest i log fn nt ro lo k tm W Q dst σ (ev tm f) (as.toList.map (ev tm)) else if guardV ops tm j=some (some (!want)) then PassK X ops draw rest i log fn nt ro lo k tm W Q dst σ else if guardV ops tm j=some none then PassK X ops draw rest i log fn nt ro lo k tm W Q dst σ else False):=sx_cg.trans gk_ite
attribute [go_sem] sx_c sx_cg' OpK_some OpK_none OpK_bad PassK_some PassK_none CallK_some CallK_none
attribute [go_sem] ev_tmp ev_const ev_func o_move o_assign o_pick pickK_t o_alloc allocK_some o_box boxK_some cells_agg cells_d cells_ptr cells_row cells_map cells_func cells_yld
attribute [go_sem] o_load loadK_ptr loadK_vptr loadB_cells loadV_some partOf_t partOf_f agg_struct agg_arr agg_bool agg_int agg_str agg_slc agg_ptr agg_map agg_func agg_other
attribute [go_sem] o_store storeK_ptr storeB_cells storeV_some storeC_zero storeC_one isCell_d isCell_ptr isCell_row isCell_map isCell_func isCell_yld
attribute [go_sem] o_bin opr_some refs_d refs_row refs_ptr bin_add bin_sub bin_mul bin_eql bin_neq bin_lss bin_leq bin_gtr bin_geq bin_rem bin_quo bin_xor bin_or bin_and
attribute [go_sem] o_un unK_not o_func o_field fieldT_struct fieldK_vptr fieldK_ptr fieldB_cells o_len lenT_slc lenV_some lenT_str sliceLen_d sliceLen_row aliveB_cells o_index indexT_slc indexE_some indexK_d indexK_row
attribute [go_sem] initTm setParams Tm.at_set ofV ofV1 exitTo
attribute [go_sem] if_true if_false Option.map_some Option.map_none Option.bind_some Option.bind_none Bool.not_false Bool.not_true Bool.true_or Bool.or_true Bool.false_or Bool.or_false Bool.true_and Bool.and_true Bool.false_and Bool.and_false true_and and_true List.nil_append List.append_nil List.map_cons List.map_nil decide_true decide_false reduceCtorEq ne_eq not_true_eq_false not_false_eq_true Option.getD_some List.length_cons List.length_nil List.drop_zero List.take_succ_cons List.take_zero List.drop_succ_cons List.getElem?_cons_zero List.getElem?_cons_succ List.getElem?_nil List.all_cons List.all_nil List.isEmpty_nil List.isEmpty_cons List.cons_append List.drop_nil List.set_cons_zero List.set_cons_succ Nat.zero_add Nat.add_zero
attribute [go_sem] St.get_push St.n_push St.get_set St.n_set
end Go.Am
namespace Go.Am
open Go
section
variable {X:X} {tm:Tm} {σ:St} {dst:Option Nat} {ty:Nat} {pos:String} {after:Array Edge} {g:Option (Nat × Bool)}
def appE (σ:St) (s x:A):Option TI→OpR
 | some { size:=es,bytes:=b,zero:=some z,.. } => if 0 < es∧z.length=es then appendA es b σ s x else .bad
 | _ => .bad
def appT (ti:Nat→Option TI) (σ:St) (s x:A):Option TI→Option TI→OpR
 | some { kind:=.slc e,.. },some { kind:=.slc _,.. } => appE σ s x (ti e)
 | some { kind:=.slc e,.. },some { kind:=.int _,.. } => match s,x with
  | .d (.slc true []),.d (.int .i64 (.ofNat n)) => growA σ n (ti e)
  | _,_ => .bad
 | _,_ => .bad
theorem o_append {s x:Operand} {t u:Nat}:evalOp X tm σ ⟨dst,.call ⟨.builtin .append,#[s,x],#[t,u]⟩,ty,pos,after,g⟩=appT X.ti σ (ev tm s) (ev tm x) (X.ti t) (X.ti u):=by
 unfold evalOp appT; simp
 cases X.ti t with
 | none => simp
 | some i =>
  obtain ⟨k,_,_,_,_⟩:=i
  cases X.ti u with
  | none => cases k <;> simp
  | some j =>
   obtain ⟨k',_,_,_,_⟩:=j
   cases k <;> cases k' <;> simp [appE]
   · rename_i e _
     generalize ev tm s=a
     generalize ev tm x=b
     split
     · rename_i h1 h2; cases h2
     · rename_i h0 h1 h2
       simp only [List.cons.injEq,and_true] at h0
       obtain ⟨rfl,rfl⟩:=h0
       cases h1; rfl
     · rename_i hno
       split
       · rename_i n; exact (hno _ _ _ _ _ _ _ _ _ _ _ rfl rfl rfl).elim
       · rfl
   · rename_i e _
     cases X.ti e with
     | none => rfl
     | some l => obtain ⟨_,_,_,z,_⟩:=l; cases z <;> rfl
theorem appT_slc {ti:Nat→Option TI} {x y:A} {e e' s b s' b':Nat} {z z':Option (List A)} {zv zv':A}:appT ti σ x y (some ⟨.slc e,s,b,z,zv⟩) (some ⟨.slc e',s',b',z',zv'⟩)=appE σ x y (ti e):=rfl
theorem appE_some {x y:A} {kd:TK} {s b:Nat} {z:List A} {zv:A}:appE σ x y (some ⟨kd,s,b,some z,zv⟩)=if 0 < s∧z.length=s then appendA s b σ x y else .bad:=rfl
theorem appendA_nil {es b n:Nat} {x:A} {new:List A} (h1:sliceCells σ x=some new) (h2:sliceLen σ x=some n) (hl:new.length=n * es) (hc:new.all A.isCell=true) (hb:n * b≤2 ^ 47) (hn:n < 2 ^ 62) :
 appendA es b σ (.d (.slc true [])) x=if n=0 then .val (.d (.slc true [])) σ [] [] else .val (.row σ.n 0 n es) (σ.push (.cells new)) [] []:=by
 unfold appendA; simp only [h1,h2,hl,hc,ne_eq,not_true_eq_false,false_or,Bool.true_eq_false,if_false]; by_cases e:n=0
 · rw [if_pos e,if_pos e]
 · rw [if_neg e,if_neg e,if_pos ⟨hb,hn⟩]
theorem appendA_row {es b n k off len:Nat} {x:A} {new cs:List A} (hk:σ.get k=.cells cs) (h1:sliceCells σ x=some new) (h2:sliceLen σ x=some n) (hl:new.length=n * es) (hc:new.all A.isCell=true)
 (ho:off+len * es≤cs.length) (hb:(len+n) * b≤2 ^ 47) (hn:len+n < 2 ^ 62) :
 appendA es b σ (.row k off len es) x=if n=0 then .val (.row k off len es) σ [] [] else .val (.row σ.n 0 (len+n) es) ((σ.set k .dead).push (.cells ((cs.drop off).take (len * es) ++ new))) [k] []:=by
 unfold appendA; simp only [h1,h2,hl,hc,hk,ne_eq,not_true_eq_false,false_or,Bool.true_eq_false,if_false,ho]; by_cases e:n=0
 · rw [if_pos e,if_pos e]
 · rw [if_neg e,if_neg e,if_pos ⟨hb,hn⟩]
theorem sliceCells_d {z:Bool} {xs:List (List D)}:sliceCells σ (.d (.slc z xs))=some ((xs.flatMap id).map A.d):=rfl
theorem sliceCells_row {k off len es:Nat} {cs:List A} (hk:σ.get k=.cells cs) (ho:off+len * es≤cs.length):sliceCells σ (.row k off len es)=some ((cs.drop off).take (len * es)):=by
 unfold sliceCells; simp [hk,ho]
def mksE (σ:St) (l c:Int):Option TI→OpR
 | some { size:=es,bytes:=b,zero:=some z,.. } => if z.length=es∧0 < es∧0≤l∧l≤c∧c < 2 ^ 62∧b * c≤2 ^ 47 then .val (.row σ.n 0 l.toNat es) (σ.push (.cells (rep l.toNat z))) [] [] else .bad
 | _ => .bad
def mksT (ti:Nat→Option TI) (σ:St):Option TI→A→A→OpR
 | some { kind:=.slc e,.. },.d (.int .i64 l),.d (.int .i64 c) => mksE σ l c (ti e)
 | _,_,_ => .bad
theorem o_mks {t:Nat} {l c:Operand}:evalOp X tm σ ⟨dst,.makeSlice t l c,ty,pos,after,g⟩=mksT X.ti σ (X.ti t) (ev tm l) (ev tm c):=by
 unfold evalOp mksT; dsimp only
 cases X.ti t with
 | none => rfl
 | some i =>
  obtain ⟨kd,_,_,_,_⟩:=i
  cases kd <;> (cases ev tm l with
   | d x => cases x with
    | int k a => cases k <;> (cases ev tm c with
     | d y => cases y with
      | int k' a' => cases k' <;> first | rfl | (rename_i e; dsimp only; cases X.ti e with | none => rfl | some j => (obtain ⟨_,_,_,z,_⟩:=j; cases z <;> rfl))
      | _ => rfl
     | _ => rfl)
    | _ => rfl
   | _ => rfl)
theorem mksT_slc {ti:Nat→Option TI} {e s b:Nat} {z:Option (List A)} {zv:A} {l c:Int}:mksT ti σ (some ⟨.slc e,s,b,z,zv⟩) (.d (.int .i64 l)) (.d (.int .i64 c))=mksE σ l c (ti e):=rfl
theorem mksE_nat {kd:TK} {s b n:Nat} {z:List A} {zv:A} (h:z.length=s∧0 < s∧n < 2 ^ 62∧b * n≤2 ^ 47):mksE σ (n:Int) (n:Int) (some ⟨kd,s,b,some z,zv⟩)=.val (.row σ.n 0 n s) (σ.push (.cells (rep n z))) [] []:=by
 unfold mksE; dsimp only
 obtain ⟨h1,h2,h3,h4⟩:=h
 have h5:(b:Int) * (n:Int)≤2 ^ 47:=by have:((b * n:Nat):Int)≤((2 ^ 47:Nat):Int):=Int.ofNat_le.2 h4; simpa using this
 rw [if_pos ⟨h1,h2,by omega,Int.le_refl _,by omega,h5⟩]; simp
def fillC (place:Nat→Option (Nat × Nat)) (cells:List A) (rest:List (Nat × A)):Option (Nat × Nat)→Option (List A)→Option (List A)
 | some (off,size),some vs => if vs.length≠size∨off+vs.length > cells.length then none else fillA place (putAt cells off vs) rest
 | _,_ => none
theorem fillA_nil {place:Nat→Option (Nat × Nat)} {cells:List A}:fillA place cells []=some cells:=rfl
theorem fillA_cons {place:Nat→Option (Nat × Nat)} {cells:List A} {i:Nat} {v:A} {rest:List (Nat × A)}:fillA place cells ((i,v) :: rest)=fillC place cells rest (place i) v.cells:=by
 rw [fillA]; unfold fillC
 cases place i with
 | none => rfl
 | some p => obtain ⟨o,s⟩:=p; cases v.cells <;> rfl
theorem fillC_some {place:Nat→Option (Nat × Nat)} {cells vs:List A} {off size:Nat} {rest:List (Nat × A)}:fillC place cells rest (some (off,size)) (some vs) =
 if vs.length=size∧off+vs.length≤cells.length then fillA place (putAt cells off vs) rest else none:=by
 unfold fillC; dsimp only; by_cases h:vs.length=size∧off+vs.length≤cells.length
 · rw [if_pos h,if_neg (by rintro (h' | h'); exact h' h.1; omega)]
 · rw [if_neg h,if_pos]; by_cases h':vs.length=size
   · right; have:¬ off+vs.length≤cells.length:=fun q => h ⟨h',q⟩; omega
   · exact .inl h'
theorem putAt_nil {cs:List A} {off:Nat}:putAt cs off []=cs:=rfl
theorem putAt_cons {cs:List A} {off:Nat} {a:A} {r:List A}:putAt cs off (a :: r)=putAt (cs.set off a) (off+1) r:=rfl
def bslV (σ:St) (len es:Nat):Option (List A)→OpR
 | some cs => .val (.row σ.n 0 len es) (σ.push (.cells cs)) [] []
 | none => .bad
def bslE (σ:St) (len:Nat) (ps:List (Nat × A)):Option TI→OpR
 | some { size:=es,zero:=some z,.. } => if z.length=es∧0 < es∧len * es≤2 ^ 24 then bslV σ len es (fillA (fun i => some (i * es,es)) (rep len z) ps) else .bad
 | _ => .bad
def bslT (ti:Nat→Option TI) (σ:St) (len:Nat) (ps:List (Nat × A)):Option TI→OpR
 | some { kind:=.slc e,.. } => bslE σ len ps (ti e)
 | _ => .bad
theorem o_bsl {t len:Nat} {ps:Array (Nat × Operand)}:evalOp X tm σ ⟨dst,.buildSlice t len ps,ty,pos,after,g⟩=bslT X.ti σ len (ps.toList.map fun p => (p.1,ev tm p.2)) (X.ti t):=by
 unfold evalOp bslT; dsimp only
 cases X.ti t with
 | none => rfl
 | some i =>
  obtain ⟨k,_,_,_,_⟩:=i
  cases k <;> rfl
theorem bslT_slc {ti:Nat→Option TI} {len e s b:Nat} {ps:List (Nat × A)} {z:Option (List A)} {zv:A}:bslT ti σ len ps (some ⟨.slc e,s,b,z,zv⟩)=bslE σ len ps (ti e):=rfl
theorem bslE_some {kd:TK} {len s b:Nat} {ps:List (Nat × A)} {z:List A} {zv:A}:bslE σ len ps (some ⟨kd,s,b,some z,zv⟩) =
 if z.length=s∧0 < s∧len * s≤2 ^ 24 then bslV σ len s (fillA (fun i => some (i * s,s)) (rep len z) ps) else .bad:=rfl
theorem bslV_some {len es:Nat} {cs:List A}:bslV σ len es (some cs)=.val (.row σ.n 0 len es) (σ.push (.cells cs)) [] []:=rfl
theorem rep_0 {z:List A}:rep 0 z=[]:=rfl
theorem rep_succ {n:Nat} {z:List A}:rep (n+1) z=z ++ rep n z:=by
 have h:∀ n,rep n z=(List.replicate n z).flatten:=fun n => by unfold rep; rw [List.flatMap_def,List.map_const',List.length_range]
 rw [h,h,List.replicate_succ,List.flatten_cons]
theorem rep_1 {z:List A}:rep 1 z=z:=by rw [rep_succ,rep_0,List.append_nil]
theorem rep_2 {z:List A}:rep 2 z=z ++ z:=by rw [rep_succ,rep_1]
theorem rep_3 {z:List A}:rep 3 z=z ++ (z ++ z):=by rw [rep_succ,rep_2]
theorem rep_4 {z:List A}:rep 4 z=z ++ (z ++ (z ++ z)):=by rw [rep_succ,rep_3]
theorem rep_5 {z:List A}:rep 5 z=z ++ (z ++ (z ++ (z ++ z))):=by rw [rep_succ,rep_4]
theorem rep_6 {z:List A}:rep 6 z=z ++ (z ++ (z ++ (z ++ (z ++ z)))):=by rw [rep_succ,rep_5]
def bldV (σ:St):Option (List A)→OpR
 | some cs => .val (.agg cs) σ [] []
 | none => .bad
def bldT (σ:St) (ps:List (Nat × A)):Option TI→OpR
 | some { kind:=.struct fs,zero:=some z,.. } => bldV σ (fillA (fun i => (fs[i]?).map fun f => (f.1,f.2.1)) z ps)
 | some { kind:=.arr _ es _,zero:=some z,.. } => bldV σ (if es=0 then none else fillA (fun i => some (i * es,es)) z ps)
 | _ => .bad
theorem o_build {t:Nat} {ps:Array (Nat × Operand)}:evalOp X tm σ ⟨dst,.build t ps,ty,pos,after,g⟩=bldT σ (ps.toList.map fun p => (p.1,ev tm p.2)) (X.ti t):=by
 unfold evalOp bldT; dsimp only
 have hv:∀ o:Option (List A),OpR.of σ [] (o.map .agg)=bldV σ o:=fun o => by cases o <;> rfl
 cases X.ti t with
 | none => rfl
 | some i =>
  obtain ⟨k,_,_,z,_⟩:=i
  cases k <;> (try rfl) <;> cases z <;> (try rfl) <;> (dsimp only; rw [← hv])
  (split <;> rfl)
theorem bldT_struct {ps:List (Nat × A)} {fs:List (Nat × Nat × Nat)} {s b:Nat} {z:List A} {zv:A}:bldT σ ps (some ⟨.struct fs,s,b,some z,zv⟩)=bldV σ (fillA (fun i => (fs[i]?).map fun f => (f.1,f.2.1)) z ps):=rfl
theorem bldV_some {cs:List A}:bldV σ (some cs)=.val (.agg cs) σ [] []:=rfl
theorem o_extract {x:Operand} {i:Nat}:evalOp X tm σ ⟨dst,.extract x i,ty,pos,after,g⟩=(match ev tm x with | .tup vs => OpR.of σ [] vs[i]? | _ => .bad):=rfl
def extK (σ:St) (i:Nat):A→OpR
 | .tup vs => OpR.of σ [] vs[i]?
 | _ => .bad
theorem o_ext {x:Operand} {i:Nat}:evalOp X tm σ ⟨dst,.extract x i,ty,pos,after,g⟩=extK σ i (ev tm x):=by
 rw [o_extract]; unfold extK; cases ev tm x <;> rfl
theorem extK_tup {i:Nat} {vs:List A}:extK σ i (.tup vs)=OpR.of σ [] vs[i]?:=rfl
end
section
variable {X:X} {tm:Tm} {σ:St} {dst:Option Nat} {ty:Nat} {pos:String} {after:Array Edge} {g:Option (Nat × Bool)}
def nilB (σ:St) (k off:Nat):Blk→OpR
 | .dead => .bad
 | _ => .val (.ptr k off) σ [] [k]
def nilK (σ:St):A→OpR
 | .ptr k off => nilB σ k off (σ.get k)
 | .d (.vptr cs off) => .val (.d (.vptr cs off)) σ [] []
 | .func f cap => .val (.func f cap) σ [] []
 | _ => .bad
theorem o_nil {x:Operand}:evalOp X tm σ ⟨dst,.nilCheck x,ty,pos,after,g⟩=nilK σ (ev tm x):=by
 unfold evalOp nilK; dsimp only
 cases ev tm x with
 | ptr k off => dsimp only; unfold nilB; cases σ.get k <;> rfl
 | d v => cases v <;> rfl
 | _ => rfl
theorem nilK_ptr {k off:Nat}:nilK σ (.ptr k off)=nilB σ k off (σ.get k):=rfl
theorem nilK_vptr {cs:List D} {off:Nat}:nilK σ (.d (.vptr cs off))=.val (.d (.vptr cs off)) σ [] []:=rfl
theorem nilK_func {f:Nat} {cap:List A}:nilK σ (.func f cap)=.val (.func f cap) σ [] []:=rfl
theorem nilB_cells {k off:Nat} {cs:List A}:nilB σ k off (.cells cs)=.val (.ptr k off) σ [] [k]:=rfl
end
attribute [go_sem] o_nil nilK_ptr nilK_vptr nilK_func nilB_cells
section
variable {X:X} {σ:St} {t:Nat}
def binT (X:Am.X) (σ:St) (t:Nat) (x y:A):Option TI→Option Bool
 | some { kind:=.bool,.. } => eq1 X σ .bool x y
 | some { kind:=.func,.. } => eq1 X σ .func x y
 | some { kind:=.slc e,.. } => eq1 X σ (.slc e) x y
 | _ => eqT X σ 8 t x y
theorem bin_e {x y:A} (hx:(∀ k n,x≠.d (.int k n))∧∀ s,x≠.d (.str s)):binA X σ .eql t x y=(binT X σ t x y (X.ti t)).map fun b => .d (.bool b):=by
 have h1:binA X σ .eql t x y=(eqT X σ 8 t x y).map fun b => .d (.bool b):=by
  unfold binA
  split <;> (try cases ‹BinOp.eql=_›) <;> (try (exact absurd rfl (hx.1 _ _))) <;> (try (exact absurd rfl (hx.2 _))) <;> (try rfl)
  all_goals (first | (exfalso; exact hx.2 _ rfl) | rfl | (exact absurd rfl ‹BinOp.eql=BinOp.eql→False›))
 rw [h1]
 congr 1
 unfold binT
 split <;> (try rfl)
 all_goals (rename_i h; rw [eqT,h])
end
def eqM:Option Bool→Option A
 | some b => some (.d (.bool b))
 | none => none
def neM:Option Bool→Option A
 | some b => some (.d (.bool !b))
 | none => none
theorem eqM_some {b:Bool}:eqM (some b)=some (.d (.bool b)):=rfl
theorem neM_some {b:Bool}:neM (some b)=some (.d (.bool !b)):=rfl
theorem bin_n {X:X} {σ:St} {t:Nat} {x y:A} (hx:(∀ k n,x≠.d (.int k n))∧∀ s,x≠.d (.str s)):binA X σ .neq t x y=neM (binT X σ t x y (X.ti t)):=by
 have h1:binA X σ .neq t x y=neM (eqT X σ 8 t x y):=by
  unfold binA
  split <;> (try cases ‹BinOp.neq=_›) <;> (try (exact absurd rfl (hx.1 _ _))) <;> (try (exact absurd rfl (hx.2 _))) <;> (try rfl)
  all_goals (first | (exfalso; exact hx.2 _ rfl) | rfl | (unfold neM; cases eqT X σ 8 t _ _ <;> rfl) | (exact absurd rfl ‹BinOp.neq=BinOp.neq→False›))
 rw [h1]
 congr 1
 unfold binT
 split <;> (try rfl)
 all_goals (rename_i h; rw [eqT,h])
theorem bin_e' {X:X} {σ:St} {t:Nat} {x y:A} (hx:(∀ k n,x≠.d (.int k n))∧∀ s,x≠.d (.str s)):binA X σ .eql t x y=eqM (binT X σ t x y (X.ti t)):=by
 rw [bin_e hx]; cases binT X σ t x y (X.ti t) <;> rfl
section
variable {X:X} {σ:St} {t:Nat}
theorem be_bb {a b:Bool}:binA X σ .eql t (.d (.bool a)) (.d (.bool b))=eqM (binT X σ t (.d (.bool a)) (.d (.bool b)) (X.ti t)):=bin_e' ⟨(fun _ _ h => by cases h),(fun _ h => by cases h)⟩
theorem bn_bb {a b:Bool}:binA X σ .neq t (.d (.bool a)) (.d (.bool b))=neM (binT X σ t (.d (.bool a)) (.d (.bool b)) (X.ti t)):=bin_n ⟨(fun _ _ h => by cases h),(fun _ h => by cases h)⟩
theorem be_sn {b:Bool} {xs:List (List D)}:binA X σ .eql t (.d (.slc b xs)) (.d (.slc true []))=eqM (binT X σ t (.d (.slc b xs)) (.d (.slc true [])) (X.ti t)):=bin_e' ⟨(fun _ _ h => by cases h),(fun _ h => by cases h)⟩
theorem bn_sn {b:Bool} {xs:List (List D)}:binA X σ .neq t (.d (.slc b xs)) (.d (.slc true []))=neM (binT X σ t (.d (.slc b xs)) (.d (.slc true [])) (X.ti t)):=bin_n ⟨(fun _ _ h => by cases h),(fun _ h => by cases h)⟩
theorem be_rn {k o l e:Nat}:binA X σ .eql t (.row k o l e) (.d (.slc true []))=eqM (binT X σ t (.row k o l e) (.d (.slc true [])) (X.ti t)):=bin_e' ⟨(fun _ _ h => by cases h),(fun _ h => by cases h)⟩
theorem bn_rn {k o l e:Nat}:binA X σ .neq t (.row k o l e) (.d (.slc true []))=neM (binT X σ t (.row k o l e) (.d (.slc true [])) (X.ti t)):=bin_n ⟨(fun _ _ h => by cases h),(fun _ h => by cases h)⟩
theorem be_fn {f:Nat} {c:List A}:binA X σ .eql t (.func f c) (.d .nfunc)=eqM (binT X σ t (.func f c) (.d .nfunc) (X.ti t)):=bin_e' ⟨(fun _ _ h => by cases h),(fun _ h => by cases h)⟩
theorem bn_fn {f:Nat} {c:List A}:binA X σ .neq t (.func f c) (.d .nfunc)=neM (binT X σ t (.func f c) (.d .nfunc) (X.ti t)):=bin_n ⟨(fun _ _ h => by cases h),(fun _ h => by cases h)⟩
theorem be_nn :binA X σ .eql t (.d .nfunc) (.d .nfunc)=eqM (binT X σ t (.d .nfunc) (.d .nfunc) (X.ti t)):=bin_e' ⟨(fun _ _ h => by cases h),(fun _ h => by cases h)⟩
theorem bn_nn :binA X σ .neq t (.d .nfunc) (.d .nfunc)=neM (binT X σ t (.d .nfunc) (.d .nfunc) (X.ti t)):=bin_n ⟨(fun _ _ h => by cases h),(fun _ h => by cases h)⟩
theorem be_yn {l:Nat}:binA X σ .eql t (.yld l) (.d .nfunc)=eqM (binT X σ t (.yld l) (.d .nfunc) (X.ti t)):=bin_e' ⟨(fun _ _ h => by cases h),(fun _ h => by cases h)⟩
theorem bn_yn {l:Nat}:binA X σ .neq t (.yld l) (.d .nfunc)=neM (binT X σ t (.yld l) (.d .nfunc) (X.ti t)):=bin_n ⟨(fun _ _ h => by cases h),(fun _ h => by cases h)⟩
theorem be_pn {k o:Nat}:binA X σ .eql t (.ptr k o) (.d .nptr)=eqM (binT X σ t (.ptr k o) (.d .nptr) (X.ti t)):=bin_e' ⟨(fun _ _ h => by cases h),(fun _ h => by cases h)⟩
theorem bn_pn {k o:Nat}:binA X σ .neq t (.ptr k o) (.d .nptr)=neM (binT X σ t (.ptr k o) (.d .nptr) (X.ti t)):=bin_n ⟨(fun _ _ h => by cases h),(fun _ h => by cases h)⟩
theorem be_ptpt {k o l e:Nat}:binA X σ .eql t (.ptr k o) (.ptr l e)=eqM (binT X σ t (.ptr k o) (.ptr l e) (X.ti t)):=bin_e' ⟨(fun _ _ h => by cases h),(fun _ h => by cases h)⟩
theorem bn_ptpt {k o l e:Nat}:binA X σ .neq t (.ptr k o) (.ptr l e)=neM (binT X σ t (.ptr k o) (.ptr l e) (X.ti t)):=bin_n ⟨(fun _ _ h => by cases h),(fun _ h => by cases h)⟩
theorem be_npn :binA X σ .eql t (.d .nptr) (.d .nptr)=eqM (binT X σ t (.d .nptr) (.d .nptr) (X.ti t)):=bin_e' ⟨(fun _ _ h => by cases h),(fun _ h => by cases h)⟩
theorem bn_npn :binA X σ .neq t (.d .nptr) (.d .nptr)=neM (binT X σ t (.d .nptr) (.d .nptr) (X.ti t)):=bin_n ⟨(fun _ _ h => by cases h),(fun _ h => by cases h)⟩
theorem be_aa {c e:List A}:binA X σ .eql t (.agg c) (.agg e)=eqM (binT X σ t (.agg c) (.agg e) (X.ti t)):=bin_e' ⟨(fun _ _ h => by cases h),(fun _ h => by cases h)⟩
theorem bn_aa {c e:List A}:binA X σ .neq t (.agg c) (.agg e)=neM (binT X σ t (.agg c) (.agg e) (X.ti t)):=bin_n ⟨(fun _ _ h => by cases h),(fun _ h => by cases h)⟩
theorem be_mn {k:Nat}:binA X σ .eql t (.map k) (.d .nmap)=eqM (binT X σ t (.map k) (.d .nmap) (X.ti t)):=bin_e' ⟨(fun _ _ h => by cases h),(fun _ h => by cases h)⟩
theorem bn_mn {k:Nat}:binA X σ .neq t (.map k) (.d .nmap)=neM (binT X σ t (.map k) (.d .nmap) (X.ti t)):=bin_n ⟨(fun _ _ h => by cases h),(fun _ h => by cases h)⟩
theorem be_nmn :binA X σ .eql t (.d .nmap) (.d .nmap)=eqM (binT X σ t (.d .nmap) (.d .nmap) (X.ti t)):=bin_e' ⟨(fun _ _ h => by cases h),(fun _ h => by cases h)⟩
theorem bn_nmn :binA X σ .neq t (.d .nmap) (.d .nmap)=neM (binT X σ t (.d .nmap) (.d .nmap) (X.ti t)):=bin_n ⟨(fun _ _ h => by cases h),(fun _ h => by cases h)⟩
end
section
variable {X:X} {σ:St} {t e s bb:Nat} {x y:A} {z:Option (List A)} {zv:A}
theorem binT_bool:binT X σ t x y (some ⟨.bool,s,bb,z,zv⟩)=eq1 X σ .bool x y:=rfl
theorem binT_func:binT X σ t x y (some ⟨.func,s,bb,z,zv⟩)=eq1 X σ .func x y:=rfl
theorem binT_slc:binT X σ t x y (some ⟨.slc e,s,bb,z,zv⟩)=eq1 X σ (.slc e) x y:=rfl
theorem binT_struct {fs:List (Nat × Nat × Nat)}:binT X σ t x y (some ⟨.struct fs,s,bb,z,zv⟩)=eqT X σ 8 t x y:=rfl
theorem eq1_bool {a b:Bool}:eq1 X σ .bool (.d (.bool a)) (.d (.bool b))=some (a == b):=rfl
theorem eq1_sn {b:Bool} {xs:List (List D)}:eq1 X σ (.slc e) (.d (.slc b xs)) (.d (.slc true []))=some b:=by cases b <;> cases xs <;> rfl
theorem eq1_rn {k o l m:Nat}:eq1 X σ (.slc e) (.row k o l m) (.d (.slc true []))=if alive σ k=true then some false else none:=rfl
theorem eq1_fn {f:Nat} {c:List A}:eq1 X σ .func (.func f c) (.d .nfunc)=some false:=rfl
theorem eq1_nn:eq1 X σ .func (.d .nfunc) (.d .nfunc)=some true:=rfl
theorem alive_eq {k:Nat}:alive σ k=aliveB (σ.get k):=by unfold alive aliveB; rfl
end
theorem freezeL_nil {σ:St} {lo n:Nat}:freezeL σ lo n []=some []:=by cases n <;> rfl
theorem freezeL_cons {σ:St} {lo n:Nat} {a:A} {r:List A} (h:0 < n):freezeL σ lo n (a :: r)=match freeze σ lo (n - 1) a with
 | some d => (freezeL σ lo (n - 1) r).map fun l => d :: l
 | none => none:=by
 cases n with
 | zero => omega
 | succ n => rw [freezeL]; rfl
theorem freeze_d {σ:St} {lo n:Nat} {x:D}:freeze σ lo n (.d x)=some x:=by cases n <;> rfl
theorem freezeL_map {σ:St} {lo:Nat}:∀ {l:List D} {n:Nat},l.length≤n→freezeL σ lo n (l.map A.d)=some l
 | [],n,_ => freezeL_nil
 | x :: l,n,h => by
  rw [List.map_cons,freezeL_cons (by simp at h; omega),freeze_d]; dsimp only; rw [freezeL_map (by simp at h; omega)]; rfl
theorem freeze_row {σ:St} {lo n k len es:Nat} {cs:List A} {ds:List D} (hn:0 < n) (hk:σ.get k=.cells cs) (hlo:lo≤k) (hl:len * es≤cs.length) (hf:freezeL σ lo (n - 1) (cs.take (len * es))=some ds) :
 freeze σ lo n (.row k 0 len es)=some (.slc false (chunks es len ds)):=by
 cases n with
 | zero => omega
 | succ n => rw [freeze,if_neg (by omega),hk]; simp only [Nat.zero_add,List.drop_zero]; rw [if_pos hl]; rw [Nat.add_sub_cancel] at hf; rw [hf]; rfl
theorem chunks_flat {es:Nat}:∀ {xs:List (List D)},(∀ x ∈ xs,x.length=es)→chunks es xs.length (xs.flatMap id)=xs
 | [],_ => rfl
 | x :: xs,h => by
  rw [List.length_cons,chunks,List.flatMap_cons]
  have hx:(id x).length=es:=h x (by simp)
  rw [List.take_append_of_le_length (by omega),List.drop_append_of_le_length (by omega),List.take_of_length_le (by omega),List.drop_eq_nil_of_le (by omega),List.nil_append,chunks_flat fun y hy => h y (by simp [hy])]; rfl
theorem flat_len {es:Nat}:∀ {xs:List (List D)},(∀ x ∈ xs,x.length=es)→(xs.flatMap id).length=xs.length * es
 | [],_ => by simp
 | x :: xs,h => by rw [List.flatMap_cons,List.length_append,flat_len fun y hy => h y (by simp [hy]),id,h x (by simp),List.length_cons,Nat.succ_mul]; omega
theorem flat_at {es:Nat}:∀ {xs:List (List D)} {i:Nat} {c:List D},(∀ x ∈ xs,x.length=es)→xs[i]?=some c→((xs.flatMap id).drop (i * es)).take es=c
 | [],i,c,_,h => by simp at h
 | x :: xs,0,c,hx,h => by
  simp at h; subst h
  rw [Nat.zero_mul,List.drop_zero,List.flatMap_cons,id,List.take_append_of_le_length (by rw [hx x (by simp)]; omega),List.take_of_length_le (by rw [hx x (by simp)]; omega)]
 | x :: xs,i+1,c,hx,h => by
  have e:List.drop ((i+1) * es) (x ++ xs.flatMap id)=List.drop (i * es) (xs.flatMap id):=by
   have:(i+1) * es=x.length+i * es:=by rw [hx x (by simp),Nat.succ_mul]; omega
   rw [this,List.drop_append]; simp
  rw [List.flatMap_cons,id,e]
  exact flat_at (fun y hy => hx y (by simp [hy])) (by simpa using h)
theorem low_n0 {n:Nat}:low n [n]=[]:=by simp [low]
theorem low_ni {n i:Nat}:low n [n+i]=[]:=by simp [low]
theorem drawOk_quiet {ops:Array Oper} {log:List Log} (h:log.all (fun l => l.T.isEmpty)=true):drawOk ops log=true:=by unfold drawOk; rw [if_pos h]
theorem drawOk_last {ops:Array Oper} {log:List Log} {x:Log} (h:log.all (fun l => l.T.isEmpty)=true) (ho:log.all (fun y => ordered ops x.i y.i)=true):drawOk ops (log ++ [x])=true:=by
 unfold drawOk
 split
 · rfl
 · rw [List.all_append,Bool.and_eq_true]
   rw [List.all_eq_true] at h ho
   constructor
   · rw [List.all_eq_true]; intro y hy; rw [h y hy]; rfl
   · rw [List.all_cons,List.all_nil,Bool.and_true,Bool.or_eq_true]; right
     rw [List.all_append,Bool.and_eq_true]
     constructor
     · rw [List.all_eq_true]; intro y hy; rw [ho y hy]; simp
     · simp
theorem drawOk_end {ops:Array Oper} {log:List Log} (x:Log) (hl:log.getLast?=some x) (h:log.dropLast.all (fun l => l.T.isEmpty)=true) (ho:log.dropLast.all (fun y => ordered ops x.i y.i)=true):drawOk ops log=true:=by
 have e:log=log.dropLast ++ [x]:=by
  obtain ⟨l,rfl⟩:=List.getLast?_eq_some_iff.1 hl
  simp
 rw [e]; exact drawOk_last h ho
def gb:A→Option (Option Bool)
 | .d (.bool b) => some (some b)
 | .tup [] => some none
 | _ => none
def gv (tm:Tm):Option Oper→Option (Option Bool)
 | some ⟨some t,_,_,_,_,_⟩ => gb (tm.at t)
 | _ => none
theorem guardV_l {l:List Oper} {tm:Tm} {j:Nat}:guardV l.toArray tm j=gv tm l[j]?:=by
 unfold guardV
 rw [List.getElem?_toArray]
 cases l[j]? with
 | none => rfl
 | some o =>
  obtain ⟨d,_,_,_,_,_⟩:=o
  cases d with
  | none => rfl
  | some t => rfl
theorem gv_some {tm:Tm} {t ty:Nat} {op:Op} {pos:String} {after:Array Edge} {g:Option (Nat × Bool)}:gv tm (some ⟨some t,op,ty,pos,after,g⟩)=gb (tm.at t):=rfl
theorem gb_bool {b:Bool}:gb (.d (.bool b))=some (some b):=rfl
theorem gb_top:gb (.tup [])=some none:=rfl
theorem drawOk_rel {ops:Array Oper} {log:List Log} (ws:List Nat) (ex:List (Nat × Nat)) (ht:(log.all fun x => ws.contains x.i || x.T.isEmpty)=true)
 (hr:(log.all fun x => !ws.contains x.i || log.all fun y => ex.contains (x.i,y.i) || (x.i == y.i || ordered ops x.i y.i))=true)
 (hl:(ex.all fun p => lightAt ops p.2)=true)
 (hm:∀ p ∈ ex,∀ x ∈ log,x.i=p.1→∀ y ∈ log,y.i=p.2→meets x.T y.R=false∧meets x.T y.T=false):drawOk ops log=true:=by
 unfold drawOk
 split
 · rfl
 · rw [List.all_eq_true] at hr hl ht ⊢
   intro x hx
   have h0:=ht x hx
   have h1:=hr x hx
   cases hw:ws.contains x.i with
   | false => rw [hw] at h0; simp only [Bool.false_or] at h0; rw [h0]; rfl
   | true =>
    rw [hw] at h1
    simp only [Bool.not_true,Bool.false_or] at h1
    rw [Bool.or_eq_true]; right
    rw [List.all_eq_true] at h1 ⊢
    intro y hy
    have h3:=h1 y hy
    cases e:ex.contains (x.i,y.i) with
    | true =>
     have he:(x.i,y.i) ∈ ex:=by simpa using e
     obtain ⟨m1,m2⟩:=hm _ he x hx rfl y hy rfl
     rw [show lightAt ops y.i=true from hl _ he,m1,m2]; simp
    | false =>
     rw [e] at h3; simp only [Bool.false_or] at h3
     cases hq:x.i == y.i with
     | true => simp
     | false => rw [hq] at h3; simp only [Bool.false_or] at h3; rw [h3]; simp
def consR:Option A→Option (List A)→Option (List A)
 | some a,some l => some (a :: l)
 | _,_ => none
def loadOB (agg:Bool) (size off:Nat):Blk→Option A
 | .cells cs => partOf agg size cs off
 | _ => none
def loadO (σ:St):Option TI→A→Option A
 | some i,.ptr k off => loadOB i.kind.agg i.size off (σ.get k)
 | some i,.d (.vptr cs off) => partOf i.kind.agg i.size (cs.map A.d) off
 | _,_ => none
section
variable {X:X} {tm:Tm} {σ:St} {W:List Nat}
theorem res_nil:results X tm σ []=some []:=rfl
theorem res_tmp {t:Nat} {r:List ResultVar}:results X tm σ (.tmp t :: r)=consR (some (tm.at t)) (results X tm σ r):=by rw [results]; cases results X tm σ r <;> rfl
theorem res_cell {a t:Nat} {r:List ResultVar}:results X tm σ (.cell a t :: r)=consR (loadO σ (X.ti t) (tm.at a)) (results X tm σ r):=by
 rw [results]
 cases X.ti t with
 | none => rfl
 | some i =>
  dsimp only [loadO]
  unfold loadA
  cases tm.at a with
  | ptr k off => dsimp only [loadOB]; cases σ.get k with
   | cells cs => dsimp only [TI.agg]; cases partOf i.kind.agg i.size cs off <;> cases results X tm σ r <;> rfl
   | _ => rfl
  | d x => cases x with
   | vptr cs off => dsimp only [TI.agg]; cases partOf i.kind.agg i.size (cs.map A.d) off <;> cases results X tm σ r <;> rfl
   | _ => rfl
  | _ => rfl
theorem consR_some {a:A} {l:List A}:consR (some a) (some l)=some (a :: l):=rfl
theorem loadO_ptr {kd:TK} {s b k off:Nat} {z:Option (List A)} {zv:A}:loadO σ (some ⟨kd,s,b,z,zv⟩) (.ptr k off)=loadOB kd.agg s off (σ.get k):=rfl
theorem loadOB_cells {agg:Bool} {s off:Nat} {cs:List A}:loadOB agg s off (.cells cs)=partOf agg s cs off:=rfl
def RetM (K:A→St→List Nat→Prop) (σ:St) (W:List Nat):Option (List A)→Prop
 | some l => K (tupOf l) σ W
 | none => False
theorem retQ_ret {rs:List ResultVar} {K:A→St→List Nat→Prop}:RetQ X rs K (.ret tm σ W)=RetM K σ W (results X tm σ rs):=by
 unfold RetQ RetM; rfl
theorem retM_some {K:A→St→List Nat→Prop} {l:List A}:RetM K σ W (some l)=K (tupOf l) σ W:=rfl
theorem tup_1 {a:A}:tupOf [a]=a:=rfl
theorem tup_0:tupOf []=.tup []:=rfl
theorem tup_2 {a b:A} {l:List A}:tupOf (a :: b :: l)=.tup (a :: b :: l):=rfl
end
def consD:Option D→Option (List D)→Option (List D)
 | some a,some l => some (a :: l)
 | _,_ => none
def aggO:Option (List D)→Option A
 | some l => some (.agg (l.map .d))
 | none => none
def dO:Option D→Option A
 | some x => some (.d x)
 | none => none
def tupO:Option (List A)→Option A
 | some l => some (.tup l)
 | none => none
section
variable {σ:St} {lo n:Nat}
theorem frL_nil:freezeL σ lo n []=some []:=by cases n <;> rfl
theorem frL_cons {a:A} {r:List A}:freezeL σ lo n (a :: r)=if 0 < n then consD (freeze σ lo (n - 1) a) (freezeL σ lo (n - 1) r) else none:=by
 cases n with
 | zero => rfl
 | succ n => rw [if_pos (by omega),freezeL,Nat.add_sub_cancel]; cases freeze σ lo n a <;> cases freezeL σ lo n r <;> rfl
theorem fr_d {x:D}:freeze σ lo n (.d x)=some x:=by cases n <;> rfl
theorem consD_some {a:D} {l:List D}:consD (some a) (some l)=some (a :: l):=rfl
theorem frW_agg {cs:List A}:freezeW σ lo n (.agg cs)=aggO (freezeL σ lo n cs):=by unfold freezeW aggO; dsimp only; cases freezeL σ lo n cs <;> rfl
theorem frW_d {x:D}:freezeW σ lo n (.d x)=some (.d x):=by unfold freezeW; dsimp only; rw [fr_d]
theorem frW_row {k off len es:Nat}:freezeW σ lo n (.row k off len es)=dO (freeze σ lo n (.row k off len es)):=by unfold freezeW dO; dsimp only; cases freeze σ lo n (.row k off len es) <;> rfl
theorem frW_ptr {k off:Nat}:freezeW σ lo n (.ptr k off)=dO (freeze σ lo n (.ptr k off)):=by unfold freezeW dO; dsimp only; cases freeze σ lo n (.ptr k off) <;> rfl
theorem frV_agg {cs:List A}:freezeV σ lo n (.agg cs)=aggO (freezeL σ lo n cs):=by rw [freezeV,frW_agg]; intro _ h; cases h
theorem frV_d {x:D}:freezeV σ lo n (.d x)=some (.d x):=by rw [freezeV,frW_d]; intro _ h; cases h
theorem frV_row {k off len es:Nat}:freezeV σ lo n (.row k off len es)=dO (freeze σ lo n (.row k off len es)):=by rw [freezeV,frW_row]; intro _ h; cases h
theorem frV_ptr {k off:Nat}:freezeV σ lo n (.ptr k off)=dO (freeze σ lo n (.ptr k off)):=by rw [freezeV,frW_ptr]; intro _ h; cases h
theorem frV_tup {l:List A}:freezeV σ lo n (.tup l)=tupO (freezeWs σ lo n l):=by rw [freezeV]; unfold tupO; cases freezeWs σ lo n l <;> rfl
theorem frWs_nil:freezeWs σ lo n []=some []:=rfl
theorem frWs_cons {a:A} {r:List A}:freezeWs σ lo n (a :: r)=consR (freezeW σ lo n a) (freezeWs σ lo n r):=by rw [freezeWs]; cases freezeW σ lo n a <;> cases freezeWs σ lo n r <;> rfl
theorem aggO_some {l:List D}:aggO (some l)=some (.agg (l.map .d)):=rfl
theorem dO_some {x:D}:dO (some x)=some (.d x):=rfl
theorem tupO_some {l:List A}:tupO (some l)=some (.tup l):=rfl
end
attribute [go_sem] yq_leave guardV_l gv_some gb_bool gb_top res_nil res_tmp res_cell consR_some loadO_ptr loadOB_cells retQ_ret retM_some tup_0 tup_1 tup_2 frL_nil frL_cons fr_d consD_some frW_agg frW_d frW_row frW_ptr frV_agg frV_d frV_row frV_ptr frV_tup frWs_nil frWs_cons aggO_some dO_some tupO_some
attribute [go_sem] low_n0 low_ni
attribute [go_sem] eqM_some neM_some be_bb bn_bb be_sn bn_sn be_rn bn_rn be_fn bn_fn be_nn bn_nn be_yn bn_yn be_pn bn_pn be_ptpt bn_ptpt be_npn bn_npn be_aa bn_aa be_mn bn_mn be_nmn bn_nmn binT_bool binT_func binT_slc binT_struct eq1_bool eq1_sn eq1_rn eq1_fn eq1_nn alive_eq
attribute [go_sem] o_mks mksT_slc
theorem appT_int {ti:Nat→Option TI} {σ:St} {n:Nat} {e s b s' b':Nat} {k:IntKind} {z z':Option (List A)} {zv zv':A}:appT ti σ (.d (.slc true [])) (.d (.int .i64 (n:Int))) (some ⟨.slc e,s,b,z,zv⟩) (some ⟨.int k,s',b',z',zv'⟩)=growA σ n (ti e):=rfl
attribute [go_sem] appT_int
attribute [go_sem] o_append appT_slc appE_some o_bsl bslT_slc bslE_some bslV_some fillA_nil fillA_cons fillC_some putAt_nil putAt_cons rep_0 rep_1 rep_2 rep_3 rep_4 rep_5 rep_6 o_build bldT_struct bldV_some o_ext extK_tup
end Go.Am
namespace Go.Am
open Go
def RowAt (es:Nat) (σ:St) (a:A) (xs:List (List D)) (bs:List Nat):Prop :=
 (∀ x ∈ xs,x.length=es)∧((xs=[]∧a=.d (.slc true [])∧bs=[])∨∃ k,a=.row k 0 xs.length es∧σ.get k=.cells ((xs.flatMap id).map A.d)∧k < σ.n∧bs=[k])
section
variable {es:Nat} {σ τ:St} {a:A} {xs ys:List (List D)} {bs:List Nat}
theorem RowAt.nil:RowAt es σ (.d (.slc true [])) [] []:=⟨(fun _ h => by cases h),.inl ⟨rfl,rfl,rfl⟩⟩
theorem RowAt.stay (h:RowAt es σ a xs bs) (hn:σ.n≤τ.n) (hg:∀ k ∈ bs,τ.get k=σ.get k):RowAt es τ a xs bs:=by
 refine ⟨h.1,h.2.imp id ?_⟩
 rintro ⟨k,h1,h2,h3,rfl⟩
 exact ⟨k,h1,by rw [hg k (by simp)]; exact h2,by omega,rfl⟩
theorem RowAt.lt (h:RowAt es σ a xs bs) {k:Nat} (hk:k ∈ bs):k < σ.n:=by
 rcases h.2 with ⟨-,-,rfl⟩ | ⟨j,-,-,h3,rfl⟩
 · cases hk
 · simp at hk; omega
theorem RowAt.cell (h:RowAt es σ a xs bs):a.isCell=true:=by
 rcases h.2 with ⟨-,rfl,-⟩ | ⟨j,rfl,-,-,-⟩ <;> rfl
theorem RowAt.cells (h:RowAt es σ a xs bs):a.cells=some [a]:=by
 rcases h.2 with ⟨-,rfl,-⟩ | ⟨j,rfl,-,-,-⟩ <;> rfl
theorem RowAt.len (h:RowAt es σ a xs bs):sliceLen σ a=some xs.length:=by
 rcases h.2 with ⟨rfl,rfl,-⟩ | ⟨j,rfl,h2,-,-⟩
 · rfl
 · rw [sliceLen_row,h2]; rfl
theorem RowAt.sc (h:RowAt es σ a xs bs):sliceCells σ a=some ((xs.flatMap id).map A.d):=by
 rcases h.2 with ⟨rfl,rfl,-⟩ | ⟨j,rfl,h2,-,-⟩
 · rfl
 · rw [sliceCells_row h2 (by rw [List.length_map,flat_len h.1]; omega),List.drop_zero,List.take_of_length_le (by rw [List.length_map,flat_len h.1]; omega)]
theorem RowAt.refs (h:RowAt es σ a xs bs):a.refs=bs:=by
 rcases h.2 with ⟨-,rfl,rfl⟩ | ⟨j,rfl,-,-,rfl⟩ <;> simp [A.refs]
theorem RowAt.app (h:RowAt es σ a xs bs) {x:A} {b:Nat} (h1:sliceCells σ x=some ((ys.flatMap id).map A.d)) (h2:sliceLen σ x=some ys.length) (hy:∀ y ∈ ys,y.length=es)
 (hb:(xs.length+ys.length) * b≤2 ^ 47) (hn:xs.length+ys.length < 2 ^ 62) :
 ∃ a' σ' T bs',appendA es b σ a x=.val a' σ' T []∧RowAt es σ' a' (xs ++ ys) bs'∧Kept σ bs σ' bs' T:=by
 have hl:((ys.flatMap id).map A.d).length=ys.length * es:=by rw [List.length_map,flat_len hy]
 have hc:((ys.flatMap id).map A.d).all A.isCell=true:=by simp [A.isCell]
 have hxy:∀ x ∈ xs ++ ys,x.length=es:=fun x hx => (List.mem_append.1 hx).elim (h.1 x) (hy x)
 rcases h.2 with ⟨rfl,rfl,rfl⟩ | ⟨k,rfl,hk,hlt,rfl⟩
 · rw [appendA_nil h1 h2 hl hc (by simpa using hb) (by simpa using hn)]
   by_cases e:ys.length=0
   · rw [if_pos e]
     obtain rfl:ys=[]:=by simpa using e
     exact ⟨_,_,_,_,rfl,RowAt.nil,Kept.refl⟩
   · rw [if_neg e]
     exact ⟨_,_,_,[σ.n],rfl,⟨hxy,.inr ⟨σ.n,rfl,St.get_push_eq,by simp [St.n_push],rfl⟩⟩,(Kept.refl.push).owns fun k hk => by simp at hk; omega⟩
 · have hle:0+xs.length * es≤((xs.flatMap id).map A.d).length:=by rw [List.length_map,flat_len h.1]; omega
   rw [appendA_row hk h1 h2 hl hc hle hb hn]
   by_cases e:ys.length=0
   · rw [if_pos e]
     obtain rfl:ys=[]:=by simpa using e
     exact ⟨_,_,_,_,rfl,⟨hxy,.inr ⟨k,by rw [List.append_nil],by rw [List.append_nil]; exact hk,hlt,rfl⟩⟩,Kept.refl⟩
   · rw [if_neg e]
     refine ⟨_,_,_,[σ.n],rfl,⟨hxy,.inr ⟨σ.n,by rw [List.length_append],?_,by simp [St.n_push,St.n_set],rfl⟩⟩,?_⟩
     · have:((σ.set k .dead).push (.cells ((((xs.flatMap id).map A.d).drop 0).take (xs.length * es) ++ (ys.flatMap id).map A.d))).get σ.n=.cells ((((xs.flatMap id).map A.d).drop 0).take (xs.length * es) ++ (ys.flatMap id).map A.d):=by
        rw [St.get_push,St.n_set,if_pos rfl]
       rw [this,List.drop_zero,List.take_of_length_le (by rw [List.length_map,flat_len h.1]; omega),List.flatMap_append,List.map_append]
     · exact { (((Kept.refl (σ:=σ) (own:=[k])).set (b:=.dead) (k:=k) (.inl (by simp))).push).owns (fun j hj => by simp at hj; omega) with w:=fun j hj => .inl hj }
theorem RowAt.freeze (h:RowAt es σ a xs bs) {lo n:Nat} (hlo:∀ k ∈ bs,lo≤k) (hn:xs.length * es+2≤n):freeze σ lo n a=some (.slc xs.isEmpty xs)∨∃ k,bs=[k]∧freeze σ lo n a=some (.slc false xs):=by
 rcases h.2 with ⟨rfl,rfl,rfl⟩ | ⟨k,rfl,hk,hlt,rfl⟩
 · left; rw [freeze_d]; rfl
 · right
   refine ⟨k,rfl,?_⟩
   rw [freeze_row (ds:=xs.flatMap id) (by omega) hk (hlo k (by simp)) (by rw [List.length_map,flat_len h.1]; omega) ?_,chunks_flat h.1]
   rw [List.take_of_length_le (by rw [List.length_map,flat_len h.1]; omega)]
   exact freezeL_map (by rw [flat_len h.1]; omega)
end
def RowN (es:Nat) (σ:St) (a:A) (xs:List (List D)) (bs:List Nat):Prop:=RowAt es σ a xs bs∧(xs=[]→a=.d (.slc true [])∧bs=[])
section
variable {es:Nat} {σ τ:St} {a:A} {xs ys:List (List D)} {bs:List Nat}
theorem RowN.nil:RowN es σ (.d (.slc true [])) [] []:=⟨RowAt.nil,fun _ => ⟨rfl,rfl⟩⟩
theorem RowN.stay (h:RowN es σ a xs bs) (hn:σ.n≤τ.n) (hg:∀ k ∈ bs,τ.get k=σ.get k):RowN es τ a xs bs:=⟨h.1.stay hn hg,h.2⟩
theorem RowN.app (h:RowN es σ a xs bs) {x:A} {b:Nat} (h1:sliceCells σ x=some ((ys.flatMap id).map A.d)) (h2:sliceLen σ x=some ys.length) (hy:∀ y ∈ ys,y.length=es)
 (hb:(xs.length+ys.length) * b≤2 ^ 47) (hn:xs.length+ys.length < 2 ^ 62) :
 ∃ a' σ' T bs',appendA es b σ a x=.val a' σ' T []∧RowN es σ' a' (xs ++ ys) bs'∧Kept σ bs σ' bs' T:=by
 by_cases e:xs ++ ys=[]
 · obtain ⟨rfl,rfl⟩:=List.append_eq_nil_iff.1 e
   obtain ⟨rfl,rfl⟩:=h.2 rfl
   rw [appendA_nil h1 h2 (by simp) (by simp) (by simp) (by simp)]
   exact ⟨_,_,_,_,rfl,RowN.nil,Kept.refl⟩
 · obtain ⟨a',σ',T,bs',h1,h2,h3⟩:=h.1.app h1 h2 hy hb hn
   exact ⟨a',σ',T,bs',h1,⟨h2,fun h => absurd h e⟩,h3⟩
theorem RowN.freeze (h:RowN es σ a xs bs) {lo n:Nat} (hlo:∀ k ∈ bs,lo≤k) (hn:xs.length * es+2≤n):Am.freeze σ lo n a=some (.slc xs.isEmpty xs):=by
 rcases h.1.freeze hlo hn with h' | ⟨k,e,h'⟩
 · exact h'
 · cases xs with
   | nil => exact absurd e (by rw [(h.2 rfl).2]; simp)
   | cons x r => exact h'
end
section
variable {es:Nat} {σ τ:St} {a:A} {xs:List (List D)} {z x:List D} {bs:List Nat}
theorem RowAt.last (h:RowAt es σ a (xs ++ [z]) bs):∃ k,bs=[k]∧a=.row k 0 (xs.length+1) es∧k < σ.n∧σ.get k=.cells (((xs ++ [z]).flatMap id).map A.d) ∧
 ∀ kd,indexK σ es a (.d (.int kd (xs.length:Int)))=.val (.ptr k (xs.length * es)) σ [] [k]:=by
 rcases h.2 with ⟨e,-,-⟩ | ⟨k,rfl,hk,hlt,rfl⟩
 · simp at e
 · refine ⟨k,rfl,by simp,hlt,hk,fun kd => ?_⟩
   rw [indexK_row,hk,indexR_nat (by simp)]; simp
theorem RowN.put (h:RowN es σ a (xs ++ [z]) bs) {k:Nat} (hb:bs=[k]) (hx:x.length=es):RowN es (σ.set k (.cells (((xs ++ [x]).flatMap id).map A.d))) a (xs ++ [x]) bs:=by
 subst hb
 refine ⟨⟨fun y hy => ?_,?_⟩,fun e => by simp at e⟩
 · rcases List.mem_append.1 hy with hy | hy
   · exact h.1.1 y (List.mem_append.2 (.inl hy))
   · simp at hy; rw [hy]; exact hx
 · obtain ⟨k',e,ha,hlt,hg,-⟩:=h.1.last
   obtain rfl:k=k':=by simpa using e
   right
   exact ⟨k,by rw [ha]; simp,St.get_set_eq,hlt,rfl⟩
end
structure SlV (es:Nat) (σ:St) (a:A) (xs:List (List D)):Prop where
 all:∀ x ∈ xs,x.length=es
 len:sliceLen σ a=some xs.length
 sc:sliceCells σ a=some ((xs.flatMap id).map A.d)
 idx:∀ (kd:IntKind) (i:Nat) (x:List D),xs[i]?=some x→∃ p R,indexK σ es a (.d (.int kd (i:Int)))=.val p σ [] R∧∀ kd' b z zv,∃ R',loadK σ (some ⟨kd',es,b,z,zv⟩) p=loadV σ R' (partOf kd'.agg es (x.map A.d) 0)
section
variable {es:Nat} {σ τ:St} {a:A} {xs:List (List D)} {z:Bool} {bs:List Nat}
theorem SlV.data (h:∀ x ∈ xs,x.length=es):SlV es σ (.d (.slc z xs)) xs where
 all:=h
 len:=rfl
 sc:=rfl
 idx:=fun kd i x hx => ⟨_,_,by rw [indexK_d]; exact indexD_nat hx (h x (List.mem_of_getElem? hx)),fun kd' b z zv => ⟨_,rfl⟩⟩
theorem flat_get {es:Nat} (hes:0 < es) {xs:List (List D)} {i:Nat} {x:List D} (h:∀ x ∈ xs,x.length=es) (hx:xs[i]?=some x):(((xs.flatMap id).map A.d))[i * es]?=(x.map A.d)[0]?:=by
 have h1:=flat_at h hx
 have h2:((xs.flatMap id).drop (i * es))[0]?=x[0]?:=by
  rw [← h1]; rw [List.getElem?_take]; simp [hes]
 rw [List.getElem?_drop] at h2
 simp only [List.getElem?_map,Nat.add_zero] at h2 ⊢
 rw [h2]
theorem RowAt.sl (hes:0 < es) (h:RowAt es σ a xs bs):SlV es σ a xs where
 all:=h.1
 len:=h.len
 sc:=h.sc
 idx:=by
  rcases h.2 with ⟨rfl,rfl,-⟩ | ⟨k,rfl,hk,-,-⟩
  · intro kd i x hx; simp at hx
  · intro kd i x hx
    obtain ⟨hi,hx'⟩:=List.getElem?_eq_some_iff.1 hx
    refine ⟨_,_,by rw [indexK_row,hk]; exact indexR_nat hi,fun kd' b z zv => ⟨[k],?_⟩⟩
    rw [loadK_ptr,hk,loadB_cells]
    congr 1
    have hle:(0+i * es)+es≤((xs.flatMap id).map A.d).length:=by
     rw [List.length_map,flat_len h.1,Nat.zero_add]
     have:=Nat.mul_le_mul_right es (show i+1≤xs.length from hi)
     rw [Nat.succ_mul] at this; exact this
    cases kd'.agg with
    | true =>
     rw [partOf_t,partOf_t,if_pos hle,if_pos (by simp [h.1 x (List.mem_of_getElem? hx)]),Nat.zero_add,List.drop_zero,← List.map_drop,← List.map_take,flat_at h.1 hx]
     rw [List.take_of_length_le (by simp [h.1 x (List.mem_of_getElem? hx)])]
    | false => rw [partOf_f,partOf_f,Nat.zero_add,flat_get hes h.1 hx]
end
end Go.Am
namespace Go.Am
attribute [go_sem_proc ↓] reduceIte
attribute [go_sem_proc] Int.reduceEq Nat.reduceBEq Int.reduceBEq Int.reduceBNe Int.reduceLT Int.reduceLE Nat.reduceAdd Nat.reducePow Nat.reduceEqDiff Nat.reduceLT Nat.reduceLeDiff Nat.reduceMul Nat.reduceSub
attribute [go_sem] Option.some.injEq Bool.true_eq_false Bool.false_eq_true Nat.add_assoc Nat.zero_le Nat.add_left_cancel_iff Nat.lt_irrefl Nat.le_refl Nat.add_eq_left Nat.left_eq_add beq_self_eq_true
end Go.Am


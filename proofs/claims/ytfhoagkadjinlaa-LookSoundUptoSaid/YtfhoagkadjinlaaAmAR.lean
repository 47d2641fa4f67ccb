/- Part AR of a proof that runs a program's calls on a small machine whose values bear no addresses: no conditions. -/
import Derived.Test.YtfhoagkadjinlaaAmA1
set_option autoImplicit false
set_option linter.unusedSimpArgs false
set_option linter.unusedVariables false
set_option linter.unusedSectionVars false
namespace Go.Am
open Go
variable {X:X}
def okL (L:ALoop):Prop:=codeOk L.assign=true∧codeOk L.body=true∧∀ c,L.pending=some c→codeOk c=true
def LoopsOk (σ:St):Prop:=∀ k L,σ.get k=.loop L→okL L
def itemOk:Item→Bool
 | .code c => codeOk c
 | .inLoop b => codeOk b
 | _ => true
structure AX (σ σ':St) (T:List Nat):Prop where
 n:σ.n≤σ'.n
 rest:∀ k,k < σ.n→k ∉ T→σ'.get k=σ.get k
theorem AX.refl (σ:St) (T:List Nat):AX σ σ T:=⟨Nat.le_refl _,fun _ _ _ => rfl⟩
theorem AX.trans {σ₁ σ₂ σ₃:St} {S T:List Nat} (h:AX σ₁ σ₂ S) (g:AX σ₂ σ₃ T):AX σ₁ σ₃ (S ++ T) :=
 ⟨Nat.le_trans h.n g.n,fun k hk hS => by
  simp only [List.mem_append,not_or] at hS
  exact (g.rest k (Nat.lt_of_lt_of_le hk h.n) hS.2).trans (h.rest k hk hS.1)⟩
theorem AR.ax {σ σ':St} {T:List Nat} (h:AR σ σ' T):AX σ σ' T:=⟨h.n,h.rest⟩
theorem AR.ok {σ σ':St} {T:List Nat} (h:AR σ σ' T) (e:LoopsOk σ):LoopsOk σ':=fun k L hk => e k L (h.loops k L hk)
theorem AX.set (σ:St) (k:Nat) (b:Blk):AX σ (σ.set k b) [k] :=
 ⟨Nat.le_refl _,fun j _ hj => by rw [St.get_set,if_neg (by simpa using hj)]⟩
theorem AX.push (σ:St) (b:Blk):AX σ (σ.push b) [] :=
 ⟨by rw [St.n_push]; omega,fun k hk _ => by rw [St.get_push,if_neg (by omega)]⟩
theorem LoopsOk.set {σ:St} (e:LoopsOk σ) (k:Nat) {b:Blk} (hb:∀ L,b=.loop L→okL L):LoopsOk (σ.set k b):=fun j L h => by
 rw [St.get_set] at h
 split at h
 · exact hb L h
 · exact e j L h
theorem LoopsOk.push {σ:St} (e:LoopsOk σ) {b:Blk} (hb:∀ L,b=.loop L→okL L):LoopsOk (σ.push b):=fun j L h => by
 rw [St.get_push] at h
 split at h
 · exact hb L h
 · exact e j L h
theorem get_cutSt (σ₀ σ:St):∀ (W:List Nat) (k:Nat),(cutSt σ₀ σ W).get k=if k ∈ W then σ.get k else σ₀.get k:=by
 intro W
 unfold cutSt
 induction W generalizing σ₀ with
 | nil => intro k; simp
 | cons j W ih =>
  intro k
  rw [List.foldl_cons,ih (σ₀.set j (σ.get j)) k,St.get_set]
  by_cases h:k ∈ W
  · simp [h]
  · by_cases e:k=j
    · subst e; simp [h]
    · simp [h,e]
theorem n_cutSt (σ₀ σ:St):∀ (W:List Nat),(cutSt σ₀ σ W).n=σ₀.n:=by
 intro W
 unfold cutSt
 induction W generalizing σ₀ with
 | nil => rfl
 | cons j W ih => rw [List.foldl_cons,ih]; rfl
def Wrote (lo:Nat) (W W' T:List Nat):Prop:=∀ k,k ∈ W' ↔ k ∈ W∨(k ∈ T∧k < lo)
theorem Wrote.nil (lo:Nat) (W:List Nat):Wrote lo W W []:=fun k => by simp
theorem Wrote.step {lo:Nat} {W W' T S:List Nat} (h:Wrote lo (W ++ low lo S) W' T):Wrote lo W W' (S ++ T):=fun k => by
 rw [h k]; simp only [low,List.mem_append,List.mem_filter,decide_eq_true_eq]; 
 constructor
 · rintro ((h | h) | h)
   · exact .inl h
   · exact .inr ⟨.inl h.1,h.2⟩
   · exact .inr ⟨.inr h.1,h.2⟩
 · rintro (h | ⟨h | h,h'⟩)
   · exact .inl (.inl h)
   · exact .inl (.inr ⟨h,h'⟩)
   · exact .inr ⟨h,h'⟩
theorem leaveCall_rest {fz:Md} {σ₀ σ σ':St} {r a:A} {W S T:List Nat} (h:leaveCall fz σ₀ r σ W=some (a,σ',T)) (h0:LoopsOk σ₀) (hl:LoopsOk σ) (hs:AX σ₀ σ S)
 (hW:∀ k,k ∈ S→k < σ₀.n→k ∈ W):LoopsOk σ'∧AX σ₀ σ' T∧T=W:=by
 have hcut:LoopsOk (cutSt σ₀ σ W)∧AX σ₀ (cutSt σ₀ σ W) W:=⟨fun k L hk => by
  rw [get_cutSt] at hk
  split at hk
  · exact hl k L hk
  · exact h0 k L hk,by rw [n_cutSt]; exact Nat.le_refl _,fun k _ hk => by rw [get_cutSt,if_neg hk]⟩
 have hsame:AX σ₀ σ W:=⟨hs.n,fun k hk hT => hs.rest k hk fun hS => hT (hW k hS hk)⟩
 unfold leaveCall at h
 split at h
 · split at h
   · split at h
     · cases h; exact ⟨hcut.1,hcut.2,rfl⟩
     · cases h
   · cases h
 · split at h
   · cases h; exact ⟨hcut.1,hcut.2,rfl⟩
   · cases h; exact ⟨hl,hsame,rfl⟩
 · cases h; exact ⟨hl,hsame,rfl⟩
 · cases h
theorem AX.less (σ:St) (S:List Nat):AX σ (lessSt σ S) S :=
 ⟨Nat.le_refl _,fun k _ hk => by
  show (if S.contains k then Blk.dead else σ.get k)=σ.get k
  rw [if_neg (by simpa using hk)]⟩
theorem LoopsOk.less {σ:St} (e:LoopsOk σ) (S:List Nat):LoopsOk (lessSt σ S):=fun k L h => by
 have h:(if S.contains k then Blk.dead else σ.get k)=.loop L:=h
 split at h
 · cases h
 · exact e k L h
theorem oraCall_rest {F:List A→Option A} {args:List A} {σ σ':St} {a:A} {T:List Nat} (h:oraCall F args σ=some (a,σ',T)) (e:LoopsOk σ):LoopsOk σ'∧AX σ σ' T:=by
 unfold oraCall at h
 repeat' (split at h)
 all_goals first | (cases h; done) | (cases h; exact ⟨e,AX.refl _ _⟩) | (cases h; exact ⟨e.less _,AX.less _ _⟩)
def Out.st:Out→St
 | .ret _ σ _ => σ
 | .leave _ σ _ => σ
def Out.W:Out→List Nat
 | .ret _ _ W => W
 | .leave _ _ W => W
def Out.ok:Out→Prop
 | .ret _ _ _ => True
 | .leave j _ _ => ∀ c,j=some c→codeOk c=true
theorem all_cons {i:Item} {k:List Item}:(i :: k).all itemOk=true ↔ itemOk i=true∧k.all itemOk=true:=by simp only [List.all_cons,Bool.and_eq_true]
theorem exitTo_ok {id:Nat}:∀ {k k':List Item},exitTo id k=some k'→k.all itemOk=true→k'.all itemOk=true
 | [],k',h,_ => by simp [exitTo] at h
 | i :: k,k',h,ha => by
  rw [all_cons] at ha
  cases i <;> simp only [exitTo] at h
  case inBlock j =>
   split at h
   · cases h; exact ha.2
   · exact exitTo_ok h ha.2
  all_goals exact exitTo_ok h ha.2
def leaveA (ro:Option Nat) (tm:Tm) (σ:St) (W:List Nat) (j:Option Code):Option Out:=match ro with
 | none => match j with
  | none | some .ret => some (.ret tm σ W)
  | _ => none
 | some _ => some (.leave j σ W)
theorem leaveA_rest {ro:Option Nat} {lo:Nat} {tm:Tm} {σ:St} {W:List Nat} {j:Option Code} {o:Out} (h:leaveA ro tm σ W j=some o) (hj:∀ c,j=some c→codeOk c=true) (hl:LoopsOk σ) :
 o.ok∧LoopsOk o.st∧∃ T,AX σ o.st T∧Wrote lo W o.W T:=by
 unfold leaveA at h
 split at h
 · split at h <;> cases h <;> exact ⟨trivial,hl,[],.refl _ _,.nil _ _⟩
 · cases h; exact ⟨hj,hl,[],.refl _ _,.nil _ _⟩
theorem rest_all (hX:∀ f F,X.fn f=some F→codeOk F.body=true):∀ n,
 (∀ ops nt lo os i tm σ W log tm' σ' W' log',opsR X n ops nt lo os i tm σ W log=some (tm',σ',W',log')→LoopsOk σ→LoopsOk σ'∧∃ T,AX σ σ' T∧Wrote lo W W' T) ∧
 (∀ fn nt ro lo todo tm σ W o,exec X n fn nt ro lo todo tm σ W=some o→todo.all itemOk=true→LoopsOk σ→o.ok∧LoopsOk o.st∧∃ T,AX σ o.st T∧Wrote lo W o.W T) ∧
 (∀ f args σ a σ' T,callA X n f args σ=some (a,σ',T)→LoopsOk σ→LoopsOk σ'∧AX σ σ' T):=by
 intro n
 induction n with
 | zero => exact ⟨by intros; simp_all [opsR],by intros; simp_all [exec],by intros; simp_all [callA]⟩
 | succ n ih =>
  obtain ⟨ih1,ih2,ih3⟩:=ih
  refine ⟨?_,?_,?_⟩
  · intro ops nt lo os i tm σ W log tm' σ' W' log' h hl
    cases os with
    | nil => simp only [opsR,Option.some.injEq,Prod.mk.injEq] at h; obtain ⟨_,rfl,rfl,_⟩:=h; exact ⟨hl,[],.refl _ _,.nil _ _⟩
    | cons o rest =>
     rw [opsR] at h
     split at h
     · cases h
     · split at h
       · split at h
         · rename_i a σ1 T R he
           split at h
           · obtain ⟨g,S,h1,h2⟩:=ih1 _ _ _ _ _ _ _ _ _ _ _ _ _ h ((evalOp_rest he).ok hl)
             exact ⟨g,_,(evalOp_rest he).ax.trans h1,h2.step⟩
           · cases h
         · rename_i f args he
           split at h
           · rename_i a σ1 T hc
             split at h
             · have c:=ih3 _ _ _ _ _ _ hc hl
               obtain ⟨g,S,h1,h2⟩:=ih1 _ _ _ _ _ _ _ _ _ _ _ _ _ h c.1
               exact ⟨g,_,c.2.trans h1,h2.step⟩
             · cases h
           · cases h
         · cases h
       · split at h
         · exact ih1 _ _ _ _ _ _ _ _ _ _ _ _ _ h hl
         · cases h
  · intro fn nt ro lo todo tm σ W o h hk hl
    rw [exec.eq_def] at h
    dsimp only at h
    split at h
    · exact leaveA_rest (j:=none) h (by intro c h; cases h) hl
    · exact leaveA_rest (j:=some .ret) h (by intro c h; cases h; rfl) hl
    · rw [all_cons] at hk; exact ih2 _ _ _ _ _ _ _ _ _ h hk.2 hl
    · rw [all_cons] at hk; exact ih2 _ _ _ _ _ _ _ _ _ h hk.2 hl
    · rw [all_cons] at hk; exact ih2 _ _ _ _ _ _ _ _ _ h hk.2 hl
    · rw [all_cons] at hk; exact ih2 _ _ _ _ _ _ _ _ _ h hk.2 hl
    · rw [all_cons,itemOk,codeOk,Bool.and_eq_true] at hk
      exact ih2 _ _ _ _ _ _ _ _ _ h (all_cons.2 ⟨hk.1.1,all_cons.2 ⟨hk.1.2,hk.2⟩⟩) hl
    · split at h
      · rw [all_cons,itemOk,codeOk,Bool.and_eq_true] at hk
        exact ih2 _ _ _ _ _ _ _ _ _ h (all_cons.2 ⟨by
         simp only [itemOk]
         split
         · exact hk.1.1
         · exact hk.1.2,hk.2⟩) hl
      · cases h
    · rw [all_cons,itemOk,codeOk] at hk; exact ih2 _ _ _ _ _ _ _ _ _ h (all_cons.2 ⟨hk.1,all_cons.2 ⟨rfl,hk.2⟩⟩) hl
    · rw [all_cons,itemOk,codeOk] at hk; exact ih2 _ _ _ _ _ _ _ _ _ h (all_cons.2 ⟨hk.1,all_cons.2 ⟨hk.1,hk.2⟩⟩) hl
    · rw [all_cons,itemOk] at hk; exact ih2 _ _ _ _ _ _ _ _ _ h (all_cons.2 ⟨hk.1,all_cons.2 ⟨hk.1,hk.2⟩⟩) hl
    · rw [all_cons,itemOk,codeOk] at hk; exact ih2 _ _ _ _ _ _ _ _ _ h (all_cons.2 ⟨hk.1,all_cons.2 ⟨rfl,hk.2⟩⟩) hl
    · split at h
      · rename_i hx
        exact ih2 _ _ _ _ _ _ _ _ _ h (exitTo_ok hx (all_cons.1 hk).2) hl
      · exact leaveA_rest (tm:=tm) (j:=some (.exit _)) h (by intro c h; cases h; rfl) hl
    · split at h
      · rename_i hr
        split at h
        · obtain ⟨g,S,h1,h2⟩:=ih1 _ _ _ _ _ _ _ _ _ _ _ _ _ hr hl
          obtain ⟨g0,g',T,g1,g2⟩:=ih2 _ _ _ _ _ _ _ _ _ h (all_cons.1 hk).2 g
          refine ⟨g0,g',S ++ T,h1.trans g1,fun k => ?_⟩
          rw [g2 k,h2 k,List.mem_append]
          constructor
          · rintro ((h | h) | h)
            · exact .inl h
            · exact .inr ⟨.inl h.1,h.2⟩
            · exact .inr ⟨.inr h.1,h.2⟩
          · rintro (h | ⟨h | h,h'⟩)
            · exact .inl (.inl h)
            · exact .inl (.inr ⟨h,h'⟩)
            · exact .inr ⟨h,h'⟩
        · cases h
      · cases h
    · rename_i f params assign body k
      rw [all_cons,itemOk,codeOk,Bool.and_eq_true] at hk
      split at h
      · cases h
      revert h
      generalize hσ1:(σ.push (Blk.loop { fn:=fn,nt:=nt,tm:=tm,params:=params,assign:=assign,body:=body,st:=LState.ready,pending:=none }))=σ1
      intro h
      split at h
      · rename_i a σ2 T hc
        split at h
        · rename_i L hL
          split at h
          · cases h
          · have c0:LoopsOk σ1:=hσ1 ▸ hl.push fun L h => by cases h; exact ⟨hk.1.1,hk.1.2,fun c h => by cases h⟩
            have a0:AX σ σ1 []:=hσ1 ▸ AX.push σ _
            obtain ⟨c1,a1⟩:=ih3 _ _ _ _ _ _ hc c0
            have a2:AX σ2 (σ2.set σ.n .dead) [σ.n]:=AX.set _ _ _
            have c2:LoopsOk (σ2.set σ.n .dead):=c1.set _ fun L h => by cases h
            obtain ⟨g0,g',S,g1,g2⟩:=ih2 _ _ _ _ _ _ _ _ _ h (by
             cases hp:L.pending with
             | none => exact hk.2
             | some c => exact all_cons.2 ⟨(c1 _ L hL).2.2 c hp,hk.2⟩) c2
            refine ⟨g0,g',T ++ S,⟨Nat.le_trans a0.n (Nat.le_trans a1.n (Nat.le_trans a2.n g1.n)),fun j hj hT => ?_⟩,g2.step⟩
            simp only [List.mem_append,not_or] at hT
            have h1:j < σ1.n:=Nat.lt_of_lt_of_le hj a0.n
            have h2:j < σ2.n:=Nat.lt_of_lt_of_le h1 a1.n
            rw [g1.rest j h2 hT.2,a2.rest j h2 (by simp; omega),a1.rest j h1 hT.1,a0.rest j hj (by simp)]
        · cases h
      · cases h
    · split at h
      · rename_i l
        split at h
        · rename_i L hL
          split at h
          · obtain ⟨g0,g',T,g1,g2⟩:=ih2 _ _ _ _ _ _ _ _ _ h (all_cons.1 hk).2 (hl.set _ fun L' h' => by cases h'; exact hl l L hL)
            exact ⟨g0,g',[l] ++ T,(AX.set σ _ _).trans g1,g2.step⟩
          · cases h
        · cases h
      · cases h
    · cases h
  · intro f args σ a σ' T h hl
    cases f with
    | func f cap =>
     rw [callA] at h
     cases ho:oraOf (X.fz f) with
     | some F =>
      simp only [ho] at h
      split at h
      · exact oraCall_rest h hl
      · cases h
     | none =>
     simp only [ho] at h
     split at h
     · rename_i F hF
       split at h
       · split at h
         · rename_i tm1 σ1 W1 he
           split at h
           · obtain ⟨_,g',S,g1,g2⟩:=ih2 _ _ _ _ _ _ _ _ _ he (all_cons.2 ⟨hX f F hF,rfl⟩) hl
             have:=leaveCall_rest h hl g' g1 (fun k hk hn => (g2 k).2 (.inr ⟨hk,hn⟩))
             exact ⟨this.1,this.2.1⟩
           · cases h
         · cases h
       · cases h
     · cases h
    | yld k =>
     rw [callA] at h
     split at h
     · rename_i L hL
       split at h
       · split at h
         · rename_i j σ1 W1 he
           split at h
           · rename_i L' hL'
             have o:=hl k L hL
             obtain ⟨g0,g',S,g1,g2⟩:=ih2 _ _ _ _ _ _ _ _ _ he (all_cons.2 ⟨o.1,all_cons.2 ⟨rfl,all_cons.2 ⟨o.2.1,rfl⟩⟩⟩) hl
             have o':=g' k L' hL'
             have:=leaveCall_rest h hl (g'.set k fun L'' h => by cases h; exact ⟨o'.1,o'.2.1,g0⟩) (g1.trans (AX.set _ k _)) (fun j hj hn => by
              rcases List.mem_append.1 hj with hj | hj
              · exact List.mem_append.2 (.inl ((g2 j).2 (.inr ⟨hj,hn⟩)))
              · exact List.mem_append.2 (.inr hj))
             exact ⟨this.1,this.2.1⟩
           · cases h
         · cases h
       · cases h
     · cases h
    | _ => rw [callA] at h <;> simp_all
end Go.Am

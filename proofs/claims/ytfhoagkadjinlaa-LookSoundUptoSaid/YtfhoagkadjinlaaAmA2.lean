/- Part A2 of a proof that runs a program's calls on a small machine whose values bear no addresses: no conditions. -/
import Derived.Test.YtfhoagkadjinlaaAmA1
import Derived.Laws.Sem
import Derived.Laws.World
import Derived.Laws.Cells
import Derived.Laws.CopyRow
import Derived.Laws.Entries
import Derived.Laws.Append
import Derived.Laws.MakeOwn
import Derived.Laws.Tables
import Derived.Laws.StructEq
import Derived.Great.BuildSlice
set_option autoImplicit false
set_option linter.unusedSimpArgs false
set_option linter.unusedVariables false
set_option linter.unusedSectionVars false
namespace Go.Am
open Go
structure BI where
 block:Nat
 base:Nat
 size:Nat
inductive BS where
 | absent
 | dead
 | live (i:BI)
abbrev Mem:=Addr→Option Value
abbrev Bt:=Nat→BS
def Mem.le (M M':Mem):Prop:=∀ a v,M a=some v→M' a=some v
def Bt.le (β β':Bt):Prop:=∀ k,β k=.absent∨β' k=β k∨β' k=.dead
def Bt.upto (β:Bt) (n:Nat):Bt:=fun k => if k < n then β k else .absent
theorem Mem.le_refl (M:Mem):M.le M:=fun _ _ h => h
theorem Mem.le_trans {A B C:Mem} (h:A.le B) (k:B.le C):A.le C:=fun a v e => k a v (h a v e)
theorem Bt.le_refl (β:Bt):β.le β:=fun _ => .inr (.inl rfl)
theorem Bt.le_trans {a b c:Bt} (h:a.le b) (k:b.le c):a.le c:=fun i => by
 rcases h i with h | h | h
 · exact .inl h
 · rcases k i with k | k | k
   · exact .inl (h ▸ k)
   · exact .inr (.inl (k.trans h))
   · exact .inr (.inr k)
 · rcases k i with k | k | k
   · rw [h] at k; cases k
   · exact .inr (.inr (k.trans h))
   · exact .inr (.inr k)
theorem Bt.upto_le (β:Bt) (n:Nat):(β.upto n).le β:=fun k => by
 unfold Bt.upto; split
 · exact .inr (.inl rfl)
 · exact .inl rfl
theorem Bt.upto_mono {β β':Bt} (h:β.le β') (n:Nat):(β.upto n).le (β'.upto n):=fun k => by
 unfold Bt.upto; split
 · exact h k
 · exact .inl rfl
inductive DR (M:Mem):D→Value→Prop where
 | bool (b:Bool):DR M (.bool b) (.bool b)
 | int (k:IntKind) (n:Int):DR M (.int k n) (.int k n)
 | str (s:ByteArray):DR M (.str s) (.string s)
 | slcNil:DR M (.slc true []) (.slice none 0 0)
 | slc (xs:List (List D)) (a:Addr) (cap es:Nat) (u:Nat→Nat→Value) (hc:xs.length≤cap) (hes:∀ (i:Nat) (x:List D),xs[i]?=some x→x.length=es)
  (h:∀ (i:Nat) (x:List D) (j:Nat) (d:D),xs[i]?=some x→x[j]?=some d→M (a.add (i * es+j))=some (u i j)) (hd:∀ (i:Nat) (x:List D) (j:Nat) (d:D),xs[i]?=some x→x[j]?=some d→DR M d (u i j)) :
  DR M (.slc false xs) (.slice (some a) xs.length cap)
 | vptr (cs:List D) (off:Nat) (a:Addr) (u:Nat→Value) (h:∀ (j:Nat) (d:D),cs[j]?=some d→M (a.add j)=some (u j)) (hd:∀ (j:Nat) (d:D),cs[j]?=some d→DR M d (u j)) :
  DR M (.vptr cs off) (.pointer (some (a.add off)))
 | nptr:DR M .nptr (.pointer none)
 | nmap:DR M .nmap (.map none)
 | nfunc:DR M .nfunc .nilFunc
theorem DR.mono {M M':Mem} (hM:M.le M') {d:D} {v:Value} (h:DR M d v):DR M' d v:=by
 induction h with
 | bool b => exact .bool b
 | int k n => exact .int k n
 | str s => exact .str s
 | slcNil => exact .slcNil
 | slc xs a cap es u hc hes h _ ih => exact .slc xs a cap es u hc hes (fun i x j d h1 h2 => hM _ _ (h i x j d h1 h2)) ih
 | vptr cs off a u h _ ih => exact .vptr cs off a u (fun j d h1 => hM _ _ (h j d h1)) ih
 | nptr => exact .nptr
 | nmap => exact .nmap
 | nfunc => exact .nfunc
abbrev one (v:Value):Prop:=v.oneCell'=true
mutual
inductive VR (M:Mem) (β:Bt):A→Value→Prop where
 | d {x:D} {v:Value} (h:DR M x v):VR M β (.d x) v
 | ptr {k off:Nat} {i:BI} (h:β k=.live i):VR M β (.ptr k off) (.pointer (some ⟨i.block,i.base+off,none⟩))
 | ptrX {k off:Nat} {v:Value} (h:β k=.dead) (ho:one v):VR M β (.ptr k off) v
 | row {k off len es cap:Nat} {i:BI} {a:Addr} (h:β k=.live i) (hl:len≤cap) (hs:i.base+off+cap * es≤i.size) (ha:cap=0∨a=⟨i.block,i.base+off,none⟩) :
  VR M β (.row k off len es) (.slice (some a) len cap)
 | rowX {k off len es:Nat} {v:Value} (h:β k=.dead) (ho:one v):VR M β (.row k off len es) v
 | map {k:Nat} {i:BI} (h:β k=.live i):VR M β (.map k) (.map (some i.block))
 | mapX {k:Nat} {v:Value} (h:β k=.dead) (ho:one v):VR M β (.map k) v
 | func {f:Nat} {cap:List A} {vs:List Value} (h:VRL M β cap vs):VR M β (.func f cap) (.func (.func f) #[] vs.toArray)
 | yld {k:Nat} {i:BI} (h:β k=.live i):VR M β (.yld k) (.func (.yield i.block) #[] #[])
 | yldX {k:Nat} {v:Value} (h:β k=.dead) (ho:one v):VR M β (.yld k) v
 | agg {cs:List A} {vs:List Value} (h:VRL M β cs vs):VR M β (.agg cs) (.agg vs.toArray)
 | tup {cs:List A} {vs:List Value} (h:VRL M β cs vs):VR M β (.tup cs) (.tuple vs.toArray)
 | top {v:Value}:VR M β .top v
inductive VRL (M:Mem) (β:Bt):List A→List Value→Prop where
 | nil:VRL M β [] []
 | cons {a:A} {v:Value} {l:List A} {vs:List Value} (h:VR M β a v) (t:VRL M β l vs):VRL M β (a :: l) (v :: vs)
end
theorem Bt.le_live {β β':Bt} (h:β.le β') {k:Nat} {i:BI} (hk:β k=.live i):β' k=.live i∨β' k=.dead:=by
 rcases h k with h | h | h
 · rw [hk] at h; cases h
 · exact .inl (h.trans hk)
 · exact .inr h
theorem Bt.le_dead {β β':Bt} (h:β.le β') {k:Nat} (hk:β k=.dead):β' k=.dead:=by
 rcases h k with h | h | h
 · rw [hk] at h; cases h
 · exact h.trans hk
 · exact h
mutual
theorem VR.mono {M M':Mem} {β β':Bt} (hM:M.le M') (hβ:β.le β') {a:A} {v:Value}:VR M β a v→VR M' β' a v
 | .d h => .d (h.mono hM)
 | .ptr h => (Bt.le_live hβ h).elim (fun h => .ptr h) (fun h => .ptrX h rfl)
 | .ptrX h ho => .ptrX (Bt.le_dead hβ h) ho
 | .row h hl hs ha => (Bt.le_live hβ h).elim (fun h => .row h hl hs ha) (fun h => .rowX h rfl)
 | .rowX h ho => .rowX (Bt.le_dead hβ h) ho
 | .map h => (Bt.le_live hβ h).elim (fun h => .map h) (fun h => .mapX h rfl)
 | .mapX h ho => .mapX (Bt.le_dead hβ h) ho
 | .func h => .func (VRL.mono hM hβ h)
 | .yld h => (Bt.le_live hβ h).elim (fun h => .yld h) (fun h => .yldX h rfl)
 | .yldX h ho => .yldX (Bt.le_dead hβ h) ho
 | .agg h => .agg (VRL.mono hM hβ h)
 | .tup h => .tup (VRL.mono hM hβ h)
 | .top => .top
theorem VRL.mono {M M':Mem} {β β':Bt} (hM:M.le M') (hβ:β.le β') {l:List A} {vs:List Value}:VRL M β l vs→VRL M' β' l vs
 | .nil => .nil
 | .cons h t => .cons (VR.mono hM hβ h) (VRL.mono hM hβ t)
end
mutual
theorem VR.upto {M:Mem} {β:Bt} {n:Nat} {a:A} {v:Value}:VR M β a v→a.under n=true→VR M (β.upto n) a v
 | .d h,_ => .d h
 | .ptr h,u => .ptr (by simp only [A.under,decide_eq_true_eq] at u; simp only [Bt.upto,u,if_true]; exact h)
 | .ptrX h ho,u => .ptrX (by simp only [A.under,decide_eq_true_eq] at u; simp only [Bt.upto,u,if_true]; exact h) ho
 | .row h hl hs ha,u => .row (by simp only [A.under,decide_eq_true_eq] at u; simp only [Bt.upto,u,if_true]; exact h) hl hs ha
 | .rowX h ho,u => .rowX (by simp only [A.under,decide_eq_true_eq] at u; simp only [Bt.upto,u,if_true]; exact h) ho
 | .map h,u => .map (by simp only [A.under,decide_eq_true_eq] at u; simp only [Bt.upto,u,if_true]; exact h)
 | .mapX h ho,u => .mapX (by simp only [A.under,decide_eq_true_eq] at u; simp only [Bt.upto,u,if_true]; exact h) ho
 | .func h,u => .func (VRL.upto h (by simpa [A.under] using u))
 | .yld h,u => .yld (by simp only [A.under,decide_eq_true_eq] at u; simp only [Bt.upto,u,if_true]; exact h)
 | .yldX h ho,u => .yldX (by simp only [A.under,decide_eq_true_eq] at u; simp only [Bt.upto,u,if_true]; exact h) ho
 | .agg h,u => .agg (VRL.upto h (by simpa [A.under] using u))
 | .tup h,u => .tup (VRL.upto h (by simpa [A.under] using u))
 | .top,_ => .top
theorem VRL.upto {M:Mem} {β:Bt} {n:Nat} {l:List A} {vs:List Value}:VRL M β l vs→A.underL n l=true→VRL M (β.upto n) l vs
 | .nil,_ => .nil
 | .cons h t,u => by
  simp only [A.underL,Bool.and_eq_true] at u
  exact .cons (VR.upto h u.1) (VRL.upto t u.2)
end
theorem VRL.length {M:Mem} {β:Bt} {l:List A} {vs:List Value} (h:VRL M β l vs):l.length=vs.length:=by
 induction l generalizing vs with
 | nil => cases h; rfl
 | cons a l ih => cases h with | cons _ t => simp [ih t]
theorem VRL.get {M:Mem} {β:Bt} {l:List A} {vs:List Value} (h:VRL M β l vs) {i:Nat} {a:A} (hi:l[i]?=some a):∃ v,vs[i]?=some v∧VR M β a v:=by
 induction l generalizing vs i with
 | nil => simp at hi
 | cons b l ih =>
  cases h with
  | cons h t =>
   cases i with
   | zero => simp at hi; subst hi; exact ⟨_,rfl,h⟩
   | succ i => simp only [List.getElem?_cons_succ] at hi ⊢; exact ih t hi
theorem VRL.of_get {M:Mem} {β:Bt} {l:List A} {vs:List Value} (hl:l.length=vs.length) (h:∀ (i:Nat) (a:A) (v:Value),l[i]?=some a→vs[i]?=some v→VR M β a v):VRL M β l vs:=by
 induction l generalizing vs with
 | nil => cases vs with | nil => exact .nil | cons _ _ => simp at hl
 | cons b l ih =>
  cases vs with
  | nil => simp at hl
  | cons v vs => exact .cons (h 0 _ _ rfl rfl) (ih (by simpa using hl) fun i a w h1 h2 => h (i+1) a w (by simpa using h1) (by simpa using h2))
theorem VRL.append {M:Mem} {β:Bt} {l l':List A} {vs vs':List Value} (h:VRL M β l vs) (h':VRL M β l' vs'):VRL M β (l ++ l') (vs ++ vs'):=by
 induction l generalizing vs with
 | nil => cases h; exact h'
 | cons a l ih => cases h with | cons h t => exact .cons h (ih t)
theorem VRL.take {M:Mem} {β:Bt} {l:List A} {vs:List Value} (h:VRL M β l vs) (n:Nat):VRL M β (l.take n) (vs.take n):=by
 induction l generalizing vs n with
 | nil => cases h; simp; exact .nil
 | cons a l ih => cases h with | cons h t => cases n with | zero => simp; exact .nil | succ n => exact .cons h (ih t n)
theorem VRL.drop {M:Mem} {β:Bt} {l:List A} {vs:List Value} (h:VRL M β l vs) (n:Nat):VRL M β (l.drop n) (vs.drop n):=by
 induction l generalizing vs n with
 | nil => cases h; simp; exact .nil
 | cons a l ih => cases h with | cons h t => cases n with | zero => exact .cons h t | succ n => exact ih t n
def TR (M:Mem) (β:Bt) (nt:Nat) (tm:Tm) (tmps:Array Value):Prop:=tmps.size=nt∧∀ t,VR M β (tm.at t) (tmps.getD t undef)
def LState.of:LState→LoopState→Prop
 | .ready,.ready | .busy,.busy => True
 | .over,.done => True
 | _,_ => False
def BR (M:Mem) (β:Bt) (w:World) (k:Nat) (i:BI):Blk→Prop
 | .cells cs => ∃ arr ty,w.heap[i.block]?=some (.cells arr ty (0,0))∧arr.size=i.size∧i.base+cs.length≤i.size ∧
  ∀ j c,cs[j]?=some c→∃ v,arr[i.base+j]?=some v∧VR M β c v
 | .map es => ∃ ents clock,w.heap[i.block]?=some (.map ents clock)∧(ents.size=es.length∧clock=es.length∧∀ (j:Nat) (e:MapEntry),ents[j]?=some e→e.born=j) ∧
  ∀ (j:Nat) (a b:A),es[j]?=some (a,b)→∃ e:MapEntry,ents[j]?=some e∧VR M β a e.key∧VR M β b e.val
 | .loop L => ∃ l:Loop,w.heap[i.block]?=some (.loop l)∧l.fn=L.fn∧l.params=L.params∧l.assign=L.assign∧l.body=L.body∧l.pending=L.pending ∧
  L.st.of l.state∧TR M (β.upto k) L.nt L.tm l.tmps
 | .dead => ∃ o,w.heap[i.block]?=some o
structure Sat (w:World) (M:Mem) (β:Bt) (σ:St) (hF:Nat→Option Obj):Prop where
 frame:∀ b o,hF b=some o→w.heap[b]?=some o
 mem:∀ a v,M a=some v→w.cell? a=some v
 own:∀ k i,β k=.live i→BR M β w k i (σ.get k)
 apF:∀ k i,β k=.live i→hF i.block=none
 apM:∀ k i a,β k=.live i→a.block=i.block→M a=none
 inj:∀ k k' i i',β k=.live i→β k'=.live i'→i.block=i'.block→k=k'
 lt:∀ k,σ.n≤k→β k=.absent
 dead:∀ k,β k=.dead→σ.get k=.dead
structure Same (w w':World):Prop where
 os:w'.os=w.os
 tape:w'.tape=w.tape
 output:w'.output=w.output
 size:w.heap.size≤w'.heap.size
 frozen:∀ a,w'.frozen? a=w.frozen? a
theorem Same.refl (w:World):Same w w:=⟨rfl,rfl,rfl,Nat.le_refl _,fun _ => rfl⟩
theorem Same.trans {a b c:World} (h:Same a b) (k:Same b c):Same a c:=⟨k.os.trans h.os,k.tape.trans h.tape,k.output.trans h.output,Nat.le_trans h.size k.size,fun a => (k.frozen a).trans (h.frozen a)⟩
structure Grow (w:World) (M:Mem) (β:Bt) (σ:St) (hF:Nat→Option Obj) (T:List Nat) (w':World) (M':Mem) (β':Bt) (σ':St):Prop where
 same:Same w w'
 mem:M.le M'
 out:∀ a v,M' a=some v→M a=some v∨hF a.block=none
 le:β.le β'
 n:σ.n≤σ'.n
 rest:∀ k,k < σ.n→k ∉ T→β' k=β k∧σ'.get k=σ.get k
 dom:∀ k,k ∈ T→k < σ.n→β k≠.absent
 heap:∀ k i,k < σ.n→k ∉ T→β k=.live i→w'.heap[i.block]?=w.heap[i.block]?
theorem Grow.refl (w:World) (M:Mem) (β:Bt) (σ:St) (hF:Nat→Option Obj):Grow w M β σ hF [] w M β σ :=
 ⟨Same.refl _,Mem.le_refl _,fun _ _ h => .inl h,Bt.le_refl _,Nat.le_refl _,fun _ _ _ => ⟨rfl,rfl⟩,(fun _ h => by cases h),fun _ _ _ _ _ => rfl⟩
theorem Grow.trans {w w' w'':World} {M M' M'':Mem} {β β' β'':Bt} {σ σ' σ'':St} {hF:Nat→Option Obj} {T T':List Nat}
 (h:Grow w M β σ hF T w' M' β' σ') (k:Grow w' M' β' σ' hF T' w'' M'' β'' σ''):Grow w M β σ hF (T ++ T') w'' M'' β'' σ'' where
 same:=h.same.trans k.same
 mem:=Mem.le_trans h.mem k.mem
 out:=fun a v e => by
  rcases k.out a v e with e | e
  · exact h.out a v e
  · exact .inr e
 le:=Bt.le_trans h.le k.le
 n:=Nat.le_trans h.n k.n
 rest:=fun i hi hT => by
  simp only [List.mem_append,not_or] at hT
  have a:=h.rest i hi hT.1
  have b:=k.rest i (Nat.lt_of_lt_of_le hi h.n) hT.2
  exact ⟨b.1.trans a.1,b.2.trans a.2⟩
 dom:=fun i hi hn => by
  rcases List.mem_append.1 hi with hi | hi
  · exact h.dom i hi hn
  · by_cases hT:i ∈ T
    · exact h.dom i hT hn
    · have:=k.dom i hi (Nat.lt_of_lt_of_le hn h.n)
      rw [(h.rest i hn hT).1] at this; exact this
 heap:=fun j i hn hT hk => by
  simp only [List.mem_append,not_or] at hT
  rw [k.heap j i (Nat.lt_of_lt_of_le hn h.n) hT.2 ((h.rest j hn hT.1).1.trans hk),h.heap j i hn hT.1 hk]
end Go.Am
namespace Go.Am
open Go
variable {w w':World} {M M':Mem} {β β':Bt} {σ σ':St} {hF:Nat→Option Obj}
theorem BR.world {k:Nat} {i:BI} {b:Blk} (h:BR M β w k i b) (e:w'.heap[i.block]?=w.heap[i.block]?):BR M β w' k i b:=by
 cases b <;> simp only [BR,e] at h ⊢ <;> exact h
theorem TR.mono {nt:Nat} {tm:Tm} {tmps:Array Value} (hM:M.le M') (hβ:β.le β') (h:TR M β nt tm tmps):TR M' β' nt tm tmps:=⟨h.1,fun t => (h.2 t).mono hM hβ⟩
theorem BR.mono (hM:M.le M') (hβ:β.le β') {k:Nat} {i:BI} {b:Blk} (h:BR M β w k i b):BR M' β' w k i b:=by
 cases b with
 | cells cs =>
  obtain ⟨arr,ty,h1,h2,h3,h4⟩:=h
  exact ⟨arr,ty,h1,h2,h3,fun j c hj => let ⟨v,hv,hr⟩:=h4 j c hj; ⟨v,hv,hr.mono hM hβ⟩⟩
 | map es =>
  obtain ⟨ents,clock,h1,h2,h3⟩:=h
  exact ⟨ents,clock,h1,h2,fun j a b hj => let ⟨e,he,ha,hb⟩:=h3 j a b hj; ⟨e,he,ha.mono hM hβ,hb.mono hM hβ⟩⟩
 | loop L =>
  obtain ⟨l,h1,h2,h3,h4,h5,h6,h7,h8⟩:=h
  exact ⟨l,h1,h2,h3,h4,h5,h6,h7,h8.mono hM (Bt.upto_mono hβ k)⟩
 | dead => exact h
theorem BR.lt {k:Nat} {i:BI} {b:Blk} (h:BR M β w k i b):i.block < w.heap.size:=by
 have:∃ o,w.heap[i.block]?=some o:=by
  cases b with
  | cells cs => obtain ⟨arr,ty,h1,_⟩:=h; exact ⟨_,h1⟩
  | map es => obtain ⟨ents,clock,h1,_⟩:=h; exact ⟨_,h1⟩
  | loop L => obtain ⟨l,h1,_⟩:=h; exact ⟨_,h1⟩
  | dead => exact h
 obtain ⟨o,ho⟩:=this
 exact (Array.getElem?_eq_some_iff.1 ho).1
def Bt.new (β:Bt) (k:Nat) (i:BI):Bt:=fun j => if j=k then .live i else β j
def Bt.kill (β:Bt) (k:Nat):Bt:=fun j => if j=k then .dead else β j
theorem Bt.new_same (β:Bt) (k:Nat) (i:BI):β.new k i k=.live i:=by simp [Bt.new]
theorem Bt.new_other (β:Bt) {k j:Nat} (i:BI) (h:j≠k):β.new k i j=β j:=by simp [Bt.new,h]
theorem Bt.kill_same (β:Bt) (k:Nat):β.kill k k=.dead:=by simp [Bt.kill]
theorem Bt.kill_other (β:Bt) {k j:Nat} (h:j≠k):β.kill k j=β j:=by simp [Bt.kill,h]
theorem Bt.le_new {k:Nat} (i:BI) (h:β k=.absent):β.le (β.new k i):=fun j => by
 by_cases e:j=k
 · subst e; exact .inl h
 · exact .inr (.inl (Bt.new_other β i e))
theorem Bt.le_kill (β:Bt) (k:Nat):β.le (β.kill k):=fun j => by
 by_cases e:j=k
 · subst e; exact .inr (.inr (Bt.kill_same β j))
 · exact .inr (.inl (Bt.kill_other β e))
theorem heap_alloc_other (w:World) (o:Obj) {b:Nat} (h:b < w.heap.size):(w.alloc o).heap[b]?=w.heap[b]?:=by
 show (w.heap.push o)[b]?=_
 rw [Array.getElem?_push,if_neg (by omega)]
theorem heap_alloc_new (w:World) (o:Obj):(w.alloc o).heap[w.heap.size]?=some o:=by
 show (w.heap.push o)[w.heap.size]?=_
 simp
def cold:Obj→Bool
 | .cells _ _ fr => fr.2 == 0
 | _ => true
def icy (o:Option Obj) (n:Nat):Bool:=match o with
 | some (.cells _ _ (lo,hi)) => lo≤n && n < hi
 | _ => false
theorem frozen_icy (w:World) (a:Addr):w.frozen? a=icy w.heap[a.block]? a.off:=rfl
theorem icy_cold {o:Obj} (h:cold o=true) (n:Nat):icy (some o) n=false:=by
 cases o with
 | cells c t fr =>
  obtain ⟨lo,hi⟩:=fr
  simp only [cold,beq_iff_eq] at h
  simp [icy,h]
 | _ => rfl
theorem Same.alloc (w:World) (o:Obj) (ho:cold o=true:=by rfl):Same w (w.alloc o):=⟨rfl,rfl,rfl,by simp,fun a => by
 rw [frozen_icy,frozen_icy]
 have:(w.alloc o).heap[a.block]?=if a.block=w.heap.size then some o else w.heap[a.block]?:=Array.getElem?_push
 rw [this]
 by_cases e:a.block=w.heap.size
 · rw [if_pos e,icy_cold ho,e,Array.getElem?_eq_none (Nat.le_refl _)]; rfl
 · rw [if_neg e]⟩
theorem Same.drew (w:World):Same w w.drew:=⟨rfl,rfl,rfl,Nat.le_refl _,fun _ => rfl⟩
theorem Same.turn {w w':World} {b:Nat} (h1:w'.os=w.os) (h2:w'.tape=w.tape) (h3:w'.output=w.output) (h4:w'.heap.size=w.heap.size) (h5:∀ j,j≠b→w'.heap[j]?=w.heap[j]?)
 (h6:∀ n,icy w'.heap[b]? n=icy w.heap[b]? n):Same w w':=⟨h1,h2,h3,Nat.le_of_eq h4.symm,fun a => by
 rw [frozen_icy,frozen_icy]
 by_cases e:a.block=b
 · rw [e]; exact h6 _
 · rw [h5 _ e]⟩
theorem Sat.lt_size (h:Sat w M β σ hF) {k:Nat} {i:BI} (hk:β k=.live i):i.block < w.heap.size:=(h.own k i hk).lt
theorem Sat.known (h:Sat w M β σ hF) {k:Nat} {i:BI} (hk:β k=.live i):k < σ.n:=by
 rcases Nat.lt_or_ge k σ.n with h' | h'
 · exact h'
 · have:=h.lt k h'; rw [hk] at this; cases this
theorem Sat.frame_lt (h:Sat w M β σ hF) {b:Nat} {o:Obj} (hb:hF b=some o):b < w.heap.size :=
 (Array.getElem?_eq_some_iff.1 (h.frame b o hb)).1
theorem Sat.mem_lt (h:Sat w M β σ hF) {a:Addr} {v:Value} (hb:M a=some v):a.block < w.heap.size:=World.block_lt_of_cell? _ _ (h.mem a v hb)
theorem cell_of_block {a:Addr} (e:w'.heap[a.block]?=w.heap[a.block]?):w'.cell? a=w.cell? a:=by simp only [World.cell?,e]
theorem Sat.drew (h:Sat w M β σ hF):Sat w.drew M β σ hF :=
 ⟨h.frame,h.mem,fun k i hk => (h.own k i hk).world rfl,h.apF,h.apM,h.inj,h.lt,h.dead⟩
theorem Grow.drew (w:World) (M:Mem) (β:Bt) (σ:St) (hF:Nat→Option Obj):Grow w M β σ hF [] w.drew M β σ :=
 { Grow.refl w M β σ hF with same:=Same.drew w }
theorem Sat.alloc (h:Sat w M β σ hF) (o:Obj) (b:Blk) (size:Nat)
 (hb:BR M (β.new σ.n ⟨w.heap.size,0,size⟩) (w.alloc o) σ.n ⟨w.heap.size,0,size⟩ b) :
 Sat (w.alloc o) M (β.new σ.n ⟨w.heap.size,0,size⟩) (σ.push b) hF:=by
 have hab:β σ.n=.absent:=h.lt _ (Nat.le_refl _)
 refine ⟨fun b' o' hb' => ?_,fun a v ha => ?_,fun k i hk => ?_,fun k i hk => ?_,fun k i a hk ha => ?_,fun k k' i i' hk hk' he => ?_,fun k hk => ?_,fun k hk => ?_⟩
 · rw [heap_alloc_other w o (h.frame_lt hb')]; exact h.frame b' o' hb'
 · rw [cell_of_block (heap_alloc_other w o (h.mem_lt ha))]; exact h.mem a v ha
 · by_cases e:k=σ.n
   · subst e
     rw [Bt.new_same] at hk; injection hk with hk; subst hk
     rw [St.get_push,if_pos rfl]; exact hb
   · rw [Bt.new_other _ _ e] at hk
     rw [St.get_push,if_neg e]
     exact ((h.own k i hk).world (heap_alloc_other w o (h.lt_size hk))).mono (Mem.le_refl M) (Bt.le_new _ hab)
 · by_cases e:k=σ.n
   · subst e
     rw [Bt.new_same] at hk; injection hk with hk; subst hk
     cases hc:hF w.heap.size with
     | none => rfl
     | some o' => exact absurd (h.frame_lt hc) (Nat.lt_irrefl _)
   · rw [Bt.new_other _ _ e] at hk; exact h.apF k i hk
 · by_cases e:k=σ.n
   · subst e
     rw [Bt.new_same] at hk; injection hk with hk; subst hk
     cases hc:M a with
     | none => rfl
     | some v => have:=h.mem_lt hc; rw [ha] at this; exact absurd this (Nat.lt_irrefl _)
   · rw [Bt.new_other _ _ e] at hk; exact h.apM k i a hk ha
 · by_cases e:k=σ.n
   · by_cases e':k'=σ.n
     · exact e.trans e'.symm
     · subst e
       rw [Bt.new_same] at hk; injection hk with hk; subst hk
       rw [Bt.new_other _ _ e'] at hk'
       have:=h.lt_size hk'; rw [← he] at this; exact absurd this (Nat.lt_irrefl _)
   · rw [Bt.new_other _ _ e] at hk
     by_cases e':k'=σ.n
     · subst e'
       rw [Bt.new_same] at hk'; injection hk' with hk'; subst hk'
       have:=h.lt_size hk; rw [he] at this; exact absurd this (Nat.lt_irrefl _)
     · rw [Bt.new_other _ _ e'] at hk'; exact h.inj k k' i i' hk hk' he
 · rw [St.n_push] at hk
   rw [Bt.new_other _ _ (by omega)]; exact h.lt k (by omega)
 · by_cases e:k=σ.n
   · subst e; rw [Bt.new_same] at hk; cases hk
   · rw [Bt.new_other _ _ e] at hk; rw [St.get_push,if_neg e]; exact h.dead k hk
theorem Grow.alloc (h:Sat w M β σ hF) (o:Obj) (b:Blk) (i:BI) (ho:cold o=true:=by rfl):Grow w M β σ hF [] (w.alloc o) M (β.new σ.n i) (σ.push b) :=
 ⟨Same.alloc w o ho,Mem.le_refl M,fun _ _ h => .inl h,Bt.le_new _ (h.lt _ (Nat.le_refl _)),by rw [St.n_push]; omega,
  fun k hk _ => ⟨Bt.new_other _ _ (by omega),by rw [St.get_push,if_neg (by omega)]⟩,(fun _ h => by cases h),fun k i' _ _ hk => heap_alloc_other w o (h.lt_size hk)⟩
theorem Sat.write (h:Sat w M β σ hF) {k:Nat} {i:BI} (hk:β k=.live i) (b:Blk) (hw:∀ j,j≠i.block→w'.heap[j]?=w.heap[j]?)
 (hb:BR M β w' k i b):Sat w' M β (σ.set k b) hF:=by
 refine ⟨fun b' o' hb' => ?_,fun a v ha => ?_,fun k' i' hk' => ?_,h.apF,h.apM,h.inj,fun k' hk' => h.lt k' hk',fun k' hk' => ?_⟩
 · rw [hw b' (fun e => by rw [e,h.apF k i hk] at hb'; cases hb')]; exact h.frame b' o' hb'
 · rw [cell_of_block (hw a.block (fun e => by rw [h.apM k i a hk e] at ha; cases ha))]; exact h.mem a v ha
 · rw [St.get_set]
   by_cases e:k'=k
   · subst e; rw [hk] at hk'; injection hk' with hk'; subst hk'; rw [if_pos rfl]; exact hb
   · rw [if_neg e]; exact (h.own k' i' hk').world (hw _ fun e' => e (h.inj k' k i' i hk' hk e'))
 · rw [St.get_set]
   by_cases e:k'=k
   · subst e; rw [hk] at hk'; cases hk'
   · rw [if_neg e]; exact h.dead k' hk'
theorem Grow.write (h:Sat w M β σ hF) (hs:Same w w') {k:Nat} {i:BI} (hk:β k=.live i) (b:Blk) (hw:∀ j,j≠i.block→w'.heap[j]?=w.heap[j]?):Grow w M β σ hF [k] w' M β (σ.set k b) :=
 ⟨hs,Mem.le_refl M,fun _ _ h => .inl h,Bt.le_refl β,Nat.le_refl _,fun j _ hT => ⟨rfl,by rw [St.get_set,if_neg (by simpa using hT)]⟩,
  (fun j hj _ => by simp at hj; subst hj; rw [hk]; intro h; cases h),fun j i' _ hT hj => hw _ fun e => by
   have:=h.inj j k i' i hj hk e
   subst this; simp at hT⟩
theorem Sat.kill (h:Sat w M β σ hF) (k:Nat) (hk:k < σ.n):Sat w M (β.kill k) (σ.set k .dead) hF:=by
 have old:∀ j i,β.kill k j=.live i→j≠k∧β j=.live i:=fun j i hj => by
  by_cases e:j=k
  · subst e; rw [Bt.kill_same] at hj; cases hj
  · rw [Bt.kill_other _ e] at hj; exact ⟨e,hj⟩
 refine ⟨h.frame,h.mem,fun j i hj => ?_,fun j i hj => h.apF j i (old j i hj).2,fun j i a hj => h.apM j i a (old j i hj).2,
  fun j j' i i' hj hj' => h.inj j j' i i' (old j i hj).2 (old j' i' hj').2,fun j hj => ?_,fun j hj => ?_⟩
 · rw [St.get_set,if_neg (old j i hj).1]
   exact (h.own j i (old j i hj).2).mono (Mem.le_refl M) (Bt.le_kill β k)
 · rw [St.n_set] at hj; rw [Bt.kill_other _ (by omega)]; exact h.lt j hj
 · rw [St.get_set]
   by_cases e:j=k
   · rw [if_pos e]
   · rw [if_neg e]; rw [Bt.kill_other _ e] at hj; exact h.dead j hj
theorem Grow.kill (w:World) (M:Mem) (hF:Nat→Option Obj) {k:Nat} (hk:β k≠.absent):Grow w M β σ hF [k] w M (β.kill k) (σ.set k .dead) :=
 ⟨Same.refl w,Mem.le_refl M,fun _ _ h => .inl h,Bt.le_kill β k,Nat.le_refl _,
  fun j _ hT => ⟨Bt.kill_other _ (by simpa using hT),by rw [St.get_set,if_neg (by simpa using hT)]⟩,(fun j hj _ => by simp at hj; subst hj; exact hk),fun _ _ _ _ _ => rfl⟩
theorem Sat.move (h:Sat w M β σ hF) {k:Nat} {i:BI} (hk:β k=.live i) (i':BI) (hi:i'.block=i.block) (b:Blk)
 (hw:∀ j,j≠i.block→w'.heap[j]?=w.heap[j]?) (hb:BR M ((β.kill k).new σ.n i') w' σ.n i' b) :
 Sat w' M ((β.kill k).new σ.n i') ((σ.set k .dead).push b) hF:=by
 have hkn:=h.known hk
 have hab:β.kill k σ.n=.absent:=by rw [Bt.kill_other _ (by omega)]; exact h.lt _ (Nat.le_refl _)
 have hle:β.le ((β.kill k).new σ.n i'):=Bt.le_trans (Bt.le_kill β k) (Bt.le_new _ hab)
 have old:∀ j x,(β.kill k).new σ.n i' j=.live x→(j=σ.n∧x=i')∨(j≠σ.n∧j≠k∧β j=.live x):=fun j x hj => by
  by_cases e:j=σ.n
  · subst e; rw [Bt.new_same] at hj; injection hj with hj; exact .inl ⟨rfl,hj.symm⟩
  · rw [Bt.new_other _ _ e] at hj
    by_cases e':j=k
    · subst e'; rw [Bt.kill_same] at hj; cases hj
    · rw [Bt.kill_other _ e'] at hj; exact .inr ⟨e,e',hj⟩
 have ne:∀ j x,j≠k→β j=.live x→x.block≠i.block:=fun j x hj hx e => hj (h.inj j k x i hx hk e)
 refine ⟨fun b' o' hb' => ?_,fun a v ha => ?_,fun j x hj => ?_,fun j x hj => ?_,fun j x a hj ha => ?_,fun j j' x x' hj hj' he => ?_,fun j hj => ?_,fun j hj => ?_⟩
 · rw [hw b' (fun e => by rw [e,h.apF k i hk] at hb'; cases hb')]; exact h.frame b' o' hb'
 · rw [cell_of_block (hw a.block (fun e => by rw [h.apM k i a hk e] at ha; cases ha))]; exact h.mem a v ha
 · rcases old j x hj with ⟨rfl,rfl⟩ | ⟨h1,h2,h3⟩
   · rw [St.get_push,St.n_set,if_pos rfl]; exact hb
   · rw [St.get_push,St.n_set,if_neg h1,St.get_set,if_neg h2]
     exact ((h.own j x h3).world (hw _ (ne j x h2 h3))).mono (Mem.le_refl M) hle
 · rcases old j x hj with ⟨rfl,rfl⟩ | ⟨h1,h2,h3⟩
   · rw [hi]; exact h.apF k i hk
   · exact h.apF j x h3
 · rcases old j x hj with ⟨rfl,rfl⟩ | ⟨h1,h2,h3⟩
   · exact h.apM k i a hk (ha.trans hi)
   · exact h.apM j x a h3 ha
 · rcases old j x hj with ⟨rfl,rfl⟩ | ⟨h1,h2,h3⟩ <;> rcases old j' x' hj' with ⟨rfl,rfl⟩ | ⟨h1',h2',h3'⟩
   · rfl
   · exact absurd (he.symm.trans hi) (ne j' x' h2' h3')
   · exact absurd (he.trans hi) (ne j x h2 h3)
   · exact h.inj j j' x x' h3 h3' he
 · rw [St.n_push,St.n_set] at hj
   rw [Bt.new_other _ _ (by omega),Bt.kill_other _ (by omega)]; exact h.lt j (by omega)
 · rw [St.get_push,St.n_set,St.get_set]
   by_cases e:j=σ.n
   · subst e; rw [Bt.new_same] at hj; cases hj
   · rw [if_neg e]
     rw [Bt.new_other _ _ e] at hj
     by_cases e':j=k
     · rw [if_pos e']
     · rw [if_neg e']; rw [Bt.kill_other _ e'] at hj; exact h.dead j hj
theorem Grow.move (h:Sat w M β σ hF) {k:Nat} {i:BI} (hl:β k=.live i) (hs:Same w w') (i':BI) (b:Blk) (hw:∀ j,j≠i.block→w'.heap[j]?=w.heap[j]?) :
 Grow w M β σ hF [k] w' M ((β.kill k).new σ.n i') ((σ.set k .dead).push b):=by
 have hk:β k≠.absent:=by rw [hl]; intro h; cases h
 have hkn:k < σ.n:=h.known hl
 refine ⟨hs,Mem.le_refl M,fun _ _ h => .inl h,Bt.le_trans (Bt.le_kill β k) (Bt.le_new _ (by rw [Bt.kill_other _ (by omega)]; exact h.lt _ (Nat.le_refl _))),by rw [St.n_push,St.n_set]; omega,fun j hj hT => ?_,(fun j hj _ => by simp at hj; subst hj; exact hk),fun j x hj hT hx => hw _ fun e => by
  have:=h.inj j k x i hx hl e
  subst this; simp at hT⟩
 have hjk:j≠k:=by simpa using hT
 rw [Bt.new_other _ _ (by omega),Bt.kill_other _ hjk,St.get_push,St.n_set,if_neg (by omega),St.get_set,if_neg hjk]
 exact ⟨rfl,rfl⟩
end Go.Am
namespace Go.Am
open Go
variable {P:Program} {fz:Nat→Md} {w w':World} {M M':Mem} {β β':Bt} {σ σ':St} {hF:Nat→Option Obj} {tm:Tm} {ρ:Operand→Value}
theorem add_add (a:Addr) (m n:Nat):(a.add m).add n=a.add (m+n):=by
 unfold Addr.add
 by_cases hm:m=0
 · subst hm; simp
 · by_cases hn:n=0
   · subst hn; simp [hm]
   · simp [hm,hn]; omega
theorem add_mk (b o n:Nat):(⟨b,o,none⟩:Addr).add n=⟨b,o+n,none⟩:=by unfold Addr.add; split <;> simp_all
theorem ti_info {t:Nat} {i:TI} (h:(mkX P fz).ti t=some i):∃ inf d,P.info? t=some inf∧P.underlying t=some d ∧
 kindOf P t=some i.kind∧i.size=inf.size∧i.bytes=inf.bytes∧i.zero=inf.zero.bind zeroOf∧i.zval=(inf.zero.map ofV).getD .top:=by
 simp only [mkX,mkTI] at h
 cases hi:P.info? t with
 | none => simp [hi] at h
 | some inf =>
  cases hk:kindOf P t with
  | none => simp [hi,hk] at h
  | some k =>
   simp only [hi,hk,Option.bind_some,Option.map_some,Option.some.injEq] at h; subst h
   cases hd:P.underlying t with
   | none => simp [kindOf,hd] at hk
   | some d => exact ⟨inf,d,rfl,rfl,rfl,rfl,rfl,rfl,rfl⟩
theorem kind_struct {t:Nat} {fs:List (Nat × Nat × Nat)} (h:kindOf P t=some (.struct fs)):∃ F,P.underlying t=some (.struct F)∧(∀ f ∈ F,f.name ≠ "_"∧∃ inf,P.info? f.type=some inf) ∧
 fs=F.toList.map fun f => (f.offset,((P.info? f.type).map (·.size)).getD 0,f.type):=by
 unfold kindOf at h; split at h <;> try (cases h; done)
 rename_i F hF
 split at h
 · cases h
 · rename_i hn
   refine ⟨F,hF,fun f hf => ?_,?_⟩
   · have:¬ ((f.name == "_" || (P.info? f.type).isNone)=true):=fun e => hn (Array.any_eq_true'.2 ⟨f,hf,e⟩)
     simp only [Bool.or_eq_true,beq_iff_eq,not_or] at this
     refine ⟨this.1,?_⟩
     cases hi:P.info? f.type with
     | none => simp [hi] at this
     | some inf => exact ⟨inf,rfl⟩
   · injection h with h; injection h with h; exact h.symm
theorem kind_arr {t n es e:Nat} (h:kindOf P t=some (.arr n es e)):P.underlying t=some (.array n e)∧es=((P.info? e).map (·.size)).getD 0:=by
 unfold kindOf at h; split at h <;> try (cases h; done)
 · split at h <;> cases h
 · injection h with h; injection h with h1 h2 h3; subst h1; subst h3; exact ⟨by assumption,h2.symm⟩
theorem kind_slc {t e:Nat} (h:kindOf P t=some (.slc e)):P.underlying t=some (.slice e):=by
 unfold kindOf at h; split at h <;> (try split at h) <;> simp_all
theorem kind_map {t k e:Nat} (h:kindOf P t=some (.map k e)):P.underlying t=some (.map k e):=by
 unfold kindOf at h; split at h <;> (try split at h) <;> simp_all
theorem kind_ptr {t e:Nat} (h:kindOf P t=some (.ptr e)):P.underlying t=some (.pointer e):=by
 unfold kindOf at h; split at h <;> (try split at h) <;> simp_all
theorem kind_int {t:Nat} {k:IntKind} (h:kindOf P t=some (.int k)):P.underlying t=some (.int k):=by
 unfold kindOf at h; split at h <;> (try split at h) <;> simp_all
theorem kind_str {t:Nat} (h:kindOf P t=some .str):P.underlying t=some .string:=by
 unfold kindOf at h; split at h <;> (try split at h) <;> simp_all
theorem kind_bool {t:Nat} (h:kindOf P t=some .bool):P.underlying t=some .bool:=by
 unfold kindOf at h; split at h <;> (try split at h) <;> simp_all
theorem kind_func {t:Nat} (h:kindOf P t=some .func):∃ a b c,P.underlying t=some (.func a b c):=by
 unfold kindOf at h; split at h <;> (try split at h) <;> simp_all
theorem run_isAgg {t:Nat} {k:TK} (hk:kindOf P t=some k) (w:World):(isAgg t).run P w=.ok k.agg w:=by
 unfold isAgg
 cases hd:P.underlying t with
 | none => simp [kindOf,hd] at hk
 | some d =>
  rw [Sem.run_bind,run_underlying hd]
  simp only [Result.andThen_ok]
  cases d <;> simp only [kindOf,hd,Option.some.injEq] at hk <;> try (subst hk; rfl)
  split at hk
  · cases hk
  · injection hk with hk; subst hk; rfl
theorem run_sizeOf {t:Nat} {inf:TypeInfo} (hi:P.info? t=some inf) (w:World):(sizeOf t).run P w=.ok inf.size w:=by simp [sizeOf,typeInfo,hi]
theorem run_typeInfo {t:Nat} {inf:TypeInfo} (hi:P.info? t=some inf) (w:World):(typeInfo t).run P w=.ok inf w:=by simp [typeInfo,hi]
theorem run_zeroValue {t:Nat} {inf:TypeInfo} {z:Value} (hi:P.info? t=some inf) (hz:inf.zero=some z) (w:World):(zeroValue t).run P w=.ok z w:=by simp [zeroValue,typeInfo,hi,hz]
theorem ofV1_rel (v:Value):VR M β (ofV1 v) v:=by
 cases v with
 | bool b => exact .d (.bool b)
 | int k n => exact .d (.int k n)
 | string s => exact .d (.str s)
 | pointer a => cases a with | none => exact .d .nptr | some _ => exact .top
 | slice a n c =>
  cases a with
  | some a => exact .top
  | none =>
   cases n with
   | succ n => exact .top
   | zero => cases c with | zero => exact .d .slcNil | succ c => exact .top
 | map r => cases r with | none => exact .d .nmap | some _ => exact .top
 | nilFunc => exact .d .nfunc
 | _ => exact .top
theorem VRL.of_map {α:Type} (f:α→A) (g:α→Value) (l:List α) (h:∀ x ∈ l,VR M β (f x) (g x)):VRL M β (l.map f) (l.map g):=by
 induction l with
 | nil => exact .nil
 | cons x l ih => exact .cons (h x (by simp)) (ih fun y hy => h y (by simp [hy]))
theorem ofV_rel (v:Value):VR M β (ofV v) v:=by
 cases v with
 | agg cs =>
  have h:VRL M β (cs.toList.map ofV1) (cs.toList.map id):=VRL.of_map ofV1 id _ fun x _ => ofV1_rel x
  have:=VR.agg h
  simpa [ofV] using this
 | _ => unfold ofV; exact ofV1_rel _
theorem DR.cells {x:D} {v:Value} (h:DR M x v):v.cells=#[v]:=by cases h <;> rfl
theorem DR.one {x:D} {v:Value} (h:DR M x v):v.oneCell'=true:=by cases h <;> rfl
theorem cells_one {v:Value} (h:v.oneCell'=true):v.cells=#[v]:=by cases v <;> simp_all [Value.oneCell',Value.cells]
theorem VR.one {a:A} {v:Value} (h:VR M β a v) (hc:a.isCell=true):v.oneCell'=true:=by
 cases h with
 | d h => exact h.one
 | ptrX _ ho => exact ho
 | rowX _ ho => exact ho
 | mapX _ ho => exact ho
 | yldX _ ho => exact ho
 | agg _ => simp [A.isCell] at hc
 | tup _ => simp [A.isCell] at hc
 | top => simp [A.isCell] at hc
 | _ => rfl
theorem VRL.ones {l:List A} {vs:List Value} (h:VRL M β l vs) (hc:l.all A.isCell=true):∀ v ∈ vs,v.oneCell'=true:=by
 induction l generalizing vs with
 | nil => cases h; intro v hv; cases hv
 | cons a l ih =>
  cases h with
  | cons h t =>
   simp only [List.all_cons,Bool.and_eq_true] at hc
   intro v hv
   rcases List.mem_cons.1 hv with rfl | hv
   · exact h.one hc.1
   · exact ih t hc.2 v hv
theorem cells_rel {a:A} {v:Value} {cs:List A} (h:VR M β a v) (hc:a.cells=some cs):VRL M β cs v.cells.toList:=by
 cases h with
 | agg h => simp only [A.cells,Option.some.injEq] at hc; subst hc; exact h
 | tup h => simp [A.cells] at hc
 | top => simp [A.cells] at hc
 | d h => simp only [A.cells,Option.some.injEq] at hc; subst hc; rw [h.cells]; exact .cons (.d h) .nil
 | ptr h => simp only [A.cells,Option.some.injEq] at hc; subst hc; exact .cons (.ptr h) .nil
 | row h hl hs ha => simp only [A.cells,Option.some.injEq] at hc; subst hc; exact .cons (.row h hl hs ha) .nil
 | map h => simp only [A.cells,Option.some.injEq] at hc; subst hc; exact .cons (.map h) .nil
 | func h => simp only [A.cells,Option.some.injEq] at hc; subst hc; exact .cons (.func h) .nil
 | yld h => simp only [A.cells,Option.some.injEq] at hc; subst hc; exact .cons (.yld h) .nil
 | ptrX h ho => simp only [A.cells,Option.some.injEq] at hc; subst hc; rw [cells_one ho]; exact .cons (.ptrX h ho) .nil
 | rowX h ho => simp only [A.cells,Option.some.injEq] at hc; subst hc; rw [cells_one ho]; exact .cons (.rowX h ho) .nil
 | mapX h ho => simp only [A.cells,Option.some.injEq] at hc; subst hc; rw [cells_one ho]; exact .cons (.mapX h ho) .nil
 | yldX h ho => simp only [A.cells,Option.some.injEq] at hc; subst hc; rw [cells_one ho]; exact .cons (.yldX h ho) .nil
theorem zero_rel {inf:TypeInfo} {z:List A} (h:inf.zero.bind zeroOf=some z):∃ v,inf.zero=some v∧∀ (M:Mem) (β:Bt),VRL M β z v.cells.toList:=by
 cases hz:inf.zero with
 | none => simp [hz] at h
 | some v => simp only [hz,Option.bind_some,zeroOf] at h; exact ⟨v,rfl,fun M β => cells_rel (ofV_rel v) h⟩
def CellsAt (w:World) (M:Mem) (β:Bt) (a:Addr) (cs:List A):Prop:=∃ vs,VRL M β cs vs∧∀ j v,vs[j]?=some v→w.cell? (a.add j)=some v
theorem CellsAt.drop {a:Addr} {cs:List A} (h:CellsAt w M β a cs) (n:Nat):CellsAt w M β (a.add n) (cs.drop n):=by
 obtain ⟨vs,h1,h2⟩:=h
 refine ⟨vs.drop n,h1.drop n,fun j v hj => ?_⟩
 rw [add_add]; exact h2 _ _ (by simpa [List.getElem?_drop] using hj)
theorem CellsAt.take {a:Addr} {cs:List A} (h:CellsAt w M β a cs) (n:Nat):CellsAt w M β a (cs.take n):=by
 obtain ⟨vs,h1,h2⟩:=h
 refine ⟨vs.take n,h1.take n,fun j v hj => h2 j v ?_⟩
 rw [List.getElem?_take] at hj; split at hj
 · exact hj
 · cases hj
theorem BR.vals {k:Nat} {i:BI} {cs:List A} (h:BR M β w k i (.cells cs)):∃ arr ty,w.heap[i.block]?=some (.cells arr ty (0,0))∧arr.size=i.size∧i.base+cs.length≤i.size ∧
 VRL M β cs ((arr.toList.drop i.base).take cs.length):=by
 obtain ⟨arr,ty,h1,h2,h3,h4⟩:=h
 refine ⟨arr,ty,h1,h2,h3,VRL.of_get (by simp; omega) fun j a v ha hv => ?_⟩
 obtain ⟨u,hu,hr⟩:=h4 j a ha
 rw [List.getElem?_take] at hv
 split at hv
 · rw [List.getElem?_drop] at hv
   have:arr[i.base+j]?=some v:=by simpa using hv
   rw [hu] at this; injection this with this; subst this; exact hr
 · cases hv
theorem BR.at_ {k:Nat} {i:BI} {cs:List A} (h:BR M β w k i (.cells cs)):CellsAt w M β ⟨i.block,i.base,none⟩ cs:=by
 obtain ⟨arr,ty,h1,h2,h3,h4⟩:=h.vals
 refine ⟨_,h4,fun j v hj => ?_⟩
 rw [add_mk]
 rw [List.getElem?_take] at hj
 split at hj
 · rw [List.getElem?_drop] at hj
   simpa [World.cell?,h1] using hj
 · cases hj
theorem Sat.live {k:Nat} {b:Blk} (hs:Sat w M β σ hF) (hg:σ.get k=b) (hb:b≠.dead) (hd:β k=.dead):False:=hb (hg ▸ hs.dead k hd)
theorem vptr_at {cs:List D} {off:Nat} {v:Value} (hs:Sat w M β σ hF) (h:VR M β (.d (.vptr cs off)) v):∃ a,v=.pointer (some (a.add off))∧CellsAt w M β a (cs.map A.d):=by
 cases h with
 | d h =>
  cases h with
  | vptr cs off a u h1 h2 =>
   refine ⟨a,rfl,(List.range cs.length).map u,VRL.of_get (by simp) fun j c x hc hx => ?_,fun j x hx => ?_⟩
   · rw [List.getElem?_map] at hc hx
     cases hj:cs[j]? with
     | none => simp [hj] at hc
     | some d =>
      simp only [hj,Option.map_some,Option.some.injEq] at hc; subst hc
      have hlt:j < cs.length:=(List.getElem?_eq_some_iff.1 hj).1
      simp only [List.getElem?_range hlt,Option.map_some,Option.some.injEq] at hx; subst hx
      exact .d (h2 j d hj)
   · rw [List.getElem?_map] at hx
     by_cases hlt:j < cs.length
     · simp only [List.getElem?_range hlt,Option.map_some,Option.some.injEq] at hx; subst hx
       exact hs.mem _ _ (h1 j _ (List.getElem?_eq_getElem hlt))
     · rw [List.getElem?_eq_none (by simpa using hlt)] at hx; cases hx
theorem ptr_at {k off:Nat} {v:Value} {cs:List A} (hs:Sat w M β σ hF) (h:VR M β (.ptr k off) v) (hg:σ.get k=.cells cs) :
 ∃ i,β k=.live i∧v=.pointer (some ⟨i.block,i.base+off,none⟩)∧BR M β w k i (.cells cs):=by
 cases h with
 | ptr h => exact ⟨_,h,rfl,hg ▸ hs.own k _ h⟩
 | ptrX h _ => exact (hs.live hg (by simp) h).elim
theorem loadA_at {i:TI} {p a:A} {R:List Nat} {v:Value} (hs:Sat w M β σ hF) (hp:VR M β p v) (h:loadA i σ p=some (a,R)) :
 ∃ b cs off,v=.pointer (some b)∧CellsAt w M β b (cs.drop off)∧partOf i.agg i.size cs off=some a:=by
 unfold loadA at h
 split at h
 · rename_i k off
   split at h
   · rename_i cs hg
     obtain ⟨x,hx,rfl,hb⟩:=ptr_at hs hp hg
     cases hq:partOf i.agg i.size cs off with
     | none => simp [hq] at h
     | some q =>
      simp only [hq,Option.map_some,Option.some.injEq,Prod.mk.injEq] at h
      obtain ⟨rfl,_⟩:=h
      refine ⟨_,cs,off,rfl,?_,hq⟩
      have:=hb.at_.drop off
      rwa [add_mk] at this
   · cases h
 · rename_i cs off
   obtain ⟨b,rfl,hb⟩:=vptr_at hs hp
   cases hq:partOf i.agg i.size (cs.map A.d) off with
   | none => simp [hq] at h
   | some q =>
    simp only [hq,Option.map_some,Option.some.injEq,Prod.mk.injEq] at h
    obtain ⟨rfl,_⟩:=h
    exact ⟨_,_,off,rfl,hb.drop off,hq⟩
 · cases h
theorem run_loadVar {t:Nat} {i:TI} {a:A} {b:Addr} {cs:List A} {off:Nat} (hi:(mkX P fz).ti t=some i) (hc:CellsAt w M β b (cs.drop off)) (hp:partOf i.agg i.size cs off=some a) :
 ∃ v,(loadVar t b).run P w=.ok v w∧VR M β a v:=by
 obtain ⟨inf,d,h1,h2,h3,h4,h5,h6,h7⟩:=ti_info hi
 unfold loadVar
 rw [Sem.run_bind,run_isAgg h3]
 rw [show i.kind.agg=i.agg from rfl]
 simp only [Result.andThen_ok]
 unfold partOf at hp
 cases hg:i.agg with
 | true =>
  simp only [hg,if_true] at hp
  split at hp
  · rename_i hl
    injection hp with hp; subst hp
    obtain ⟨vs,hv,hcell⟩:=hc.take i.size
    have hlen:vs.length=inf.size:=by rw [← hv.length,← h4]; simp; omega
    refine ⟨.agg vs.toArray,?_,.agg hv⟩
    simp only [if_true,Sem.run_bind,run_sizeOf h1,Result.andThen_ok]
    rw [← hlen,run_loadCells_list w b vs hcell]
    rfl
  · cases hp
 | false =>
  simp only [hg,Bool.false_eq_true,if_false] at hp
  obtain ⟨vs,hv,hcell⟩:=hc
  have h0:(cs.drop off)[0]?=some a:=by rw [List.getElem?_drop]; simpa using hp
  obtain ⟨v,hv0,hr⟩:=hv.get h0
  refine ⟨v,?_,hr⟩
  have:=hcell 0 v hv0
  rw [show b.add 0=b from rfl] at this
  simp [this]
end Go.Am
namespace Go.Am
open Go
variable {P:Program} {fz:Nat→Md} {w w':World} {M M':Mem} {β β':Bt} {σ σ':St} {hF:Nat→Option Obj} {tm:Tm} {ρ:Operand→Value} {o:Oper} {a:A} {T R:List Nat}
def OpOk (P:Program) (ρ:Operand→Value) (o:Oper) (w:World) (M:Mem) (β:Bt) (σ:St) (hF:Nat→Option Obj) (a:A) (σ':St) (T:List Nat):Prop :=
 ∃ n w' M' β',(execOp ρ o).run P w=.ok n w'∧(∃ v,(n=.value v∨(n=.skip∧v=undef))∧VR M' β' a v)∧Sat w' M' β' σ' hF∧Grow w M β σ hF T w' M' β' σ'
theorem OpOk.same (hs:Sat w M β σ hF) {v:Value} (hr:(execOp ρ o).run P w=.ok (.value v) w) (hv:VR M β a v):OpOk P ρ o w M β σ hF a σ [] :=
 ⟨_,w,M,β,hr,⟨v,.inl rfl,hv⟩,hs,Grow.refl _ _ _ _ _⟩
theorem vr_bool {b:Bool} {v:Value} (h:VR M β (.d (.bool b)) v):v=.bool b:=by cases h with | d h => cases h; rfl
theorem vr_int {k:IntKind} {n:Int} {v:Value} (h:VR M β (.d (.int k n)) v):v=.int k n:=by cases h with | d h => cases h; rfl
theorem vr_str {s:ByteArray} {v:Value} (h:VR M β (.d (.str s)) v):v=.string s:=by cases h with | d h => cases h; rfl
theorem vr_nptr {v:Value} (h:VR M β (.d .nptr) v):v=.pointer none:=by cases h with | d h => cases h; rfl
theorem vr_nmap {v:Value} (h:VR M β (.d .nmap) v):v=.map none:=by cases h with | d h => cases h; rfl
theorem vr_nfunc {v:Value} (h:VR M β (.d .nfunc) v):v=.nilFunc:=by cases h with | d h => cases h; rfl
theorem vr_func {f:Nat} {cap:List A} {v:Value} (h:VR M β (.func f cap) v):∃ vs,v=.func (.func f) #[] vs.toArray∧VRL M β cap vs:=by cases h with | func h => exact ⟨_,rfl,h⟩
theorem vr_tup {cs:List A} {v:Value} (h:VR M β (.tup cs) v):∃ vs,v=.tuple vs.toArray∧VRL M β cs vs:=by cases h with | tup h => exact ⟨_,rfl,h⟩
theorem vr_agg {cs:List A} {v:Value} (h:VR M β (.agg cs) v):∃ vs,v=.agg vs.toArray∧VRL M β cs vs:=by cases h with | agg h => exact ⟨_,rfl,h⟩
theorem vr_map {k:Nat} {v:Value} {es:List (A × A)} (hs:Sat w M β σ hF) (h:VR M β (.map k) v) (hg:σ.get k=.map es):∃ i,β k=.live i∧v=.map (some i.block)∧BR M β w k i (.map es):=by
 cases h with
 | map h => exact ⟨_,h,rfl,hg ▸ hs.own k _ h⟩
 | mapX h _ => exact (hs.live hg (by simp) h).elim
theorem vr_row {k off len es:Nat} {v:Value} {cs:List A} (hs:Sat w M β σ hF) (h:VR M β (.row k off len es) v) (hg:σ.get k=.cells cs) :
 ∃ i ad cap,β k=.live i∧v=.slice (some ad) len cap∧len≤cap∧i.base+off+cap * es≤i.size∧(cap=0∨ad=⟨i.block,i.base+off,none⟩)∧BR M β w k i (.cells cs):=by
 cases h with
 | row h hl hz ha => exact ⟨_,_,_,h,rfl,hl,hz,ha,hg ▸ hs.own k _ h⟩
 | rowX h _ => exact (hs.live hg (by simp) h).elim
theorem op_move (hs:Sat w M β σ hF) (hev:∀ x,VR M β (ev tm x) (ρ x)) {x:Operand} (ho:o.op=.move x) (he:evalOp (mkX P fz) tm σ o=.val a σ' T R):OpOk P ρ o w M β σ hF a σ' T:=by
 simp only [evalOp,ho,OpR.val.injEq] at he; obtain ⟨rfl,rfl,rfl,_⟩:=he
 exact .same hs (by simp only [execOp,ho]; rfl) (hev x)
theorem op_assign (hs:Sat w M β σ hF) (hev:∀ x,VR M β (ev tm x) (ρ x)) {x:Operand} (ho:o.op=.assign x) (he:evalOp (mkX P fz) tm σ o=.val a σ' T R):OpOk P ρ o w M β σ hF a σ' T:=by
 simp only [evalOp,ho,OpR.val.injEq] at he; obtain ⟨rfl,rfl,rfl,_⟩:=he
 exact .same hs (by simp only [execOp,ho]; rfl) (hev x)
theorem op_pick (hs:Sat w M β σ hF) (hev:∀ x,VR M β (ev tm x) (ρ x)) {c x y:Operand} (ho:o.op=.pick c x y) (he:evalOp (mkX P fz) tm σ o=.val a σ' T R):OpOk P ρ o w M β σ hF a σ' T:=by
 simp only [evalOp,ho] at he
 have hc:=hev c
 split at he
 · rename_i t ht
   rw [ht] at hc
   simp only [OpR.val.injEq] at he; obtain ⟨rfl,rfl,rfl,_⟩:=he
   refine .same hs (v:=if t then ρ x else ρ y) (by simp [execOp,ho,vr_bool hc,asBool]) ?_
   cases t
   · exact hev y
   · exact hev x
 · cases he
theorem op_alloc (hs:Sat w M β σ hF) {t:Nat} (ho:o.op=.alloc t) (he:evalOp (mkX P fz) tm σ o=.val a σ' T R):OpOk P ρ o w M β σ hF a σ' T:=by
 simp only [evalOp,ho] at he
 split at he
 · rename_i z zvv hti
   obtain ⟨inf,d,h1,h2,h3,h4,h5,h6,h7⟩:=ti_info hti
   obtain ⟨v,hv,hz⟩:=zero_rel h6.symm
   simp only [OpR.val.injEq] at he; obtain ⟨rfl,rfl,rfl,_⟩:=he
   have hb:=hz M (β.new σ.n ⟨w.heap.size,0,v.cells.size⟩)
   refine ⟨.value (.pointer (some ⟨w.heap.size,0,none⟩)),w.alloc (.cells v.cells t),M,β.new σ.n ⟨w.heap.size,0,v.cells.size⟩,?_,⟨_,.inl rfl,?_⟩,hs.alloc _ _ _ ?_,Grow.alloc hs _ _ _⟩
   · simp [execOp,ho,Instr.alloc,run_zeroValue h1 hv,newVar,newRow]
   · exact VR.ptr (i:=⟨w.heap.size,0,v.cells.size⟩) (off:=0) (Bt.new_same _ _ _)
   · refine ⟨v.cells,t,heap_alloc_new w _,rfl,by have:=hb.length; simp at this ⊢; omega,fun j c hj => ?_⟩
     obtain ⟨u,hu,hr⟩:=hb.get hj
     exact ⟨u,by simpa using hu,hr⟩
 · cases he
theorem op_box (hs:Sat w M β σ hF) (hev:∀ x,VR M β (ev tm x) (ρ x)) {t:Nat} {x:Operand} (ho:o.op=.box t x) (he:evalOp (mkX P fz) tm σ o=.val a σ' T R):OpOk P ρ o w M β σ hF a σ' T:=by
 simp only [evalOp,ho] at he
 split at he
 · rename_i cs hcs
   have hb:=cells_rel (hev x) hcs
   simp only [OpR.val.injEq] at he; obtain ⟨rfl,rfl,rfl,_⟩:=he
   refine ⟨.value (.pointer (some ⟨w.heap.size,0,none⟩)),w.alloc (.cells (ρ x).cells t),M,β.new σ.n ⟨w.heap.size,0,(ρ x).cells.size⟩,?_,⟨_,.inl rfl,?_⟩,hs.alloc _ _ _ ?_,Grow.alloc hs _ _ _⟩
   · simp [execOp,ho,Instr.box,newVar,newRow]
   · exact VR.ptr (i:=⟨w.heap.size,0,(ρ x).cells.size⟩) (off:=0) (Bt.new_same _ _ _)
   · refine ⟨(ρ x).cells,t,heap_alloc_new w _,rfl,by have:=hb.length; simp at this ⊢; omega,fun j c hj => ?_⟩
     obtain ⟨u,hu,hr⟩:=hb.get hj
     exact ⟨u,by simpa using hu,hr.mono (Mem.le_refl M) (Bt.le_new _ (hs.lt _ (Nat.le_refl _)))⟩
 · cases he
theorem op_load (hs:Sat w M β σ hF) (hev:∀ x,VR M β (ev tm x) (ρ x)) {t:Nat} {x:Operand} (ho:o.op=.load t x) (he:evalOp (mkX P fz) tm σ o=.val a σ' T R):OpOk P ρ o w M β σ hF a σ' T:=by
 simp only [evalOp,ho] at he
 split at he
 · rename_i i hti
   split at he
   · rename_i v R' hl
     simp only [OpR.val.injEq] at he; obtain ⟨rfl,rfl,rfl,_⟩:=he
     obtain ⟨b,cs,off,hv,hc,hp⟩:=loadA_at hs (hev x) hl
     obtain ⟨u,hu,hr⟩:=run_loadVar (P:=P) hti hc hp
     exact .same hs (v:=u) (by simp [execOp,ho,Instr.loadAt,hv,Instr.sureAddr,hu]) hr
   · cases he
 · cases he
theorem op_nilCheck (hs:Sat w M β σ hF) (hev:∀ x,VR M β (ev tm x) (ρ x)) {x:Operand} (ho:o.op=.nilCheck x) (he:evalOp (mkX P fz) tm σ o=.val a σ' T R):OpOk P ρ o w M β σ hF a σ' T:=by
 simp only [evalOp,ho] at he
 have hx:=hev x
 split at he
 · rename_i k off hk
   rw [hk] at hx
   split at he
   · cases he
   · rename_i hg
     simp only [OpR.val.injEq] at he; obtain ⟨rfl,rfl,rfl,_⟩:=he
     have hu:∃ a,ρ x=.pointer (some a):=by
      generalize ρ x=u at hx
      cases hx with
      | ptr h => exact ⟨_,rfl⟩
      | ptrX h _ => exact (hg (hs.dead k h)).elim
     obtain ⟨b,hu⟩:=hu
     exact .same hs (v:=ρ x) (by simp [execOp,ho,hu]) hx
 · rename_i cs off hk
   rw [hk] at hx
   simp only [OpR.val.injEq] at he; obtain ⟨rfl,rfl,rfl,_⟩:=he
   obtain ⟨b,hb,_⟩:=vptr_at hs hx
   exact .same hs (v:=ρ x) (by simp [execOp,ho,hb]) hx
 · rename_i f cap hk
   rw [hk] at hx
   simp only [OpR.val.injEq] at he; obtain ⟨rfl,rfl,rfl,_⟩:=he
   obtain ⟨vs,hv,_⟩:=vr_func hx
   exact .same hs (v:=ρ x) (by simp [execOp,ho,hv]) hx
 · cases he
theorem op_unOp (hs:Sat w M β σ hF) (hev:∀ x,VR M β (ev tm x) (ρ x)) {u:UnOp} {t:Nat} {x:Operand} (ho:o.op=.unOp u t x) (he:evalOp (mkX P fz) tm σ o=.val a σ' T R):OpOk P ρ o w M β σ hF a σ' T:=by
 simp only [evalOp,ho] at he
 have hx:=hev x
 split at he
 · rename_i b hk
   rw [hk] at hx
   simp only [OpR.val.injEq] at he; obtain ⟨rfl,rfl,rfl,_⟩:=he
   exact .same hs (v:=.bool !b) (by simp [execOp,ho,vr_bool hx,Op.unary]) (.d (.bool _))
 · rename_i k n hk
   rw [hk] at hx
   simp only [OpR.val.injEq] at he; obtain ⟨rfl,rfl,rfl,_⟩:=he
   exact .same hs (v:=.int k (k.wrap (0 - n))) (by simp [execOp,ho,vr_int hx,Op.unary,Op.intArith]) (.d (.int _ _))
 · cases he
theorem op_convert (hs:Sat w M β σ hF) (hev:∀ x,VR M β (ev tm x) (ρ x)) {s t:Nat} {x:Operand} (ho:o.op=.convert s t x) (he:evalOp (mkX P fz) tm σ o=.val a σ' T R):OpOk P ρ o w M β σ hF a σ' T:=by
 simp only [evalOp,ho] at he
 have hx:=hev x
 split at he
 · rename_i i0 k sz by_ zz zvv k2 n hi ht hk
   rw [hk] at hx
   obtain ⟨_,d,_,hd,_⟩:=ti_info hi
   obtain ⟨_,_,_,_,hk',_⟩:=ti_info ht
   have hu:=kind_int hk'
   simp only [OpR.val.injEq] at he; obtain ⟨rfl,rfl,rfl,_⟩:=he
   exact .same hs (v:=.int k (k.wrap n)) (by simp [execOp,ho,vr_int hx,convert,run_underlying hd,run_underlying hu,Conv.intToInt]) (.d (.int _ _))
 · rename_i i0 sz by_ zz zvv q hi ht hk
   rw [hk] at hx
   obtain ⟨_,d,_,hd,_⟩:=ti_info hi
   obtain ⟨_,_,_,_,hk',_⟩:=ti_info ht
   have hu:=kind_str hk'
   simp only [OpR.val.injEq] at he; obtain ⟨rfl,rfl,rfl,_⟩:=he
   exact .same hs (v:=.string q) (by simp [execOp,ho,vr_str hx,convert,run_underlying hd,run_underlying hu]) (.d (.str _))
 · cases he
theorem op_makeFunc (hs:Sat w M β σ hF) (hev:∀ x,VR M β (ev tm x) (ρ x)) {f:Fn} {fi ca:Array Operand} (ho:o.op=.makeFunc f fi ca) (he:evalOp (mkX P fz) tm σ o=.val a σ' T R):OpOk P ρ o w M β σ hF a σ' T:=by
 cases f with
 | func f =>
  simp only [evalOp,ho] at he
  split at he
  · rename_i hf
    simp only [OpR.val.injEq] at he; obtain ⟨rfl,rfl,rfl,_⟩:=he
    have hf':fi=#[]:=by simpa using hf
    subst hf'
    have e:ca.map ρ=(ca.toList.map ρ).toArray:=by apply Array.ext'; simp
    refine .same hs (v:=.func (.func f) #[] (ca.map ρ)) (by simp [execOp,ho,Instr.makeFunc]) ?_
    rw [e]
    exact .func (VRL.of_map _ _ _ fun x _ => hev x)
  · cases he
 | _ => simp [evalOp,ho] at he
theorem op_extract (hs:Sat w M β σ hF) (hev:∀ x,VR M β (ev tm x) (ρ x)) {x:Operand} {i:Nat} (ho:o.op=.extract x i) (he:evalOp (mkX P fz) tm σ o=.val a σ' T R):OpOk P ρ o w M β σ hF a σ' T:=by
 simp only [evalOp,ho] at he
 have hx:=hev x
 split at he
 · rename_i vs hk
   rw [hk] at hx
   obtain ⟨us,hv,hr⟩:=vr_tup hx
   cases hi:vs[i]? with
   | none => simp [hi,OpR.of] at he
   | some b =>
    simp only [hi,OpR.of,OpR.val.injEq] at he; obtain ⟨rfl,rfl,rfl,_⟩:=he
    obtain ⟨u,hu,hr'⟩:=hr.get hi
    exact .same hs (v:=u) (by simp [execOp,ho,hv,Instr.extract,hu]) hr'
 · cases he
theorem op_makeMap (hs:Sat w M β σ hF) {t:Nat} {r:Option Operand} (ho:o.op=.makeMap t r) (he:evalOp (mkX P fz) tm σ o=.val a σ' T R):OpOk P ρ o w M β σ hF a σ' T:=by
 cases r with
 | some r => simp [evalOp,ho] at he
 | none =>
  simp only [evalOp,ho] at he
  split at he
  · simp only [OpR.val.injEq] at he; obtain ⟨rfl,rfl,rfl,_⟩:=he
    refine ⟨.value (.map (some w.heap.size)),w.alloc (.map #[] 0),M,β.new σ.n ⟨w.heap.size,0,0⟩,by simp [execOp,ho,Instr.makeMap],⟨_,.inl rfl,?_⟩,hs.alloc _ _ _ ?_,Grow.alloc hs _ _ _⟩
    · exact VR.map (i:=⟨w.heap.size,0,0⟩) (Bt.new_same _ _ _)
    · exact ⟨#[],0,heap_alloc_new w _,⟨rfl,rfl,fun j e he => by simp at he⟩,fun j a b hj => by simp at hj⟩
  · cases he
end Go.Am
namespace Go.Am
open Go
variable {P:Program} {fz:Nat→Md} {w w':World} {M M':Mem} {β β':Bt} {σ σ':St} {hF:Nat→Option Obj} {tm:Tm} {ρ:Operand→Value} {o:Oper} {a:A} {T R:List Nat}
theorem length_putAt:∀ (vs:List A) (cs:List A) (off:Nat),(putAt cs off vs).length=cs.length
 | [],_,_ => rfl
 | v :: vs,cs,off => by rw [putAt,length_putAt vs]; simp
theorem get_putAt:∀ (vs:List A) (cs:List A) (off j:Nat),off+vs.length≤cs.length→(putAt cs off vs)[j]?=if off≤j∧j < off+vs.length then vs[j - off]? else cs[j]?
 | [],cs,off,j,_ => by
  simp only [putAt,List.length_nil,Nat.add_zero]
  rw [if_neg (by omega)]
 | v :: vs,cs,off,j,h => by
  have h':off+1+vs.length≤(cs.set off v).length:=by simp at h ⊢; omega
  rw [putAt,get_putAt vs (cs.set off v) (off+1) j h']
  simp only [List.length_cons] at h ⊢
  by_cases e:off+1≤j∧j < off+1+vs.length
  · rw [if_pos e,if_pos (by omega)]
    obtain ⟨q,rfl⟩:∃ q,j=off+1+q:=⟨j - (off+1),by omega⟩
    rw [show off+1+q - (off+1)=q by omega,show off+1+q - off=q+1 by omega,List.getElem?_cons_succ]
  · rw [if_neg e]
    by_cases e2:j=off
    · subst e2
      rw [if_pos (by omega),List.getElem?_set_self (by omega)]
      simp
    · rw [if_neg (by omega),List.getElem?_set_ne (by omega)]
def laid (arr:Array Value) (at_:Nat) (vs:List Value):Array Value:=(arr.toList.take at_ ++ vs ++ arr.toList.drop (at_+vs.length)).toArray
theorem size_laid {arr:Array Value} {p:Nat} {vs:List Value} (h:p+vs.length≤arr.size):(laid arr p vs).size=arr.size:=by
 simp [laid]; omega
theorem get_laid {arr:Array Value} {p:Nat} {vs:List Value} (h:p+vs.length≤arr.size) (j:Nat):(laid arr p vs)[j]?=if p≤j∧j < p+vs.length then vs[j - p]? else arr[j]?:=by
 have h':(laid arr p vs)[j]?=(arr.toList.take p ++ vs ++ arr.toList.drop (p+vs.length))[j]?:=by simp [laid]
 rw [h']
 have hp:(arr.toList.take p).length=p:=by simp; omega
 by_cases e1:j < p
 · rw [if_neg (by omega),List.append_assoc,List.getElem?_append_left (by omega),List.getElem?_take,if_pos e1]; simp
 · by_cases e2:j < p+vs.length
   · rw [if_pos (by omega),List.append_assoc,List.getElem?_append_right (by omega),hp,List.getElem?_append_left (by omega)]
   · rw [if_neg (by omega),List.getElem?_append_right (by simp; omega),List.getElem?_drop]
     simp only [List.length_append,hp]
     rw [show p+vs.length+(j - (p+vs.length))=j by omega]; simp
theorem setRow_other (w:World) (g:Nat) (c:Array Value) {j:Nat} (h:j≠g):(w.setRow g c).heap[j]?=w.heap[j]?:=by
 simp only [World.setRow,Array.getElem?_modify]
 rw [if_neg (by omega)]
theorem Same.setRow (w:World) (g:Nat) (c:Array Value):Same w (w.setRow g c):=.turn (b:=g) rfl rfl rfl (by simp [World.setRow]) (fun _ hj => setRow_other _ _ _ hj) fun n => by
 simp only [World.setRow,Array.getElem?_modify,if_true]
 cases h:w.heap[g]? with
 | none => rfl
 | some o => cases o <;> rfl
theorem lay (P:Program) (hs:Sat w M β σ hF) {k:Nat} {i:BI} {cs:List A} (hk:β k=.live i) (hg:σ.get k=.cells cs) {vs:List A} {us:List Value} {off:Nat} (hv:VRL M β vs us)
 (hc:vs.all A.isCell=true) (hl:off+vs.length≤cs.length) :
 ∃ w',(storeCells ⟨i.block,i.base+off,none⟩ us).run P w=.ok () w'∧Same w w'∧(∀ j,j≠i.block→w'.heap[j]?=w.heap[j]?)∧BR M β w' k i (.cells (putAt cs off vs)):=by
 have hb:=hs.own k i hk
 rw [hg] at hb
 obtain ⟨arr,ty,h1,h2,h3,h4⟩:=hb
 have hlen:=hv.length
 have hsz:i.base+off+us.length≤arr.size:=by omega
 have hr:=run_storeCells_at (P:=P) i.block (i.base+off) ty us 0 arr w h1 (by omega) (hv.ones hc)
 simp only [Nat.add_zero] at hr
 refine ⟨_,hr,Same.setRow _ _ _,fun j hj => setRow_other _ _ _ hj,?_⟩
 change BR M β (w.setRow i.block (laid arr (i.base+off) us)) k i _
 refine ⟨laid arr (i.base+off) us,ty,setRow_heap w i.block arr _ ty _ h1,by rw [size_laid hsz]; exact h2,by rw [length_putAt]; exact h3,fun j c hj => ?_⟩
 rw [get_putAt vs cs off j hl] at hj
 rw [get_laid hsz]
 split at hj
 · rename_i e
   obtain ⟨u,hu,hr⟩:=hv.get hj
   rw [if_pos (by omega),show i.base+j - (i.base+off)=j - off by omega]
   exact ⟨u,hu,hr⟩
 · rename_i e
   rw [if_neg (by omega)]
   exact h4 j c hj
theorem op_store (hs:Sat w M β σ hF) (hev:∀ x,VR M β (ev tm x) (ρ x)) {t:Nat} {x y:Operand} (ho:o.op=.store t x y) (he:evalOp (mkX P fz) tm σ o=.val a σ' T R):OpOk P ρ o w M β σ hF a σ' T:=by
 simp only [evalOp,ho] at he
 split at he
 · rename_i i hti
   split at he
   · rename_i q hst
     simp only [OpR.val.injEq] at he; obtain ⟨rfl,rfl,rfl,_⟩:=he
     obtain ⟨inf,d,h1,h2,h3,h4,h5,h6,h7⟩:=ti_info hti
     unfold storeA at hst
     have hx:=hev x
     have hy:=hev y
     split at hst
     · rename_i k off vs hxe hye
       rw [hxe] at hx
       split at hst
       · rename_i cs hg
         split at hst
         · rename_i hcond
           obtain ⟨hl1,hl2,hl3⟩:=hcond
           simp only [Option.some.injEq,Prod.mk.injEq] at hst; obtain ⟨rfl,rfl⟩:=hst
           obtain ⟨b,hk,hv,hb⟩:=ptr_at hs hx hg
           have hcs:=cells_rel hy hye
           obtain ⟨w',hr,hsame,hother,hbr⟩:=lay P hs hk hg hcs hl3 hl2
           refine ⟨.skip,w',M,β,?_,⟨undef,.inr ⟨rfl,rfl⟩,.top⟩,hs.write hk _ hother hbr,Grow.write hs hsame hk _ hother⟩
           have hsz:(ρ y).cells.size=inf.size:=by have:=hcs.length; simp at this; omega
           simp [execOp,ho,Instr.storeAt,hv,Instr.sureAddr,storeVar,run_sizeOf h1,hsz,hr]
         · cases hst
       · cases hst
     · cases hst
   · cases he
 · cases he
theorem op_fieldAddr (hs:Sat w M β σ hF) (hev:∀ x,VR M β (ev tm x) (ρ x)) {t f:Nat} {x:Operand} (ho:o.op=.fieldAddr t x f) (he:evalOp (mkX P fz) tm σ o=.val a σ' T R):OpOk P ρ o w M β σ hF a σ' T:=by
 simp only [evalOp,ho] at he
 have hx:=hev x
 split at he
 · rename_i fs sz by_ zz zvv hti
   obtain ⟨inf,d,h1,h2,h3,h4,h5,h6,h7⟩:=ti_info hti
   obtain ⟨F,hu,hnam,hfs⟩:=kind_struct h3
   have hfield:∀ oo size tt,fs[f]?=some (oo,size,tt)→size≠0→∃ fd,F[f]?=some fd∧fd.offset=oo∧∃ inf',P.info? fd.type=some inf'∧inf'.size=size:=by
    intro oo size tt h hz
    rw [hfs,List.getElem?_map] at h
    cases hF:F.toList[f]? with
    | none => simp [hF] at h
    | some fd =>
     simp only [hF,Option.map_some,Option.some.injEq,Prod.mk.injEq] at h
     obtain ⟨rfl,hsz,_⟩:=h
     refine ⟨fd,by simpa using hF,rfl,?_⟩
     cases hi:P.info? fd.type with
     | none => simp [hi] at hsz; omega
     | some inf' => simp [hi] at hsz; exact ⟨inf',rfl,hsz⟩
   split at he
   · rename_i oo size tt k off hf hk
     rw [hk] at hx
     split at he
     · cases he
     · rename_i hdead
       split at he
       · cases he
       · rename_i hz
         obtain ⟨fd,hfd,rfl,inf',hi',hsz⟩:=hfield _ _ _ hf hz
         simp only [OpR.val.injEq] at he; obtain ⟨rfl,rfl,rfl,_⟩:=he
         have hz':inf'.size≠0:=by omega
         have key:∀ b:Addr,ρ x=.pointer (some b)→(execOp ρ o).run P w=.ok (.value (.pointer (some (b.add fd.offset)))) w:=fun b hb => by
          simp [execOp,ho,Instr.fieldAt,run_underlying hu,hfd,hb,Instr.sureAddr,fieldPlace,run_sizeOf hi',hz']
         generalize hq:ρ x=u at hx
         cases hx with
         | ptr h => exact .same hs (key _ hq) (by rw [add_mk,Nat.add_assoc]; exact .ptr h)
         | ptrX h ho' => exact (hdead (hs.dead k h)).elim
   · rename_i oo size tt cs off hf hk
     rw [hk] at hx
     split at he
     · cases he
     · rename_i hz
       obtain ⟨fd,hfd,rfl,inf',hi',hsz⟩:=hfield _ _ _ hf hz
       simp only [OpR.val.injEq] at he; obtain ⟨rfl,rfl,rfl,_⟩:=he
       have hz':inf'.size≠0:=by omega
       generalize hq:ρ x=u at hx
       cases hx with
       | d hx =>
        cases hx with
        | vptr cs off b u g1 g2 =>
         refine .same hs (v:=.pointer (some ((b.add off).add fd.offset))) (by simp [execOp,ho,Instr.fieldAt,run_underlying hu,hfd,hq,Instr.sureAddr,fieldPlace,run_sizeOf hi',hz']) ?_
         rw [add_add]
         exact .d (.vptr cs (off+fd.offset) b u g1 g2)
   · cases he
 · cases he
theorem op_indexAddr (hs:Sat w M β σ hF) (hev:∀ x,VR M β (ev tm x) (ρ x)) {t:Nat} {x y:Operand} (ho:o.op=.indexAddr t x y) (he:evalOp (mkX P fz) tm σ o=.val a σ' T R):OpOk P ρ o w M β σ hF a σ' T:=by
 simp only [evalOp,ho] at he
 have hx:=hev x
 have hy:=hev y
 split at he
 · rename_i e sz by_ zz zvv nl xs ki i hti hk hi
   rw [hk] at hx
   rw [hi] at hy
   obtain ⟨inf,d,h1,h2,h3,h4,h5,h6,h7⟩:=ti_info hti
   have hu:=kind_slc h3
   split at he
   · rename_i ie hte
     obtain ⟨inf',d',g1,g2,g3,g4,g5,g6,g7⟩:=ti_info hte
     split at he
     · rename_i h0
       split at he
       · rename_i c hc
         split at he
         · rename_i hlen
           simp only [OpR.val.injEq] at he; obtain ⟨rfl,rfl,rfl,_⟩:=he
           generalize hq:ρ x=u at hx
           cases hx with
           | d hx =>
            cases hx with
            | slcNil => simp at hc
            | slc xs b cap es q hcap hes hm hd =>
             have hes':=hes _ _ hc
             have hlt:i.toNat < xs.length:=(List.getElem?_eq_some_iff.1 hc).1
             have hz:es=inf'.size:=by omega
             subst hz
             refine .same hs (v:=.pointer (some (b.add (i.toNat * inf'.size)))) ?_ ?_
             · have hi2:i < (xs.length:Int):=by omega
               simp [execOp,ho,Instr.indexAt,vr_int hy,asIntOf,run_underlying hu,hq,h0,hi2,run_sizeOf g1]
             · have:=DR.vptr (M:=M) c 0 (b.add (i.toNat * inf'.size)) (q i.toNat) (fun j d hj => by rw [add_add]; exact hm _ _ _ _ hc hj) (fun j d hj => hd _ _ _ _ hc hj)
               exact .d this
         · cases he
       · cases he
     · cases he
   · cases he
 · rename_i e sz by_ zz zvv k off len es ki i hti hk hi
   rw [hk] at hx
   rw [hi] at hy
   obtain ⟨inf,d,h1,h2,h3,h4,h5,h6,h7⟩:=ti_info hti
   have hu:=kind_slc h3
   split at he
   · rename_i ie hte
     obtain ⟨inf',d',g1,g2,g3,g4,g5,g6,g7⟩:=ti_info hte
     split at he
     · cases he
     · rename_i hdead
       split at he
       · rename_i hc
         obtain ⟨c1,c2,c3⟩:=hc
         simp only [OpR.val.injEq] at he; obtain ⟨rfl,rfl,rfl,_⟩:=he
         generalize hq:ρ x=u at hx
         cases hx with
         | row h hl hz ha =>
          rename_i cap bi ad
          have had:ad=⟨bi.block,bi.base+off,none⟩:=by
           rcases ha with ha | ha
           · omega
           · exact ha
          subst had
          refine .same hs (v:=.pointer (some ((⟨bi.block,bi.base+off,none⟩:Addr).add (i.toNat * inf'.size)))) ?_ ?_
          · simp [execOp,ho,Instr.indexAt,vr_int hy,asIntOf,run_underlying hu,hq,c1,c2,run_sizeOf g1]
          · rw [add_mk,← g4,c3,Nat.add_assoc]; exact .ptr h
         | rowX h _ => exact (hdead (hs.dead k h)).elim
       · cases he
   · cases he
 · rename_i n es e sz by_ zz zvv k off ki i hti hk hi
   rw [hk] at hx
   rw [hi] at hy
   obtain ⟨inf,d,h1,h2,h3,h4,h5,h6,h7⟩:=ti_info hti
   obtain ⟨hu,hes⟩:=kind_arr h3
   split at he
   · cases he
   · rename_i hdead
     split at he
     · rename_i hc
       obtain ⟨c1,c2,c3⟩:=hc
       simp only [OpR.val.injEq] at he; obtain ⟨rfl,rfl,rfl,_⟩:=he
       cases hi':P.info? e with
       | none => simp [hi'] at hes; omega
       | some inf' =>
        simp only [hi',Option.map_some,Option.getD_some] at hes
        generalize hq:ρ x=u at hx
        cases hx with
        | ptr h =>
         rename_i bi
         refine .same hs (v:=.pointer (some ((⟨bi.block,bi.base+off,none⟩:Addr).add (i.toNat * inf'.size)))) ?_ ?_
         · simp [execOp,ho,Instr.indexAt,vr_int hy,asIntOf,run_underlying hu,hq,c1,c2,run_sizeOf hi',Instr.sureAddr]
         · rw [add_mk,← hes,Nat.add_assoc]; exact .ptr h
        | ptrX h _ => exact (hdead (hs.dead k h)).elim
     · cases he
 · cases he
end Go.Am
namespace Go.Am
open Go
variable {P:Program} {fz:Nat→Md} {w w':World} {M M':Mem} {β β':Bt} {σ σ':St} {hF:Nat→Option Obj} {tm:Tm} {ρ:Operand→Value} {o:Oper} {a:A} {T R:List Nat}
theorem run_sliceBound {k:IntKind} {n:Int} {y:Nat} {c:BoundsCode} (h0:0≤n) (h1:n≤y) (w:World):(Instr.sliceBound (.int k n) y c).run P w=.ok n.toNat w:=by
 simp [Instr.sliceBound,asIntOf,h0,h1]
theorem bnd_some (hev:∀ x,VR M β (ev tm x) (ρ x)) {p:Option Operand} {d n:Nat} (h:bnd tm p d=some n) :
 (p=none∧n=d)∨(∃ q k m,p=some q∧ρ q=.int k m∧0≤m∧n=m.toNat):=by
 unfold bnd at h
 split at h
 · left; exact ⟨rfl,by simpa using h.symm⟩
 · rename_i q
   right
   split at h
   · rename_i k m hk
     have:=hev q; rw [hk] at this
     split at h
     · rename_i hm; exact ⟨q,k,m,rfl,vr_int this,hm,by simpa using h.symm⟩
     · cases h
   · cases h
theorem run_bounds {isSlice:Bool} {len cap l h:Nat} {lo hi:Option Operand} (hev:∀ x,VR M β (ev tm x) (ρ x))
 (h1:bnd tm hi len=some h) (h2:bnd tm lo 0=some l) (hle:l≤h) (hcap:h≤cap) (w:World) :
 (Instr.sliceBounds isSlice len cap (lo.map ρ) (hi.map ρ) none).run P w=.ok (l,h,cap) w:=by
 unfold Instr.sliceBounds
 rcases bnd_some hev h1 with ⟨rfl,rfl⟩ | ⟨q,k,m,rfl,hq,hm,rfl⟩ <;> rcases bnd_some hev h2 with ⟨rfl,rfl⟩ | ⟨q',k',m',rfl,hq',hm',rfl⟩
 · simp
 · simp [hq',run_sliceBound hm' (show m'≤(h:Int) by omega)]
 · simp [hq,run_sliceBound hm (show m≤(cap:Int) by omega)]
 · have e:((m.toNat:Nat):Int)=m:=Int.toNat_of_nonneg hm
   simp [hq,hq',run_sliceBound hm (show m≤(cap:Int) by omega),run_sliceBound hm' (show m'≤((m.toNat:Nat):Int) by omega)]
theorem op_slice (hs:Sat w M β σ hF) (hev:∀ x,VR M β (ev tm x) (ρ x)) {t:Nat} {x:Operand} {lo hi mx:Option Operand} (ho:o.op=.slice t x lo hi mx) (he:evalOp (mkX P fz) tm σ o=.val a σ' T R):OpOk P ρ o w M β σ hF a σ' T:=by
 cases mx with
 | some m => simp [evalOp,ho] at he
 | none =>
  simp only [evalOp,ho] at he
  have hx:=hev x
  split at he
  · rename_i e sz by_ zz zvv nl xs hti hk
    rw [hk] at hx
    obtain ⟨inf,d,h1,h2,h3,h4,h5,h6,h7⟩:=ti_info hti
    have hu:=kind_slc h3
    split at he
    · rename_i h ie hh hte
      obtain ⟨inf',d',g1,g2,g3,g4,g5,g6,g7⟩:=ti_info hte
      split at he
      · rename_i l hl
        split at he
        · rename_i hc
          obtain ⟨c1,c2,c3⟩:=hc
          simp only [OpR.val.injEq] at he; obtain ⟨rfl,rfl,rfl,_⟩:=he
          generalize hq:ρ x=u at hx
          cases hx with
          | d hx =>
           cases hx with
           | slcNil =>
            have hb:=run_bounds (P:=P) (isSlice:=true) (len:=0) (cap:=0) hev hh hl c1 (by simpa using c2) w
            have hh0:h=0:=by simpa using c2
            subst hh0
            have hl0:l=0:=by omega
            subst hl0
            refine .same hs (v:=.slice none 0 0) ?_ (by simpa using VR.d .slcNil)
            simp [execOp,ho,Instr.sliceAt,run_underlying hu,Instr.slice,hq,hb,run_sizeOf g1]
           | slc xs b cap es q hcap hes hm hd =>
            have hb:=run_bounds (P:=P) (isSlice:=true) (len:=xs.length) (cap:=cap) hev hh hl c1 (by omega) w
            refine .same hs (v:=.slice (some (if cap=l then b else b.add (l * inf'.size))) (h - l) (cap - l)) ?_ ?_
            · simp [execOp,ho,Instr.sliceAt,run_underlying hu,Instr.slice,hq,hb,run_sizeOf g1]
              split <;> simp
            · have hlen:((xs.take h).drop l).length=h - l:=by simp; omega
              rw [← hlen]
              refine .d (.slc _ _ (cap - l) inf'.size (fun i j => q (l+i) j) (by omega) (fun i y hy => ?_) (fun i y j d hy hj => ?_) (fun i y j d hy hj => ?_))
              · have:=List.all_eq_true.1 c3 y (List.mem_of_getElem? hy)
                simpa [g4] using this
              · have hlt:i < h - l:=by have:=(List.getElem?_eq_some_iff.1 hy).1; omega
                have hy':xs[l+i]?=some y:=by
                 rw [List.getElem?_drop,List.getElem?_take] at hy
                 rwa [if_pos (by omega)] at hy
                have e1:=hes _ _ hy'
                have e2:=List.all_eq_true.1 c3 y (List.mem_of_getElem? hy)
                have e3:es=inf'.size:=by simp [g4] at e2; omega
                subst e3
                rw [if_neg (by omega),add_add,show l * inf'.size+(i * inf'.size+j)=(l+i) * inf'.size+j by rw [Nat.add_mul]; omega]
                exact hm _ _ _ _ hy' hj
              · have hlt:i < h - l:=by have:=(List.getElem?_eq_some_iff.1 hy).1; omega
                have hy':xs[l+i]?=some y:=by
                 rw [List.getElem?_drop,List.getElem?_take] at hy
                 rwa [if_pos (by omega)] at hy
                exact hd _ _ _ _ hy' hj
        · cases he
      · cases he
    · cases he
  · rename_i e sz by_ zz zvv k off len es hti hk
    rw [hk] at hx
    obtain ⟨inf,d,h1,h2,h3,h4,h5,h6,h7⟩:=ti_info hti
    have hu:=kind_slc h3
    split at he
    · rename_i h ie hh hte
      obtain ⟨inf',d',g1,g2,g3,g4,g5,g6,g7⟩:=ti_info hte
      split at he
      · rename_i l hl
        split at he
        · cases he
        · rename_i hdead
          split at he
          · rename_i hc
            obtain ⟨c1,c2,c3⟩:=hc
            simp only [OpR.val.injEq] at he; obtain ⟨rfl,rfl,rfl,_⟩:=he
            generalize hq:ρ x=u at hx
            cases hx with
            | rowX h _ => exact (hdead (hs.dead k h)).elim
            | row h' hlc hz ha =>
             rename_i cap bi ad
             have hb:=run_bounds (P:=P) (isSlice:=true) (len:=len) (cap:=cap) hev hh hl c1 (by omega) w
             refine .same hs (v:=.slice (some (if cap=l then ad else ad.add (l * inf'.size))) (h - l) (cap - l)) ?_ ?_
             · simp [execOp,ho,Instr.sliceAt,run_underlying hu,Instr.slice,hq,hb,run_sizeOf g1]
               split <;> simp
             · have e3:es=inf'.size:=by omega
               subst e3
               have hle:l≤cap:=by omega
               have hmul:l * inf'.size+(cap - l) * inf'.size=cap * inf'.size:=by rw [← Nat.add_mul]; congr 1; omega
               refine .row h' (by omega) (by omega) ?_
               by_cases e:cap=l
               · left; omega
               · right
                 rw [if_neg e]
                 rcases ha with ha | ha
                 · omega
                 · rw [ha,add_mk,Nat.add_assoc]
          · cases he
      · cases he
    · cases he
  · rename_i n es e sz by_ zz zvv k off hti hk
    rw [hk] at hx
    obtain ⟨inf,d,h1,h2,h3,h4,h5,h6,h7⟩:=ti_info hti
    obtain ⟨hu,hes⟩:=kind_arr h3
    split at he
    · rename_i h hh
      split at he
      · rename_i l hl
        split at he
        · rename_i cs hg
          split at he
          · rename_i hc
            obtain ⟨c1,c2,c3,c4⟩:=hc
            simp only [OpR.val.injEq] at he; obtain ⟨rfl,rfl,rfl,_⟩:=he
            cases hi':P.info? e with
            | none => simp [hi'] at hes; omega
            | some inf' =>
             simp only [hi',Option.map_some,Option.getD_some] at hes
             subst hes
             obtain ⟨bi,hlive,hv,hbr⟩:=ptr_at hs hx hg
             have hb:=run_bounds (P:=P) (isSlice:=false) (len:=n) (cap:=n) hev hh hl c1 c2 w
             obtain ⟨arr,ty,q1,q2,q3,q4⟩:=hbr
             refine .same hs (v:=.slice (some (if n=l then ⟨bi.block,bi.base+off,none⟩ else (⟨bi.block,bi.base+off,none⟩:Addr).add (l * inf'.size))) (h - l) (n - l)) ?_ ?_
             · simp [execOp,ho,Instr.sliceAt,run_underlying hu,hv,Instr.sureAddr,hb,run_sizeOf hi']
             · have hmul:l * inf'.size+(n - l) * inf'.size=n * inf'.size:=by rw [← Nat.add_mul]; congr 1; omega
               refine .row hlive (by omega) (by omega) ?_
               by_cases e:n=l
               · left; omega
               · right; rw [if_neg e,add_mk,Nat.add_assoc]
          · cases he
        · cases he
      · cases he
    · cases he
  · cases he
end Go.Am
namespace Go.Am
open Go
variable {P:Program} {fz:Nat→Md} {w w':World} {M M':Mem} {β β':Bt} {σ σ':St} {hF:Nat→Option Obj} {tm:Tm} {ρ:Operand→Value} {o:Oper} {a:A} {T R:List Nat}
theorem run_part {t:Nat} {cs:List A} {vs:List Value} {off:Nat} (hv:VRL M β cs vs) (h:partT (mkX P fz) t cs off=some a) (w:World):∃ v,(part t vs.toArray off).run P w=.ok v w∧VR M β a v:=by
 unfold partT at h
 split at h
 · rename_i i hti
   obtain ⟨inf,d,h1,h2,h3,h4,h5,h6,h7⟩:=ti_info hti
   unfold part
   rw [Sem.run_bind,run_isAgg h3]
   rw [show i.kind.agg=i.agg from rfl]
   simp only [Result.andThen_ok]
   unfold partOf at h
   cases hg:i.agg with
   | true =>
    simp only [hg,if_true] at h
    split at h
    · rename_i hl
      injection h with h; subst h
      refine ⟨.agg ((vs.drop off).take i.size).toArray,?_,.agg ((hv.drop off).take i.size)⟩
      simp only [if_true,Sem.run_bind,run_sizeOf h1,Result.andThen_ok,Sem.run_pure,h4]
      congr 2
      apply Array.ext'
      simp
    · cases h
   | false =>
    simp only [hg,Bool.false_eq_true,if_false] at h
    obtain ⟨v,hv0,hr⟩:=hv.get h
    exact ⟨v,by simp [hv0],hr⟩
 · cases h
theorem own_frozen (hs:Sat w M β σ hF) {k:Nat} {i:BI} {cs:List A} (hk:β k=.live i) (hg:σ.get k=.cells cs) (off:Nat) (s:Option Nat) :
 w.frozen? ⟨i.block,off,s⟩=false∧∃ e n,w.shape? i.block=some (e,n):=by
 have hb:=hs.own k i hk
 rw [hg] at hb
 obtain ⟨arr,ty,h1,_⟩:=hb
 exact ⟨by simp [World.frozen?,h1],ty,arr.size,by simp [World.shape?,h1]⟩
theorem run_sameAddr (hs:Sat w M β σ hF) {k k':Nat} {i i':BI} {cs cs':List A} (hk:β k=.live i) (hg:σ.get k=.cells cs) (hk':β k'=.live i') (hg':σ.get k'=.cells cs') (off off':Nat) :
 (sameAddr ⟨i.block,i.base+off,none⟩ ⟨i'.block,i'.base+off',none⟩).run P w=.ok (k == k' && off == off') w:=by
 by_cases e:k=k'
 · subst e
   rw [hk] at hk'; injection hk' with hk'; subst hk'
   have:((⟨i.block,i.base+off,none⟩:Addr) == ⟨i.block,i.base+off',none⟩)=(off == off'):=by
    rw [Bool.eq_iff_iff]; simp
   simp [sameAddr,this]
 · have hne:i.block≠i'.block:=fun h => e (hs.inj k k' i i' hk hk' h)
   have f1:=own_frozen hs hk hg
   have f2:=own_frozen hs hk' hg'
   obtain ⟨_,e1,n1,s1⟩:=f1 0 none
   obtain ⟨_,e2,n2,s2⟩:=f2 0 none
   have hb:(i.block == i'.block)=false:=by simpa using hne
   have hkk:(k == k')=false:=by simpa using e
   have g1:=fun o s => (f1 o s).1
   have g2:=fun o s => (f2 o s).1
   simp [sameAddr,hb,hkk,g1,g2,noView,viewAt,s1,s2,mayBeOne,stringish]
theorem alive_ne {k:Nat} (h:alive σ k=true):σ.get k≠.dead:=by
 intro e; simp [alive,e] at h
theorem isCells_get {k:Nat} (h:isCells σ k=true):∃ cs,σ.get k=.cells cs:=by
 unfold isCells at h; split at h
 · exact ⟨_,by assumption⟩
 · cases h
theorem vr_ptr_alive (hs:Sat w M β σ hF) {k off:Nat} {v:Value} (h:VR M β (.ptr k off) v) (ha:alive σ k=true):∃ a,v=.pointer (some a):=by
 cases h with
 | ptr h => exact ⟨_,rfl⟩
 | ptrX h _ => exact (alive_ne ha (hs.dead k h)).elim
theorem vr_row_alive (hs:Sat w M β σ hF) {k off len es:Nat} {v:Value} (h:VR M β (.row k off len es) v) (ha:alive σ k=true):∃ a n c,v=.slice (some a) n c:=by
 cases h with
 | row h => exact ⟨_,_,_,rfl⟩
 | rowX h _ => exact (alive_ne ha (hs.dead k h)).elim
theorem vr_map_alive (hs:Sat w M β σ hF) {k:Nat} {v:Value} (h:VR M β (.map k) v) (ha:alive σ k=true):∃ a,v=.map (some a):=by
 cases h with
 | map h => exact ⟨_,rfl⟩
 | mapX h _ => exact (alive_ne ha (hs.dead k h)).elim
theorem vr_slc {b:Bool} {xs:List (List D)} {v:Value} (h:VR M β (.d (.slc b xs)) v):∃ a n c,v=.slice a n c∧a.isNone=b:=by
 cases h with
 | d h =>
  cases h with
  | slcNil => exact ⟨none,0,0,rfl,rfl⟩
  | slc xs a cap => exact ⟨some a,_,_,rfl,rfl⟩
theorem vr_vptr {cs:List D} {off:Nat} {v:Value} (h:VR M β (.d (.vptr cs off)) v):∃ a,v=.pointer (some a):=by
 cases h with
 | d h => cases h with | vptr => exact ⟨_,rfl⟩
theorem eq1_run (hs:Sat w M β σ hF) {t:Nat} {k:TK} {x y:A} {v u:Value} {b:Bool} (hk:kindOf P t=some k) (h:eq1 (mkX P fz) σ k x y=some b) (hx:VR M β x v) (hy:VR M β y u) (d:Nat) :
 (Op.equalIn (d+1) t v u).run P w=.ok b w:=by
 unfold eq1 at h
 split at h
 · rw [vr_bool hx,vr_bool hy]; simp only [Option.some.injEq] at h; subst h; simp [Op.equalIn,run_underlying (kind_bool hk)]
 · rename_i k1 k2
   split at h
   · rename_i e; subst e; rw [vr_int hx,vr_int hy]; simp only [Option.some.injEq] at h; subst h; simp [Op.equalIn,run_underlying (kind_int hk)]
   · cases h
 · rw [vr_str hx,vr_str hy]; simp only [Option.some.injEq] at h; subst h; simp [Op.equalIn,run_underlying (kind_str hk)]
 · rw [vr_nptr hx,vr_nptr hy]; simp only [Option.some.injEq] at h; subst h; simp [Op.equalIn,run_underlying (kind_ptr hk)]
 · obtain ⟨a,rfl⟩:=vr_vptr hy; rw [vr_nptr hx]; simp only [Option.some.injEq] at h; subst h; simp [Op.equalIn,run_underlying (kind_ptr hk)]
 · obtain ⟨a,rfl⟩:=vr_vptr hx; rw [vr_nptr hy]; simp only [Option.some.injEq] at h; subst h; simp [Op.equalIn,run_underlying (kind_ptr hk)]
 · split at h
   · rename_i ha; obtain ⟨a,rfl⟩:=vr_ptr_alive hs hy ha; rw [vr_nptr hx]; simp only [Option.some.injEq] at h; subst h; simp [Op.equalIn,run_underlying (kind_ptr hk)]
   · cases h
 · split at h
   · rename_i ha; obtain ⟨a,rfl⟩:=vr_ptr_alive hs hx ha; rw [vr_nptr hy]; simp only [Option.some.injEq] at h; subst h; simp [Op.equalIn,run_underlying (kind_ptr hk)]
   · cases h
 · split at h
   · rename_i i hti
     obtain ⟨inf,d',h1,h2,h3,h4,h5,h6,h7⟩:=ti_info hti
     split at h
     · rename_i hc
       obtain ⟨c1,c2,c3⟩:=hc
       obtain ⟨cs,hg⟩:=isCells_get c2
       obtain ⟨cs',hg'⟩:=isCells_get c3
       obtain ⟨bi,hl,rfl,_⟩:=ptr_at hs hx hg
       obtain ⟨bi',hl',rfl,_⟩:=ptr_at hs hy hg'
       simp only [Option.some.injEq] at h; subst h
       have hz:inf.size≠0:=by omega
       simp [Op.equalIn,run_underlying (kind_ptr hk),run_sizeOf h1,hz,run_sameAddr hs hl hg hl' hg']
     · cases h
   · cases h
 · obtain ⟨a,n,c,rfl,rfl⟩:=vr_slc hy
   simp only [Option.some.injEq] at h; subst h
   cases hx with
   | d hx => cases hx; simp [Op.equalIn,run_underlying (kind_slc hk)]
 · obtain ⟨a,n,c,rfl,rfl⟩:=vr_slc hx
   simp only [Option.some.injEq] at h; subst h
   cases hy with
   | d hy => cases hy; cases a <;> simp [Op.equalIn,run_underlying (kind_slc hk)]
 · split at h
   · rename_i ha; obtain ⟨a,n,c,rfl⟩:=vr_row_alive hs hy ha
     simp only [Option.some.injEq] at h; subst h
     cases hx with
     | d hx => cases hx; simp [Op.equalIn,run_underlying (kind_slc hk)]
   · cases h
 · split at h
   · rename_i ha; obtain ⟨a,n,c,rfl⟩:=vr_row_alive hs hx ha
     simp only [Option.some.injEq] at h; subst h
     cases hy with
     | d hy => cases hy; simp [Op.equalIn,run_underlying (kind_slc hk)]
   · cases h
 · rw [vr_nmap hx,vr_nmap hy]; simp only [Option.some.injEq] at h; subst h; simp [Op.equalIn,run_underlying (kind_map hk)]
 · split at h
   · rename_i ha; obtain ⟨a,rfl⟩:=vr_map_alive hs hy ha; rw [vr_nmap hx]; simp only [Option.some.injEq] at h; subst h; simp [Op.equalIn,run_underlying (kind_map hk)]
   · cases h
 · split at h
   · rename_i ha; obtain ⟨a,rfl⟩:=vr_map_alive hs hx ha; rw [vr_nmap hy]; simp only [Option.some.injEq] at h; subst h; simp [Op.equalIn,run_underlying (kind_map hk)]
   · cases h
 · obtain ⟨q1,q2,q3,hq⟩:=kind_func hk
   rw [vr_nfunc hx,vr_nfunc hy]; simp only [Option.some.injEq] at h; subst h; simp [Op.equalIn,run_underlying hq]
 · obtain ⟨q1,q2,q3,hq⟩:=kind_func hk
   obtain ⟨vs,rfl,_⟩:=vr_func hy
   rw [vr_nfunc hx]; simp only [Option.some.injEq] at h; subst h; simp [Op.equalIn,run_underlying hq]
 · obtain ⟨q1,q2,q3,hq⟩:=kind_func hk
   obtain ⟨vs,rfl,_⟩:=vr_func hx
   rw [vr_nfunc hy]; simp only [Option.some.injEq] at h; subst h; simp [Op.equalIn,run_underlying hq]
 · cases h
theorem eqFs_run (w:World) {f:Nat→A→A→Option Bool} {d:Nat} (hf:∀ t x y v u b,f t x y=some b→VR M β x v→VR M β y u→(Op.equalIn d t v u).run P w=.ok b w)
 {cs ds:List A} {vs us:List Value} (hv:VRL M β cs vs) (hu:VRL M β ds us):∀ (F:List Field),(∀ q ∈ F,q.name ≠ "_")→∀ b,
 eqFs (mkX P fz) f cs ds (F.map fun q => (q.offset,((P.info? q.type).map (·.size)).getD 0,q.type))=some b→(Op.eqFields d vs.toArray us.toArray F).run P w=.ok b w
 | [],_,b,h => by simp only [List.map_nil,eqFs,Option.some.injEq] at h; subst h; rfl
 | q :: F,hn,b,h => by
  have ih:=eqFs_run w hf hv hu F (fun q hq => hn q (by simp [hq]))
  simp only [List.map_cons,eqFs] at h
  split at h
  · rename_i x y hx hy
    obtain ⟨v,hv1,hv2⟩:=run_part (P:=P) hv hx w
    obtain ⟨u,hu1,hu2⟩:=run_part (P:=P) hu hy w
    unfold Op.eqFields
    rw [if_pos (hn q (by simp))]
    split at h
    · rename_i he
      simp [hv1,hu1,hf _ _ _ _ _ _ he hv2 hu2,ih b h]
    · rename_i he
      simp only [Option.some.injEq] at h; subst h
      simp [hv1,hu1,hf _ _ _ _ _ _ he hv2 hu2]
    · cases h
  · cases h
theorem eqArr_run (w:World) {f:Nat→A→A→Option Bool} {d:Nat} (hf:∀ t x y v u b,f t x y=some b→VR M β x v→VR M β y u→(Op.equalIn d t v u).run P w=.ok b w)
 {cs ds:List A} {vs us:List Value} (hv:VRL M β cs vs) (hu:VRL M β ds us) (es e:Nat):∀ (n i:Nat) b,eqArr (mkX P fz) f cs ds es e n i=some b →
 (forIn (m:=Sem) (List.range' i n) ((none,()):Option Bool × Unit) fun i _ => do
  let x ← part e vs.toArray (i * es)
  let y ← part e us.toArray (i * es)
  let q ← Op.equalIn d e x y
  if (!q)=true then pure (ForInStep.done (some false,())) else pure (ForInStep.yield (none,()))).run P w=.ok (if b then none else some false,()) w
 | 0,i,b,h => by simp only [eqArr,Option.some.injEq] at h; subst h; rfl
 | n+1,i,b,h => by
  have ih:=eqArr_run w hf hv hu es e n (i+1)
  simp only [eqArr] at h
  rw [List.range'_succ,List.forIn_cons]
  split at h
  · rename_i x y hx hy
    obtain ⟨v,hv1,hv2⟩:=run_part (P:=P) hv hx w
    obtain ⟨u,hu1,hu2⟩:=run_part (P:=P) hu hy w
    split at h
    · rename_i he
      have:=ih b h
      simp only [Sem.run_bind,hv1,hu1,hf _ _ _ _ _ _ he hv2 hu2,Result.andThen_ok,Bool.not_true,Bool.false_eq_true,if_false,Sem.run_pure]
      exact this
    · rename_i he
      simp only [Option.some.injEq] at h; subst h
      simp [hv1,hu1,hf _ _ _ _ _ _ he hv2 hu2]
    · cases h
  · cases h
theorem eqT_run (hs:Sat w M β σ hF):∀ (n t:Nat) (x y:A) (v u:Value) (b:Bool),eqT (mkX P fz) σ n t x y=some b→VR M β x v→VR M β y u→∀ d,n≤d→(Op.equalIn d t v u).run P w=.ok b w
 | 0,_,_,_,_,_,_,h,_,_,_,_ => by simp [eqT] at h
 | n+1,t,x,y,v,u,b,h,hx,hy,d,hd => by
  obtain ⟨d,rfl⟩:∃ e,d=e+1:=⟨d - 1,by omega⟩
  have ih:=fun t x y v u b h hx hy => eqT_run hs n t x y v u b h hx hy d (by omega)
  simp only [eqT] at h
  split at h
  · rename_i i hti
    obtain ⟨inf,dd,h1,h2,h3,h4,h5,h6,h7⟩:=ti_info hti
    split at h
    · rename_i fs cs ds hkind
      rw [hkind] at h3
      obtain ⟨F,hu,hnam,rfl⟩:=kind_struct h3
      split at h
      · rename_i hcmp
        obtain ⟨vs,rfl,hv⟩:=vr_agg hx
        obtain ⟨us,rfl,hu'⟩:=vr_agg hy
        have hFo:P.fieldsOf t=F:=by simp [Program.fieldsOf,hu]
        have hst:P.stoodInHeld t=false:=by simp [mkX] at hcmp; exact hcmp.1
        rw [run_equalIn_struct w d t _ _ (by rw [hFo]; exact hu) hst,hFo]
        exact eqFs_run w ih hv hu' F.toList (fun q hq => (hnam q (by simpa using hq)).1) b h
      · cases h
    · rename_i len es e cs ds hkind
      rw [hkind] at h3
      obtain ⟨hu,hes⟩:=kind_arr h3
      obtain ⟨vs,rfl,hv⟩:=vr_agg hx
      obtain ⟨us,rfl,hu'⟩:=vr_agg hy
      split at h
      · cases h
      · rename_i hnz
        cases hi':P.info? e with
        | none => simp [hi'] at hes; omega
        | some inf' =>
         simp only [hi',Option.map_some,Option.getD_some] at hes
         subst hes
         have key:=eqArr_run (P:=P) (fz:=fz) w ih hv hu' inf'.size e len 0 b h
         simp only [Op.equalIn,Sem.run_bind,run_underlying hu,Result.andThen_ok,run_sizeOf hi']
         rw [Std.Legacy.Range.forIn_eq_forIn_range']
         simp only [Std.Legacy.Range.size,Nat.sub_zero,Nat.add_sub_cancel,Nat.div_one]
         rw [key]
         cases b <;> rfl
    · exact eq1_run hs h3 h hx hy d
  · cases h
def plainV:Value→Bool
 | .nilIface | .iface _ _ | .agg _ => false
 | _ => true
def plainW:Value→Bool
 | .bool _ | .pointer _ | .slice _ _ _ | .map _ | .func _ _ _ | .nilFunc => true
 | _ => false
theorem plainW_V {v:Value} (h:plainW v=true):plainV v=true:=by cases v <;> first | rfl | (simp [plainW] at h)
theorem eq1_plain (hs:Sat w M β σ hF) {k:TK} {x y:A} {v u:Value} {b:Bool} (h:eq1 (mkX P fz) σ k x y=some b) (hx:VR M β x v) (_hy:VR M β y u):plainW v=true∨(∃ k a k' b,x=.d (.int k a)∧y=.d (.int k' b))∨(∃ s q,x=.d (.str s)∧y=.d (.str q)):=by
 unfold eq1 at h
 split at h
 · rw [vr_bool hx]; left; rfl
 · exact .inr (.inl ⟨_,_,_,_,rfl,rfl⟩)
 · exact .inr (.inr ⟨_,_,rfl,rfl⟩)
 · rw [vr_nptr hx]; left; rfl
 · rw [vr_nptr hx]; left; rfl
 · obtain ⟨a,rfl⟩:=vr_vptr hx; left; rfl
 · rw [vr_nptr hx]; left; rfl
 · split at h
   · rename_i ha; obtain ⟨a,rfl⟩:=vr_ptr_alive hs hx ha; left; rfl
   · cases h
 · split at h
   · split at h
     · rename_i hc
       obtain ⟨c1,c2,c3⟩:=hc
       obtain ⟨cs,hg⟩:=isCells_get c2
       obtain ⟨bi,hl,rfl,_⟩:=ptr_at hs hx hg
       left; rfl
     · cases h
   · cases h
 · obtain ⟨a,n,c,rfl,_⟩:=vr_slc hx; left; rfl
 · obtain ⟨a,n,c,rfl,_⟩:=vr_slc hx; left; rfl
 · obtain ⟨a,n,c,rfl,_⟩:=vr_slc hx; left; rfl
 · split at h
   · rename_i ha; obtain ⟨a,n,c,rfl⟩:=vr_row_alive hs hx ha; left; rfl
   · cases h
 · rw [vr_nmap hx]; left; rfl
 · rw [vr_nmap hx]; left; rfl
 · split at h
   · rename_i ha; obtain ⟨a,rfl⟩:=vr_map_alive hs hx ha; left; rfl
   · cases h
 · rw [vr_nfunc hx]; left; rfl
 · rw [vr_nfunc hx]; left; rfl
 · obtain ⟨vs,rfl,_⟩:=vr_func hx; left; rfl
 · cases h
theorem run_eqGuard_plain {op:BinOp} {t:Nat} {p q:Operand} {v u:Value} (h:plainV v=true):(eqGuard op t p q v u).run P w=.ok () w:=by
 unfold eqGuard
 cases v <;> simp only [plainV,Bool.false_eq_true] at h <;> (split <;> rfl)
theorem run_eqGuard_agg {op:BinOp} {t:Nat} {p q:Operand} {v u:Array Value} (h:P.eqGuardType P.depth t=false):(eqGuard op t p q (.agg v) (.agg u)).run P w=.ok () w:=by
 cases op <;> simp [eqGuard,h]
theorem eqT_guard (hs:Sat w M β σ hF) {n t:Nat} {x y:A} {v u:Value} {b:Bool} (h:eqT (mkX P fz) σ n t x y=some b) (hx:VR M β x v) (hy:VR M β y u) {op:BinOp} (p q:Operand) :
 (eqGuard op t p q v u).run P w=.ok () w:=by
 cases n with
 | zero => simp [eqT] at h
 | succ n =>
  simp only [eqT] at h
  split at h
  · split at h
    · split at h
      · rename_i hc; simp [mkX] at hc
        obtain ⟨vs,rfl,hv⟩:=vr_agg hx
        obtain ⟨us,rfl,hu'⟩:=vr_agg hy
        exact run_eqGuard_agg hc.2
      · cases h
    · split at h
      · cases h
      · rename_i hc; simp [mkX] at hc
        obtain ⟨vs,rfl,hv⟩:=vr_agg hx
        obtain ⟨us,rfl,hu'⟩:=vr_agg hy
        exact run_eqGuard_agg hc.2.2
    · rcases eq1_plain hs h hx hy with h | ⟨_,_,_,_,rfl,_⟩ | ⟨_,_,rfl,_⟩
      · exact run_eqGuard_plain (plainW_V h)
      · exact run_eqGuard_plain (by rw [vr_int hx]; rfl)
      · exact run_eqGuard_plain (by rw [vr_str hx]; rfl)
  · cases h
theorem eqT_form (hs:Sat w M β σ hF) {n t:Nat} {x y:A} {v u:Value} {b:Bool} (h:eqT (mkX P fz) σ n t x y=some b) (hx:VR M β x v) (hy:VR M β y u) :
 (plainW v=true∨∃ c,v=.agg c)∨(∃ k a k' b,x=.d (.int k a)∧y=.d (.int k' b))∨(∃ s q,x=.d (.str s)∧y=.d (.str q)):=by
 cases n with
 | zero => simp [eqT] at h
 | succ n =>
  simp only [eqT] at h
  split at h
  · split at h
    · obtain ⟨vs,rfl,hv⟩:=vr_agg hx; exact .inl (.inr ⟨_,rfl⟩)
    · obtain ⟨vs,rfl,hv⟩:=vr_agg hx; exact .inl (.inr ⟨_,rfl⟩)
    · rcases eq1_plain hs h hx hy with h | h
      · exact .inl (.inl h)
      · exact .inr h
  · cases h
theorem run_binOp_eql {op:BinOp} {t:Nat} {v u:Value} {b:Bool} (hop:op=.eql∨op=.neq) (hv:plainW v=true∨∃ c,v=.agg c) (h:(Op.equal t v u).run P w=.ok b w) :
 (binOp op t v u).run P w=.ok (.bool (if op=.eql then b else !b)) w:=by
 rcases hv with hv | ⟨c,rfl⟩
 · rcases hop with rfl | rfl <;> cases v <;> simp only [plainW,Bool.false_eq_true] at hv <;> simp [binOp,h]
 · rcases hop with rfl | rfl <;> simp [binOp,h]
theorem op_binOp (hs:Sat w M β σ hF) (hev:∀ x,VR M β (ev tm x) (ρ x)) {bop:BinOp} {t t':Nat} {x y:Operand} (ho:o.op=.binOp bop t x y t') (he:evalOp (mkX P fz) tm σ o=.val a σ' T R):OpOk P ρ o w M β σ hF a σ' T:=by
 simp only [evalOp,ho] at he
 have hx:=hev x
 have hy:=hev y
 cases hb:binA (mkX P fz) σ bop t (ev tm x) (ev tm y) with
 | none => simp [hb,OpR.of] at he
 | some b =>
  simp only [hb,OpR.of,OpR.val.injEq] at he; obtain ⟨rfl,rfl,rfl,_⟩:=he
  suffices h:∃ v,(do eqGuard bop t x y (ρ x) (ρ y); binOp bop t (ρ x) (ρ y):Sem Value).run P w=.ok v w∧VR M β b v by
   obtain ⟨v,h1,h2⟩:=h
   refine .same hs (v:=v) ?_ h2
   simp only [execOp,ho]
   simp only [Sem.run_bind] at h1 ⊢
   rw [h1]; rfl
  unfold binA at hb
  split at hb
  · rename_i k a' _ b' h1 h2
    rw [h1] at hx; rw [h2] at hy
    split at hb
    · cases hb
    · rename_i hneg
      injection hb with hb; subst hb
      exact ⟨_,by simp [vr_int hx,vr_int hy,eqGuard,binOp,Op.shift,hneg],.d (.int _ _)⟩
  · rename_i k a' _ b' h1 h2
    rw [h1] at hx; rw [h2] at hy
    split at hb
    · cases hb
    · rename_i hneg
      injection hb with hb; subst hb
      exact ⟨_,by simp [vr_int hx,vr_int hy,eqGuard,binOp,Op.shift,hneg],.d (.int _ _)⟩
  · rename_i op1 opx ax ay k a' k' b' n1 n2 h1 h2
    rw [h1] at hx; rw [h2] at hy
    split at hb
    · rename_i e; subst e
      cases hi:intOp op1 k a' b' with
      | none => simp [hi] at hb
      | some d =>
       simp only [hi,Option.map_some,Option.some.injEq] at hb; subst hb
       have hg:(eqGuard op1 t x y (ρ x) (ρ y)).run P w=.ok () w:=run_eqGuard_plain (by rw [vr_int hx]; rfl)
       rw [Sem.run_bind,hg]
       simp only [Result.andThen_ok,vr_int hx,vr_int hy]
       have hbin:∀ r:Sem Value,(match op1 with
        | .add | .sub | .mul => Op.intArith op1 k a' b'
        | .quo | .rem => Op.intDiv op1 k a' b'
        | .and | .or | .xor | .andNot => Op.intBits op1 k a' b'
        | _ => Op.intCmp op1 a' b')=r→binOp op1 t (.int k a') (.int k b')=r:=by
        intro r hr
        subst hr
        cases op1 <;> first | exact (n1 rfl).elim | exact (n2 rfl).elim | simp only [binOp,ne_eq,not_true_eq_false,if_false]
       rw [hbin _ rfl]
       cases op1 <;> simp only [intOp,Option.some.injEq,reduceCtorEq] at hi
       case quo =>
        split at hi
        · cases hi
        · rename_i hz
          injection hi with hi; subst hi
          refine ⟨_,?_,.d (.int _ _)⟩
          simp [Op.intDiv,hz]
       case rem =>
        split at hi
        · cases hi
        · rename_i hz
          injection hi with hi; subst hi
          refine ⟨_,?_,.d (.int _ _)⟩
          simp [Op.intDiv,hz]
       all_goals subst hi
       all_goals first
        | exact ⟨_,rfl,.d (.int _ _)⟩
        | exact ⟨_,rfl,.d (.bool _)⟩
    · cases hb
  · rename_i p q h1 h2
    rw [h1] at hx; rw [h2] at hy
    injection hb with hb; subst hb
    have hg:(eqGuard .eql t x y (ρ x) (ρ y)).run P w=.ok () w:=run_eqGuard_plain (by rw [vr_str hx]; rfl)
    rw [Sem.run_bind,hg]
    exact ⟨.bool (p.toList == q.toList),by simp [vr_str hx,vr_str hy,binOp,Op.stringOp],.d (.bool _)⟩
  · rename_i p q h1 h2
    rw [h1] at hx; rw [h2] at hy
    injection hb with hb; subst hb
    have hg:(eqGuard .neq t x y (ρ x) (ρ y)).run P w=.ok () w:=run_eqGuard_plain (by rw [vr_str hx]; rfl)
    rw [Sem.run_bind,hg]
    exact ⟨.bool !(p.toList == q.toList),by simp [vr_str hx,vr_str hy,binOp,Op.stringOp],.d (.bool _)⟩
  · cases hb
  · rename_i n1 n2 n3
    cases he:eqT (mkX P fz) σ 8 t (ev tm x) (ev tm y) with
    | none => simp [he] at hb
    | some r =>
     simp only [he,Option.map_some,Option.some.injEq] at hb; subst hb
     have hg:=eqT_guard hs he hx hy (op:=.eql) x y
     rw [Sem.run_bind,hg]
     simp only [Result.andThen_ok]
     rcases eqT_form hs he hx hy with hf | ⟨k,c,k',c',e1,e2⟩ | ⟨q1,q2,e1,e2⟩
     · exact ⟨_,run_binOp_eql (.inl rfl) hf (eqT_run hs 8 t _ _ _ _ r he hx hy 10000 (by omega)),by simpa using VR.d (.bool r)⟩
     · first | exact (n1 _ _ _ _ e1 e2).elim | exact (n2 _ _ _ _ e1 e2).elim
     · first | exact (n2 _ _ e1 e2).elim | exact (n3 _ _ e1 e2).elim
  · rename_i n1 n2 n3
    cases he:eqT (mkX P fz) σ 8 t (ev tm x) (ev tm y) with
    | none => simp [he] at hb
    | some r =>
     simp only [he,Option.map_some,Option.some.injEq] at hb; subst hb
     have hg:=eqT_guard hs he hx hy (op:=.neq) x y
     rw [Sem.run_bind,hg]
     simp only [Result.andThen_ok]
     rcases eqT_form hs he hx hy with hf | ⟨k,c,k',c',e1,e2⟩ | ⟨q1,q2,e1,e2⟩
     · exact ⟨_,run_binOp_eql (.inr rfl) hf (eqT_run hs 8 t _ _ _ _ r he hx hy 10000 (by omega)),by simpa using VR.d (.bool (!r))⟩
     · first | exact (n1 _ _ _ _ e1 e2).elim | exact (n2 _ _ _ _ e1 e2).elim
     · first | exact (n2 _ _ e1 e2).elim | exact (n3 _ _ e1 e2).elim
  · cases hb
end Go.Am
namespace Go.Am
open Go
variable {P:Program} {fz:Nat→Md} {w w':World} {M M':Mem} {β β':Bt} {σ σ':St} {hF:Nat→Option Obj} {tm:Tm} {ρ:Operand→Value} {o:Oper} {a:A} {T R:List Nat}
theorem VRL.set {cs:List A} {vs:List Value} (h:VRL M β cs vs) (i:Nat) {a:A} {v:Value} (ha:VR M β a v):VRL M β (cs.set i a) (vs.set i v):=by
 induction cs generalizing vs i with
 | nil => cases h; exact .nil
 | cons c cs ih => cases h with | cons h t => cases i with | zero => exact .cons ha t | succ i => exact .cons h (ih t i)
theorem VRL.putAt {cs:List A} {cells:Array Value} (h:VRL M β cs cells.toList) {l:List A} {us:List Value} (hl:VRL M β l us) (off:Nat) :
 VRL M β (putAt cs off l) ((us.zipIdx 0).foldl (fun cs (c,j) => cs.setIfInBounds (off+j) c) cells).toList:=by
 suffices h':∀ (l:List A) (us:List Value) (k:Nat) (cs:List A) (cells:Array Value),VRL M β l us→VRL M β cs cells.toList →
  VRL M β (Am.putAt cs (off+k) l) ((us.zipIdx k).foldl (fun cs (c,j) => cs.setIfInBounds (off+j) c) cells).toList from by simpa using h' l us 0 cs cells hl h
 intro l
 induction l with
 | nil => intro us k cs cells hl h; cases hl; exact h
 | cons a l ih =>
  intro us k cs cells hl h
  cases hl with
  | cons ha ht =>
   rename_i v us
   simp only [Am.putAt,List.zipIdx_cons,List.foldl_cons]
   have:=ih us (k+1) (cs.set (off+k) a) (cells.setIfInBounds (off+k) v) ht (by rw [Array.toList_setIfInBounds]; exact h.set _ ha)
   rwa [show off+(k+1)=off+k+1 by omega] at this
theorem fill_rel {place:Nat→Option (Nat × Nat)}:∀ (parts:List (Nat × A)) (vparts:List (Nat × Value)) (cs:List A) (cells:Array Value) (out:List A),
 parts.map (·.1)=vparts.map (·.1)→VRL M β (parts.map (·.2)) (vparts.map (·.2))→VRL M β cs cells.toList→fillA place cs parts=some out →
 ∃ vout,Instr.fill place cells vparts=some vout∧VRL M β out vout.toList
 | [],vparts,cs,cells,out,h1,h2,h3,h => by
  cases vparts with
  | nil => simp only [fillA,Option.some.injEq] at h; subst h; exact ⟨cells,rfl,h3⟩
  | cons _ _ => simp at h1
 | (i,a) :: parts,vparts,cs,cells,out,h1,h2,h3,h => by
  cases vparts with
  | nil => simp at h1
  | cons p vparts =>
   obtain ⟨j,v⟩:=p
   simp only [List.map_cons,List.cons.injEq] at h1 h2
   obtain ⟨rfl,h1⟩:=h1
   cases h2 with
   | cons ha ht =>
    simp only [fillA] at h
    split at h
    · rename_i off size vs hp hvs
      have hcell:=cells_rel ha hvs
      have hl1:=hcell.length
      have hl2:=h3.length
      split at h
      · cases h
      · rename_i hc
        have:=fill_rel parts vparts (putAt cs off vs) _ out h1 ht (h3.putAt hcell off) h
        obtain ⟨vout,hv1,hv2⟩:=this
        refine ⟨vout,?_,hv2⟩
        simp only [Instr.fill,hp]
        rw [if_neg (by simp at hl1 hl2 hc ⊢; omega)]
        rw [← hv1]
        congr 1
        rw [← Array.foldl_toList,Array.toList_zipIdx]
    · cases h
theorem parts_rel (hev:∀ x,VR M β (ev tm x) (ρ x)) (parts:Array (Nat × Operand)) :
 (parts.toList.map fun p => (p.1,ev tm p.2)).map (·.1)=((parts.map fun (i,x) => (i,ρ x)).toList).map (·.1) ∧
 VRL M β ((parts.toList.map fun p => (p.1,ev tm p.2)).map (·.2)) (((parts.map fun (i,x) => (i,ρ x)).toList).map (·.2)):=by
 rw [Array.toList_map]
 simp only [List.map_map]
 refine ⟨List.map_congr_left fun _ _ => rfl,?_⟩
 exact VRL.of_map _ _ _ fun p _ => hev p.2
theorem fill_congr {p q:Nat→Option (Nat × Nat)}:∀ (parts:List (Nat × A)) (cs out:List A),fillA p cs parts=some out→(∀ i o s,p i=some (o,s)→q i=some (o,s))→fillA q cs parts=some out
 | [],_,_,h,_ => h
 | (i,a) :: parts,cs,out,h,hq => by
  simp only [fillA] at h ⊢
  split at h
  · rename_i off size vs hp hvs
    simp only [hq _ _ _ hp,hvs]
    split at h
    · cases h
    · rename_i hc; rw [if_neg hc]; exact fill_congr parts _ _ h hq
  · cases h
theorem op_build (hs:Sat w M β σ hF) (hev:∀ x,VR M β (ev tm x) (ρ x)) {t:Nat} {parts:Array (Nat × Operand)} (ho:o.op=.build t parts) (he:evalOp (mkX P fz) tm σ o=.val a σ' T R):OpOk P ρ o w M β σ hF a σ' T:=by
 simp only [evalOp,ho] at he
 obtain ⟨hp1,hp2⟩:=parts_rel hev parts
 split at he
 · rename_i fs sz by_ z zvv hti
   obtain ⟨inf,d,h1,h2,h3,h4,h5,h6,h7⟩:=ti_info hti
   obtain ⟨zv,hz,hzr⟩:=zero_rel h6.symm
   obtain ⟨F,hu,hnam,rfl⟩:=kind_struct h3
   have hpl:∀ (l:List Field),(∀ f ∈ l,∃ inf,P.info? f.type=some inf)→l.mapM (fun f => (P.info? f.type).map fun i => (f.offset,i.size))=some (l.map fun f => (f.offset,((P.info? f.type).map (·.size)).getD 0)):=by
    intro l
    induction l with
    | nil => intro _; rfl
    | cons f l ih =>
     intro hl
     obtain ⟨i,hi⟩:=hl f (by simp)
     simp [List.mapM_cons,hi,ih (fun g hg => hl g (by simp [hg]))]
   have hplaces:=hpl F.toList (fun f hf => (hnam f (by simpa using hf)).2)
   generalize hf:fillA _ z _=q at he
   cases q with
   | none => simp [OpR.of] at he
   | some out =>
    simp only [Option.map_some,OpR.of,OpR.val.injEq] at he; obtain ⟨rfl,rfl,rfl,_⟩:=he
    have hf':fillA (fun i => ((F.toList.map fun f => (f.offset,((P.info? f.type).map (·.size)).getD 0)).toArray)[i]?) z (parts.toList.map fun p => (p.1,ev tm p.2))=some out:=by
     refine fill_congr _ _ _ hf fun i o s h => ?_
     simp only [List.getElem?_map,Option.map_map] at h
     simp only [List.getElem?_toArray,List.getElem?_map]
     cases hF:F.toList[i]? with
     | none => simp [hF] at h
     | some f => simpa [hF] using h
    obtain ⟨vout,hv1,hv2⟩:=fill_rel _ _ _ _ _ hp1 hp2 (hzr M β) hf'
    refine .same hs (v:=.agg vout) ?_ ?_
    · have:=run_build (P:=P) w t (parts.map fun (i,x) => (i,ρ x)) vout (by simp only [Program.built,h1,hu,hz,hplaces]; exact hv1)
      simp [execOp,ho,this]
    · have:=VR.agg hv2; simpa using this
 · rename_i n es e sz by_ z zvv hti
   obtain ⟨inf,d,h1,h2,h3,h4,h5,h6,h7⟩:=ti_info hti
   obtain ⟨zv,hz,hzr⟩:=zero_rel h6.symm
   obtain ⟨hu,hes⟩:=kind_arr h3
   split at he
   · simp [OpR.of] at he
   · rename_i hne
     cases hf:fillA (fun i => some (i * es,es)) z (parts.toList.map fun p => (p.1,ev tm p.2)) with
     | none => simp [hf,OpR.of] at he
     | some out =>
      simp only [hf,Option.map_some,OpR.of,OpR.val.injEq] at he; obtain ⟨rfl,rfl,rfl,_⟩:=he
      obtain ⟨vout,hv1,hv2⟩:=fill_rel _ _ _ _ _ hp1 hp2 (hzr M β) hf
      cases hi':P.info? e with
      | none => simp [hi'] at hes; omega
      | some inf' =>
       simp only [hi',Option.map_some,Option.getD_some] at hes
       subst hes
       refine .same hs (v:=.agg vout) ?_ ?_
       · have:=run_build (P:=P) w t (parts.map fun (i,x) => (i,ρ x)) vout (by simp only [Program.built,h1,hu,hz,hi']; exact hv1)
         simp [execOp,ho,this]
       · have:=VR.agg hv2; simpa using this
 · cases he
theorem rep_length (n:Nat) (z:List A):(rep n z).length=n * z.length:=by
 unfold rep
 induction n with
 | zero => simp
 | succ n ih => rw [List.range_succ,List.flatMap_append,List.length_append,ih]; simp [Nat.add_mul]
theorem rep_get:∀ (n:Nat) (z:List A) (j:Nat),j < n * z.length→(rep n z)[j]?=z[j % z.length]?
 | 0,_,_,h => by simp at h
 | n+1,z,j,h => by
  have e:rep (n+1) z=rep n z ++ z:=by unfold rep; rw [List.range_succ,List.flatMap_append]; simp
  rw [e]
  by_cases hj:j < n * z.length
  · rw [List.getElem?_append_left (by rw [rep_length]; exact hj)]; exact rep_get n z j hj
  · rw [List.getElem?_append_right (by rw [rep_length]; omega),rep_length]
    have hz:0 < z.length:=by
     rcases Nat.eq_zero_or_pos z.length with h0 | h0
     · rw [h0] at h; simp at h
     · exact h0
    have:j=n * z.length+(j - n * z.length):=by omega
    rw [this,Nat.mul_comm n,Nat.mul_add_mod,Nat.mod_eq_of_lt (by rw [Nat.add_mul] at h; rw [Nat.mul_comm z.length]; omega)]
    congr 1; rw [Nat.mul_comm z.length]; omega
theorem rep_rel {z:List A} {zc:Array Value} (hz:VRL M β z zc.toList) (n m:Nat) (hm:m=n * z.length):VRL M β (rep n z) ((Array.range m).map (zc[· % zc.size]!)).toList:=by
 have hl:=hz.length
 simp at hl
 refine VRL.of_get (by rw [rep_length]; simp [hm]) fun j a v ha hv => ?_
 have hj:j < n * z.length:=by
  have:=(List.getElem?_eq_some_iff.1 ha).1; rwa [rep_length] at this
 rw [rep_get n z j hj] at ha
 obtain ⟨u,hu,hr⟩:=hz.get ha
 have hlt:j % zc.size < zc.size:=by
  have:=(List.getElem?_eq_some_iff.1 hu).1; rw [hl] at this; simpa using this
 simp only [Array.toList_map,Array.toList_range,List.getElem?_map,List.getElem?_range (show j < m by omega),Option.map_some,Option.some.injEq] at hv
 rw [getElem!_pos zc _ hlt] at hv
 rw [hl] at hu
 have:zc.toList[j % zc.size]?=some zc[j % zc.size]:=by simp
 rw [this] at hu
 injection hu with hu
 rw [← hv,hu]; exact hr
theorem cells_br {k:Nat} {i:BI} {cs:List A} {arr:Array Value} {ty:Nat} (h:w.heap[i.block]?=some (.cells arr ty (0,0))) (hsz:arr.size=i.size) (hb:i.base=0) (hl:cs.length≤arr.size)
 (hv:∀ (j:Nat) (c:A) (v:Value),cs[j]?=some c→arr[j]?=some v→VR M β c v):BR M β w k i (.cells cs):=by
 refine ⟨arr,ty,h,hsz,by omega,fun j c hj => ?_⟩
 have hlt:j < arr.size:=by have:=(List.getElem?_eq_some_iff.1 hj).1; omega
 refine ⟨arr[j],by rw [hb]; simp [hlt],hv j c _ hj (by simp [hlt])⟩
theorem fillA_length {place:Nat→Option (Nat × Nat)}:∀ (parts:List (Nat × A)) (cs out:List A),fillA place cs parts=some out→out.length=cs.length
 | [],_,_,h => by simp only [fillA,Option.some.injEq] at h; rw [h]
 | (i,a) :: parts,cs,out,h => by
  simp only [fillA] at h
  split at h
  · split at h
    · cases h
    · rw [fillA_length parts _ _ h,length_putAt]
  · cases h
theorem op_buildSlice (hs:Sat w M β σ hF) (hev:∀ x,VR M β (ev tm x) (ρ x)) {t len:Nat} {parts:Array (Nat × Operand)} (ho:o.op=.buildSlice t len parts) (he:evalOp (mkX P fz) tm σ o=.val a σ' T R):OpOk P ρ o w M β σ hF a σ' T:=by
 simp only [evalOp,ho] at he
 obtain ⟨hp1,hp2⟩:=parts_rel hev parts
 split at he
 · rename_i e sz by_ zz zvv hti
   obtain ⟨inf,d,h1,h2,h3,h4,h5,h6,h7⟩:=ti_info hti
   have hu:=kind_slc h3
   split at he
   · rename_i ke es be z zvv hte
     obtain ⟨inf',d',g1,g2,g3,g4,g5,g6,g7⟩:=ti_info hte
     obtain ⟨zv,hz,hzr⟩:=zero_rel g6.symm
     simp only at g4
     split at he
     · rename_i hc
       obtain ⟨c1,c2,c3⟩:=hc
       split at he
       · rename_i cs hfill
         simp only [OpR.val.injEq] at he; obtain ⟨rfl,rfl,rfl,_⟩:=he
         have hab:=hs.lt _ (Nat.le_refl σ.n)
         have hrun:∃ cells,(Instr.buildSlice t len (parts.map fun (i,x) => (i,ρ x))).run P w=.ok (.slice (some ⟨w.heap.size,0,none⟩) len len) (w.alloc (.cells cells e))∧VRL M β cs cells.toList:=by
          by_cases h0:len * inf'.size=0
          · have hl0:len=0:=by
             rcases Nat.mul_eq_zero.1 h0 with h | h
             · exact h
             · omega
            subst hl0
            obtain ⟨vout,hv1,hv2⟩:=fill_rel (M:=M) (β:=β) (place:=fun i => some (i * es,es)) _ _ (rep 0 z) #[] _ hp1 hp2 (by unfold rep; exact .nil) hfill
            subst g4
            refine ⟨vout,?_,hv2⟩
            have e0:(Array.range (0 * inf'.size)).map ((#[]:Array Value)[· % (#[]:Array Value).size]!)=#[]:=by simp
            unfold Instr.buildSlice
            simp only [Sem.run_bind,run_underlying hu,Result.andThen_ok,run_sizeOf g1,Nat.zero_mul,Nat.not_lt_zero,if_false,if_true,Sem.run_pure,gt_iff_lt,Nat.reducePow]
            simp only [Nat.zero_mul] at e0
            rw [e0,hv1]
            simp [newRow]
          · obtain ⟨vout,hv1,hv2⟩:=fill_rel (M:=M) (β:=β) (place:=fun i => some (i * es,es)) _ _ (rep len z) ((Array.range (len * inf'.size)).map (zv.cells[· % zv.cells.size]!)) _ hp1 hp2 (rep_rel (hzr M β) len _ (by rw [c1,g4])) hfill
            subst g4
            exact ⟨vout,run_buildSlice w t e len _ vout inf' zv hu g1 hz (by omega) h0 hv1,hv2⟩
         obtain ⟨cells,hr,hv⟩:=hrun
         refine ⟨.value (.slice (some ⟨w.heap.size,0,none⟩) len len),w.alloc (.cells cells e),M,β.new σ.n ⟨w.heap.size,0,cells.size⟩,by simp [execOp,ho,hr],⟨_,.inl rfl,?_⟩,hs.alloc _ _ _ ?_,Grow.alloc hs _ _ _⟩
         · have hsz:cells.size=len * es:=by
            have h1:=hv.length
            have h2:=fillA_length _ _ _ hfill
            rw [rep_length,c1] at h2
            simp at h1; omega
           have:=VR.row (M:=M) (β:=β.new σ.n ⟨w.heap.size,0,cells.size⟩) (k:=σ.n) (off:=0) (len:=len) (es:=es) (cap:=len) (i:=⟨w.heap.size,0,cells.size⟩) (a:=⟨w.heap.size,0,none⟩) (Bt.new_same _ _ _) (Nat.le_refl _) (by simp; omega) (.inr rfl)
           exact this
         · refine cells_br (heap_alloc_new w _) rfl rfl (by have:=hv.length; simp at this; omega) fun j c v hj hvv => ?_
           obtain ⟨u,hu',hr'⟩:=hv.get hj
           have:u=v:=by simpa [hvv] using hu'.symm
           subst this
           exact hr'.mono (Mem.le_refl M) (Bt.le_new _ hab)
       · cases he
     · cases he
   · cases he
 · cases he
end Go.Am

/- Part K3 of a proof that runs a program's calls on a small machine whose values bear no addresses: no conditions. -/
import Derived.Test.YtfhoagkadjinlaaAmK1
import Derived.Test.YtfhoagkadjinlaaAmM6
import Derived.Test.YtfhoagkadjinlaaAmV0
import Derived.Test.YtfhoagkadjinlaaAmM4
set_option autoImplicit false
set_option linter.unusedSimpArgs false
set_option linter.unusedVariables false
set_option linter.unusedSectionVars false
namespace Go.Am
open Go Go.Proofs
variable {fz:Nat→Md}
def prA (s p:Nat):A:=.agg [.d (.int .i64 (s:Int)),.d (.int .i64 (p:Int))]
theorem cmpST:(XX fz).cmp 164=true:=by kernel_rfl
theorem part3 {o:Nat} {cs:List A}:partT (XX fz) 3 cs o=cs[o]?:=by
 unfold partT; rw [ti3]; exact partOf_f
theorem eq_pr {σ:St} {a b c d:Nat}:eqT (XX fz) σ 8 164 (prA a b) (prA c d)=some (decide (a=c∧b=d)):=by
 have e3:∀ x y:Int,eqT (XX fz) σ 7 3 (.d (.int .i64 x)) (.d (.int .i64 y))=some (x == y):=fun x y => by rw [eqT,ti3]; rfl
 have key:eqT (XX fz) σ 8 164 (prA a b) (prA c d)=some (((a:Int) == c) && ((b:Int) == d)):=by
  rw [eqT,ti164]; unfold prA; dsimp only; rw [cmpST,if_pos rfl]
  simp only [eqFs,part3,List.getElem?_cons_zero,List.getElem?_cons_succ,e3]
  cases ((a:Int) == c) <;> cases ((b:Int) == d) <;> rfl
 rw [key]; refine congrArg some ?_
 rw [Bool.eq_iff_iff]; simp; omega
theorem key_pr {a b:Nat}:keyT (XX fz) 8 164 (prA a b)=true:=by
 have e3:∀ x:Int,keyT (XX fz) 7 3 (.d (.int .i64 x))=true:=fun x => by rw [keyT,ti3]
 rw [keyT,ti164]; unfold prA; dsimp only; rw [cmpST]
 simp only [keyFs,part3,List.getElem?_cons_zero,List.getElem?_cons_succ,e3]; rfl
abbrev MpA:=List ((Nat × Nat) × A)
def PM (M:MpA):List (A × A):=M.map fun e => (prA e.1.1 e.1.2,e.2)
def FP (M:MpA) (x:Nat × Nat):Option A:=(M.find? fun e => decide (x.1=e.1.1∧x.2=e.1.2)).map (·.2)
theorem find_PM {a b:Nat}:∀ (M:MpA) (off:Nat),(∃ j v,M[j]?=some ((a,b),v)∧FP M (a,b)=some v∧∀ σ:St,mapFind (XX fz) σ 164 (.agg [.d (.int .i64 (a:Int)),.d (.int .i64 (b:Int))]) (PM M) off=some (some (off+j,v))) ∨
 FP M (a,b)=none∧∀ σ:St,mapFind (XX fz) σ 164 (.agg [.d (.int .i64 (a:Int)),.d (.int .i64 (b:Int))]) (PM M) off=some none
 | [],off => .inr ⟨rfl,fun _ => rfl⟩
 | ((c,d),v) :: M,off => by
  have hME:PM (((c,d),v) :: M)=(prA c d,v) :: PM M:=rfl
  have hq:∀ σ:St,eqT (XX fz) σ 8 164 (.agg [.d (.int .i64 (a:Int)),.d (.int .i64 (b:Int))]) (prA c d)=some (decide (a=c∧b=d)):=fun σ => eq_pr
  by_cases e:a=c∧b=d
  · obtain ⟨rfl,rfl⟩:=e
    left
    exact ⟨0,v,rfl,by simp [FP],fun σ => by rw [hME,mapFind,hq]; simp⟩
  · have hF:FP (((c,d),v) :: M) (a,b)=FP M (a,b):=by unfold FP; rw [List.find?_cons_of_neg (by simpa using e)]
    rw [decide_eq_false e] at hq
    rw [hF]
    rcases find_PM (a:=a) (b:=b) M (off+1) with ⟨j,s',h1,h2,h3⟩ | ⟨h1,h2⟩
    · left; exact ⟨j+1,s',by simpa using h1,h2,fun σ => by rw [hME,mapFind,hq]; dsimp only; rw [h3]; congr 3; omega⟩
    · right; exact ⟨h1,fun σ => by rw [hME,mapFind,hq]; exact h2 σ⟩
theorem upd_PM {σ:St} {a b r:Nat} {v:A} {M:MpA} (h:FP M (a,b)=none) :
 updB (XX fz) σ 164 (.agg [.d (.int .i64 (a:Int)),.d (.int .i64 (b:Int))]) v r (.map (PM M))=.val .top (σ.set r (.map (PM (M ++ [((a,b),v)])))) [r] []:=by
 unfold updB
 dsimp only
 rw [show keyT (XX fz) 8 164 (.agg [.d (.int .i64 (a:Int)),.d (.int .i64 (b:Int))])=true from key_pr,if_neg (by simp)]
 rcases find_PM (fz:=fz) (a:=a) (b:=b) M 0 with ⟨j,s',h1,h2,h3⟩ | ⟨h1,h2⟩
 · rw [h] at h2; cases h2
 · rw [h2]; dsimp only
   rw [show PM (M ++ [((a,b),v)])=PM M ++ [(prA a b,v)] by simp [PM]]; rfl
theorem FP_none {M:MpA} {x:Nat × Nat}:FP M x=none ↔ ∀ v,(x,v) ∉ M:=by
 unfold FP
 rw [Option.map_eq_none_iff,List.find?_eq_none]
 constructor
 · intro h v hv
   have:=h _ hv
   simp at this
 · rintro h ⟨⟨c,d⟩,v⟩ he hx
   simp at hx
   obtain ⟨a,b⟩:=x
   obtain ⟨rfl,rfl⟩:=hx
   exact h v he
theorem upd_any {a b r:Nat} {v:A} (M:MpA) :
 ∃ M',(∀ σ:St,updB (XX fz) σ 164 (.agg [.d (.int .i64 (a:Int)),.d (.int .i64 (b:Int))]) v r (.map (PM M))=.val .top (σ.set r (.map (PM M'))) [r] [])∧((a,b),v) ∈ M'∧∀ e ∈ M',e ∈ M∨e=((a,b),v):=by
 rcases find_PM (fz:=fz) (a:=a) (b:=b) M 0 with ⟨j,s',h1,h2,h3⟩ | ⟨h1,h2⟩
 · refine ⟨M.set j ((a,b),v),fun σ => ?_,?_,fun e he => ?_⟩
   · unfold updB
     dsimp only
     rw [show keyT (XX fz) 8 164 (.agg [.d (.int .i64 (a:Int)),.d (.int .i64 (b:Int))])=true from key_pr,if_neg (by simp),h3]
     dsimp only
     have hn:(PM M)[0+j]?=some (prA a b,s'):=by rw [Nat.zero_add,PM,List.getElem?_map,h1]; rfl
     rw [hn]; dsimp only
     have hs:sameK σ (prA a b) (.agg [.d (.int .i64 (a:Int)),.d (.int .i64 (b:Int))])=true:=by simp [sameK,sameKs,sameK1,prA]
     rw [if_pos hs,Nat.zero_add,PM,PM,List.map_set]; rfl
   · exact List.mem_set (List.getElem?_eq_some_iff.1 h1).1 _
   · rcases List.mem_or_eq_of_mem_set he with h | h
     · exact .inl h
     · exact .inr h
 · exact ⟨M ++ [((a,b),v)],fun σ => upd_PM h1,by simp,fun e he => by
    rcases List.mem_append.1 he with h | h
    · exact .inl h
    · exact .inr (by simpa using h)⟩
def kA (a:List Int):A:=.agg (a.map fun n => A.d (.int .i64 n))
theorem cmpAR:(XX fz).cmp 129=true:=by kernel_rfl
theorem eqArr_ints {σ:St} {a b:List Int}:∀ (n i:Nat),i+n=a.length→i+n=b.length→eqArr (XX fz) (eqT (XX fz) σ 7) (a.map fun n => A.d (.int .i64 n)) (b.map fun n => A.d (.int .i64 n)) 1 3 n i=some (decide (a.drop i=b.drop i))
 | 0,i,h1,h2 => by rw [eqArr,List.drop_eq_nil_of_le (by omega),List.drop_eq_nil_of_le (by omega)]; rfl
 | n+1,i,h1,h2 => by
  have e3:∀ x y:Int,eqT (XX fz) σ 7 3 (.d (.int .i64 x)) (.d (.int .i64 y))=some (x == y):=fun x y => by rw [eqT,ti3]; rfl
  have ha:i < a.length:=by omega
  have hb:i < b.length:=by omega
  rw [eqArr,part3,part3,Nat.mul_one,List.getElem?_map,List.getElem?_map,List.getElem?_eq_getElem ha,List.getElem?_eq_getElem hb]
  simp only [Option.map_some,e3]
  rw [List.drop_eq_getElem_cons ha,List.drop_eq_getElem_cons hb]
  by_cases q:a[i]=b[i]
  · have q2:(a[i] == b[i])=true:=by simpa using q
    rw [q2]; dsimp only
    rw [eqArr_ints n (i+1) (by omega) (by omega)]
    congr 1
    rw [decide_eq_decide,q]
    exact ⟨fun h => by rw [h],fun h => (List.cons.inj h).2⟩
  · have q2:(a[i] == b[i])=false:=by simpa using q
    rw [q2]; dsimp only
    rw [decide_eq_false (fun h => q (List.cons.inj h).1)]
theorem eq_kA {σ:St} {a b:List Int} (ha:a.length=6) (hb:b.length=6):eqT (XX fz) σ 8 129 (kA a) (kA b)=some (decide (a=b)):=by
 rw [eqT,ti129]; unfold kA; dsimp only
 rw [cmpAR,if_neg (by simp),eqArr_ints 6 0 (by omega) (by omega)]
 rfl
theorem keyArr_ints {a:List Int}:∀ (n i:Nat),i+n=a.length→keyArr (XX fz) (keyT (XX fz) 7) (a.map fun n => A.d (.int .i64 n)) 1 3 n i=true
 | 0,i,_ => rfl
 | n+1,i,h => by
  have e3:∀ x:Int,keyT (XX fz) 7 3 (.d (.int .i64 x))=true:=fun x => by rw [keyT,ti3]
  rw [keyArr,part3,Nat.mul_one,List.getElem?_map,List.getElem?_eq_getElem (by omega)]
  simp only [Option.map_some,e3,Bool.true_and]
  exact keyArr_ints n (i+1) (by omega)
theorem key_kA {a:List Int} (ha:a.length=6):keyT (XX fz) 8 129 (kA a)=true:=by
 rw [keyT,ti129]; unfold kA; dsimp only
 rw [if_neg (by simp)]; exact keyArr_ints 6 0 (by omega)
abbrev MpK:=List (List Int × A)
def PK (M:MpK):List (A × A):=M.map fun e => (kA e.1,e.2)
theorem find_PK {a:List Int} (ha:a.length=6):∀ (M:MpK) (off:Nat),(∀ e ∈ M,e.1.length=6)→(∃ j v,M[j]?=some (a,v)∧∀ σ:St,mapFind (XX fz) σ 129 (kA a) (PK M) off=some (some (off+j,v))) ∨
 (∀ v,(a,v) ∉ M)∧∀ σ:St,mapFind (XX fz) σ 129 (kA a) (PK M) off=some none
 | [],off,_ => .inr ⟨(fun v hv => by cases hv),fun _ => rfl⟩
 | (c,v) :: M,off,h => by
  have hME:PK ((c,v) :: M)=(kA c,v) :: PK M:=rfl
  have hq:∀ σ:St,eqT (XX fz) σ 8 129 (kA a) (kA c)=some (decide (a=c)):=fun σ => eq_kA ha (h (c,v) (by simp))
  by_cases e:a=c
  · subst e
    left
    exact ⟨0,v,rfl,fun σ => by rw [hME,mapFind,hq]; simp⟩
  · rw [decide_eq_false e] at hq
    rcases find_PK ha M (off+1) (fun e he => h e (by simp [he])) with ⟨j,s',h1,h3⟩ | ⟨h1,h2⟩
    · left; exact ⟨j+1,s',by simpa using h1,fun σ => by rw [hME,mapFind,hq]; dsimp only; rw [h3]; congr 3; omega⟩
    · right; refine ⟨fun w hw => ?_,fun σ => by rw [hME,mapFind,hq]; exact h2 σ⟩
      rcases List.mem_cons.1 hw with q | q
      · cases q; exact e rfl
      · exact h1 w q
theorem upd_PK {a:List Int} (ha:a.length=6) {r:Nat} {v:A} {M:MpK} (h6:∀ e ∈ M,e.1.length=6) (h:∀ v,(a,v) ∉ M) (σ:St) :
 updB (XX fz) σ 129 (kA a) v r (.map (PK M))=.val .top (σ.set r (.map (PK (M ++ [(a,v)])))) [r] []:=by
 unfold updB
 dsimp only
 rw [key_kA ha,if_neg (by simp)]
 rcases find_PK (fz:=fz) ha M 0 h6 with ⟨j,s',h1,h3⟩ | ⟨h1,h2⟩
 · exact absurd (List.mem_of_getElem? h1) (h _)
 · rw [h2]; dsimp only
   rw [show PK (M ++ [(a,v)])=PK M ++ [(kA a,v)] by simp [PK]]
end Go.Am
namespace Go.Am
open Go Go.Proofs
def natsI (l:List Nat):List Int:=l.map fun (n:Nat) => (n:Int)
theorem natsI_len (l:List Nat):(natsI l).length=l.length:=by simp [natsI]
def stops (n L:Nat):List (Nat × Nat):=(List.range n).flatMap fun s => (List.range (L+1)).map fun p => (s,p)
theorem stops_len (n L:Nat):(stops n L).length=n * (L+1):=by
 unfold stops
 induction n with
 | zero => simp
 | succ n ih => rw [List.range_succ (n:=n),List.flatMap_append,List.length_append,ih]; simp [Nat.add_mul]
theorem stops_mem {n L s p:Nat} (hs:s < n) (hp:p≤L):(s,p) ∈ stops n L:=by
 unfold stops
 rw [List.mem_flatMap]
 exact ⟨s,by simpa using hs,by simp; omega⟩
section
variable (l:List Int) (N:Nv) (X:Nx)
structure AOk (a:Nat) (ps:List Nat) (b:Nat) (js:List Nat) (f:Nat):Prop where
 snd:∀ j ∈ js,∃ p ∈ ps,Rn l N X a p b j
 cmp:f < l.length→∀ p ∈ ps,∀ j,Rn l N X a p b j→j ∈ js
 far:f < l.length→∀ p ∈ ps,∀ k,Pg l N X a p k→k≤f
 len:js.length≤N.es.length * (l.length+1)
def MemoOk (f:Nat) (M:List ((Nat × Nat) × D)):Prop:=∀ x v,(x,v) ∈ M→∃ js:List Nat,v=slD (natsI js)∧AOk l N X (X.ent x.1) [x.2] (X.lve x.1) js f
variable {l N X}
theorem AOk.mono {a:Nat} {ps:List Nat} {b:Nat} {js:List Nat} {f f':Nat} (h:AOk l N X a ps b js f) (hf:f≤f'):AOk l N X a ps b js f' :=
 ⟨h.snd,fun hl => h.cmp (by omega),fun hl p hp k hk => Nat.le_trans (h.far (by omega) p hp k hk) hf,h.len⟩
theorem MemoOk.mono {f f':Nat} {M:List ((Nat × Nat) × D)} (h:MemoOk l N X f M) (hf:f≤f'):MemoOk l N X f' M:=fun x v hx => by
 obtain ⟨js,h1,h2⟩:=h x v hx
 exact ⟨js,h1,h2.mono hf⟩
variable (l N X)
structure AlB (a:Nat) (ps:List Nat) (b f0 f:Nat) (S todo:List (Nat × Nat)) (out:List Nat):Prop where
 in_:∀ x ∈ S,x.1 < N.es.length∧x.2≤l.length∧∃ p ∈ ps,Rn l N X a p x.1 x.2
 td:∀ x ∈ todo,x ∈ S
 os:∀ j ∈ out,∃ p ∈ ps,Rn l N X a p b j
 fl:f≤l.length
 fo:f0≤f
 fs:f=f0∨∃ p ∈ ps,Pg l N X a p f
 fx:∀ x ∈ S,x.2≤f
 nd:S.Nodup
 on:out.length+todo.length≤S.length
variable {l N X}
section
variable {a:Nat} {ps:List Nat} {b f0 f:Nat} {S todo:List (Nat × Nat)} {out:List Nat}
theorem AlB.cap (h:AlB l N X a ps b f0 f S todo out):S.length≤N.es.length * (l.length+1):=by
 rw [← stops_len]
 exact h.nd.length_le_of_subset fun x hx => by
  obtain ⟨h1,h2,-⟩:=h.in_ x hx
  exact stops_mem h1 h2
theorem AlB.reach (h:AlB l N X a ps b f0 f S todo out) {s p:Nat} (hs:s < N.es.length) (hp:p≤l.length) (hr:∃ p0 ∈ ps,Rn l N X a p0 s p) (hn:(s,p) ∉ S):AlB l N X a ps b f0 (max f p) (S ++ [(s,p)]) (todo ++ [(s,p)]) out where
 in_ x hx:=by
  rcases List.mem_append.1 hx with hx | hx
  · exact h.in_ x hx
  · simp at hx; subst hx; exact ⟨hs,hp,hr⟩
 td x hx:=by
  rcases List.mem_append.1 hx with hx | hx
  · exact List.mem_append_left _ (h.td x hx)
  · exact List.mem_append_right _ hx
 os:=h.os
 fl:=by have:=h.fl; omega
 fo:=by have:=h.fo; omega
 fs:=by
  rcases Nat.le_total f p with q | q
  · rw [Nat.max_eq_right q]; obtain ⟨p0,h1,h2⟩:=hr; exact .inr ⟨p0,h1,.here h2⟩
  · rw [Nat.max_eq_left q]; exact h.fs
 fx x hx:=by
  rcases List.mem_append.1 hx with hx | hx
  · have:=h.fx x hx; omega
  · simp at hx; subst hx; exact Nat.le_max_right _ _
 nd:=by
  rw [List.nodup_append]
  exact ⟨h.nd,by simp,fun x hx y hy e => by simp at hy; subst hy; subst e; exact hn hx⟩
 on:=by have:=h.on; simp; omega
theorem AlB.called (h:AlB l N X a ps b f0 f S todo out) {f':Nat} (h1:f≤f') (h2:f'≤l.length) (h3:f'=f∨∃ p ∈ ps,Pg l N X a p f'):AlB l N X a ps b f0 f' S todo out where
 in_:=h.in_
 td:=h.td
 os:=h.os
 fl:=h2
 fo:=Nat.le_trans h.fo h1
 fs:=h3.elim (fun e => e ▸ h.fs) .inr
 fx x hx:=Nat.le_trans (h.fx x hx) h1
 nd:=h.nd
 on:=h.on
theorem AlB.pop {x:Nat × Nat} (h:AlB l N X a ps b f0 f S (x :: todo) out):AlB l N X a ps b f0 f S todo out :=
 ⟨h.in_,fun y hy => h.td y (by simp [hy]),h.os,h.fl,h.fo,h.fs,h.fx,h.nd,by have:=h.on; simp at this; omega⟩
theorem AlB.popO {p:Nat} (h:AlB l N X a ps b f0 f S ((b,p) :: todo) out):AlB l N X a ps b f0 f S todo (out ++ [p]) :=
 ⟨h.in_,fun y hy => h.td y (by simp [hy]),fun j hj => by
  rcases List.mem_append.1 hj with hj | hj
  · exact h.os j hj
  · simp at hj; subst hj; exact (h.in_ (b,j) (h.td _ (by simp))).2.2,h.fl,h.fo,h.fs,h.fx,h.nd,by have:=h.on; simp at this ⊢; omega⟩
end
variable (l N X)
def EDn (S:List (Nat × Nat)) (f:Nat) (e:Eg) (p:Nat):Prop :=
 (e.kind=0→(e.to,p) ∈ S)∧(e.kind=1→l[p]?=some e.num→(e.to,p+1) ∈ S) ∧
 (e.kind=2→f < l.length→(∀ k,Rn l N X (X.ent e.num.toNat) p (X.lve e.num.toNat) k→(e.to,k) ∈ S)∧∀ k,Pg l N X (X.ent e.num.toNat) p k→k≤f)
def AFin (b:Nat) (S:List (Nat × Nat)) (f:Nat) (out:List Nat) (x:Nat × Nat):Prop :=
 (x.1=b→x.2 ∈ out)∧∀ r,N.es[x.1]?=some r→∀ e ∈ r,EDn l N X S f e x.2
variable {l N X}
theorem EDn.mono {S S':List (Nat × Nat)} {f f':Nat} {e:Eg} {p:Nat} (h:EDn l N X S f e p) (hS:∀ x ∈ S,x ∈ S') (hf:f≤f'):EDn l N X S' f' e p :=
 ⟨fun q => hS _ (h.1 q),fun q1 q2 => hS _ (h.2.1 q1 q2),fun q1 q2 => by
  obtain ⟨h1,h2⟩:=h.2.2 q1 (by omega)
  exact ⟨fun k hk => hS _ (h1 k hk),fun k hk => Nat.le_trans (h2 k hk) hf⟩⟩
theorem AFin.mono {b:Nat} {S S':List (Nat × Nat)} {f f':Nat} {out out':List Nat} {x:Nat × Nat} (h:AFin l N X b S f out x) (hS:∀ x ∈ S,x ∈ S') (hf:f≤f') (ho:∀ j ∈ out,j ∈ out'):AFin l N X b S' f' out' x :=
 ⟨fun q => ho _ (h.1 q),fun r hr e he => (h.2 r hr e he).mono hS hf⟩
theorem AlB.done {a:Nat} {ps:List Nat} {b f0 f:Nat} {S todo:List (Nat × Nat)} {out:List Nat} (h:AlB l N X a ps b f0 f S todo out) (hs:∀ p ∈ ps,(a,p) ∈ S) (hf:f < l.length→∀ x ∈ S,AFin l N X b S f out x):AOk l N X a ps b out f:=by
 have key:f < l.length→∀ p ∈ ps,∀ s k,Rn l N X a p s k→(s,k) ∈ S:=fun hl p hp s k hr => by
  clear h
  induction hr with
  | refl => exact hs _ hp
  | free _ h1 h2 h3 ih => exact ((hf hl _ (ih hs hp)).2 _ h1 _ h2).1 h3
  | tok _ h1 h2 h3 h4 ih => exact ((hf hl _ (ih hs hp)).2 _ h1 _ h2).2.1 h3 h4
  | call _ h1 h2 h3 h4 ih _ => exact (((hf hl _ (ih hs hp)).2 _ h1 _ h2).2.2 h3 hl).1 _ h4
 refine ⟨h.os,fun hl p hp j hr => (hf hl _ (key hl p hp _ _ hr)).1 rfl,fun hl p hp k hk => ?_,by have:=h.on; have:=h.cap; omega⟩
 cases hk with
 | here hr => exact h.fx _ (key hl p hp _ _ hr)
 | call hr h1 h2 h3 h4 => exact (((hf hl _ (key hl p hp _ _ hr)).2 _ h1 _ h2).2.2 h3 hl).2 _ h4
end
end Go.Am
namespace Go.Am
open Go Go.Proofs
variable {fz:Nat→Md}
def stD (S:List (Nat × Nat)):List (List D):=S.map fun x => [.int .i64 (x.1:Int),.int .i64 (x.2:Int)]
theorem stD_len (S:List (Nat × Nat)):(stD S).length=S.length:=by simp [stD]
theorem stD_2 (S:List (Nat × Nat)):∀ x ∈ stD S,x.length=2:=fun x hx => by
 obtain ⟨y,-,rfl⟩:=List.mem_map.1 hx; rfl
theorem stD_app (S T:List (Nat × Nat)):stD (S ++ T)=stD S ++ stD T:=by simp [stD]
def SSa (S:List (Nat × Nat)):MpA:=S.map fun x => (x,A.d (.int .i64 1))
theorem SSa_app (S:List (Nat × Nat)) (x:Nat × Nat):SSa S ++ [(x,A.d (.int .i64 1))]=SSa (S ++ [x]):=by simp [SSa]
theorem SSa_mem {S:List (Nat × Nat)} {x:Nat × Nat} {v:A}:(x,v) ∈ SSa S ↔ x ∈ S∧v=A.d (.int .i64 1):=by
 unfold SSa; rw [List.mem_map]
 constructor
 · rintro ⟨y,h1,h2⟩; cases h2; exact ⟨h1,rfl⟩
 · rintro ⟨h1,rfl⟩; exact ⟨x,h1,rfl⟩
def StA (av:List Nat) (σ:St) (a:A) (xs:List (Nat × Nat)):Prop:=(∃ z,a=.d (.slc z (stD xs))) ∨
 ∃ k,a=.row k 0 xs.length 2∧σ.get k=.cells (((stD xs).flatMap id).map A.d)∧k < σ.n∧k ∉ av
theorem StA.stay {av:List Nat} {σ τ:St} {a:A} {xs:List (Nat × Nat)} (h:StA av σ a xs) (hn:σ.n≤τ.n) (hg:∀ k,k < σ.n→k ∉ av→τ.get k=σ.get k):StA av τ a xs:=by
 rcases h with h | ⟨k,h1,h2,h3,h4⟩
 · exact .inl h
 · exact .inr ⟨k,h1,(hg k h3 h4).trans h2,by omega,h4⟩
theorem StA.len {av:List Nat} {σ:St} {a:A} {xs:List (Nat × Nat)} (h:StA av σ a xs):sliceLen σ a=some xs.length:=by
 rcases h with ⟨z,rfl⟩ | ⟨k,rfl,h2,-,-⟩
 · simp [sliceLen,stD_len]
 · rw [sliceLen_row,h2]; rfl
theorem StA.idx {av:List Nat} {σ:St} {a:A} {xs:List (Nat × Nat)} (h:StA av σ a xs) {i:Nat} (hi:i < xs.length) :
 ∃ p R,indexK σ 2 a (.d (.int .i64 (i:Int)))=.val p σ [] R∧∃ R',loadK σ (some { kind:=TK.struct [(0,1,3),(1,1,3)],size:=2,bytes:=16,zero:=some [A.d (D.int IntKind.i64 0),A.d (D.int IntKind.i64 0)],zval:=A.agg [A.d (D.int IntKind.i64 0),A.d (D.int IntKind.i64 0)] }) p=.val (.agg [.d (.int .i64 (xs[i].1:Int)),.d (.int .i64 (xs[i].2:Int))]) σ [] R':=by
 have hx:(stD xs)[i]?=some [.int .i64 (xs[i].1:Int),.int .i64 (xs[i].2:Int)]:=by simp [stD,hi]
 have key:SlV 2 σ a (stD xs):=by
  rcases h with ⟨z,rfl⟩ | ⟨k,rfl,h2,h3,-⟩
  · exact .data (stD_2 xs)
  · have:=RowAt.sl (es:=2) (σ:=σ) (a:=.row k 0 (stD xs).length 2) (xs:=stD xs) (bs:=[k]) (by omega) ⟨stD_2 xs,.inr ⟨k,rfl,h2,h3,rfl⟩⟩
    rw [stD_len] at this; exact this
 obtain ⟨p,R,h1,h2⟩:=key.idx .i64 i _ hx
 obtain ⟨R',h3⟩:=h2 (TK.struct [(0,1,3),(1,1,3)]) 16 (some [A.d (D.int IntKind.i64 0),A.d (D.int IntKind.i64 0)]) (A.agg [A.d (D.int IntKind.i64 0),A.d (D.int IntKind.i64 0)])
 exact ⟨p,R,h1,R',h3⟩
structure FrL (b:Nat) (S:List (Nat × Nat)) (ks:List Nat) (σ:St):Prop where
 gm:σ.get (b+1)=.map (PM (SSa S))
 gs:σ.get (b+2)=.cells [.map (b+1)]
 gf:∃ fa,σ.get b=.cells [fa]∧RowN 2 σ fa (stD S) ks
 n:b+3≤σ.n
 ko:∀ k ∈ ks,b+3≤k
theorem CallsTo.keepE {X:X} {f:Nat} {cap args:List A} {F:AFn} {r:A} {σ:St} {P:St→List Nat→Prop} (hz:X.fz f=.keep) (hF:X.fn f=some F) (hl:args.length+cap.length≤F.nt)
 (e:Ev X f F.nt none σ.n [.code F.body] (initTm (args ++ cap) 0 .nil) σ [] (RetQ X F.results fun a σ1 W1 => a=r∧P σ1 W1)):∃ σ' W,CallsTo X (.func f cap) args σ r σ' W∧P σ' W:=by
 obtain ⟨n,o,hn,hq⟩:=e
 cases o with
 | leave _ _ _ => exact hq.elim
 | ret tm σ1 W1 =>
  unfold RetQ at hq
  dsimp only at hq
  split at hq
  · rename_i l hl'
    obtain ⟨rfl,h5⟩:=hq
    exact ⟨σ1,W1,CallsTo.ofQ hF hl ⟨n,_,hn,by unfold RetQ; dsimp only; rw [hl']; simp [leaveCall,hz]⟩,h5⟩
  · exact hq.elim
structure RchP (b:Nat) (S:List (Nat × Nat)) (ks:List Nat) (σ:St) (xs:List (Nat × Nat)) (S':List (Nat × Nat)) (ks':List Nat) (σ':St) (W:List Nat):Prop where
 fr:FrL b S' ks' σ'
 ext:∃ e,S'=S ++ e∧∀ x ∈ e,x ∈ xs
 all:∀ x ∈ xs,x ∈ S'
 nd:S'.Nodup
 n:σ.n≤σ'.n
 same:∀ k,k < σ.n→k≠b→k≠b+1→k ∉ ks→σ'.get k=σ.get k
 w:∀ k ∈ W,k=b∨k=b+1∨k ∈ ks∨σ.n≤k
 o:∀ k ∈ ks',k ∈ ks∨σ.n≤k
set_option maxHeartbeats 16000000 in
theorem reachL_c (h120:fz 120=.keep) {b:Nat} {S:List (Nat × Nat)} {ks:List Nat} {σ:St} (h:FrL b S ks σ) (hnd:S.Nodup) {a:A} {xs:List (Nat × Nat)} (ha:StA (b :: (b+1) :: ks) σ a xs) (hl:S.length+xs.length < 1000000000) :
 ∃ σ' W,CallsTo (XX fz) (.func 120 [.ptr (b+2) 0,.ptr b 0]) [a] σ (.tup []) σ' W∧∃ S' ks',RchP b S ks σ xs S' ks' σ' W:=by
 refine CallsTo.keepE h120 fn120 (by simp) ?_
 simp only [Try.f120,Option.getD_some]
 have hlen:=ha.len
 simp only [go_sem,hlen]
 refine Ev.loop_ind (fun m tm τ W => ∃ (i:Nat) (S':List (Nat × Nat)) (ks':List Nat),m=xs.length - i∧i≤xs.length∧RchP b S ks σ (xs.take i) S' ks' τ W∧tm.at 1=.ptr (b+2) 0∧tm.at 2=.ptr b 0∧tm.at 6=a∧tm.at 7=.d (.int .i64 (xs.length:Int))∧tm.at 8=.d (.int .i64 (i:Int))) ?_ xs.length _ _ _ ⟨0,S,ks,rfl,Nat.zero_le _,⟨h,⟨[],by simp,by simp⟩,by simp,hnd,Nat.le_refl _,fun _ _ _ _ _ => rfl,by simp,fun _ h => .inl h⟩,?_,?_,?_,?_,?_⟩
 · rintro m tm τ W ⟨i,S',ks',rfl,hi,hR,t1,t2,t6,t7,t8⟩ ih
   by_cases hlt:i < xs.length
   · obtain ⟨hfr,⟨ex,hex,hexi⟩,hall,hnd',hn,hsame,hw,ho⟩:=hR
     have haτ:StA (b :: (b+1) :: ks) τ a xs:=ha.stay hn fun k hk hav => hsame k hk (fun e => hav (by simp [e])) (fun e => hav (by simp [e])) (fun e => hav (by simp [e]))
     obtain ⟨p,R,hix,R',hld⟩:=haτ.idx hlt
     have htake:xs.take (i+1)=xs.take i ++ [xs[i]]:=by simp
     generalize hx:xs[i]=x at hld htake
     obtain ⟨s,q⟩:=x
     dsimp only at hld
     obtain ⟨gm,gs,⟨fa,gf,hrow⟩,fn,ko⟩:=hfr
     have hexn:ex.length≤xs.length:=by
      rw [hex,List.nodup_append] at hnd'
      exact Nat.le_trans (hnd'.2.1.length_le_of_subset hexi) (by rw [List.length_take]; omega)
     have hSl:S'.length < 1000000000:=by rw [hex,List.length_append]; omega
     have hmem:(s,q) ∈ xs:=by rw [← hx]; exact List.getElem_mem hlt
     have a1:b+2≠τ.n:=by omega
     have hgk:∀ k,k < τ.n→((τ.push (.cells [.d (.int .i64 0),.d (.int .i64 0)])).set τ.n (.cells [.d (.int .i64 (s:Int)),.d (.int .i64 (q:Int))])).get k=τ.get k:=fun k hk => by
      rw [St.get_set_ne (by omega),St.get_push_ne hk]
     have hxc:((τ.push (.cells [.d (.int .i64 0),.d (.int .i64 0)])).set τ.n (.cells [.d (.int .i64 (s:Int)),.d (.int .i64 (q:Int))])).get τ.n=.cells [.d (.int .i64 (s:Int)),.d (.int .i64 (q:Int))]:=St.get_set_eq
     have hn1:((τ.push (.cells [.d (.int .i64 0),.d (.int .i64 0)])).set τ.n (.cells [.d (.int .i64 (s:Int)),.d (.int .i64 (q:Int))])).n=τ.n+1:=by simp only [St.n_set,St.n_push]
     have lz:low σ.n [τ.n]=[]:=by rw [low_cons_ge (by omega)]; rfl
     simp only [go_sem,t1,t2,t6,t7,t8,dec_lt' hlt,hix,hld,lz]
     generalize ((τ.push (.cells [.d (.int .i64 0),.d (.int .i64 0)])).set τ.n (.cells [.d (.int .i64 (s:Int)),.d (.int .i64 (q:Int))]))=τ1 at hgk hxc hn1
     have kp:keyT (XX fz) 8 164 (.agg [.d (.int .i64 (s:Int)),.d (.int .i64 (q:Int))])=true:=key_pr
     have gs1:=(hgk (b+2) (by omega)).trans gs
     have gm1:=(hgk (b+1) (by omega)).trans gm
     have gf1:=(hgk b (by omega)).trans gf
     have hrow1:=hrow.stay (τ:=τ1) (by omega) fun k hk => hgk k (hrow.1.lt hk)
     have w1:=wrap_succ' hlt (show xs.length < 1000000000 by omega)
     have htk:∀ x ∈ xs.take (i+1),x ∈ xs.take i∨x=(s,q):=fun x h => by
      rw [htake,List.mem_append] at h
      exact h.imp id (fun h => by simpa using h)
     have htk2:∀ x ∈ xs.take i,x ∈ xs.take (i+1):=fun x h => by rw [htake]; exact List.mem_append_left _ h
     rcases find_PM (fz:=fz) (a:=s) (b:=q) (SSa S') 0 with ⟨j,v,h1,h2,h3⟩ | ⟨h2,h3⟩
     · obtain ⟨hm,rfl⟩:=SSa_mem.1 (List.mem_of_getElem? h1)
       simp only [go_sem,t1,a1,gs,gs1,gm1,hxc,kp,h3,t8,w1]
       refine ih _ _ _ _ (by omega) ⟨i+1,S',ks',rfl,hlt,⟨⟨gm1,gs1,⟨fa,gf1,hrow1⟩,by omega,ko⟩,⟨ex,hex,fun x hx => htk2 x (hexi x hx)⟩,fun x hx => ?_,hnd',by omega,fun k q1 q2 q3 q4 => (hgk k (by omega)).trans (hsame k q1 q2 q3 q4),hw,ho⟩,?_,?_,?_,?_,?_⟩
       · rcases htk x hx with q | q
         · exact hall x q
         · rw [q]; exact hm
       all_goals (simp only [go_sem,t1,t2,t6,t7])
     · have hm:(s,q) ∉ S':=fun q => FP_none.1 h2 _ (SSa_mem.2 ⟨q,rfl⟩)
       have hu:=fun (ρ:St) => upd_PM (fz:=fz) (σ:=ρ) (r:=b+1) (v:=.d (.int .i64 1)) h2
       rw [SSa_app] at hu
       have a7:b≠b+1:=by omega
       have a8:τ.n≠b+1:=by omega
       simp only [go_sem,t1,t2,a1,gs,gs1,gm1,hxc,kp,h3,hu]
       have hg2:∀ k,k≠b+1→(τ1.set (b+1) (.map (PM (SSa (S' ++ [(s,q)]))))).get k=τ1.get k:=fun k hk => St.get_set_ne hk
       have gm2:(τ1.set (b+1) (.map (PM (SSa (S' ++ [(s,q)]))))).get (b+1)=.map (PM (SSa (S' ++ [(s,q)]))):=St.get_set_eq
       have hn2:(τ1.set (b+1) (.map (PM (SSa (S' ++ [(s,q)]))))).n=τ1.n:=by rw [St.n_set]
       generalize (τ1.set (b+1) (.map (PM (SSa (S' ++ [(s,q)])))))=τ2 at hg2 gm2 hn2
       have gb2:=(hg2 b a7).trans gf1
       have gx2:=(hg2 τ.n a8).trans hxc
       have hrow2:=hrow1.stay (τ:=τ2.push (.cells [.d (.int .i64 (s:Int)),.d (.int .i64 (q:Int))])) (by rw [St.n_push]; omega) fun k hk => by
        have:=hrow1.1.lt hk
        rw [St.get_push_ne (by omega),hg2 k (by have:=ko k hk; omega)]
       obtain ⟨fa',τ3,T,ks3,happ,hR3,hK⟩:=hrow2.app (b:=16) (x:=.row τ2.n 0 1 2) (ys:=[[.int .i64 (s:Int),.int .i64 (q:Int)]]) (by rw [sliceCells_row St.get_push_eq (by simp)]; rfl) (by rw [sliceLen_row,St.get_push_eq]; rfl) (by simp) (by rw [stD_len]; simp; omega) (by rw [stD_len]; simp; omega)
       have hx3:stD S' ++ [[D.int .i64 (s:Int),.int .i64 (q:Int)]]=stD (S' ++ [(s,q)]):=by simp [stD]
       rw [hx3] at hR3
       have hKn:=hK.n
       rw [St.n_push] at hKn
       have nks:∀ k,k < b+3→k ∉ ks':=fun k h1 h2 => by have:=ko k h2; omega
       have hg3:∀ k,k < τ2.n→k ∉ ks'→τ3.get k=τ2.get k:=fun k q1 q2 => by rw [hK.same k (by rw [St.n_push]; omega) q2,St.get_push_ne q1]
       have gb3:=(hg3 b (by omega) (nks _ (by omega))).trans gb2
       have c1:=hR3.1.cell
       have c2:=hR3.1.cells
       have b1:b < τ2.n:=by omega
       have b2:b≠τ2.n:=by omega
       simp only [go_sem,t2,gf1,hxc,a8,gb2,gx2,happ,gb3,c1,c2,b1,b2,t8,w1]
       have hg4:∀ k,k≠b→(τ3.set b (.cells [fa'])).get k=τ3.get k:=fun k hk => St.get_set_ne hk
       have gT:∀ k,k < σ.n→k≠b→k≠b+1→k ∉ ks→(τ3.set b (.cells [fa'])).get k=σ.get k:=fun k q1 q2 q3 q4 => by
        rw [hg4 k q2,hg3 k (by omega) (fun e => by rcases ho k e with e | e; exact q4 e; omega),hg2 k q3,hgk k (by omega)]
        exact hsame k q1 q2 q3 q4
       refine ih _ _ _ _ (by omega) ⟨i+1,S' ++ [(s,q)],ks3,rfl,hlt,⟨⟨?_,?_,⟨fa',St.get_set_eq,hR3.stay (by rw [St.n_set]; exact Nat.le_refl _) fun k hk => hg4 k ?_⟩,by rw [St.n_set]; omega,fun k hk => ?_⟩,⟨ex ++ [(s,q)],by rw [hex,List.append_assoc],fun x hx => ?_⟩,fun x hx => ?_,?_,by rw [St.n_set]; omega,gT,fun k hk => ?_,fun k hk => ?_⟩,?_,?_,?_,?_,?_⟩
       · rw [hg4 _ (by omega),hg3 _ (by omega) (nks _ (by omega))]; exact gm2
       · rw [hg4 _ (by omega),hg3 _ (by omega) (nks _ (by omega)),hg2 _ (by omega)]; exact gs1
       · rcases hK.o k hk with e | e
         · have:=ko k e; omega
         · rw [St.n_push] at e; omega
       · rcases hK.o k hk with e | e
         · exact ko k e
         · rw [St.n_push] at e; omega
       · rcases List.mem_append.1 hx with hx | hx
         · exact htk2 x (hexi x hx)
         · rw [htake]; exact List.mem_append_right _ hx
       · rcases htk x hx with e | e
         · exact List.mem_append_left _ (hall x e)
         · rw [e]; simp
       · rw [List.nodup_append]
         exact ⟨hnd',by simp,fun x hx y hy e => by simp at hy; subst hy; subst e; exact hm hx⟩
       · simp only [List.mem_append,mem_low,List.mem_singleton] at hk
         rcases hk with ((hk | ⟨hk,-⟩) | ⟨hk,-⟩) | ⟨hk,-⟩
         · exact hw k hk
         · exact .inr (.inl hk)
         · rcases hK.w k hk with e | e
           · rcases ho k e with e | e
             · exact .inr (.inr (.inl e))
             · exact .inr (.inr (.inr e))
           · rw [St.n_push] at e; exact .inr (.inr (.inr (by omega)))
         · exact .inl hk
       · rcases hK.o k hk with e | e
         · exact ho k e
         · rw [St.n_push] at e; exact .inr (by omega)
       all_goals (simp only [go_sem,t1,t2,t6,t7])
   · obtain rfl:i=xs.length:=by omega
     rw [List.take_length] at hR
     simp only [go_sem,t7,t8,dec_ge' hlt]
     exact ⟨S',ks',hR⟩
 all_goals first | rfl | (simp only [go_sem]; done) | (simp only [go_sem]; rfl)
end Go.Am

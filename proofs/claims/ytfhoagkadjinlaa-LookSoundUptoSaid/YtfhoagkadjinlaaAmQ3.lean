/- Part Q3 of a proof that runs a program's calls on a small machine whose values bear no addresses: no conditions. -/
import Derived.Test.YtfhoagkadjinlaaAmQ2
set_option autoImplicit false
set_option linter.unusedSimpArgs false
set_option linter.unusedVariables false
set_option linter.unusedSectionVars false
namespace Go.Am
open Go Go.Proofs
section
variable {X:X} {tm:Tm} {σ:St} {dst:Option Nat} {ty:Nat} {pos:String} {after:Array Edge} {g:Option (Nat × Bool)}
def idxArr (σ:St) (n es k off:Nat) (i:Int):Blk→OpR
 | .dead => .bad
 | _ => if 0≤i∧i < n∧0 < es then .val (.ptr k (off+i.toNat * es)) σ [] [k] else .bad
theorem indexT_arr {k off n es e s b:Nat} {kd:IntKind} {i:Int} {ti:Nat→Option TI} {z:Option (List A)} {zv:A}:indexT σ (.ptr k off) (.d (.int kd i)) ti (some ⟨.arr n es e,s,b,z,zv⟩)=idxArr σ n es k off i (σ.get k):=by
 unfold indexT idxArr; dsimp only; cases σ.get k <;> rfl
theorem idxArr_cells {k off n es:Nat} {i:Int} {cs:List A}:idxArr σ n es k off i (.cells cs)=if 0≤i∧i.toNat < n∧0 < es then .val (.ptr k (off+i.toNat * es)) σ [] [k] else .bad:=by
 unfold idxArr; dsimp only
 have:(0≤i∧i < (n:Int)∧0 < es) ↔ (0≤i∧i.toNat < n∧0 < es):=by omega
 by_cases h:0≤i∧i.toNat < n∧0 < es
 · rw [if_pos (this.2 h),if_pos h]
 · rw [if_neg (fun e => h (this.1 e)),if_neg h]
theorem bin_quo64 {t:Nat} {kd:IntKind} {a:Int}:binA X σ .quo t (.d (.int kd a)) (.d (.int kd 64))=some (.d (.int kd (kd.wrap (a.tdiv 64)))):=by simp [binA,intOp]
theorem bin_rem64 {t:Nat} {kd:IntKind} {a:Int}:binA X σ .rem t (.d (.int kd a)) (.d (.int kd 64))=some (.d (.int kd (a.tmod 64))):=by simp [binA,intOp]
theorem bin_shr {t:Nat} {kd ke:IntKind} {a:Int} {b:Nat}:binA X σ .shr t (.d (.int kd a)) (.d (.int ke (b:Int)))=some (.d (.int kd (a.fdiv (2 ^ (min b kd.bits))))):=by simp [binA]
theorem bin_shl {t:Nat} {kd ke:IntKind} {a:Int} {b:Nat}:binA X σ .shl t (.d (.int kd a)) (.d (.int ke (b:Int)))=some (.d (.int kd (kd.wrap (a * 2 ^ (min b kd.bits))))):=by simp [binA]
theorem bldT_arr {ps:List (Nat × A)} {n es e s b:Nat} {z:List A} {zv:A}:bldT σ ps (some ⟨.arr n es e,s,b,some z,zv⟩)=bldV σ (if es=0 then none else fillA (fun i => some (i * es,es)) z ps):=rfl
def mkmT (σ:St):Option TI→OpR
 | some { kind:=.map _ _,.. } => .val (.map σ.n) (σ.push (.map [])) [] []
 | _ => .bad
theorem o_mkm {t:Nat}:evalOp X tm σ ⟨dst,.makeMap t none,ty,pos,after,g⟩=mkmT σ (X.ti t):=by
 unfold evalOp mkmT; dsimp only
 cases X.ti t with
 | none => rfl
 | some i => obtain ⟨kd,s,b,z,zv⟩:=i; cases kd <;> rfl
theorem mkmT_map {k e s b:Nat} {z:Option (List A)} {zv:A}:mkmT σ (some ⟨.map k e,s,b,z,zv⟩)=.val (.map σ.n) (σ.push (.map [])) [] []:=rfl
def lookF (σ:St) (ok:Bool) (zv:A) (R:List Nat):Option (Option (Nat × A))→OpR
 | some (some (_,v)) => .val (if ok then .tup [v,.d (.bool true)] else v) σ [] R
 | some none => .val (if ok then .tup [zv,.d (.bool false)] else zv) σ [] R
 | none => .bad
def lookB (X:Am.X) (σ:St) (ok:Bool) (kt:Nat) (k zv:A) (m:Nat):Blk→OpR
 | .map es => lookF σ ok zv (m :: (k.refs ++ es.flatMap fun e => e.1.refs)) (mapFind X σ kt k es 0)
 | _ => .bad
def lookA (X:Am.X) (σ:St) (ok:Bool) (kt:Nat) (k zv:A):A→OpR
 | .d .nmap => .val (if ok then .tup [zv,.d (.bool false)] else zv) σ [] []
 | .map m => lookB X σ ok kt k zv m (σ.get m)
 | _ => .bad
def lookE (X:Am.X) (σ:St) (ok:Bool) (kt:Nat) (k x:A):Option TI→OpR
 | some { zero:=some _,zval:=zv,.. } => if keyT X 8 kt k=false then .bad else lookA X σ ok kt k zv x
 | _ => .bad
def lookT (X:Am.X) (σ:St) (ok:Bool) (k x:A):Option TI→OpR
 | some { kind:=.map kt e,.. } => lookE X σ ok kt k x (X.ti e)
 | _ => .bad
theorem o_look {t:Nat} {x k:Operand} {ok:Bool}:evalOp X tm σ ⟨dst,.lookup t x k ok,ty,pos,after,g⟩=lookT X σ ok (ev tm k) (ev tm x) (X.ti t):=by
 unfold evalOp lookT; dsimp only
 cases X.ti t with
 | none => rfl
 | some i =>
  obtain ⟨kd,s,b,z,zv⟩:=i
  cases kd with
  | map kt e =>
   dsimp only; unfold lookE
   cases X.ti e with
   | none => rfl
   | some j =>
    obtain ⟨kd',s',b',z',zv'⟩:=j
    cases z' with
    | none => rfl
    | some z' =>
     dsimp only
     split
     · rfl
     · unfold lookA
       cases ev tm x with
       | map m =>
        dsimp only; unfold lookB
        cases σ.get m with
        | map es =>
         dsimp only; unfold lookF
         cases mapFind X σ kt (ev tm k) es 0 with
         | none => rfl
         | some p => cases p <;> rfl
        | _ => rfl
       | d v => cases v <;> rfl
       | _ => rfl
  | _ => rfl
theorem lookT_map {ok:Bool} {k x:A} {kt e s b:Nat} {z:Option (List A)} {zv:A}:lookT X σ ok k x (some ⟨.map kt e,s,b,z,zv⟩)=lookE X σ ok kt k x (X.ti e):=rfl
theorem lookE_some {ok:Bool} {k x:A} {kt s b:Nat} {kd:TK} {z:List A} {zv:A}:lookE X σ ok kt k x (some ⟨kd,s,b,some z,zv⟩)=if keyT X 8 kt k=false then .bad else lookA X σ ok kt k zv x:=rfl
theorem lookA_map {ok:Bool} {k zv:A} {kt m:Nat}:lookA X σ ok kt k zv (.map m)=lookB X σ ok kt k zv m (σ.get m):=rfl
theorem lookB_map {ok:Bool} {k zv:A} {kt m:Nat} {es:List (A × A)}:lookB X σ ok kt k zv m (.map es)=lookF σ ok zv (m :: (k.refs ++ es.flatMap fun e => e.1.refs)) (mapFind X σ kt k es 0):=rfl
theorem lookF_some {ok:Bool} {zv:A} {R:List Nat} {n:Nat} {v:A}:lookF σ ok zv R (some (some (n,v)))=.val (if ok then .tup [v,.d (.bool true)] else v) σ [] R:=rfl
theorem lookF_none {ok:Bool} {zv:A} {R:List Nat}:lookF σ ok zv R (some none)=.val (if ok then .tup [zv,.d (.bool false)] else zv) σ [] R:=rfl
def updB (X:Am.X) (σ:St) (kt:Nat) (k v:A) (r:Nat):Blk→OpR
 | .map es => if keyT X 8 kt k=false then .bad else match mapFind X σ kt k es 0 with
  | some (some (i,_)) => match es[i]? with
   | some e => if sameK σ e.1 k then .val .top (σ.set r (.map (es.set i (k,v)))) [r] [] else .bad
   | none => .bad
  | some none => .val .top (σ.set r (.map (es ++ [(k,v)]))) [r] []
  | none => .bad
 | _ => .bad
def updA (X:Am.X) (σ:St) (kt:Nat) (k v:A):A→OpR
 | .map r => updB X σ kt k v r (σ.get r)
 | _ => .bad
def updT (X:Am.X) (σ:St) (m k v:A):Option TI→OpR
 | some { kind:=.map kt _,.. } => updA X σ kt k v m
 | _ => .bad
theorem o_upd {t:Nat} {m k v:Operand}:evalOp X tm σ ⟨dst,.mapUpdate t m k v,ty,pos,after,g⟩=updT X σ (ev tm m) (ev tm k) (ev tm v) (X.ti t):=by
 unfold evalOp updT; dsimp only
 cases X.ti t with
 | none => rfl
 | some i =>
  obtain ⟨kd,s,b,z,zv⟩:=i
  cases kd with
  | map kt e =>
   dsimp only; unfold updA
   cases ev tm m with
   | map r => dsimp only; unfold updB; cases σ.get r <;> rfl
   | _ => rfl
  | _ => rfl
theorem updT_map {m k v:A} {kt e s b:Nat} {z:Option (List A)} {zv:A}:updT X σ m k v (some ⟨.map kt e,s,b,z,zv⟩)=updA X σ kt k v m:=rfl
theorem updA_map {k v:A} {kt r:Nat}:updA X σ kt k v (.map r)=updB X σ kt k v r (σ.get r):=rfl
end
attribute [go_sem] indexT_arr idxArr_cells bin_quo64 bin_rem64 bin_shr bin_shl bldT_arr o_mkm mkmT_map o_look lookT_map lookE_some lookA_map lookB_map lookF_some lookF_none o_upd updT_map updA_map
variable {fz:Nat→Md}
def plC (P:Nat):List A:=[.d (.int .u64 ((P % 2 ^ 64:Nat):Int)),.d (.int .u64 ((P / 2 ^ 64:Nat):Int))]
def plA (P:Nat):A:=.agg (plC P)
theorem plC_len (P:Nat):(plC P).length=2:=rfl
theorem plC_take (P:Nat):(plC P).take 2=plC P:=rfl
theorem plC_0 (P:Nat):(plC P)[0]?=some (.d (.int .u64 ((P % 2 ^ 64:Nat):Int))):=rfl
theorem plC_1 (P:Nat):(plC P)[1]?=some (.d (.int .u64 ((P / 2 ^ 64:Nat):Int))):=rfl
theorem plC_cell (P:Nat):(plC P).all A.isCell=true:=rfl
attribute [go_sem] plC_len plC_take plC_0 plC_1 plC_cell
end Go.Am
namespace Go.Am
open Go Go.Proofs
variable {fz:Nat→Md}
inductive Rl where
 | no | part (x:Ex) | own (xs:List Ex) | map (x:Ex)
def ME (M:List (Nat × Nat)):List (A × A):=M.map fun e => (.d (.int .i64 (e.1:Int)),plA e.2)
structure Parts (G:Ex→Nat→Nat→Prop) (σ:St) (T:Nat→Rl):Prop where
 lt:∀ k,T k≠.no→k < σ.n
 part:∀ k x,T k=.part x→∃ own km,σ.get k=.cells [.d (.int .i64 x.kind),.d (.int .i64 x.num),own,.map km]∧T km=.map x∧((x.l=[]∧own=.d (.slc true []))∨∃ ko,own=.row ko 0 x.l.length 1∧T ko=.own x.l)
 own:∀ k xs,T k=.own xs→∃ cs,σ.get k=.cells cs∧cs.length=xs.length∧∀ (i:Nat) (y:Ex),xs[i]?=some y→∃ kp,cs[i]?=some (A.ptr kp 0)∧T kp=.part y
 map:∀ k x,T k=.map x→∃ M,σ.get k=.map (ME M)∧∀ e ∈ M,G x e.1 e.2
section
variable {G:Ex→Nat→Nat→Prop} {σ τ:St} {T:Nat→Rl}
theorem Parts.mono (h:Parts G σ T) (hn:σ.n≤τ.n) (hg:∀ k,T k≠.no→τ.get k=σ.get k):Parts G τ T where
 lt k hk:=Nat.lt_of_lt_of_le (h.lt k hk) hn
 part k x hk:=by rw [hg k (by rw [hk]; simp)]; exact h.part k x hk
 own k x hk:=by rw [hg k (by rw [hk]; simp)]; exact h.own k x hk
 map k x hk:=by rw [hg k (by rw [hk]; simp)]; exact h.map k x hk
theorem Parts.no (h:Parts G σ T) {k:Nat} (hk:σ.n≤k):T k=.no:=by
 cases e:T k with
 | no => rfl
 | _ => have:=h.lt k (by rw [e]; simp); omega
def OwnAt (T:Nat→Rl) (lo:Nat) (σ:St) (a:A) (xs:List Ex):Prop :=
 (xs=[]∧a=.d (.slc true []))∨∃ ko cs,a=.row ko 0 xs.length 1∧lo≤ko∧ko < σ.n∧T ko=.no∧σ.get ko=.cells cs∧cs.length=xs.length∧cs.all A.isCell=true∧∀ (i:Nat) (y:Ex),xs[i]?=some y→∃ kp,cs[i]?=some (A.ptr kp 0)∧T kp=.part y
variable {lo:Nat} {a:A} {xs:List Ex}
theorem OwnAt.refs (h:OwnAt T lo σ a xs):∀ j ∈ a.refs,lo≤j∧j < σ.n∧T j=.no:=by
 rcases h with ⟨-,rfl⟩ | ⟨ko,cs,rfl,h1,h2,h3,-⟩
 · intro j hj; simp [A.refs] at hj
 · intro j hj; simp [A.refs] at hj; subst hj; exact ⟨h1,h2,h3⟩
theorem OwnAt.cell (h:OwnAt T lo σ a xs):a.isCell=true:=by rcases h with ⟨-,rfl⟩ | ⟨ko,cs,rfl,-⟩ <;> rfl
theorem OwnAt.cells (h:OwnAt T lo σ a xs):a.cells=some [a]:=by rcases h with ⟨-,rfl⟩ | ⟨ko,cs,rfl,-⟩ <;> rfl
theorem OwnAt.stay {T':Nat→Rl} (h:OwnAt T lo σ a xs) (hn:σ.n≤τ.n) (hg:∀ k ∈ a.refs,τ.get k=σ.get k) (hT:∀ k,k < σ.n→T' k=T k) (hp:∀ k,T k≠.no→k < σ.n):OwnAt T' lo τ a xs:=by
 rcases h with h | ⟨ko,cs,rfl,h1,h2,h3,h4,h5,h6,h7⟩
 · exact .inl h
 · refine .inr ⟨ko,cs,rfl,h1,by omega,by rw [hT ko h2]; exact h3,by rw [hg ko (by simp [A.refs])]; exact h4,h5,h6,fun i y hi => ?_⟩
   obtain ⟨kp,g1,g2⟩:=h7 i y hi
   exact ⟨kp,g1,by rw [hT kp (hp kp (by rw [g2]; simp))]; exact g2⟩
end
end Go.Am
namespace Go.Am
open Go Go.Proofs
variable {fz:Nat→Md}
inductive Dx (bs:List Ex) (l:List Int):Ex ⊕ List Ex→Nat→Nat→Prop
 | tok {x:Ex} {i:Nat}:x.kind=1→l[i]?=some x.num→Dx bs l (.inl x) i (i+1)
 | call {x y:Ex} {i j:Nat}:x.kind=2→bs[x.num.toNat]?=some y→Dx bs l (.inl y) i j→Dx bs l (.inl x) i j
 | alt {x y:Ex} {i j:Nat}:x.kind=4→y ∈ x.l→Dx bs l (.inl y) i j→Dx bs l (.inl x) i j
 | opt0 {x:Ex} {i:Nat}:x.kind=6→Dx bs l (.inl x) i i
 | opt1 {x y:Ex} {i j:Nat}:x.kind=6→x.l=[y]→Dx bs l (.inl y) i j→Dx bs l (.inl x) i j
 | star0 {x:Ex} {i:Nat}:x.kind=5→Dx bs l (.inl x) i i
 | star1 {x y:Ex} {i k j:Nat}:x.kind=5→x.l=[y]→Dx bs l (.inl x) i k→Dx bs l (.inl y) k j→Dx bs l (.inl x) i j
 | seq {x:Ex} {i j:Nat}:(x.kind≠1∧x.kind≠2∧x.kind≠4∧x.kind≠5∧x.kind≠6)→Dx bs l (.inr x.l) i j→Dx bs l (.inl x) i j
 | nil {i:Nat}:Dx bs l (.inr []) i i
 | cons {y:Ex} {r:List Ex} {i k j:Nat}:Dx bs l (.inl y) i k→Dx bs l (.inr r) k j→Dx bs l (.inr (y :: r)) i j
def Der (bs:List Ex) (l:List Int) (x:Ex) (i j:Nat):Prop:=Dx bs l (.inl x) i j
def DerL (bs:List Ex) (l:List Int) (xs:List Ex) (i j:Nat):Prop:=Dx bs l (.inr xs) i j
section
variable {bs:List Ex} {l:List Int}
theorem Dx.le {w:Ex ⊕ List Ex} {i j:Nat} (h:Dx bs l w i j):i≤j:=by
 induction h <;> omega
theorem Dx.len {w:Ex ⊕ List Ex} {i j:Nat} (h:Dx bs l w i j):i≤l.length→j≤l.length:=by
 induction h with
 | tok _ h => intro _; have:=(List.getElem?_eq_some_iff.1 h).1; omega
 | star1 _ _ _ _ h1 h2 => exact fun h => h2 (h1 h)
 | cons _ _ h1 h2 => exact fun h => h2 (h1 h)
 | _ => simp_all
theorem DerL.append {xs ys:List Ex} {i j k:Nat} (h1:DerL bs l xs i j) (h2:DerL bs l ys j k):DerL bs l (xs ++ ys) i k:=by
 induction xs generalizing i with
 | nil => cases h1; exact h2
 | cons x xs ih => cases h1 with | cons a b => exact .cons a (ih b)
theorem DerL.split {xs ys:List Ex} {i k:Nat} (h:DerL bs l (xs ++ ys) i k):∃ j,DerL bs l xs i j∧DerL bs l ys j k:=by
 induction xs generalizing i with
 | nil => exact ⟨i,.nil,h⟩
 | cons x xs ih =>
  cases h with
  | cons a b =>
   obtain ⟨j,h1,h2⟩:=ih b
   exact ⟨j,.cons a h1,h2⟩
theorem DerL.one {y:Ex} {i j:Nat}:DerL bs l [y] i j ↔ Der bs l y i j:=by
 constructor
 · intro h
   cases h with
   | cons a b => cases b; exact a
 · exact fun h => .cons h .nil
theorem Dx.null {q:Int→Bool} {t:Int} {r:Nat} (hcl:∀ (n:Int) (y:Ex),0≤n→bs[n.toNat]?=some y→canE false q y=true→q n=true) (hok:∀ y ∈ bs,okE t r y) {w:Ex ⊕ List Ex} {i j:Nat} (h:Dx bs l w i j) :
 i=j→match w with
  | .inl x => okE t r x→canE false q x=true
  | .inr xs => (∀ x ∈ xs,okE t r x)→∀ x ∈ xs,canE false q x=true:=by
 induction h with
 | tok h1 h2 => intro h; omega
 | @call x y i j h1 h2 h3 ih =>
  intro e; dsimp only; intro ho
  rw [canE_eq,if_neg (by rw [h1]; decide),if_pos h1]
  exact hcl _ y (ho.call h1).1 h2 (ih e (hok y (List.mem_of_getElem? h2)))
 | @alt x y i j h1 h2 h3 ih =>
  intro e; dsimp only; intro ho
  rw [canE_eq,if_neg (by rw [h1]; decide),if_neg (by rw [h1]; decide),if_pos h1]
  exact List.any_eq_true.2 ⟨y,h2,ih e (ho.sub h2)⟩
 | opt0 h1 => intro _; dsimp only; intro _; rw [canE_eq,h1]; rfl
 | opt1 h1 h2 h3 => intro _; dsimp only; intro _; rw [canE_eq,h1]; rfl
 | star0 h1 => intro _; dsimp only; intro _; rw [canE_eq,h1]; rfl
 | star1 h1 h2 h3 => intro _; dsimp only; intro _; rw [canE_eq,h1]; rfl
 | @seq x i j h1 h2 ih =>
  intro e; dsimp only; intro ho
  rw [canE_eq,if_neg h1.1,if_neg h1.2.1,if_neg h1.2.2.1]
  split
  · have:=ih e fun y hy => ho.sub hy
    simpa using this
  · rfl
 | nil => intro _; dsimp only; intro _ x hx; cases hx
 | @cons y r i k j h1 h2 ih1 ih2 =>
  intro e; dsimp only; intro ho x hx
  have a:=h1.le
  have b:=h2.le
  rcases List.mem_cons.1 hx with rfl | hx
  · exact ih1 (by omega) (ho x (by simp))
  · exact ih2 (by omega) (fun z hz => ho z (by simp [hz])) x hx
end
inductive Beg (q:Int→Bool):Ex→Nat→Prop
 | call {x:Ex}:x.kind=2→Beg q x x.num.toNat
 | sub {x y:Ex} {n:Nat}:x.kind≠3→y ∈ x.l→Beg q y n→Beg q x n
 | seq {x y:Ex} {pre post:List Ex} {n:Nat}:x.l=pre ++ y :: post→(∀ z ∈ pre,canE false q z=true)→Beg q y n→Beg q x n
def IsEnd (bs:List Ex) (l:List Int) (x:Ex) (i P:Nat):Prop:=∀ j,P.testBit j=true ↔ Der bs l x i j
theorem pow_lt {n P:Nat} (hn:n≤64) (h:∀ j,P.testBit j=true→j≤n):P < 2 ^ 128:=by
 apply Nat.lt_pow_two_of_testBit
 intro i hi
 cases e:P.testBit i with
 | false => rfl
 | true => have:=h i e; omega
theorem IsEnd.lt {bs:List Ex} {l:List Int} {x:Ex} {i P:Nat} (h:IsEnd bs l x i P) (hi:i≤l.length) (hl:l.length≤64):P < 2 ^ 128:=pow_lt hl fun j hj => ((h j).1 hj).len hi
def intsD (l:List Int):List (List D):=l.map fun n => [.int .i64 n]
def TokAt (σ:St) (a:A) (l:List Int):Prop:=(∃ z,a=.d (.slc z (intsD l)))∨∃ k,a=.row k 0 l.length 1∧k < σ.n∧σ.get k=.cells (((intsD l).flatMap id).map A.d)
theorem intsD_one (l:List Int):∀ x ∈ intsD l,x.length=1:=by intro x hx; obtain ⟨n,-,rfl⟩:=List.mem_map.1 hx; rfl
theorem intsD_len (l:List Int):(intsD l).length=l.length:=by simp [intsD]
theorem TokAt.sl {σ:St} {a:A} {l:List Int} (h:TokAt σ a l):SlV 1 σ a (intsD l):=by
 rcases h with ⟨z,rfl⟩ | ⟨k,rfl,hk,hc⟩
 · exact SlV.data (intsD_one l)
 · exact RowAt.sl (bs:=[k]) (by omega) ⟨intsD_one l,.inr ⟨k,by rw [intsD_len],hc,hk,rfl⟩⟩
theorem TokAt.stay {σ τ:St} {a:A} {l:List Int} (h:TokAt σ a l) (hn:σ.n≤τ.n) (hg:∀ k,k < σ.n→(∃ cs,σ.get k=.cells cs)→τ.get k=σ.get k):TokAt τ a l:=by
 rcases h with ⟨z,rfl⟩ | ⟨k,rfl,hk,hc⟩
 · exact .inl ⟨z,rfl⟩
 · exact .inr ⟨k,rfl,by omega,by rw [hg k hk ⟨_,hc⟩]; exact hc⟩
theorem TokAt.cell {σ:St} {a:A} {l:List Int} (h:TokAt σ a l):a.isCell=true:=by rcases h with ⟨z,rfl⟩ | ⟨k,rfl,-⟩ <;> rfl
theorem TokAt.cells {σ:St} {a:A} {l:List Int} (h:TokAt σ a l):a.cells=some [a]:=by rcases h with ⟨z,rfl⟩ | ⟨k,rfl,-⟩ <;> rfl
theorem TokAt.len {σ:St} {a:A} {l:List Int} (h:TokAt σ a l):sliceLen σ a=some l.length:=by rw [h.sl.len,intsD_len]
theorem eq_int {σ:St} {a b:Int}:eqT (XX fz) σ 8 3 (.d (.int .i64 a)) (.d (.int .i64 b))=some (a == b):=by
 rw [eqT,ti3]; rfl
theorem key_int {a:Int}:keyT (XX fz) 8 3 (.d (.int .i64 a))=true:=by rw [keyT,ti3]
end Go.Am
namespace Go.Am
open Go Go.Proofs
variable {fz:Nat→Md}
theorem CallsTo.cutE {X:X} {f:Nat} {cap args:List A} {F:AFn} {σ:St} {P:A→St→List Nat→Prop} (hz:X.fz f=.cut) (hF:X.fn f=some F) (hl:args.length+cap.length≤F.nt)
 (e:Ev X f F.nt none σ.n [.code F.body] (initTm (args ++ cap) 0 .nil) σ [] (RetQ X F.results fun a σ1 W1 => a.under σ.n=true∧Mod σ σ1 W1∧(∀ k,k ∈ W1→(σ1.get k).under σ.n=true)∧P a σ1 W1)) :
 ∃ a σ' W' σ1,CallsTo X (.func f cap) args σ a σ' W'∧Mod σ σ' W'∧σ'.n=σ.n∧(∀ k,k < σ.n→σ'.get k=σ1.get k)∧P a σ1 W':=by
 obtain ⟨n,o,hn,hq⟩:=e
 cases o with
 | leave _ _ _ => exact hq.elim
 | ret tm σ1 W1 =>
  unfold RetQ at hq
  dsimp only at hq
  split at hq
  · rename_i l hl'
    obtain ⟨hr,h4,h5,h6⟩:=hq
    refine ⟨_,cutSt σ σ1 W1,W1,σ1,CallsTo.ofQ hF hl ⟨n,_,hn,?_⟩,⟨by rw [n_cutSt]; exact Nat.le_refl _,fun k _ hk => by rw [get_cutSt,if_neg hk],h4.lt⟩,n_cutSt _ _ _,fun k hk => ?_,h6⟩
    · unfold RetQ; dsimp only; rw [hl']
      simp [leaveCall,hz,hr]
      exact fun k hk e => absurd (h5 k hk) (by rw [e]; simp)
    · rw [get_cutSt]; split
      · rfl
      · rename_i h; exact (h4.same k hk h).symm
  · exact hq.elim
section
variable (bs:List Ex) (l:List Int)
def Fact (x:Ex) (i P:Nat):Prop:=i≤l.length∧IsEnd bs l x i P
structure Chart (T:Nat→Rl) (kc lo:Nat) (σ:St):Prop where
 n:lo≤σ.n
 parts:Parts (Fact bs l) σ T
 plt:∀ k,T k≠.no→k < lo
 no:T kc=.no
 lt:kc < lo
 cell:∃ tk kb,σ.get kc=.cells [tk,.row kb 0 bs.length 1]∧T kb=.own bs∧TokAt σ tk l∧∀ k ∈ tk.refs,k < lo∧T k=.no
end
section
variable {bs:List Ex} {l:List Int} {T:Nat→Rl} {kc lo:Nat} {σ τ ρ:St}
theorem Chart.mono (h:Chart bs l T kc lo σ) (hn:lo≤τ.n) (hg:∀ k,k < lo→(∀ x,T k≠.map x)→τ.get k=σ.get k) (hm:∀ k x,T k=.map x→∃ M,τ.get k=.map (ME M)∧∀ e ∈ M,Fact bs l x e.1 e.2):Chart bs l T kc lo τ where
 n:=hn
 parts:=by
  refine ⟨fun k hk => Nat.lt_of_lt_of_le (h.plt k hk) hn,fun k x hk => ?_,fun k x hk => ?_,hm⟩
  · rw [hg k (h.plt k (by rw [hk]; simp)) (by rw [hk]; simp)]; exact h.parts.part k x hk
  · rw [hg k (h.plt k (by rw [hk]; simp)) (by rw [hk]; simp)]; exact h.parts.own k x hk
 plt:=h.plt
 no:=h.no
 lt:=h.lt
 cell:=by
  obtain ⟨tk,kb,h1,h2,h3,h4⟩:=h.cell
  refine ⟨tk,kb,by rw [hg kc h.lt (by rw [h.no]; simp)]; exact h1,h2,?_,h4⟩
  rcases h3 with ⟨z,rfl⟩ | ⟨k,rfl,q1,q2⟩
  · exact .inl ⟨z,rfl⟩
  · have:=h4 k (by simp [A.refs])
    exact .inr ⟨k,rfl,by omega,by rw [hg k this.1 (by rw [this.2]; simp)]; exact q2⟩
theorem Chart.same (h:Chart bs l T kc lo σ) (hn:lo≤τ.n) (hg:∀ k,k < lo→τ.get k=σ.get k):Chart bs l T kc lo τ :=
 h.mono hn (fun k hk _ => hg k hk) fun k x hk => by rw [hg k (h.plt k (by rw [hk]; simp))]; exact h.parts.map k x hk
structure Fr (bs:List Ex) (l:List Int) (T:Nat→Rl) (kc lo:Nat) (σ τ:St) (W:List Nat):Prop where
 ch:Chart bs l T kc lo τ
 mod:Mod σ τ W
 maps:∀ k ∈ W,k < lo∧∃ y,T k=.map y
variable {W S:List Nat} {k:Nat} {b:Blk}
theorem Fr.init (h:Chart bs l T kc lo σ):Fr bs l T kc lo σ σ []:=⟨h,Mod.refl,by simp⟩
theorem Fr.push (h:Fr bs l T kc lo σ τ W):Fr bs l T kc lo σ (τ.push b) W :=
 ⟨h.ch.same (by rw [St.n_push]; have:=h.ch.n; omega) fun k hk => St.get_push_ne (by have:=h.ch.n; omega),h.mod.push,h.maps⟩
theorem Fr.set (h:Fr bs l T kc lo σ τ W) (hlo:lo≤σ.n) (hk:σ.n≤k):Fr bs l T kc lo σ (τ.set k b) W :=
 ⟨h.ch.same (by rw [St.n_set]; exact h.ch.n) fun j hj => St.get_set_ne (by omega),h.mod.set hk,h.maps⟩
theorem Fr.call (h:Fr bs l T kc lo σ τ W) (g:Fr bs l T kc lo τ ρ S):Fr bs l T kc lo σ ρ (W ++ low σ.n S) :=
 ⟨g.ch,h.mod.call g.mod,fun k hk => by
  rw [List.mem_append,mem_low] at hk
  exact hk.elim (h.maps k) fun q => g.maps k q.1⟩
theorem Fr.keep (h:Fr bs l T kc lo σ τ W) {k:Nat} (hk:k < σ.n) (hlo:lo≤k):τ.get k=σ.get k:=h.mod.same k hk fun hw => by have:=(h.maps k hw).1; omega
end
end Go.Am

/- Part A1 of a proof that runs a program's calls on a small machine whose values bear no addresses: no conditions. -/
import Derived.Calls
import Derived.Orders
set_option autoImplicit false
set_option linter.unusedSimpArgs false
set_option linter.unusedVariables false
set_option linter.unusedSectionVars false
namespace Go.Am
open Go
inductive D where
 | bool (b:Bool)
 | int (k:IntKind) (n:Int)
 | str (s:ByteArray)
 | slc (nil:Bool) (xs:List (List D))
 | vptr (cs:List D) (off:Nat)
 | nptr
 | nmap
 | nfunc
inductive A where
 | d (x:D)
 | ptr (k off:Nat)
 | row (k off len es:Nat)
 | map (k:Nat)
 | func (f:Nat) (cap:List A)
 | yld (k:Nat)
 | agg (cs:List A)
 | tup (vs:List A)
 | top
inductive FT (α:Type) where
 | nil
 | node (v:Option α) (l r:FT α)
namespace FT
variable {α:Type}
def get:FT α→Nat→Option α
 | nil,_ => none
 | node v l r,k => match k with
  | 0 => v
  | k+1 => if k % 2=0 then l.get (k / 2) else r.get (k / 2)
def setF:Nat→FT α→Nat→α→FT α
 | 0,t,_,_ => t
 | _+1,nil,0,x => node (some x) nil nil
 | _+1,node _ l r,0,x => node (some x) l r
 | n+1,nil,k+1,x => if k % 2=0 then node none (setF n nil (k / 2) x) nil else node none nil (setF n nil (k / 2) x)
 | n+1,node v l r,k+1,x => if k % 2=0 then node v (setF n l (k / 2) x) r else node v l (setF n r (k / 2) x)
def set (t:FT α) (k:Nat) (x:α):FT α:=setF (k+1) t k x
theorem get_setF:∀ (n:Nat) (t:FT α) (k j:Nat) (x:α),k < n→(setF n t k x).get j=if j=k then some x else t.get j
 | 0,_,_,_,_,h => absurd h (Nat.not_lt_zero _)
 | n+1,nil,0,j,x,_ => by cases j <;> simp [setF,get]
 | n+1,node v l r,0,j,x,_ => by cases j <;> simp [setF,get]
 | n+1,nil,k+1,j,x,h => by
  have hk:k / 2 < n:=by omega
  by_cases e:k % 2=0
  · cases j with
    | zero => simp [setF,get,e]
    | succ j =>
     simp only [setF,e,if_true,get]
     by_cases e':j % 2=0
     · rw [if_pos e',get_setF n nil (k / 2) (j / 2) x hk]
       by_cases q:j=k
       · subst q; simp
       · rw [if_neg (by omega),if_neg (by omega)]; simp [get]
     · rw [if_neg e',if_neg (by omega)]
  · cases j with
    | zero => simp [setF,get,e]
    | succ j =>
     simp only [setF,e,if_false,get]
     by_cases e':j % 2=0
     · rw [if_pos e',if_neg (by omega)]
     · rw [if_neg e',get_setF n nil (k / 2) (j / 2) x hk]
       by_cases q:j=k
       · subst q; simp
       · rw [if_neg (by omega),if_neg (by omega)]; simp [get]
 | n+1,node v l r,k+1,j,x,h => by
  have hk:k / 2 < n:=by omega
  by_cases e:k % 2=0
  · cases j with
    | zero => simp [setF,get,e]
    | succ j =>
     simp only [setF,e,if_true,get]
     by_cases e':j % 2=0
     · rw [if_pos e',if_pos e',get_setF n l (k / 2) (j / 2) x hk]
       by_cases q:j=k
       · subst q; simp
       · rw [if_neg (by omega),if_neg (by omega)]
     · rw [if_neg e',if_neg e',if_neg (by omega)]
  · cases j with
    | zero => simp [setF,get,e]
    | succ j =>
     simp only [setF,e,if_false,get]
     by_cases e':j % 2=0
     · rw [if_pos e',if_pos e',if_neg (by omega)]
     · rw [if_neg e',if_neg e',get_setF n r (k / 2) (j / 2) x hk]
       by_cases q:j=k
       · subst q; simp
       · rw [if_neg (by omega),if_neg (by omega)]
theorem get_set (t:FT α) (k j:Nat) (x:α):(t.set k x).get j=if j=k then some x else t.get j:=get_setF _ t k j x (Nat.lt_succ_self k)
theorem get_nil (k:Nat):(nil:FT α).get k=none:=by cases k <;> rfl
end FT
abbrev Tm:=FT A
def Tm.at (t:Tm) (i:Nat):A:=(FT.get t i).getD .top
inductive LState where
 | ready | busy | over
 deriving DecidableEq
structure ALoop where
 fn:Nat
 nt:Nat
 tm:Tm
 params:Array Nat
 assign:Code
 body:Code
 st:LState
 pending:Option Code
inductive Blk where
 | cells (cs:List A)
 | map (es:List (A × A))
 | loop (l:ALoop)
 | dead
structure St where
 n:Nat
 m:Nat→Blk
def St.get (σ:St) (k:Nat):Blk:=σ.m k
def St.set (σ:St) (k:Nat) (b:Blk):St:=⟨σ.n,fun j => if j=k then b else σ.m j⟩
def St.push (σ:St) (b:Blk):St:=⟨σ.n+1,fun j => if j=σ.n then b else σ.m j⟩
def St.empty:St:=⟨0,fun _ => .dead⟩
theorem St.get_set (σ:St) (k j:Nat) (b:Blk):(σ.set k b).get j=if j=k then b else σ.get j:=rfl
theorem St.get_push (σ:St) (j:Nat) (b:Blk):(σ.push b).get j=if j=σ.n then b else σ.get j:=rfl
theorem St.ext' {σ τ:St} (h:σ.n=τ.n) (g:∀ k,σ.get k=τ.get k):σ=τ:=by
 cases σ; cases τ; cases h; congr 1; exact funext g
theorem St.set_set (σ:St) (k:Nat) (a b:Blk):(σ.set k a).set k b=σ.set k b:=St.ext' rfl fun j => by simp only [St.get_set]; split <;> rfl
theorem St.get_set_eq' {σ:St} {b:Blk} {k:Nat}:(σ.set k b).get k=b:=by rw [St.get_set,if_pos rfl]
theorem St.n_set (σ:St) (k:Nat) (b:Blk):(σ.set k b).n=σ.n:=rfl
theorem St.n_push (σ:St) (b:Blk):(σ.push b).n=σ.n+1:=rfl
theorem Tm.at_set (t:Tm) (i j:Nat) (a:A):Tm.at (FT.set t i a) j=if j=i then a else Tm.at t j:=by
 simp only [Tm.at,FT.get_set]; split <;> rfl
inductive TK where
 | bool | int (k:IntKind) | str
 | struct (fs:List (Nat × Nat × Nat))        -- of each field: where, how many cells, its type
 | arr (n es e:Nat)
 | slc (e:Nat)
 | ptr (e:Nat)
 | map (k e:Nat)
 | func
 | other
structure TI where
 kind:TK
 size:Nat
 bytes:Nat
 zero:Option (List A)
 zval:A:=.top
def TK.agg:TK→Bool
 | .struct _ | .arr _ _ _ => true
 | _ => false
def TI.agg (i:TI):Bool:=i.kind.agg
structure AFn where
 nt:Nat
 results:List ResultVar
 body:Code
inductive Md where
 | keep | cut | ice
 /-- told by itself, of data alone -/
 | ora (F:List A→Option A)
def oraOf:Md→Option (List A→Option A)
 | .ora F => some F
 | _ => none
structure X where
 ti:Nat→Option TI
 fn:Nat→Option AFn
 fz:Nat→Md
 cmp:Nat→Bool
def A.cells:A→Option (List A)
 | .agg cs => some cs
 | .tup _ | .top => none
 | a => some [a]
def A.isCell:A→Bool
 | .agg _ | .tup _ | .top => false
 | _ => true
def ofV1:Value→A
 | .bool b => .d (.bool b)
 | .int k n => .d (.int k n)
 | .string s => .d (.str s)
 | .pointer none => .d .nptr
 | .slice none 0 0 => .d (.slc true [])
 | .map none => .d .nmap
 | .nilFunc => .d .nfunc
 | _ => .top
def ofV:Value→A
 | .agg cs => .agg (cs.toList.map ofV1)
 | v => ofV1 v
def ev (tm:Tm):Operand→A
 | .tmp t => tm.at t
 | .const v => ofV v
 | .global _ => .top
 | .func f => .func f []
mutual
def A.under (n:Nat):A→Bool
 | .d _ => true
 | .ptr k _ => k < n
 | .row k _ _ _ => k < n
 | .map k => k < n
 | .func _ cap => A.underL n cap
 | .yld k => k < n
 | .agg cs => A.underL n cs
 | .tup vs => A.underL n vs
 | .top => true
def A.underL (n:Nat):List A→Bool
 | [] => true
 | a :: r => a.under n && A.underL n r
end
mutual
/-- the blocks that a value names -/
def A.refs:A→List Nat
 | .d _ => []
 | .ptr k _ => [k]
 | .row k _ _ _ => [k]
 | .map k => [k]
 | .func _ cap => A.refsL cap
 | .yld k => [k]
 | .agg cs => A.refsL cs
 | .tup vs => A.refsL vs
 | .top => []
def A.refsL:List A→List Nat
 | [] => []
 | a :: r => a.refs ++ A.refsL r
end
def Blk.under (n:Nat):Blk→Bool
 | .cells cs => A.underL n cs
 | .map es => es.all fun e => e.1.under n && e.2.under n
 | .loop _ => true
 | .dead => true
def asInt:A→Option (IntKind × Int)
 | .d (.int k n) => some (k,n)
 | _ => none
def partOf (agg:Bool) (size:Nat) (cs:List A) (off:Nat):Option A :=
 if agg then (if off+size≤cs.length then some (.agg ((cs.drop off).take size)) else none) else cs[off]?
def putAt (cs:List A) (off:Nat):List A→List A
 | [] => cs
 | a :: r => putAt (cs.set off a) (off+1) r
def fillA (place:Nat→Option (Nat × Nat)) (cells:List A):List (Nat × A)→Option (List A)
 | [] => some cells
 | (i,v) :: rest =>
  match place i,v.cells with
  | some (off,size),some vs => if vs.length≠size∨off+vs.length > cells.length then none else fillA place (putAt cells off vs) rest
  | _,_ => none
def rep (n:Nat) (z:List A):List A:=(List.range n).flatMap fun _ => z
def partT (X:X) (t:Nat) (cs:List A) (off:Nat):Option A :=
 match X.ti t with
 | some i => partOf i.agg i.size cs off
 | none => none
def eqFs (X:X) (f:Nat→A→A→Option Bool) (cs ds:List A):List (Nat × Nat × Nat)→Option Bool
 | [] => some true
 | (o,_,t) :: r => match partT X t cs o,partT X t ds o with
  | some x,some y => match f t x y with
   | some true => eqFs X f cs ds r
   | some false => some false
   | none => none
  | _,_ => none
def eqArr (X:X) (f:Nat→A→A→Option Bool) (cs ds:List A) (es e:Nat):Nat→Nat→Option Bool
 | 0,_ => some true
 | n+1,i => match partT X e cs (i * es),partT X e ds (i * es) with
  | some x,some y => match f e x y with
   | some true => eqArr X f cs ds es e n (i+1)
   | some false => some false
   | none => none
  | _,_ => none
def alive (σ:St) (k:Nat):Bool:=match σ.get k with | .dead => false | _ => true
def isCells (σ:St) (k:Nat):Bool:=match σ.get k with | .cells _ => true | _ => false
def eq1 (X:X) (σ:St):TK→A→A→Option Bool
 | .bool,.d (.bool a),.d (.bool b) => some (a == b)
 | .int _,.d (.int k a),.d (.int k' b) => if k=k' then some (a == b) else none
 | .str,.d (.str a),.d (.str b) => some (a == b)
 | .ptr _,.d .nptr,.d .nptr => some true
 | .ptr _,.d .nptr,.d (.vptr _ _) => some false
 | .ptr _,.d (.vptr _ _),.d .nptr => some false
 | .ptr _,.d .nptr,.ptr k _ => if alive σ k then some false else none
 | .ptr _,.ptr k _,.d .nptr => if alive σ k then some false else none
 | .ptr e,.ptr k o,.ptr k' o' => match X.ti e with
  | some i => if i.size≠0∧isCells σ k=true∧isCells σ k'=true then some (k == k' && o == o') else none
  | none => none
 | .slc _,.d (.slc true []),.d (.slc b _) => some b
 | .slc _,.d (.slc b _),.d (.slc true []) => some b
 | .slc _,.d (.slc true []),.row k _ _ _ => if alive σ k then some false else none
 | .slc _,.row k _ _ _,.d (.slc true []) => if alive σ k then some false else none
 | .map _ _,.d .nmap,.d .nmap => some true
 | .map _ _,.d .nmap,.map k => if alive σ k then some false else none
 | .map _ _,.map k,.d .nmap => if alive σ k then some false else none
 | .func,.d .nfunc,.d .nfunc => some true
 | .func,.d .nfunc,.func _ _ => some false
 | .func,.func _ _,.d .nfunc => some false
 | _,_,_ => none
def eqT (X:X) (σ:St):Nat→Nat→A→A→Option Bool
 | 0,_,_,_ => none
 | n+1,t,x,y => match X.ti t with
  | some i => match i.kind,x,y with
   | .struct fs,.agg cs,.agg ds => if X.cmp t then eqFs X (eqT X σ n) cs ds fs else none
   | .arr len es e,.agg cs,.agg ds => if es=0∨X.cmp t=false then none else eqArr X (eqT X σ n) cs ds es e len 0
   | k,x,y => eq1 X σ k x y
  | none => none
def keyFs (X:X) (f:Nat→A→Bool) (cs:List A):List (Nat × Nat × Nat)→Bool
 | [] => true
 | (o,_,t) :: r => match partT X t cs o with
  | some x => f t x && keyFs X f cs r
  | none => false
def keyArr (X:X) (f:Nat→A→Bool) (cs:List A) (es e:Nat):Nat→Nat→Bool
 | 0,_ => true
 | n+1,i => match partT X e cs (i * es) with
  | some x => f e x && keyArr X f cs es e n (i+1)
  | none => false
def keyT (X:X):Nat→Nat→A→Bool
 | 0,_,_ => false
 | n+1,t,x => match X.ti t with
  | some i => match i.kind,x with
   | .struct fs,.agg cs => X.cmp t && keyFs X (keyT X n) cs fs
   | .arr len es e,.agg cs => if es=0 then false else keyArr X (keyT X n) cs es e len 0
   | .int _,.d (.int _ _) => true
   | .str,.d (.str _) => true
   | .bool,.d (.bool _) => true
   | .ptr _,.ptr _ _ => true
   | .ptr _,.d .nptr => true
   | _,_ => false
  | none => false
def intOp (op:BinOp) (k:IntKind) (a b:Int):Option D :=
 match op with
 | .add => some (.int k (k.wrap (a+b)))
 | .sub => some (.int k (k.wrap (a - b)))
 | .mul => some (.int k (k.wrap (a * b)))
 | .quo => if b=0 then none else some (.int k (k.wrap (a.tdiv b)))
 | .rem => if b=0 then none else some (.int k (a.tmod b))
 | .and => some (.int k (k.wrap (BitVec.ofInt k.bits a &&& BitVec.ofInt k.bits b).toNat))
 | .or => some (.int k (k.wrap (BitVec.ofInt k.bits a ||| BitVec.ofInt k.bits b).toNat))
 | .xor => some (.int k (k.wrap (BitVec.ofInt k.bits a ^^^ BitVec.ofInt k.bits b).toNat))
 | .andNot => some (.int k (k.wrap (BitVec.ofInt k.bits a &&& ~~~ BitVec.ofInt k.bits b).toNat))
 | .eql => some (.bool (a == b))
 | .neq => some (.bool (a != b))
 | .lss => some (.bool (a < b))
 | .leq => some (.bool (a≤b))
 | .gtr => some (.bool (a > b))
 | .geq => some (.bool (a ≥ b))
 | .shl | .shr => none
def binA (X:X) (σ:St) (op:BinOp) (t:Nat) (x y:A):Option A :=
 match op,x,y with
 | .shl,.d (.int k a),.d (.int _ b) => if b < 0 then none else some (.d (.int k (k.wrap (a * 2 ^ (min b.toNat k.bits)))))
 | .shr,.d (.int k a),.d (.int _ b) => if b < 0 then none else some (.d (.int k (a.fdiv (2 ^ (min b.toNat k.bits)))))
 | op,.d (.int k a),.d (.int k' b) => if k=k' then (intOp op k a b).map .d else none
 | .eql,.d (.str a),.d (.str b) => some (.d (.bool (a.toList == b.toList)))
 | .neq,.d (.str a),.d (.str b) => some (.d (.bool !(a.toList == b.toList)))
 | _,.d (.str _),.d (.str _) => none
 | .eql,x,y => (eqT X σ 8 t x y).map fun b => .d (.bool b)
 | .neq,x,y => (eqT X σ 8 t x y).map fun b => .d (.bool !b)
 | _,_,_ => none
inductive OpR where
 | val (a:A) (σ:St) (T R:List Nat)
 | call (f:A) (args:List A)
 | bad
def OpR.of (σ:St) (R:List Nat):Option A→OpR
 | some a => .val a σ [] R
 | none => .bad
def loadA (i:TI) (σ:St):A→Option (A × List Nat)
 | .ptr k off => match σ.get k with
  | .cells cs => (partOf i.agg i.size cs off).map fun a => (a,[k])
  | _ => none
 | .d (.vptr cs off) => (partOf i.agg i.size (cs.map A.d) off).map fun a => (a,[])
 | _ => none
def storeA (i:TI) (σ:St) (p v:A):Option (St × List Nat) :=
 match p,v.cells with
 | .ptr k off,some vs => match σ.get k with
  | .cells cs => if vs.length=i.size∧off+vs.length≤cs.length∧vs.all A.isCell=true then some (σ.set k (.cells (putAt cs off vs)),[k]) else none
  | _ => none
 | _,_ => none
def sliceCells (σ:St):A→Option (List A)
 | .d (.slc _ xs) => some ((xs.flatMap id).map A.d)
 | .row k off len es => match σ.get k with
  | .cells cs => if off+len * es≤cs.length then some ((cs.drop off).take (len * es)) else none
  | _ => none
 | _ => none
def sliceLen (σ:St):A→Option Nat
 | .d (.slc _ xs) => some xs.length
 | .row k _ len _ => if alive σ k then some len else none
 | _ => none
def appendA (es bytes:Nat) (σ:St) (s x:A):OpR :=
 match sliceCells σ x,sliceLen σ x with
 | some new,some n =>
  if new.length≠n * es∨new.all A.isCell=false then .bad else
  match s with
  | .d (.slc true []) => if n=0 then .val s σ [] [] else
   if n * bytes≤2 ^ 47∧n < 2 ^ 62 then .val (.row σ.n 0 n es) (σ.push (.cells new)) [] [] else .bad
  | .row k off len es' => match σ.get k with
   | .cells cs =>
    if es'≠es∨¬ off+len * es≤cs.length then .bad else
    if n=0 then .val s σ [] [] else
    if (len+n) * bytes≤2 ^ 47∧len+n < 2 ^ 62 then
     .val (.row σ.n 0 (len+n) es) ((σ.set k .dead).push (.cells ((cs.drop off).take (len * es) ++ new))) [k] []
    else .bad
   | _ => .bad
  | _ => .bad
 | _,_ => .bad
def growA (σ:St) (n:Nat):Option TI→OpR
 | some { size:=es,bytes:=b,zero:=some z,.. } => if 0 < es∧z.length=es∧0 < n∧n * b≤2 ^ 47∧n < 2 ^ 62 then .val (.row σ.n 0 n es) (σ.push (.cells (rep n z))) [] [] else .bad
 | _ => .bad
def copyA (es:Nat) (σ:St) (dst src:A):OpR :=
 match dst,sliceCells σ src,sliceLen σ src with
 | .row k off len es',some new,some n => match σ.get k with
  | .cells cs =>
   let m:=min n len
   if es'≠es∨new.length≠n * es∨new.all A.isCell=false∨¬ off+len * es≤cs.length then .bad else
   .val (.d (.int .i64 m)) (σ.set k (.cells (putAt cs off (new.take (m * es))))) [k] []
  | _ => .bad
 | _,_,_ => .bad
def sameK1 (σ:St):A→A→Bool
 | .d (.int j a),.d (.int k b) => j == k && a == b
 | .d (.str a),.d (.str b) => a == b
 | .d (.bool a),.d (.bool b) => a == b
 | .ptr k o,.ptr k' o' => alive σ k && k == k' && o == o'
 | _,_ => false
def sameKs (σ:St):List A→List A→Bool
 | [],[] => true
 | a :: r,b :: s => sameK1 σ a b && sameKs σ r s
 | _,_ => false
def sameK (σ:St):A→A→Bool
 | .agg cs,.agg ds => sameKs σ cs ds
 | a,b => sameK1 σ a b
def mapFind (X:X) (σ:St) (kt:Nat) (key:A):List (A × A)→Nat→Option (Option (Nat × A))
 | [],_ => some none
 | (k,v) :: r,i => match eqT X σ 8 kt key k with
  | some true => some (some (i,v))
  | some false => mapFind X σ kt key r (i+1)
  | none => none
def mmStep (gt:Bool) (acc:Option A) (y:A):Option A :=
 match acc,y with
 | some (.d (.int k x)),.d (.int k' y) => if k=k' then some (.d (.int k (if gt then (if y > x then y else x) else (if y < x then y else x)))) else none
 | _,_ => none
def minmax (gt:Bool):List A→Option A
 | .d (.int k a) :: rest => rest.foldl (mmStep gt) (some (.d (.int k a)))
 | _ => none
def bnd (tm:Tm) (o:Option Operand) (dflt:Nat):Option Nat:=match o with
 | none => some dflt
 | some p => match ev tm p with
  | .d (.int _ n) => if 0≤n then some n.toNat else none
  | _ => none
def evalOp (X:X) (tm:Tm) (σ:St) (o:Oper):OpR :=
 match o.op with
 | .move x | .assign x => .val (ev tm x) σ [] []
 | .pick c a b => match ev tm c with
  | .d (.bool t) => .val (if t then ev tm a else ev tm b) σ [] []
  | _ => .bad
 | .alloc t => match X.ti t with
  | some { zero:=some z,.. } => .val (.ptr σ.n 0) (σ.push (.cells z)) [] []
  | _ => .bad
 | .box _ x => match (ev tm x).cells with
  | some cs => .val (.ptr σ.n 0) (σ.push (.cells cs)) [] []
  | none => .bad
 | .build t parts => match X.ti t with
  | some { kind:=.struct fs,zero:=some z,.. } => OpR.of σ [] ((fillA (fun i => (fs[i]?).map fun f => (f.1,f.2.1)) z (parts.toList.map fun p => (p.1,ev tm p.2))).map .agg)
  | some { kind:=.arr _ es _,zero:=some z,.. } => OpR.of σ [] (if es=0 then none else (fillA (fun i => some (i * es,es)) z (parts.toList.map fun p => (p.1,ev tm p.2))).map .agg)
  | _ => .bad
 | .buildSlice t len parts => match X.ti t with
  | some { kind:=.slc e,.. } => match X.ti e with
   | some { size:=es,zero:=some z,.. } =>
    if z.length=es∧0 < es∧len * es≤2 ^ 24 then
     match fillA (fun i => some (i * es,es)) (rep len z) (parts.toList.map fun p => (p.1,ev tm p.2)) with
     | some cs => .val (.row σ.n 0 len es) (σ.push (.cells cs)) [] []
     | none => .bad
    else .bad
   | _ => .bad
  | _ => .bad
 | .load t a => match X.ti t with
  | some i => match loadA i σ (ev tm a) with
   | some (v,R) => .val v σ [] R
   | none => .bad
  | none => .bad
 | .store t a v => match X.ti t with
  | some i => match storeA i σ (ev tm a) (ev tm v) with
   | some (σ',T) => .val .top σ' T []
   | none => .bad
  | none => .bad
 | .nilCheck x => match ev tm x with
  | .ptr k off => match σ.get k with
   | .dead => .bad
   | _ => .val (.ptr k off) σ [] [k]
  | .d (.vptr cs off) => .val (.d (.vptr cs off)) σ [] []
  | .func f cap => .val (.func f cap) σ [] []
  | _ => .bad
 | .binOp op t x y _ => OpR.of σ ((ev tm x).refs ++ (ev tm y).refs) (binA X σ op t (ev tm x) (ev tm y))
 | .unOp op _ x => match op,ev tm x with
  | .not,.d (.bool b) => .val (.d (.bool !b)) σ [] []
  | .neg,.d (.int k n) => .val (.d (.int k (k.wrap (0 - n)))) σ [] []
  | _,_ => .bad
 | .convert src dst x => match X.ti src,X.ti dst,ev tm x with
  | some _,some { kind:=.int k,.. },.d (.int _ n) => .val (.d (.int k (k.wrap n))) σ [] []
  | some _,some { kind:=.str,.. },.d (.str s) => .val (.d (.str s)) σ [] []
  | _,_,_ => .bad
 | .makeFunc (.func f) first captured => if first.isEmpty then .val (.func f (captured.toList.map (ev tm))) σ [] [] else .bad
 | .makeMap t none => match X.ti t with
  | some { kind:=.map _ _,.. } => .val (.map σ.n) (σ.push (.map [])) [] []
  | _ => .bad
 | .makeSlice t l c => match X.ti t,ev tm l,ev tm c with
  | some { kind:=.slc e,.. },.d (.int .i64 l),.d (.int .i64 c) => match X.ti e with
   | some { size:=es,bytes:=b,zero:=some z,.. } =>
    if z.length=es∧0 < es∧0≤l∧l≤c∧c < 2 ^ 62∧b * c≤2 ^ 47 then .val (.row σ.n 0 l.toNat es) (σ.push (.cells (rep l.toNat z))) [] [] else .bad
   | _ => .bad
  | _,_,_ => .bad
 | .slice t x lo hi none =>
  match X.ti t,ev tm x with
  | some { kind:=.slc e,.. },.d (.slc nil xs) => match bnd tm hi xs.length,X.ti e with
   | some h,some ie => match bnd tm lo 0 with
    | some l => if l≤h∧h≤xs.length∧((xs.take h).drop l).all (fun c => c.length == ie.size)=true then .val (.d (.slc nil ((xs.take h).drop l))) σ [] [] else .bad
    | none => .bad
   | _,_ => .bad
  | some { kind:=.slc e,.. },.row k off len es => match bnd tm hi len,X.ti e with
   | some h,some ie => match bnd tm lo 0 with
    | some l => match σ.get k with
     | .dead => .bad
     | _ => if l≤h∧h≤len∧ie.size=es then .val (.row k (off+l * es) (h - l) es) σ [] [k] else .bad
    | none => .bad
   | _,_ => .bad
  | some { kind:=.arr n es _,.. },.ptr k off => match bnd tm hi n with
   | some h => match bnd tm lo 0 with
    | some l => match σ.get k with
     | .cells cs => if l≤h∧h≤n∧0 < es∧off+n * es≤cs.length then .val (.row k (off+l * es) (h - l) es) σ [] [k] else .bad
     | _ => .bad
    | none => .bad
   | none => .bad
  | _,_ => .bad
 | .fieldAddr s x f => match X.ti s with
  | some { kind:=.struct fs,.. } => match fs[f]?,ev tm x with
   | some (o,size,_),.ptr k off => match σ.get k with
    | .dead => .bad
    | _ => if size=0 then .bad else .val (.ptr k (off+o)) σ [] [k]
   | some (o,size,_),.d (.vptr cs off) => if size=0 then .bad else .val (.d (.vptr cs (off+o))) σ [] []
   | _,_ => .bad
  | _ => .bad
 | .indexAddr t x ix => match X.ti t,ev tm x,ev tm ix with
  | some { kind:=.slc e,.. },.d (.slc _ xs),.d (.int _ i) => match X.ti e with
   | some ie => if 0≤i then match xs[i.toNat]? with
    | some c => if c.length=ie.size then .val (.d (.vptr c 0)) σ [] [] else .bad
    | none => .bad else .bad
   | none => .bad
  | some { kind:=.slc e,.. },.row k off len es,.d (.int _ i) => match X.ti e with
   | some ie => match σ.get k with
    | .dead => .bad
    | _ => if 0≤i∧i < len∧ie.size=es then .val (.ptr k (off+i.toNat * es)) σ [] [k] else .bad
   | none => .bad
  | some { kind:=.arr n es _,.. },.ptr k off,.d (.int _ i) => match σ.get k with
   | .dead => .bad
   | _ => if 0≤i∧i < n∧0 < es then .val (.ptr k (off+i.toNat * es)) σ [] [k] else .bad
  | _,_,_ => .bad
 | .lookup t x k ok => match X.ti t with
  | some { kind:=.map kt e,.. } => match X.ti e with
   | some { zero:=some _,zval:=zv,.. } =>
    if keyT X 8 kt (ev tm k)=false then .bad else
    match ev tm x with
    | .d .nmap => .val (if ok then .tup [zv,.d (.bool false)] else zv) σ [] []
    | .map m => match σ.get m with
     | .map es => match mapFind X σ kt (ev tm k) es 0 with
      | some (some (_,v)) => .val (if ok then .tup [v,.d (.bool true)] else v) σ [] (m :: ((ev tm k).refs ++ es.flatMap fun e => e.1.refs))
      | some none => .val (if ok then .tup [zv,.d (.bool false)] else zv) σ [] (m :: ((ev tm k).refs ++ es.flatMap fun e => e.1.refs))
      | none => .bad
     | _ => .bad
    | _ => .bad
   | _ => .bad
  | _ => .bad
 | .mapUpdate t m k v | .insert t m k v => match X.ti t,ev tm m with
  | some { kind:=.map kt _,.. },.map r => match σ.get r with
   | .map es => if keyT X 8 kt (ev tm k)=false then .bad else match mapFind X σ kt (ev tm k) es 0 with
    | some (some (i,_)) => match es[i]? with
     | some e => if sameK σ e.1 (ev tm k) then .val .top (σ.set r (.map (es.set i (ev tm k,ev tm v)))) [r] [] else .bad
     | none => .bad
    | some none => .val .top (σ.set r (.map (es ++ [(ev tm k,ev tm v)]))) [r] []
    | none => .bad
   | _ => .bad
  | _,_ => .bad
 | .mapEntry t m k => match X.ti t,ev tm m with
  | some { kind:=.map kt e,.. },.map r => match X.ti e with
   | some { zero:=some _,zval:=zv,.. } => match σ.get r with
    | .map es => if keyT X 8 kt (ev tm k)=false then .bad else match mapFind X σ kt (ev tm k) es 0 with
     | some (some (i,v)) => match es[i]? with
      | some e => if sameK σ e.1 (ev tm k) then .val (.tup [v,.d (.int .i64 (i:Int))]) (σ.set r (.map (es.set i (ev tm k,e.2)))) [r] [] else .bad
      | none => .bad
     | some none => .val (.tup [zv,.d (.int .i64 (es.length:Int))]) (σ.set r (.map (es ++ [(ev tm k,zv)]))) [r] []
     | none => .bad
    | _ => .bad
   | _ => .bad
  | _,_ => .bad
 | .entryStore _ m s v => match ev tm m,ev tm s with
  | .map r,.d (.int .i64 (.ofNat i)) => match σ.get r with
   | .map es => match es[i]? with
    | some e => .val .top (σ.set r (.map (es.set i (e.1,ev tm v)))) [r] []
    | none => .bad
   | _ => .bad
  | _,_ => .bad
 | .extract x i => match ev tm x with
  | .tup vs => OpR.of σ [] vs[i]?
  | _ => .bad
 | .call c => match c.callee with
  | .value f => .call (ev tm f) (c.args.toList.map (ev tm))
  | .builtin .len => match c.args.toList.map (ev tm),(c.argTypes[0]?).bind X.ti with
   | [a],some { kind:=.slc _,.. } => OpR.of σ a.refs ((sliceLen σ a).map fun n => .d (.int .i64 n))
   | [.d (.str s)],some { kind:=.str,.. } => .val (.d (.int .i64 s.size)) σ [] []
   | [_],some { kind:=.arr n _ _,.. } => .val (.d (.int .i64 n)) σ [] []
   | [.d .nmap],some { kind:=.map _ _,.. } => .val (.d (.int .i64 0)) σ [] []
   | [.map m],some { kind:=.map _ _,.. } => match σ.get m with
    | .map es => .val (.d (.int .i64 es.length)) σ [] [m]
    | _ => .bad
   | _,_ => .bad
  | .builtin .append => match c.args.toList.map (ev tm),(c.argTypes[0]?).bind X.ti,(c.argTypes[1]?).bind X.ti with
   | [s,x],some { kind:=.slc e,.. },some { kind:=.slc _,.. } => match X.ti e with
    | some { size:=es,bytes:=b,zero:=some z,.. } => if 0 < es∧z.length=es then appendA es b σ s x else .bad
    | _ => .bad
   | [.d (.slc true []),.d (.int .i64 (.ofNat n))],some { kind:=.slc e,.. },some { kind:=.int _,.. } => growA σ n (X.ti e)
   | _,_,_ => .bad
  | .builtin .cap => match c.args.toList.map (ev tm),(c.argTypes[0]?).bind X.ti with
   | [.d (.slc true [])],some { kind:=.slc _,.. } => .val (.d (.int .i64 0)) σ [] []
   | _,_ => .bad
  | .builtin .copy => match c.args.toList.map (ev tm),(c.argTypes[0]?).bind X.ti with
   | [d,s],some { kind:=.slc e,.. } => match X.ti e with
    | some { size:=es,.. } => if 0 < es then copyA es σ d s else .bad
    | none => .bad
   | _,_ => .bad
  | .builtin .min => OpR.of σ [] (minmax false (c.args.toList.map (ev tm)))
  | .builtin .max => OpR.of σ [] (minmax true (c.args.toList.map (ev tm)))
  | _ => .bad
 | _ => .bad
end Go.Am
namespace Go.Am
open Go
inductive Out where
 | ret (tm:Tm) (σ:St) (W:List Nat)
 | leave (jump:Option Code) (σ:St) (W:List Nat)
def wantedA (ops:Array Oper) (tm:Tm) (o:Oper):Bool :=
 match o.guard with
 | none => true
 | some (j,want) => match (ops[j]?).bind (·.dst) with
  | some t => match tm.at t with
   | .d (.bool b) => b == want
   | _ => false
  | none => false
def guardOk (ops:Array Oper) (tm:Tm) (o:Oper):Bool :=
 match o.guard with
 | none => true
 | some (j,_) => match (ops[j]?).bind (·.dst) with
  | some t => match tm.at t with
   | .d (.bool _) => true
   | .tup [] => true
   | _ => false
  | none => false
def sure (e:Edge):Bool:=match e.ground with
 | .textOnly _ | .gcOnly _ => false
 | _ => true
def aheads (ops:Array Oper):Array Nat :=
 ops.foldl (init:=#[]) fun acc o =>
  acc.push (o.after.foldl (fun s e => if sure e then s ||| 2 ^ e.on ||| acc.getD e.on 0 else s) 0)
structure Log where
 i:Nat
 T:List Nat
 R:List Nat
def heavy (o:Oper):Bool:=match o.op with
 | .store _ _ _ | .mapUpdate _ _ _ _ | .mapEntry _ _ _ | .entryStore _ _ _ _ | .insert _ _ _ _ => true
 | .call c => match c.callee with
  | .builtin .len | .builtin .min | .builtin .max => false
  | _ => true
 | _ => false
def heavyAt (ops:Array Oper) (i:Nat):Bool:=match ops[i]? with
 | some o => heavy o
 | none => true
def light (o:Oper):Bool:=!heavy o || match o.op with
 | .store _ _ _ => true
 | _ => false
def lightAt (ops:Array Oper) (i:Nat):Bool:=match ops[i]? with
 | some o => light o
 | none => false
def meets (a b:List Nat):Bool:=a.any fun x => b.contains x
def ordered (ops:Array Oper) (i j:Nat):Bool:=((aheads ops).getD i 0).testBit j || ((aheads ops).getD j 0).testBit i
def drawOk (ops:Array Oper) (log:List Log):Bool :=
 if log.all (fun l => l.T.isEmpty) then true else
 log.all fun x => x.T.isEmpty || log.all fun y => x.i == y.i || ordered ops x.i y.i || (lightAt ops y.i && !meets x.T y.R && !meets x.T y.T)
def regionOk (ops:Array Oper):Bool :=
 let b:=aheads ops
 (List.range ops.size).all fun j => match ops[j]? with
  | none => false
  | some oj => oj.after.all (fun e => !sure e || e.on < j) && (List.range j).all fun i => match ops[i]? with
   | none => false
   | some oi => oi.apart ops oj || (b.getD j 0).testBit i
def codeOk:Code→Bool
 | .region _ ops draw => !draw || regionOk ops
 | .seq a b => codeOk a && codeOk b
 | .cond _ a b => codeOk a && codeOk b
 | .block _ b => codeOk b
 | .loop b => codeOk b
 | .scope b => codeOk b
 | .rangeFunc _ _ a b => codeOk a && codeOk b
 | _ => true
def initTm:List A→Nat→Tm→Tm
 | [],_,t => t
 | a :: r,i,t => initTm r (i+1) (FT.set t i a)
def putTm (nt:Nat) (tm:Tm) (dst:Option Nat) (a:A):Option Tm :=
 match dst with
 | none => some tm
 | some d => if d < nt then some (FT.set tm d a) else none
def setParams:List Nat→List A→Tm→Tm
 | p :: ps,a :: r,t => setParams ps r (FT.set t p a)
 | _,_,t => t
def results (X:X) (tm:Tm) (σ:St):List ResultVar→Option (List A)
 | [] => some []
 | .tmp t :: r => (results X tm σ r).map fun l => tm.at t :: l
 | .cell a t :: r => match X.ti t with
  | some i => match loadA i σ (tm.at a) with
   | some (v,_) => (results X tm σ r).map fun l => v :: l
   | none => none
  | none => none
def tupOf:List A→A
 | [a] => a
 | l => .tup l
def chunks (es:Nat):Nat→List D→List (List D)
 | 0,_ => []
 | n+1,l => l.take es :: chunks es n (l.drop es)
mutual
def freeze (σ:St) (lo:Nat):Nat→A→Option D
 | _,.d x => some x
 | n+1,.ptr k off => if k < lo then none else match σ.get k with
  | .cells cs => (freezeL σ lo n cs).map fun ds => .vptr ds off
  | _ => none
 | n+1,.row k off len es => if k < lo then none else match σ.get k with
  | .cells cs => if off+len * es≤cs.length then (freezeL σ lo n ((cs.drop off).take (len * es))).map fun ds => .slc false (chunks es len ds) else none
  | _ => none
 | _,_ => none
def freezeL (σ:St) (lo:Nat):Nat→List A→Option (List D)
 | _,[] => some []
 | 0,_ :: _ => none
 | n+1,a :: r => match freeze σ lo n a with
  | some d => (freezeL σ lo n r).map fun l => d :: l
  | none => none
end
def freezeW (σ:St) (lo:Nat) (n:Nat):A→Option A
 | .agg cs => match freezeL σ lo n cs with
  | some l => some (.agg (l.map .d))
  | none => none
 | a => match freeze σ lo n a with
  | some x => some (.d x)
  | none => none
def freezeWs (σ:St) (lo:Nat) (n:Nat):List A→Option (List A)
 | [] => some []
 | a :: r => match freezeW σ lo n a,freezeWs σ lo n r with
  | some b,some l => some (b :: l)
  | _,_ => none
def freezeV (σ:St) (lo:Nat) (n:Nat):A→Option A
 | .tup vs => match freezeWs σ lo n vs with
  | some l => some (.tup l)
  | none => none
 | a => freezeW σ lo n a
def fzDepth:Nat:=1000000000000
def cutSt (σ₀ σ:St) (W:List Nat):St:=W.foldl (fun s k => s.set k (σ.get k)) σ₀
def leaveCall (fz:Md) (σ₀:St) (r:A) (σ:St) (W:List Nat):Option (A × St × List Nat) :=
 match fz with
 | .ice => match freezeV σ σ₀.n fzDepth r with
  | some r' => if W.all (fun k => (σ.get k).under σ₀.n) then some (r',cutSt σ₀ σ W,W) else none
  | none => none
 | .cut => if r.under σ₀.n && W.all (fun k => (σ.get k).under σ₀.n) then some (r,cutSt σ₀ σ W,W) else some (r,σ,W)
 | .keep => some (r,σ,W)
 | .ora _ => none
def A.pure:A→Bool
 | .d _ => true
 | .agg cs => cs.all fun c => match c with | .d _ => true | _ => false
 | _ => false
def A.pureT:A→Bool
 | .tup vs => vs.all A.pure
 | a => a.pure
def D.scalar:D→Bool
 | .slc true [] => true
 | .slc _ _ | .vptr _ _ => false
 | _ => true
def A.scalar:A→Bool
 | .d x => x.scalar
 | .agg cs => cs.all fun c => match c with | .d x => x.scalar | _ => false
 | _ => false
def A.scalarT:A→Bool
 | .tup vs => vs.all A.scalar
 | a => a.scalar
mutual
/-- the blocks that are read where a value is read as data -/
def visit (σ:St):Nat→A→List Nat
 | n+1,.ptr k _ => match σ.get k with
  | .cells cs => k :: visitL σ n cs
  | _ => []
 | n+1,.row k off len es => match σ.get k with
  | .cells cs => k :: visitL σ n ((cs.drop off).take (len * es))
  | _ => []
 | _,_ => []
def visitL (σ:St):Nat→List A→List Nat
 | _,[] => []
 | 0,_ :: _ => []
 | n+1,a :: r => visit σ n a ++ visitL σ n r
end
def visitW (σ:St) (n:Nat):A→List Nat
 | .agg cs => visitL σ n cs
 | a => visit σ n a
def visitWs (σ:St) (n:Nat):List A→List Nat
 | [] => []
 | a :: r => visitW σ n a ++ visitWs σ n r
def partSt (σ:St) (S:List Nat):St:=⟨σ.n,fun k => if S.contains k then σ.get k else .dead⟩
def lessSt (σ:St) (S:List Nat):St:=⟨σ.n,fun k => if S.contains k then .dead else σ.get k⟩
def oraCall (F:List A→Option A) (args:List A) (σ:St):Option (A × St × List Nat) :=
 if args.all A.pure then match F args with
  | some r => if r.pureT then some (r,σ,[]) else none
  | none => none
 else match freezeWs σ 0 fzDepth args with
  | some as => match F as with
   | some r => if r.scalarT then some (r,σ,[]) else
    match freezeWs (partSt σ (visitWs σ fzDepth args)) 0 fzDepth args with
    | some as' => match F as' with
     | some r' => if r'.pureT then some (r',lessSt σ (visitWs σ fzDepth args),visitWs σ fzDepth args) else none
     | none => none
    | none => none
   | none => none
  | none => none
def low (lo:Nat) (T:List Nat):List Nat:=T.filter (· < lo)
def inLoop (ro:Option Nat) (σ:St):Bool:=match ro with
 | none => true
 | some l => match σ.get l with
  | .loop _ => true
  | _ => false
mutual
/-- operations, in the text's order; i: the number of the next one -/
def opsR (X:X):Nat→Array Oper→Nat→Nat→List Oper→Nat→Tm→St→List Nat→List Log→Option (Tm × St × List Nat × List Log)
 | 0,_,_,_,_,_,_,_,_,_ => none
 | _+1,_,_,_,[],_,tm,σ,W,log => some (tm,σ,W,log)
 | n+1,ops,nt,lo,o :: rest,i,tm,σ,W,log =>
  if !guardOk ops tm o then none else
  if wantedA ops tm o then
   match evalOp X tm σ o with
   | .val a σ' T R => match putTm nt tm o.dst a with
    | some tm' => opsR X n ops nt lo rest (i+1) tm' σ' (W ++ low lo T) (log ++ [⟨i,T,R⟩])
    | none => none
   | .call f args => match callA X n f args σ with
    | some (a,σ',T) => match putTm nt tm o.dst a with
     | some tm' => opsR X n ops nt lo rest (i+1) tm' σ' (W ++ low lo T) (log ++ [⟨i,T,[]⟩])
     | none => none
    | none => none
   | .bad => none
  else match putTm nt tm o.dst (.tup []) with
   | some tm' => opsR X n ops nt lo rest (i+1) tm' σ W log
   | none => none
def exec (X:X):Nat→Nat→Nat→Option Nat→Nat→List Item→Tm→St→List Nat→Option Out
 | 0,_,_,_,_,_,_,_,_ => none
 | n+1,fn,nt,ro,lo,todo,tm,σ,W =>
  let leave (jump:Option Code):Option Out:=match ro with
   | none => match jump with
    | none | some .ret => some (.ret tm σ W)
    | _ => none
   | some _ => some (.leave jump σ W)
  match todo with
  | [] => leave none
  | .code .ret :: _ => leave (some .ret)
  | .code .skip :: k | .code (.label _) :: k | .inBlock _ :: k | .inScope _ :: k => exec X n fn nt ro lo k tm σ W
  | .code (.seq a b) :: k => exec X n fn nt ro lo (.code a :: .code b :: k) tm σ W
  | .code (.cond c a b) :: k => match ev tm c with
   | .d (.bool t) => exec X n fn nt ro lo (.code (if t then a else b) :: k) tm σ W
   | _ => none
  | .code (.block id b) :: k => exec X n fn nt ro lo (.code b :: .inBlock id :: k) tm σ W
  | .code (.loop b) :: k => exec X n fn nt ro lo (.code b :: .inLoop b :: k) tm σ W
  | .inLoop b :: k => exec X n fn nt ro lo (.code b :: .inLoop b :: k) tm σ W
  | .code (.scope b) :: k => exec X n fn nt ro lo (.code b :: .inScope b :: k) tm σ W
  | .code (.exit id) :: k => match exitTo id k with
   | some k' => exec X n fn nt ro lo k' tm σ W
   | none => leave (some (.exit id))
  | .code (.region _ ops draw) :: k => match opsR X n ops nt lo ops.toList 0 tm σ W [] with
   | some (tm',σ',W',log) => if !draw || drawOk ops log then exec X n fn nt ro lo k tm' σ' W' else none
   | none => none
  | .code (.rangeFunc f params assign body) :: k =>
   if !inLoop ro σ then none else
   let σ1:=σ.push (.loop { fn,nt,tm,params,assign,body,st:=.ready,pending:=none })
   match callA X n (ev tm f) [.yld σ.n] σ1 with
   | some (_,σ2,T) => match σ2.get σ.n with
    | .loop L => if L.st=.busy then none else
     exec X n fn nt ro lo ((L.pending.map Item.code).toList ++ k) tm (σ2.set σ.n .dead) (W ++ low lo T)
    | _ => none
   | none => none
  | .beginRound :: k => match ro with
   | some l => match σ.get l with
    | .loop L => if L.st=.ready then exec X n fn nt ro lo k tm (σ.set l (.loop { L with st:=.busy })) (W ++ low lo [l]) else none
    | _ => none
   | none => none
  | _ => none
/-- a call of a function's value -/
def callA (X:X):Nat→A→List A→St→Option (A × St × List Nat)
 | 0,_,_,_ => none
 | n+1,.func f cap,args,σ => match oraOf (X.fz f) with
  | some F => if cap.isEmpty && (X.fn f).isSome then oraCall F args σ else none
  | none => match X.fn f with
  | some F => if args.length+cap.length≤F.nt then
   match exec X n f F.nt none σ.n [.code F.body] (initTm (args ++ cap) 0 .nil) σ [] with
   | some (.ret tm σ' W) => match results X tm σ' F.results with
    | some l => leaveCall (X.fz f) σ (tupOf l) σ' W
    | none => none
   | _ => none
   else none
  | none => none
 | n+1,.yld k,args,σ => match σ.get k with
  | .loop L => if args.length=L.params.size∧L.params.all (· < L.nt) then
   match exec X n L.fn L.nt (some k) σ.n [.code L.assign,.beginRound,.code L.body] (setParams L.params.toList args L.tm) σ [] with
   | some (.leave jump σ' W) => match σ'.get k with
    | .loop L' => leaveCall .keep σ (.d (.bool jump.isNone)) (σ'.set k (.loop { L' with st:=if jump.isNone then .ready else .over,pending:=jump })) (W ++ [k])
    | _ => none
   | _ => none
   else none
  | _ => none
 | _+1,_,_,_ => none
end
end Go.Am
namespace Go.Am
open Go
def kindOf (P:Program) (t:Nat):Option TK :=
 match P.underlying t with
 | some .bool => some .bool
 | some (.int k) => some (.int k)
 | some .string => some .str
 | some (.struct fs) => if fs.any (fun f => f.name == "_" || (P.info? f.type).isNone) then none else some (.struct (fs.toList.map fun f => (f.offset,((P.info? f.type).map (·.size)).getD 0,f.type)))
 | some (.array n e) => some (.arr n (((P.info? e).map (·.size)).getD 0) e)
 | some (.slice e) => some (.slc e)
 | some (.pointer e) => some (.ptr e)
 | some (.map k e) => some (.map k e)
 | some (.func _ _ _) => some .func
 | some _ => some .other
 | none => none
def zeroOf (v:Value):Option (List A):=(ofV v).cells
def mkTI (P:Program) (t:Nat):Option TI:=(P.info? t).bind fun i => (kindOf P t).map fun k => { kind:=k,size:=i.size,bytes:=i.bytes,zero:=i.zero.bind zeroOf,zval:=(i.zero.map ofV).getD .top }
def mkFn (P:Program) (f:Nat):Option AFn:=(P.funcs[f]?).bind fun fn => fn.body.bind fun b => if codeOk b && fn.name != "runtime.NumGoroutine" then some { nt:=fn.ntmps,results:=fn.results.toList,body:=b } else none
def mkX (P:Program) (fz:Nat→Md):X:={ ti:=mkTI P,fn:=mkFn P,fz,cmp:=fun t => !P.stoodInHeld t && !P.eqGuardType P.depth t }
end Go.Am
namespace Go.Am
open Go
theorem mono (X:X):∀ n,
 (∀ ops nt lo os i tm σ W log r,opsR X n ops nt lo os i tm σ W log=some r→opsR X (n+1) ops nt lo os i tm σ W log=some r) ∧
 (∀ fn nt ro lo todo tm σ W r,exec X n fn nt ro lo todo tm σ W=some r→exec X (n+1) fn nt ro lo todo tm σ W=some r) ∧
 (∀ f args σ r,callA X n f args σ=some r→callA X (n+1) f args σ=some r):=by
 intro n
 induction n with
 | zero => exact ⟨by intros; simp_all [opsR],by intros; simp_all [exec],by intros; simp_all [callA]⟩
 | succ n ih =>
  obtain ⟨ih1,ih2,ih3⟩:=ih
  refine ⟨?_,?_,?_⟩
  · intro ops nt lo os i tm σ W log r h
    cases os with
    | nil => simpa [opsR] using h
    | cons o rest =>
     rw [opsR] at h ⊢
     split at h
     · cases h
     · rename_i hg
       rw [if_neg hg]
       split at h
       · rename_i hw
         rw [if_pos hw]
         cases he:evalOp X tm σ o with
         | val a σ' T R =>
          simp only [he] at h ⊢
          cases hp:putTm nt tm o.dst a with
          | none => simp [hp] at h
          | some tm' => simp only [hp] at h ⊢; exact ih1 _ _ _ _ _ _ _ _ _ _ h
         | call f args =>
          simp only [he] at h ⊢
          cases hc:callA X n f args σ with
          | none => simp [hc] at h
          | some q =>
           obtain ⟨a,σ',T⟩:=q
           simp only [hc,ih3 _ _ _ _ hc] at h ⊢
           cases hp:putTm nt tm o.dst a with
           | none => simp [hp] at h
           | some tm' => simp only [hp] at h ⊢; exact ih1 _ _ _ _ _ _ _ _ _ _ h
         | bad => simp [he] at h
       · rename_i hw
         rw [if_neg hw]
         cases hp:putTm nt tm o.dst (.tup []) with
         | none => simp [hp] at h
         | some tm' => simp only [hp] at h ⊢; exact ih1 _ _ _ _ _ _ _ _ _ _ h
  · intro fn nt ro lo todo tm σ W r h
    rw [exec.eq_def] at h ⊢
    dsimp only at h ⊢
    split at h <;> (try exact h) <;> (try (exact ih2 _ _ _ _ _ _ _ _ _ h))
    · split at h
      · exact ih2 _ _ _ _ _ _ _ _ _ h
      · exact h
    · split at h
      · exact ih2 _ _ _ _ _ _ _ _ _ h
      · exact h
    · rename_i ops draw k
      cases hc:opsR X n ops nt lo ops.toList 0 tm σ W [] with
      | none => simp [hc] at h
      | some q =>
       obtain ⟨tm',σ',W',log⟩:=q
       simp only [hc,ih1 _ _ _ _ _ _ _ _ _ _ hc] at h ⊢
       split at h
       · rename_i hd; rw [if_pos hd]; exact ih2 _ _ _ _ _ _ _ _ _ h
       · cases h
    · rename_i f params assign body k
      split at h
      · cases h
      rename_i hin
      rw [if_neg hin]
      revert h
      generalize (σ.push (Blk.loop { fn:=fn,nt:=nt,tm:=tm,params:=params,assign:=assign,body:=body,st:=LState.ready,pending:=none }))=σ1
      intro h
      cases hc:callA X n (ev tm f) [A.yld σ.n] σ1 with
      | none => simp [hc] at h
      | some q =>
       obtain ⟨a,σ2,T⟩:=q
       simp only [hc,ih3 _ _ _ _ hc] at h ⊢
       split at h
       · split at h
         · cases h
         · rename_i hb; rw [if_neg hb]; exact ih2 _ _ _ _ _ _ _ _ _ h
       · cases h
    · split at h
      · split at h
        · split at h
          · rename_i hb; rw [if_pos hb]; exact ih2 _ _ _ _ _ _ _ _ _ h
          · cases h
        · cases h
      · cases h
  · intro f args σ r h
    cases f with
    | func f cap =>
     rw [callA] at h ⊢
     cases ho:oraOf (X.fz f) with
     | some F => simp only [ho] at h ⊢; exact h
     | none =>
     simp only [ho] at h ⊢
     split at h
     · split at h
       · rename_i F hF hl
         rw [if_pos hl]
         cases hc:exec X n f F.nt none σ.n [.code F.body] (initTm (args ++ cap) 0 .nil) σ [] with
         | none => simp [hc] at h
         | some o => simp only [hc,ih2 _ _ _ _ _ _ _ _ _ hc] at h ⊢; exact h
       · cases h
     · cases h
    | yld k =>
     rw [callA] at h ⊢
     split at h
     · rename_i L hL
       split at h
       · rename_i hl
         rw [if_pos hl]
         cases hc:exec X n L.fn L.nt (some k) σ.n [.code L.assign,.beginRound,.code L.body] (setParams L.params.toList args L.tm) σ [] with
         | none => simp [hc] at h
         | some o => simp only [hc,ih2 _ _ _ _ _ _ _ _ _ hc] at h ⊢; exact h
       · cases h
     · cases h
    | _ => rw [callA] at h <;> simp_all
theorem mono_le {X:X} {n m:Nat} (h:n≤m) :
 (∀ ops nt lo os i tm σ W log r,opsR X n ops nt lo os i tm σ W log=some r→opsR X m ops nt lo os i tm σ W log=some r) ∧
 (∀ fn nt ro lo todo tm σ W r,exec X n fn nt ro lo todo tm σ W=some r→exec X m fn nt ro lo todo tm σ W=some r) ∧
 (∀ f args σ r,callA X n f args σ=some r→callA X m f args σ=some r):=by
 induction h with
 | refl => exact ⟨fun _ _ _ _ _ _ _ _ _ _ h => h,fun _ _ _ _ _ _ _ _ _ h => h,fun _ _ _ _ h => h⟩
 | step _ ih =>
  obtain ⟨a,b,c⟩:=ih
  obtain ⟨a',b',c'⟩:=mono X _
  exact ⟨fun _ _ _ _ _ _ _ _ _ _ h => a' _ _ _ _ _ _ _ _ _ _ (a _ _ _ _ _ _ _ _ _ _ h),fun _ _ _ _ _ _ _ _ _ h => b' _ _ _ _ _ _ _ _ _ (b _ _ _ _ _ _ _ _ _ h),fun _ _ _ _ h => c' _ _ _ _ (c _ _ _ _ h)⟩
def CallsTo (X:X) (f:A) (args:List A) (σ:St) (r:A) (σ':St) (W:List Nat):Prop:=∃ n,callA X n f args σ=some (r,σ',W)
def Ev (X:X) (fn nt:Nat) (ro:Option Nat) (lo:Nat) (todo:List Item) (tm:Tm) (σ:St) (W:List Nat) (Q:Out→Prop):Prop :=
 ∃ n o,exec X n fn nt ro lo todo tm σ W=some o∧Q o
def EvR (X:X) (ops:Array Oper) (nt lo:Nat) (os:List Oper) (i:Nat) (tm:Tm) (σ:St) (W:List Nat) (log:List Log) (K:Tm→St→List Nat→List Log→Prop):Prop :=
 ∃ n tm' σ' W' log',opsR X n ops nt lo os i tm σ W log=some (tm',σ',W',log')∧K tm' σ' W' log'
section
variable {X:X} {fn nt:Nat} {ro:Option Nat} {lo:Nat} {k:List Item} {tm:Tm} {σ:St} {W:List Nat} {Q:Out→Prop}
theorem Ev.step {todo k':List Item} {tm':Tm} {σ':St} {W':List Nat} (h:∀ n,exec X (n+1) fn nt ro lo todo tm σ W=exec X n fn nt ro lo k' tm' σ' W')
 (e:Ev X fn nt ro lo k' tm' σ' W' Q):Ev X fn nt ro lo todo tm σ W Q:=by
 obtain ⟨n,o,hn,hq⟩:=e
 exact ⟨n+1,o,by rw [h]; exact hn,hq⟩
theorem Ev.seq {a b:Code} (e:Ev X fn nt ro lo (.code a :: .code b :: k) tm σ W Q):Ev X fn nt ro lo (.code (.seq a b) :: k) tm σ W Q:=e.step fun _ => by rw [exec]
theorem Ev.skip (e:Ev X fn nt ro lo k tm σ W Q):Ev X fn nt ro lo (.code .skip :: k) tm σ W Q:=e.step fun _ => by rw [exec]
theorem Ev.label {l:Nat} (e:Ev X fn nt ro lo k tm σ W Q):Ev X fn nt ro lo (.code (.label l) :: k) tm σ W Q:=e.step fun _ => by rw [exec]
theorem Ev.inBlock {id:Nat} (e:Ev X fn nt ro lo k tm σ W Q):Ev X fn nt ro lo (.inBlock id :: k) tm σ W Q:=e.step fun _ => by rw [exec]
theorem Ev.inScope {c:Code} (e:Ev X fn nt ro lo k tm σ W Q):Ev X fn nt ro lo (.inScope c :: k) tm σ W Q:=e.step fun _ => by rw [exec]
theorem Ev.scope {c:Code} (e:Ev X fn nt ro lo (.code c :: .inScope c :: k) tm σ W Q):Ev X fn nt ro lo (.code (.scope c) :: k) tm σ W Q:=e.step fun _ => by rw [exec]
theorem Ev.block {id:Nat} {b:Code} (e:Ev X fn nt ro lo (.code b :: .inBlock id :: k) tm σ W Q):Ev X fn nt ro lo (.code (.block id b) :: k) tm σ W Q:=e.step fun _ => by rw [exec]
theorem Ev.loop {b:Code} (e:Ev X fn nt ro lo (.inLoop b :: k) tm σ W Q):Ev X fn nt ro lo (.code (.loop b) :: k) tm σ W Q:=by
 obtain ⟨n,o,hn,hq⟩:=e
 cases n with
 | zero =>
  have:exec X 0 fn nt ro lo (.inLoop b :: k) tm σ W=none:=by rw [exec.eq_def]
  rw [this] at hn; cases hn
 | succ n =>
  have h1:exec X (n+1) fn nt ro lo (.inLoop b :: k) tm σ W=exec X n fn nt ro lo (.code b :: .inLoop b :: k) tm σ W:=by rw [exec.eq_def]
  have h2:exec X (n+1) fn nt ro lo (.code (.loop b) :: k) tm σ W=exec X n fn nt ro lo (.code b :: .inLoop b :: k) tm σ W:=by rw [exec.eq_def]
  exact ⟨n+1,o,by rw [h2,← h1]; exact hn,hq⟩
theorem Ev.inLoop {b:Code} (e:Ev X fn nt ro lo (.code b :: .inLoop b :: k) tm σ W Q):Ev X fn nt ro lo (.inLoop b :: k) tm σ W Q:=e.step fun _ => by rw [exec]
theorem Ev.cond {c:Operand} {a b:Code} {t:Bool} (hc:ev tm c=.d (.bool t)) (e:Ev X fn nt ro lo (.code (if t then a else b) :: k) tm σ W Q) :
 Ev X fn nt ro lo (.code (.cond c a b) :: k) tm σ W Q:=e.step fun _ => by rw [exec]; simp only [hc]
theorem Ev.exit {id:Nat} {k':List Item} (hk:exitTo id k=some k') (e:Ev X fn nt ro lo k' tm σ W Q):Ev X fn nt ro lo (.code (.exit id) :: k) tm σ W Q :=
 e.step fun _ => by rw [exec]; simp only [hk]
theorem Ev.ret (h:Q (.ret tm σ W)):Ev X fn nt none lo (.code .ret :: k) tm σ W Q:=⟨1,_,by rw [exec],h⟩
theorem Ev.fin (h:Q (.ret tm σ W)):Ev X fn nt none lo [] tm σ W Q:=⟨1,_,by rw [exec],h⟩
theorem Ev.region {id:Nat} {ops:Array Oper} {draw:Bool}
 (e:EvR X ops nt lo ops.toList 0 tm σ W [] fun tm' σ' W' log => (!draw || drawOk ops log)=true∧Ev X fn nt ro lo k tm' σ' W' Q) :
 Ev X fn nt ro lo (.code (.region id ops draw) :: k) tm σ W Q:=by
 obtain ⟨n,tm',σ',W',log',hn,hd,m,o,hm,hq⟩:=e
 refine ⟨max n m+1,o,?_,hq⟩
 rw [exec]
 simp only [(mono_le (Nat.le_max_left n m)).1 _ _ _ _ _ _ _ _ _ _ hn,hd,if_true]
 exact (mono_le (Nat.le_max_right n m)).2.1 _ _ _ _ _ _ _ _ _ hm
theorem EvR.nil {ops:Array Oper} {i:Nat} {log:List Log} {K:Tm→St→List Nat→List Log→Prop} (h:K tm σ W log):EvR X ops nt lo [] i tm σ W log K:=⟨1,_,_,_,_,by rw [opsR],h⟩
theorem EvR.val {ops:Array Oper} {o:Oper} {rest:List Oper} {i:Nat} {log:List Log} {K:Tm→St→List Nat→List Log→Prop} {a:A} {σ':St} {T R:List Nat} {tm':Tm}
 (hg:guardOk ops tm o=true) (hw:wantedA ops tm o=true) (he:evalOp X tm σ o=.val a σ' T R) (hp:putTm nt tm o.dst a=some tm')
 (e:EvR X ops nt lo rest (i+1) tm' σ' (W ++ low lo T) (log ++ [⟨i,T,R⟩]) K):EvR X ops nt lo (o :: rest) i tm σ W log K:=by
 obtain ⟨n,a1,a2,a3,a4,hn,hk⟩:=e
 exact ⟨n+1,a1,a2,a3,a4,by rw [opsR]; simp only [hg,hw,he,hp,Bool.not_true,Bool.false_eq_true,if_false,if_true]; exact hn,hk⟩
theorem EvR.pass {ops:Array Oper} {o:Oper} {rest:List Oper} {i:Nat} {log:List Log} {K:Tm→St→List Nat→List Log→Prop} {tm':Tm}
 (hg:guardOk ops tm o=true) (hw:wantedA ops tm o=false) (hp:putTm nt tm o.dst (.tup [])=some tm')
 (e:EvR X ops nt lo rest (i+1) tm' σ W log K):EvR X ops nt lo (o :: rest) i tm σ W log K:=by
 obtain ⟨n,a1,a2,a3,a4,hn,hk⟩:=e
 exact ⟨n+1,a1,a2,a3,a4,by rw [opsR]; simp only [hg,hw,hp,Bool.not_true,Bool.false_eq_true,if_false]; exact hn,hk⟩
theorem EvR.call {ops:Array Oper} {o:Oper} {rest:List Oper} {i:Nat} {log:List Log} {K:Tm→St→List Nat→List Log→Prop} {f:A} {args:List A} {a:A} {σ':St} {T:List Nat} {tm':Tm}
 (hg:guardOk ops tm o=true) (hw:wantedA ops tm o=true) (he:evalOp X tm σ o=.call f args) (hc:CallsTo X f args σ a σ' T) (hp:putTm nt tm o.dst a=some tm')
 (e:EvR X ops nt lo rest (i+1) tm' σ' (W ++ low lo T) (log ++ [⟨i,T,[]⟩]) K):EvR X ops nt lo (o :: rest) i tm σ W log K:=by
 obtain ⟨n,a1,a2,a3,a4,hn,hk⟩:=e
 obtain ⟨m,hm⟩:=hc
 refine ⟨max n m+1,a1,a2,a3,a4,?_,hk⟩
 rw [opsR]
 simp only [hg,hw,he,hp,Bool.not_true,Bool.false_eq_true,if_false,if_true,(mono_le (Nat.le_max_right n m)).2.2 _ _ _ _ hm]
 exact (mono_le (Nat.le_max_left n m)).1 _ _ _ _ _ _ _ _ _ _ hn
theorem CallsTo.of {f:Nat} {cap args:List A} {F:AFn} {r:A} {σ':St} (hF:X.fn f=some F) (hl:args.length+cap.length≤F.nt)
 {W':List Nat} (e:Ev X f F.nt none σ.n [.code F.body] (initTm (args ++ cap) 0 .nil) σ [] fun o => ∃ tm1 σ1 W1 l,o=.ret tm1 σ1 W1∧results X tm1 σ1 F.results=some l ∧
  leaveCall (X.fz f) σ (tupOf l) σ1 W1=some (r,σ',W')):CallsTo X (.func f cap) args σ r σ' W':=by
 obtain ⟨n,o,hn,tm1,σ1,W1,l,rfl,hl1,hc⟩:=e
 have ho:oraOf (X.fz f)=none:=by
  cases hz:X.fz f with
  | ora G => rw [hz] at hc; simp [leaveCall] at hc
  | _ => rfl
 exact ⟨n+1,by rw [callA]; simp only [ho,hF,hl,if_true,hn,hl1]; exact hc⟩
theorem CallsTo.ora {f:Nat} {args:List A} {F:List A→Option A} {G:AFn} {r:A} {σ:St} (ho:X.fz f=.ora F) (hG:X.fn f=some G) (hp:args.all A.pure=true) (hF:F args=some r) (hr:r.pureT=true):CallsTo X (.func f []) args σ r σ [] :=
 ⟨1,by rw [callA]; simp only [ho,oraOf,hG,List.isEmpty_nil,Option.isSome_some,Bool.and_self,if_true,oraCall,hp,hF,hr]⟩
end
end Go.Am
namespace Go.Am
open Go
def EvO (X:X) (ops:Array Oper) (draw:Bool) (os:List Oper) (i:Nat) (log:List Log) (fn nt:Nat) (ro:Option Nat) (lo:Nat) (k:List Item) (tm:Tm) (σ:St) (W:List Nat) (Q:Out→Prop):Prop :=
 EvR X ops nt lo os i tm σ W log fun tm' σ' W' log => (!draw || drawOk ops log)=true∧Ev X fn nt ro lo k tm' σ' W' Q
section
variable {X:X} {fn nt:Nat} {ro:Option Nat} {lo:Nat} {k:List Item} {tm:Tm} {σ:St} {W:List Nat} {Q:Out→Prop}
theorem exec_zero {todo:List Item}:exec X 0 fn nt ro lo todo tm σ W=none:=by rw [exec.eq_def]
theorem Ev_iff {todo k':List Item} {tm':Tm} {σ':St} {W':List Nat} (h:∀ n,exec X (n+1) fn nt ro lo todo tm σ W=exec X n fn nt ro lo k' tm' σ' W') :
 Ev X fn nt ro lo todo tm σ W Q=Ev X fn nt ro lo k' tm' σ' W' Q:=by
 apply propext
 constructor
 · rintro ⟨n,o,hn,hq⟩
   cases n with
   | zero => rw [exec_zero] at hn; cases hn
   | succ n => exact ⟨n,o,by rw [← h]; exact hn,hq⟩
 · exact Ev.step h
theorem sx_seq {a b:Code}:Ev X fn nt ro lo (.code (.seq a b) :: k) tm σ W Q=Ev X fn nt ro lo (.code a :: .code b :: k) tm σ W Q:=Ev_iff fun _ => by rw [exec.eq_def]
theorem sx_skip:Ev X fn nt ro lo (.code .skip :: k) tm σ W Q=Ev X fn nt ro lo k tm σ W Q:=Ev_iff fun _ => by rw [exec.eq_def]
theorem sx_label {l:Nat}:Ev X fn nt ro lo (.code (.label l) :: k) tm σ W Q=Ev X fn nt ro lo k tm σ W Q:=Ev_iff fun _ => by rw [exec.eq_def]
theorem sx_inBlock {id:Nat}:Ev X fn nt ro lo (.inBlock id :: k) tm σ W Q=Ev X fn nt ro lo k tm σ W Q:=Ev_iff fun _ => by rw [exec.eq_def]
theorem sx_inScope {c:Code}:Ev X fn nt ro lo (.inScope c :: k) tm σ W Q=Ev X fn nt ro lo k tm σ W Q:=Ev_iff fun _ => by rw [exec.eq_def]
theorem sx_scope {c:Code}:Ev X fn nt ro lo (.code (.scope c) :: k) tm σ W Q=Ev X fn nt ro lo (.code c :: .inScope c :: k) tm σ W Q:=Ev_iff fun _ => by rw [exec.eq_def]
theorem sx_block {id:Nat} {c:Code}:Ev X fn nt ro lo (.code (.block id c) :: k) tm σ W Q=Ev X fn nt ro lo (.code c :: .inBlock id :: k) tm σ W Q:=Ev_iff fun _ => by rw [exec.eq_def]
theorem sx_cond {c:Operand} {a b:Code}:Ev X fn nt ro lo (.code (.cond c a b) :: k) tm σ W Q =
 match ev tm c with | .d (.bool t) => Ev X fn nt ro lo (.code (if t then a else b) :: k) tm σ W Q | _ => False:=by
 cases h:ev tm c with
 | d x =>
  cases x with
  | bool t => exact Ev_iff fun _ => by rw [exec.eq_def]; simp only [h]
  | _ => exact propext ⟨fun ⟨n,o,hn,_⟩ => by (cases n <;> (rw [exec.eq_def] at hn; simp [h] at hn)),False.elim⟩
 | _ => exact propext ⟨fun ⟨n,o,hn,_⟩ => by (cases n <;> (rw [exec.eq_def] at hn; simp [h] at hn)),False.elim⟩
theorem sx_region {id:Nat} {ops:Array Oper} {draw:Bool} :
 Ev X fn nt ro lo (.code (.region id ops draw) :: k) tm σ W Q=EvO X ops draw ops.toList 0 [] fn nt ro lo k tm σ W Q:=by
 apply propext
 constructor
 · rintro ⟨n,o,hn,hq⟩
   cases n with
   | zero => rw [exec_zero] at hn; cases hn
   | succ n =>
    rw [exec.eq_def] at hn
    dsimp only at hn
    split at hn
    · rename_i tm' σ' W' log h
      split at hn
      · rename_i hd; exact ⟨n,tm',σ',W',log,h,hd,n,o,hn,hq⟩
      · cases hn
    · cases hn
 · exact Ev.region
theorem sx_nil {ops:Array Oper} {draw:Bool} {i:Nat} {log:List Log}:EvO X ops draw [] i log fn nt ro lo k tm σ W Q=((!draw || drawOk ops log)=true∧Ev X fn nt ro lo k tm σ W Q):=by
 apply propext
 constructor
 · rintro ⟨n,tm',σ',W',log',hn,h⟩
   cases n with
   | zero => simp [opsR] at hn
   | succ n => simp only [opsR,Option.some.injEq,Prod.mk.injEq] at hn; obtain ⟨rfl,rfl,rfl,rfl⟩:=hn; exact h
 · intro h; unfold EvO; exact EvR.nil h
theorem sx_op {ops:Array Oper} {draw:Bool} {o:Oper} {rest:List Oper} {i:Nat} {log:List Log}:EvO X ops draw (o :: rest) i log fn nt ro lo k tm σ W Q =
 if guardOk ops tm o then
  if wantedA ops tm o then
   match evalOp X tm σ o with
   | .val a σ' T R => match putTm nt tm o.dst a with
    | some tm' => EvO X ops draw rest (i+1) (log ++ [⟨i,T,R⟩]) fn nt ro lo k tm' σ' (W ++ low lo T) Q
    | none => False
   | .call f args => ∃ a σ' T,CallsTo X f args σ a σ' T∧match putTm nt tm o.dst a with
    | some tm' => EvO X ops draw rest (i+1) (log ++ [⟨i,T,[]⟩]) fn nt ro lo k tm' σ' (W ++ low lo T) Q
    | none => False
   | .bad => False
  else match putTm nt tm o.dst (.tup []) with
   | some tm' => EvO X ops draw rest (i+1) log fn nt ro lo k tm' σ W Q
   | none => False
 else False:=by
 apply propext
 by_cases hg:guardOk ops tm o=true
 · rw [if_pos hg]
   by_cases hw:wantedA ops tm o=true
   · rw [if_pos hw]
     cases he:evalOp X tm σ o with
     | val a σ' T R =>
      dsimp only
      cases hp:putTm nt tm o.dst a with
      | some tm' =>
       refine ⟨fun ⟨n,a1,a2,a3,a4,hn,h⟩ => ?_,fun h => by unfold EvO; exact EvR.val hg hw he hp h⟩
       cases n with
       | zero => simp [opsR] at hn
       | succ n => rw [opsR] at hn; simp [hg,hw,he,hp] at hn; exact ⟨n,a1,a2,a3,a4,hn,h⟩
      | none =>
       refine ⟨fun ⟨n,a1,a2,a3,a4,hn,h⟩ => ?_,False.elim⟩
       cases n with
       | zero => simp [opsR] at hn
       | succ n => rw [opsR] at hn; simp [hg,hw,he,hp] at hn
     | call f args =>
      dsimp only
      constructor
      · rintro ⟨n,a1,a2,a3,a4,hn,h⟩
        cases n with
        | zero => simp [opsR] at hn
        | succ n =>
         rw [opsR] at hn
         simp only [hg,hw,he,Bool.not_true,Bool.false_eq_true,if_false,if_true] at hn
         cases hc:callA X n f args σ with
         | none => simp [hc] at hn
         | some q =>
          obtain ⟨a,σ',T⟩:=q
          simp only [hc] at hn
          refine ⟨a,σ',T,⟨n,hc⟩,?_⟩
          cases hp:putTm nt tm o.dst a with
          | none => simp [hp] at hn
          | some tm' => simp only [hp] at hn; exact ⟨n,a1,a2,a3,a4,hn,h⟩
      · rintro ⟨a,σ',T,hc,h⟩
        cases hp:putTm nt tm o.dst a with
        | none => rw [hp] at h; exact h.elim
        | some tm' => rw [hp] at h; unfold EvO; exact EvR.call hg hw he hc hp h
     | bad =>
      refine ⟨fun ⟨n,a1,a2,a3,a4,hn,h⟩ => ?_,False.elim⟩
      cases n with
      | zero => simp [opsR] at hn
      | succ n => rw [opsR] at hn; simp [hg,hw,he] at hn
   · rw [if_neg hw]
     have hw':wantedA ops tm o=false:=by simpa using hw
     cases hp:putTm nt tm o.dst (.tup []) with
     | some tm' =>
      refine ⟨fun ⟨n,a1,a2,a3,a4,hn,h⟩ => ?_,fun h => by unfold EvO; exact EvR.pass hg hw' hp h⟩
      cases n with
      | zero => simp [opsR] at hn
      | succ n => rw [opsR] at hn; simp [hg,hw',hp] at hn; exact ⟨n,a1,a2,a3,a4,hn,h⟩
     | none =>
      refine ⟨fun ⟨n,a1,a2,a3,a4,hn,h⟩ => ?_,False.elim⟩
      cases n with
      | zero => simp [opsR] at hn
      | succ n => rw [opsR] at hn; simp [hg,hw',hp] at hn
 · rw [if_neg hg]
   refine ⟨fun ⟨n,a1,a2,a3,a4,hn,h⟩ => ?_,False.elim⟩
   cases n with
   | zero => simp [opsR] at hn
   | succ n => rw [opsR] at hn; simp [hg] at hn
theorem sx_exit {id:Nat}:Ev X fn nt ro lo (.code (.exit id) :: k) tm σ W Q=match exitTo id k with
 | some k' => Ev X fn nt ro lo k' tm σ W Q
 | none => match ro with | none => False | some _ => Q (.leave (some (.exit id)) σ W):=by
 cases h:exitTo id k with
 | some k' => exact Ev_iff fun _ => by rw [exec.eq_def]; simp only [h]
 | none =>
  apply propext
  cases ro with
  | none => exact ⟨fun ⟨n,o,hn,_⟩ => by (cases n <;> (rw [exec.eq_def] at hn; simp [h] at hn)),False.elim⟩
  | some l =>
   constructor
   · rintro ⟨n,o,hn,hq⟩
     cases n with
     | zero => rw [exec_zero] at hn; cases hn
     | succ n => rw [exec.eq_def] at hn; simp [h] at hn; subst hn; exact hq
   · intro hq; exact ⟨1,_,by rw [exec.eq_def]; simp only [h],hq⟩
theorem sx_ret:Ev X fn nt none lo (.code .ret :: k) tm σ W Q=Q (.ret tm σ W):=by
 apply propext
 constructor
 · rintro ⟨n,o,hn,hq⟩
   cases n with
   | zero => rw [exec_zero] at hn; cases hn
   | succ n => rw [exec.eq_def] at hn; simp at hn; subst hn; exact hq
 · exact Ev.ret
theorem sx_fin:Ev X fn nt none lo [] tm σ W Q=Q (.ret tm σ W):=by
 apply propext
 constructor
 · rintro ⟨n,o,hn,hq⟩
   cases n with
   | zero => rw [exec_zero] at hn; cases hn
   | succ n => rw [exec.eq_def] at hn; simp at hn; subst hn; exact hq
 · exact Ev.fin
theorem sx_retR {l:Nat}:Ev X fn nt (some l) lo (.code .ret :: k) tm σ W Q=Q (.leave (some .ret) σ W):=by
 apply propext
 constructor
 · rintro ⟨n,o,hn,hq⟩
   cases n with
   | zero => rw [exec_zero] at hn; cases hn
   | succ n => rw [exec.eq_def] at hn; simp at hn; subst hn; exact hq
 · intro h; exact ⟨1,_,by rw [exec.eq_def],h⟩
theorem sx_finR {l:Nat}:Ev X fn nt (some l) lo [] tm σ W Q=Q (.leave none σ W):=by
 apply propext
 constructor
 · rintro ⟨n,o,hn,hq⟩
   cases n with
   | zero => rw [exec_zero] at hn; cases hn
   | succ n => rw [exec.eq_def] at hn; simp at hn; subst hn; exact hq
 · intro h; exact ⟨1,_,by rw [exec.eq_def],h⟩
end
theorem low_nil (lo:Nat):low lo []=[]:=rfl
end Go.Am
namespace Go.Am
open Go
variable {X:X} {tm:Tm} {σ σ' σ₂:St} {o:Oper} {a:A} {T R:List Nat}
def pushO (σ:St):Option Blk→St
 | none => σ
 | some b => σ.push b
theorem pushO_n (σ:St) (b:Option Blk):(pushO σ b).n=match b with | none => σ.n | some _ => σ.n+1:=by cases b <;> rfl
def AgreeOn (R:List Nat) (σ σ₂:St):Prop:=∀ k ∈ R,σ₂.get k=σ.get k
theorem AgreeOn.left {R S:List Nat} (h:AgreeOn (R ++ S) σ σ₂):AgreeOn R σ σ₂:=fun k hk => h k (List.mem_append.2 (.inl hk))
theorem AgreeOn.right {R S:List Nat} (h:AgreeOn (R ++ S) σ σ₂):AgreeOn S σ σ₂:=fun k hk => h k (List.mem_append.2 (.inr hk))
theorem AgreeOn.one {k:Nat} (h:AgreeOn [k] σ σ₂):σ₂.get k=σ.get k:=h k (by simp)
theorem alive_agree {k:Nat} (h:σ₂.get k=σ.get k):alive σ₂ k=alive σ k:=by simp only [alive,h]
theorem isCells_agree {k:Nat} (h:σ₂.get k=σ.get k):isCells σ₂ k=isCells σ k:=by simp only [isCells,h]
theorem refsL_mem:∀ {l:List A} {a:A} {k:Nat},a ∈ l→k ∈ a.refs→k ∈ A.refsL l
 | [],_,_,h,_ => by cases h
 | b :: l,a,k,h,hk => by
  simp only [A.refsL,List.mem_append]
  rcases List.mem_cons.1 h with rfl | h
  · exact .inl hk
  · exact .inr (refsL_mem h hk)
theorem refsL_sub:∀ {l m:List A} {k:Nat},(∀ a ∈ l,a ∈ m)→k ∈ A.refsL l→k ∈ A.refsL m
 | [],_,_,_,h => by simp [A.refsL] at h
 | b :: l,m,k,hs,h => by
  simp only [A.refsL,List.mem_append] at h
  rcases h with h | h
  · exact refsL_mem (hs b (by simp)) h
  · exact refsL_sub (fun a ha => hs a (by simp [ha])) h
theorem partOf_refs {agg:Bool} {size:Nat} {cs:List A} {off:Nat} {x:A} (h:partOf agg size cs off=some x) {k:Nat} (hk:k ∈ x.refs):k ∈ A.refsL cs:=by
 unfold partOf at h
 split at h
 · split at h
   · injection h with h; subst h
     simp only [A.refs] at hk
     exact refsL_sub (fun a ha => List.mem_of_mem_drop (List.mem_of_mem_take ha)) hk
   · cases h
 · exact refsL_mem (List.mem_of_getElem? h) hk
theorem partT_refs {t:Nat} {cs:List A} {off:Nat} {x:A} (h:partT X t cs off=some x) {k:Nat} (hk:k ∈ x.refs):k ∈ A.refsL cs:=by
 unfold partT at h
 split at h
 · exact partOf_refs h hk
 · cases h
theorem eq1_agree {k:TK} {x y:A} (h:AgreeOn (x.refs ++ y.refs) σ σ₂):eq1 X σ₂ k x y=eq1 X σ k x y:=by
 unfold eq1
 split <;> try rfl
 all_goals (
  simp only [A.refs,List.nil_append,List.append_nil] at h
  first
   | rw [alive_agree h.one]
   | (rw [isCells_agree h.left.one,isCells_agree h.right.one]))
theorem eqFs_agree {f g:Nat→A→A→Option Bool} {cs ds:List A} (h:AgreeOn (A.refsL cs ++ A.refsL ds) σ σ₂)
 (hf:∀ t x y,AgreeOn (x.refs ++ y.refs) σ σ₂→f t x y=g t x y):∀ l,eqFs X f cs ds l=eqFs X g cs ds l
 | [] => rfl
 | (o,s,t) :: r => by
  simp only [eqFs]
  cases h1:partT X t cs o with
  | none => rfl
  | some x =>
   cases h2:partT X t ds o with
   | none => rfl
   | some y =>
    simp only [hf t x y (fun k hk => by
     rcases List.mem_append.1 hk with hk | hk
     · exact h k (List.mem_append.2 (.inl (partT_refs h1 hk)))
     · exact h k (List.mem_append.2 (.inr (partT_refs h2 hk)))),eqFs_agree h hf r]
theorem eqArr_agree {f g:Nat→A→A→Option Bool} {cs ds:List A} {es e:Nat} (h:AgreeOn (A.refsL cs ++ A.refsL ds) σ σ₂)
 (hf:∀ t x y,AgreeOn (x.refs ++ y.refs) σ σ₂→f t x y=g t x y):∀ n i,eqArr X f cs ds es e n i=eqArr X g cs ds es e n i
 | 0,_ => rfl
 | n+1,i => by
  simp only [eqArr]
  cases h1:partT X e cs (i * es) with
  | none => rfl
  | some x =>
   cases h2:partT X e ds (i * es) with
   | none => rfl
   | some y =>
    simp only [hf e x y (fun k hk => by
     rcases List.mem_append.1 hk with hk | hk
     · exact h k (List.mem_append.2 (.inl (partT_refs h1 hk)))
     · exact h k (List.mem_append.2 (.inr (partT_refs h2 hk)))),eqArr_agree h hf n (i+1)]
theorem eqT_agree:∀ (n t:Nat) (x y:A),AgreeOn (x.refs ++ y.refs) σ σ₂→eqT X σ₂ n t x y=eqT X σ n t x y
 | 0,_,_,_,_ => rfl
 | n+1,t,x,y,h => by
  unfold eqT
  split
  · split
    · split
      · exact eqFs_agree (by simpa [A.refs] using h) (fun t x y h => eqT_agree n t x y h) _
      · rfl
    · split
      · rfl
      · exact eqArr_agree (by simpa [A.refs] using h) (fun t x y h => eqT_agree n t x y h) _ _
    · exact eq1_agree h
  · rfl
theorem binA_agree {op:BinOp} {t:Nat} {x y:A} (h:AgreeOn (x.refs ++ y.refs) σ σ₂):binA X σ₂ op t x y=binA X σ op t x y:=by
 unfold binA
 split <;> first
  | rfl
  | rw [eqT_agree 8 t _ _ h]
theorem mapFind_agree {kt:Nat} {key:A}:∀ {es:List (A × A)} {i:Nat},AgreeOn (key.refs ++ es.flatMap fun e => e.1.refs) σ σ₂→mapFind X σ₂ kt key es i=mapFind X σ kt key es i
 | [],_,_ => rfl
 | (k,v) :: r,i,h => by
  simp only [mapFind]
  rw [eqT_agree 8 kt key k (fun j hj => h j (by
   simp only [List.flatMap_cons,List.mem_append] at hj ⊢
   rcases hj with hj | hj
   · exact .inl hj
   · exact .inr (.inl hj))),mapFind_agree (es:=r) (i:=i+1) (fun j hj => h j (by
   simp only [List.flatMap_cons,List.mem_append] at hj ⊢
   rcases hj with hj | hj
   · exact .inl hj
   · exact .inr (.inr hj)))]
theorem sliceLen_agree {x:A} (h:AgreeOn x.refs σ σ₂):sliceLen σ₂ x=sliceLen σ x:=by
 unfold sliceLen
 split <;> try rfl
 simp only [A.refs] at h
 rw [alive_agree h.one]
theorem loadA_agree {i:TI} {p v:A} {R:List Nat} (he:loadA i σ p=some (v,R)) (h:AgreeOn R σ σ₂):loadA i σ₂ p=some (v,R):=by
 unfold loadA at he ⊢
 split at he
 · rename_i k off
   split at he
   · rename_i cs hk
     have hR:R=[k]:=by
      cases hp:partOf i.agg i.size cs off with
      | none => simp [hp] at he
      | some a => simp [hp] at he; exact he.2.symm
     subst hR
     simp only [h.one,hk]; exact he
   · cases he
 · exact he
 · cases he
def QuietOp (X:Am.X) (tm:Tm) (σ:St) (o:Oper) (a:A) (σ':St) (T R:List Nat):Prop :=
 T=[]∧∃ b,(∀ L,b≠some (.loop L))∧σ'=pushO σ b∧∀ σ₂:St,σ₂.n=σ.n→AgreeOn R σ σ₂→evalOp X tm σ₂ o=.val a (pushO σ₂ b) [] R
theorem QuietOp.still (h1:T=[]) (h2:σ'=σ) (h:∀ σ₂:St,σ₂.n=σ.n→AgreeOn R σ σ₂→evalOp X tm σ₂ o=.val a σ₂ [] R):QuietOp X tm σ o a σ' T R :=
 ⟨h1,none,(by intro L; intro h; cases h),h2,h⟩
theorem QuietOp.new {b:Blk} (hb:∀ L,b≠.loop L) (h1:T=[]) (h2:σ'=σ.push b) (h:∀ σ₂:St,σ₂.n=σ.n→evalOp X tm σ₂ o=.val a (σ₂.push b) [] R):QuietOp X tm σ o a σ' T R :=
 ⟨h1,some b,(fun L h => hb L (by injection h)),h2,fun σ₂ hn _ => h σ₂ hn⟩
theorem of_val {R0:List Nat} {s:Option A} (h:OpR.of σ R0 s=.val a σ' T R):s=some a∧σ'=σ∧T=[]∧R=R0:=by
 cases s <;> simp only [OpR.of] at h <;> cases h
 exact ⟨rfl,rfl,rfl,rfl⟩
theorem evalOp_quiet (hl:heavy o=false) (he:evalOp X tm σ o=.val a σ' T R):QuietOp X tm σ o a σ' T R:=by
 unfold heavy at hl
 unfold evalOp at he
 cases ho:o.op <;> simp only [ho] at hl he <;> try (first | (cases he; done) | (cases hl; done))
 case move x => cases he; exact .still rfl rfl fun σ₂ _ _ => by simp only [evalOp,ho]
 case assign x => cases he; exact .still rfl rfl fun σ₂ _ _ => by simp only [evalOp,ho]
 case pick c x y =>
  split at he
  · rename_i t h; cases he; exact .still rfl rfl fun σ₂ _ _ => by simp only [evalOp,ho,h]
  · cases he
 case alloc t =>
  split at he
  · rename_i h; cases he; exact .new (by intro L h; cases h) rfl rfl fun σ₂ hn => by simp only [evalOp,ho,h,hn]
  · cases he
 case box t x =>
  split at he
  · rename_i h; cases he; exact .new (by intro L h; cases h) rfl rfl fun σ₂ hn => by simp only [evalOp,ho,h,hn]
  · cases he
 case build t ps =>
  split at he
  · rename_i h
    obtain ⟨hs,rfl,rfl,rfl⟩:=of_val he
    exact .still rfl rfl fun σ₂ _ _ => by simp only [evalOp,ho,h,hs,OpR.of]
  · rename_i h
    obtain ⟨hs,rfl,rfl,rfl⟩:=of_val he
    exact .still rfl rfl fun σ₂ _ _ => by simp only [evalOp,ho,h,hs,OpR.of]
  · cases he
 case buildSlice t n ps =>
  split at he
  · rename_i h
    split at he
    · rename_i h1
      split at he
      · rename_i h2
        split at he
        · rename_i h3
          cases he; exact .new (by intro L h; cases h) rfl rfl fun σ₂ hn => by simp only [evalOp,ho,h,hn,h1,h3]; rw [if_pos h2]
        · cases he
      · cases he
    · cases he
  · cases he
 case load t x =>
  split at he
  · rename_i h
    split at he
    · rename_i h1
      cases he; exact .still rfl rfl fun σ₂ hn hR => by simp only [evalOp,ho,h,loadA_agree h1 hR]
    · cases he
  · cases he
 case nilCheck x =>
  split at he
  · rename_i h
    split at he
    · cases he
    · rename_i h1
      cases he; exact .still rfl rfl fun σ₂ hn hR => by
       simp only [evalOp,ho,h,hR.one]
  · rename_i h; cases he; exact .still rfl rfl fun σ₂ _ _ => by simp only [evalOp,ho,h]
  · rename_i h; cases he; exact .still rfl rfl fun σ₂ _ _ => by simp only [evalOp,ho,h]
  · cases he
 case binOp op t x y b =>
  obtain ⟨hs,rfl,rfl,rfl⟩:=of_val he
  exact .still rfl rfl fun σ₂ _ hR => by simp only [evalOp,ho,binA_agree hR,hs,OpR.of]
 case unOp op t x =>
  split at he
  · rename_i h; cases he; exact .still rfl rfl fun σ₂ _ _ => by simp only [evalOp,ho,h]
  · rename_i h; cases he; exact .still rfl rfl fun σ₂ _ _ => by simp only [evalOp,ho,h]
  · cases he
 case convert s t x =>
  split at he
  · rename_i h1 h2 h3; cases he; exact .still rfl rfl fun σ₂ _ _ => by simp only [evalOp,ho,h1,h2,h3]
  · rename_i h1 h2 h3; cases he; exact .still rfl rfl fun σ₂ _ _ => by simp only [evalOp,ho,h1,h2,h3]
  · cases he
 case makeFunc f first captured =>
  cases f <;> simp only at he <;> try (cases he; done)
  split at he
  · rename_i h; cases he; exact .still rfl rfl fun σ₂ _ _ => by simp only [evalOp,ho,h,if_true]
  · cases he
 case makeMap t r =>
  cases r <;> simp only at he <;> try (cases he; done)
  split at he
  · rename_i h; cases he; exact .new (by intro L h; cases h) rfl rfl fun σ₂ hn => by simp only [evalOp,ho,h,hn]
  · cases he
 case makeSlice t l c =>
  split at he
  · rename_i h1 h2 h3
    split at he
    · rename_i h4
      split at he
      · rename_i h5
        cases he; exact .new (by intro L h; cases h) rfl rfl fun σ₂ hn => by simp only [evalOp,ho,h1,h2,h3,h4,hn]; rw [if_pos h5]
      · cases he
    · cases he
  · cases he
 case fieldAddr s x f =>
  split at he
  · rename_i h
    split at he
    · rename_i h1 h2
      split at he
      · cases he
      · rename_i h3
        split at he
        · cases he
        · rename_i h4
          cases he; exact .still rfl rfl fun σ₂ _ hR => by
           simp only [evalOp,ho,h,h1,h2,hR.one]
           rw [if_neg h4]
    · rename_i h1 h2
      split at he
      · cases he
      · rename_i h4
        cases he; exact .still rfl rfl fun σ₂ _ _ => by simp only [evalOp,ho,h,h1,h2]; rw [if_neg h4]
    · cases he
  · cases he
 case indexAddr t x ix =>
  split at he
  · rename_i h1 h2 h3
    split at he
    · rename_i h4
      split at he
      · rename_i h5
        split at he
        · rename_i h6
          split at he
          · rename_i h7
            cases he; exact .still rfl rfl fun σ₂ _ _ => by simp only [evalOp,ho,h1,h2,h3,h4,h5,h6,h7,if_true]
          · cases he
        · cases he
      · cases he
    · cases he
  · rename_i h1 h2 h3
    split at he
    · rename_i h4
      split at he
      · cases he
      · rename_i h5
        split at he
        · rename_i h6
          cases he; exact .still rfl rfl fun σ₂ _ hR => by
           simp only [evalOp,ho,h1,h2,h3,h4,hR.one]
           rw [if_pos h6]
        · cases he
    · cases he
  · rename_i h1 h2 h3
    split at he
    · cases he
    · rename_i h5
      split at he
      · rename_i h6
        cases he; exact .still rfl rfl fun σ₂ _ hR => by
         simp only [evalOp,ho,h1,h2,h3,hR.one]
         rw [if_pos h6]
      · cases he
  · cases he
 case slice t x lo hi mx =>
  cases mx <;> simp only at he <;> try (cases he; done)
  split at he
  · rename_i h1 h2
    split at he
    · rename_i h3 h4
      split at he
      · rename_i h5
        split at he
        · rename_i h6
          cases he; exact .still rfl rfl fun σ₂ _ _ => by simp only [evalOp,ho,h1,h2,h3,h4,h5]; rw [if_pos h6]
        · cases he
      · cases he
    · cases he
  · rename_i h1 h2
    split at he
    · rename_i h3 h4
      split at he
      · rename_i h5
        split at he
        · cases he
        · rename_i h7
          split at he
          · rename_i h6
            cases he; exact .still rfl rfl fun σ₂ _ hR => by
             simp only [evalOp,ho,h1,h2,h3,h4,h5,hR.one]
             rw [if_pos h6]
          · cases he
      · cases he
    · cases he
  · rename_i h1 h2
    split at he
    · rename_i h3
      split at he
      · rename_i h5
        split at he
        · rename_i h7
          split at he
          · rename_i h6
            cases he; exact .still rfl rfl fun σ₂ _ hR => by
             simp only [evalOp,ho,h1,h2,h3,h5,hR.one,h7]
             rw [if_pos h6]
          · cases he
        · cases he
      · cases he
    · cases he
  · cases he
 case lookup t x k ok =>
  split at he
  · rename_i h1
    split at he
    · rename_i h2
      split at he
      · cases he
      · rename_i h3
        split at he
        · rename_i h4
          cases he; exact .still rfl rfl fun σ₂ _ _ => by simp only [evalOp,ho,h1,h2,h4]; rw [if_neg h3]
        · rename_i h4
          split at he
          · rename_i h5
            split at he
            · rename_i h6
              cases he; exact .still rfl rfl fun σ₂ _ hR => by
               have e1:=hR _ (List.mem_cons_self ..)
               simp only [evalOp,ho,h1,h2,h4,e1,h5,mapFind_agree (fun k hk => hR k (List.mem_cons_of_mem _ hk)),h6]; rw [if_neg h3]
            · rename_i h6
              cases he; exact .still rfl rfl fun σ₂ _ hR => by
               have e1:=hR _ (List.mem_cons_self ..)
               simp only [evalOp,ho,h1,h2,h4,e1,h5,mapFind_agree (fun k hk => hR k (List.mem_cons_of_mem _ hk)),h6]; rw [if_neg h3]
            · cases he
          · cases he
        · cases he
    · cases he
  · cases he
 case extract x i =>
  split at he
  · rename_i h
    obtain ⟨hs,rfl,rfl,rfl⟩:=of_val he
    exact .still rfl rfl fun σ₂ _ _ => by simp only [evalOp,ho,h,hs,OpR.of]
  · cases he
 case call c =>
  cases hc:c.callee with
  | value f => simp [hc] at hl
  | invoke r m => simp [hc] at hl
  | builtin b =>
   cases b <;> simp only [hc] at hl he <;> try (cases hl; done)
   case len =>
    split at he
    · rename_i h1 h2
      obtain ⟨hs,rfl,rfl,rfl⟩:=of_val he
      exact .still rfl rfl fun σ₂ _ hR => by simp only [evalOp,ho,hc,h1,h2,sliceLen_agree hR,hs,OpR.of]
    · rename_i h1 h2; cases he; exact .still rfl rfl fun σ₂ _ _ => by simp only [evalOp,ho,hc,h1,h2]
    · rename_i h1 h2
      cases he; exact .still rfl rfl fun σ₂ _ _ => by simp only [evalOp,ho,hc,h1,h2]
    · rename_i h1 h2; cases he; exact .still rfl rfl fun σ₂ _ _ => by simp only [evalOp,ho,hc,h1,h2]
    · rename_i h1 h2
      split at he
      · rename_i h3; cases he; exact .still rfl rfl fun σ₂ _ hR => by simp only [evalOp,ho,hc,h1,h2,hR.one,h3]
      · cases he
    · cases he
   case min => obtain ⟨hs,rfl,rfl,rfl⟩:=of_val he; exact .still rfl rfl fun σ₂ _ _ => by simp only [evalOp,ho,hc,hs,OpR.of]
   case max => obtain ⟨hs,rfl,rfl,rfl⟩:=of_val he; exact .still rfl rfl fun σ₂ _ _ => by simp only [evalOp,ho,hc,hs,OpR.of]
structure AR (σ σ':St) (T:List Nat):Prop where
 n:σ.n≤σ'.n
 rest:∀ k,k < σ.n→k ∉ T→σ'.get k=σ.get k
 loops:∀ k L,σ'.get k=.loop L→σ.get k=.loop L
theorem AR.refl (σ:St) (T:List Nat):AR σ σ T:=⟨Nat.le_refl _,fun _ _ _ => rfl,fun _ _ h => h⟩
theorem AR.push (σ:St) (T:List Nat) {b:Blk} (hb:∀ L,b≠.loop L):AR σ (σ.push b) T :=
 ⟨by rw [St.n_push]; omega,fun k hk _ => by rw [St.get_push,if_neg (by omega)],fun k L h => by
  rw [St.get_push] at h
  split at h
  · exact absurd h (hb L)
  · exact h⟩
theorem AR.set (σ:St) {k:Nat} {b:Blk} (hb:∀ L,b≠.loop L):AR σ (σ.set k b) [k] :=
 ⟨Nat.le_refl _,fun j _ hj => by rw [St.get_set,if_neg (by simpa using hj)],fun j L h => by
  rw [St.get_set] at h
  split at h
  · exact absurd h (hb L)
  · exact h⟩
theorem AR.trans {σ₁ σ₂ σ₃:St} {S:List Nat} (h:AR σ₁ σ₂ S) (g:AR σ₂ σ₃ S):AR σ₁ σ₃ S :=
 ⟨Nat.le_trans h.n g.n,fun k hk hS => (g.rest k (Nat.lt_of_lt_of_le hk h.n) hS).trans (h.rest k hk hS),fun k L e => h.loops k L (g.loops k L e)⟩
theorem evalOp_rest (he:evalOp X tm σ o=.val a σ' T R):AR σ σ' T:=by
 cases hl:heavy o with
 | false =>
  obtain ⟨rfl,b,hb,rfl,-⟩:=evalOp_quiet hl he
  cases b with
  | none => exact .refl _ _
  | some b => exact .push _ _ fun L h => hb L (by rw [h])
 | true =>
  unfold heavy at hl
  unfold evalOp at he
  cases ho:o.op <;> simp only [ho] at hl he <;> try (first | (cases he; done) | (cases hl; done))
  case store t p v =>
   split at he
   · split at he
     · rename_i h; cases he
       unfold storeA at h
       split at h
       · split at h
         · split at h
           · cases h; exact .set _ (by intro L h; cases h)
           · cases h
         · cases h
       · cases h
     · cases he
   · cases he
  case mapUpdate t m k v =>
   split at he
   · split at he
     · split at he
       · cases he
       · split at he
         · split at he
           · split at he
             · cases he; exact .set _ (by intro L h; cases h)
             · cases he
           · cases he
         · cases he; exact .set _ (by intro L h; cases h)
         · cases he
     · cases he
   · cases he
  case insert t m k v =>
   split at he
   · split at he
     · split at he
       · cases he
       · split at he
         · split at he
           · split at he
             · cases he; exact .set _ (by intro L h; cases h)
             · cases he
           · cases he
         · cases he; exact .set _ (by intro L h; cases h)
         · cases he
     · cases he
   · cases he
  case mapEntry t m k =>
   split at he
   · split at he
     · split at he
       · split at he
         · cases he
         · split at he
           · split at he
             · split at he
               · cases he; exact .set _ (by intro L h; cases h)
               · cases he
             · cases he
           · cases he; exact .set _ (by intro L h; cases h)
           · cases he
       · cases he
     · cases he
   · cases he
  case entryStore t m s v =>
   split at he
   · split at he
     · split at he
       · cases he; exact .set _ (by intro L h; cases h)
       · cases he
     · cases he
   · cases he
  case call c =>
   cases hc:c.callee with
   | value f => simp [hc] at he
   | invoke r m => simp [hc] at he
   | builtin b =>
    cases b <;> simp only [hc] at hl he <;> try (first | (cases he; done) | (cases hl; done))
    case append =>
     split at he
     · split at he
       · split at he
         · unfold appendA at he
           split at he
           · split at he
             · cases he
             · split at he
               · split at he
                 · cases he; exact .refl _ _
                 · split at he
                   · cases he; exact .push _ _ (by intro L h; cases h)
                   · cases he
               · split at he
                 · split at he
                   · cases he
                   · split at he
                     · cases he; exact .refl _ _
                     · split at he
                       · cases he; exact .trans (.set _ (by intro L h; cases h)) (.push _ _ (by intro L h; cases h))
                       · cases he
                 · cases he
               · cases he
           · cases he
         · cases he
       · cases he
     · unfold growA at he
       split at he
       · split at he
         · cases he; exact .push _ _ (by intro L h; cases h)
         · cases he
       · cases he
     · cases he
    case cap =>
     split at he
     · cases he; exact .refl _ _
     · cases he
    case copy =>
     split at he
     · split at he
       · split at he
         · unfold copyA at he
           split at he
           · split at he
             · dsimp only at he
               split at he
               · cases he
               · cases he; exact .set _ (by intro L h; cases h)
             · cases he
           · cases he
         · cases he
       · cases he
     · cases he
end Go.Am

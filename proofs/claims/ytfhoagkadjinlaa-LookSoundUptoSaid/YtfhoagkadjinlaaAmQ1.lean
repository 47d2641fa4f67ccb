/- Part Q1 of a proof that runs a program's calls on a small machine whose values bear no addresses: no conditions. -/
import Derived.Test.YtfhoagkadjinlaaAmS1
import Derived.Test.YtfhoagkadjinlaaAmF1
set_option autoImplicit false
set_option linter.unusedSimpArgs false
set_option linter.unusedVariables false
set_option linter.unusedSectionVars false
namespace Go.Am
open Go Go.Proofs
inductive Ex where
 | mk (kind n:Int) (z:Bool) (l:List Ex)
namespace Ex
def kind:Ex→Int | mk k _ _ _ => k
def num:Ex→Int | mk _ n _ _ => n
def z:Ex→Bool | mk _ _ z _ => z
def l:Ex→List Ex | mk _ _ _ l => l
def cs:Ex→List D
 | mk k n z l => [.int .i64 k,.int .i64 n,.slc (z && l.isEmpty) (l.map cs)]
def ld (x:Ex):A:=.d (.slc (x.z && x.l.isEmpty) (x.l.map cs))
def c (x:Ex):List A:=[.d (.int .i64 x.kind),.d (.int .i64 x.num),x.ld]
def a (x:Ex):A:=.agg x.c
def sz:Ex→Nat
 | mk _ _ _ l => 1+(l.map sz).sum
theorem sz_eq (x:Ex):x.sz=1+(x.l.map sz).sum:=by cases x; rw [sz]; rfl
theorem le_sum:∀ {l:List Ex} {y:Ex},y ∈ l→y.sz≤(l.map sz).sum
 | x :: l,y,h => by
  rcases List.mem_cons.1 h with rfl | h
  · simp
  · have:=le_sum h; simp; omega
theorem len_sum:∀ {l:List Ex},l.length≤(l.map sz).sum
 | [] => by simp
 | x :: l => by have:=len_sum (l:=l); have:=sz_eq x; simp; omega
theorem sz_sub {x y:Ex} (h:y ∈ x.l):y.sz < x.sz:=by have:=le_sum h; rw [sz_eq x]; omega
theorem len_lt (x:Ex):x.l.length < x.sz:=by have:=len_sum (l:=x.l); rw [sz_eq x]; omega
theorem cs_map (x:Ex):x.cs.map A.d=x.c:=by cases x; simp [cs,c,ld,kind,num,z,l]
theorem cs_len (x:Ex):x.cs.length=3:=by cases x; simp [cs]
theorem c_len (x:Ex):x.c.length=3:=rfl
theorem c_take (x:Ex):x.c.take 3=x.c:=rfl
theorem c_0 (x:Ex):x.c[0]?=some (.d (.int .i64 x.kind)):=rfl
theorem c_1 (x:Ex):x.c[1]?=some (.d (.int .i64 x.num)):=rfl
theorem c_2 (x:Ex):x.c[2]?=some x.ld:=rfl
theorem len_ld (σ:St) (x:Ex):sliceLen σ x.ld=some x.l.length:=by simp [ld,sliceLen]
theorem refs_ld (x:Ex):x.ld.refs=[]:=by simp [ld,A.refs]
theorem c_cell (x:Ex):x.c.all A.isCell=true:=by simp [c,ld,A.isCell]
theorem cells_ld (x:Ex):x.ld.cells=some [x.ld]:=rfl
theorem isCell_ld (x:Ex):x.ld.isCell=true:=rfl
theorem sub_lt {x y:Ex} (h:y ∈ x.l):SizeOf.sizeOf y < SizeOf.sizeOf x:=by
 cases x with
 | mk k n z l => have:=List.sizeOf_lt_of_mem h; simp only [Ex.l] at this; simp; omega
theorem index_ld {σ:St} {x y:Ex} {i:Nat} {kd:IntKind} (h:x.l[i]?=some y):indexK σ 3 x.ld (.d (.int kd (i:Int)))=.val (.d (.vptr y.cs 0)) σ [] []:=by
 unfold ld; rw [indexK_d]; exact indexD_nat (by simp [h]) (cs_len y)
attribute [go_sem] c_len c_take c_0 c_1 c_2 len_ld refs_ld cs_map c_cell cells_ld isCell_ld
end Ex
def SmallE (x:Ex):Prop:=x.sz < 1000000000
theorem SmallE.sub {x y:Ex} (h:SmallE x) (hy:y ∈ x.l):SmallE y:=by have:=Ex.sz_sub hy; unfold SmallE at *; omega
theorem SmallE.len {x:Ex} (h:SmallE x):x.l.length < 1000000000:=by have:=x.len_lt; unfold SmallE at h; omega
theorem wrap_succ' {i n:Nat} (h:i < n) (hn:n < 1000000000):IntKind.i64.wrap ((i:Int)+1)=((i+1:Nat):Int):=by rw [wrap_small (by omega) (by omega)]; rfl
theorem dec_lt' {i n:Nat} (h:i < n):decide ((i:Int) < (n:Int))=true:=by simpa using h
theorem dec_ge' {i n:Nat} (h:¬ i < n):decide ((i:Int) < (n:Int))=false:=by simpa using h
structure Ext (σ τ:St):Prop where
 n:σ.n≤τ.n
 g:∀ k,k < σ.n→τ.get k=σ.get k
theorem Ext.refl (σ:St):Ext σ σ:=⟨Nat.le_refl _,fun _ _ => rfl⟩
theorem Ext.trans {a b c:St} (h:Ext a b) (k:Ext b c):Ext a c:=⟨Nat.le_trans h.n k.n,fun i hi => (k.g i (Nat.lt_of_lt_of_le hi h.n)).trans (h.g i hi)⟩
theorem Ext.push {σ τ:St} (h:Ext σ τ) {b:Blk}:Ext σ (τ.push b):=⟨by rw [St.n_push]; have:=h.n; omega,fun k hk => by rw [St.get_push_ne (Nat.lt_of_lt_of_le hk h.n)]; exact h.g k hk⟩
theorem Ext.set {σ τ:St} (h:Ext σ τ) {b:Blk} {k:Nat} (hk:σ.n≤k):Ext σ (τ.set k b):=⟨h.n,fun j hj => by rw [St.get_set_ne (by omega)]; exact h.g j hj⟩
variable {fz:Nat→Md}
def idxFrom (p:Ex→Bool):Nat→List Ex→Int
 | _,[] => -1
 | i,x :: l => if p x then (i:Int) else idxFrom p (i+1) l
theorem idx_any (p:Ex→Bool):∀ (l:List Ex) (i:Nat),decide (idxFrom p i l ≥ 0)=l.any p
 | [],i => by simp [idxFrom]
 | x :: l,i => by
  rw [idxFrom,List.any_cons]
  cases h:p x with
  | true => simp
  | false => simp only [Bool.false_eq_true,if_false,Bool.false_or]; exact idx_any p l (i+1)
theorem index_call (h106:fz 83=.cut) (l:List Ex) (z:Bool) (f:A) (p:Ex→Bool) (σ:St) (hl:l.length < 1000000000) (hf:∀ τ,Ext σ τ→∀ y ∈ l,CallsTo (XX fz) f [y.a] τ (.d (.bool (p y))) τ []) :
 CallsTo (XX fz) (.func 83 []) [.d (.slc z (l.map Ex.cs)),f] σ (.d (.int .i64 (idxFrom p 0 l))) σ []:=by
 refine CallsTo.cut0 h106 fn83 (by simp) rfl ?_
 simp only [Try.f83,Option.getD_some]
 have hlen:∀ τ:St,sliceLen τ (.d (.slc z (l.map Ex.cs)))=some l.length:=fun τ => by simp [sliceLen]
 simp only [go_sem,List.length_map]
 refine Ev.loop_ind (fun m tm τ W => ∃ i:Nat,m=l.length - i∧i≤l.length∧W=[]∧τ=σ∧idxFrom p 0 l=idxFrom p i (l.drop i) ∧
  tm.at 0=.d (.slc z (l.map Ex.cs))∧tm.at 1=f∧tm.at 7=.d (.int .i64 l.length)∧tm.at 8=.d (.int .i64 i)) ?_ l.length _ _ _ ⟨0,rfl,by omega,rfl,rfl,rfl,?_,?_,?_,?_⟩
 · rintro m tm τ W ⟨i,rfl,hi,rfl,rfl,he,t0,t1,t7,t8⟩ ih
   by_cases hlt:i < l.length
   · have hget:l[i]?=some l[i]:=by simp [hlt]
     have hidx:indexK τ 3 (.d (.slc z (l.map Ex.cs))) (.d (.int .i64 (i:Int)))=.val (.d (.vptr (l[i]).cs 0)) τ [] []:=by rw [indexK_d]; exact indexD_nat (by simp [hget]) (l[i]).cs_len
     simp only [go_sem,t0,t1,t7,t8,dec_lt' hlt,hidx]
     refine ⟨_,_,_,hf _ (Ext.refl _) _ (List.getElem_mem hlt),?_⟩
     rw [List.drop_eq_getElem_cons hlt,idxFrom] at he
     cases hp:p l[i] with
     | true =>
      rw [hp] at he
      simp only [go_sem,t8]
      rw [he]; rfl
     | false =>
      rw [hp] at he
      simp only [go_sem,t0,t1,t7,t8,wrap_succ' hlt hl]
      exact ih _ _ _ _ (by omega) ⟨i+1,rfl,hlt,rfl,rfl,by rw [he]; rfl,by simp only [go_sem,t0],by simp only [go_sem,t1],by simp only [go_sem,t7],by simp only [go_sem]⟩
   · simp only [go_sem,t0,t1,t7,t8,dec_ge' hlt]
     rw [he,List.drop_eq_nil_of_le (by omega)]; rfl
 all_goals first | rfl | (simp only [go_sem]; done) | (simp only [go_sem]; rfl)
theorem contains_call (h82:fz 54=.cut) (h106:fz 83=.cut) (l:List Ex) (z:Bool) (f:A) (p:Ex→Bool) (σ:St) (hl:l.length < 1000000000) (hf:∀ τ,Ext σ τ→∀ y ∈ l,CallsTo (XX fz) f [y.a] τ (.d (.bool (p y))) τ []) :
 CallsTo (XX fz) (.func 54 []) [.d (.slc z (l.map Ex.cs)),f] σ (.d (.bool (l.any p))) σ []:=by
 refine CallsTo.cut0 h82 fn54 (by simp) rfl ?_
 simp only [Try.f54,Option.getD_some]
 simp only [go_sem]
 refine ⟨_,_,_,index_call h106 l z f p σ hl hf,?_⟩
 simp only [go_sem,idx_any]
mutual
def sizeE:Ex→Int→Int→Int
 | .mk _ _ _ l,deep,left => if deep > 32∨IntKind.i64.wrap (left - 1) < 0 then -1 else sizeEL l (IntKind.i64.wrap (deep+1)) (IntKind.i64.wrap (left - 1))
def sizeEL:List Ex→Int→Int→Int
 | [],_,left => left
 | x :: l,deep,left => if sizeE x deep left < 0 then -1 else sizeEL l deep (sizeE x deep left)
end
theorem sizeE_eq (x:Ex) (deep left:Int):sizeE x deep left=if deep > 32∨IntKind.i64.wrap (left - 1) < 0 then -1 else sizeEL x.l (IntKind.i64.wrap (deep+1)) (IntKind.i64.wrap (left - 1)):=by
 cases x; rw [sizeE]; rfl
set_option maxHeartbeats 1000000 in
theorem sizeE_call (h75:fz 47=.cut) (x:Ex) (deep left:Int) (σ:St) (hx:SmallE x):CallsTo (XX fz) (.func 47 []) [x.a,.d (.int .i64 deep),.d (.int .i64 left)] σ (.d (.int .i64 (sizeE x deep left))) σ []:=by
 refine CallsTo.cut0 h75 fn47 (by simp) rfl ?_
 rw [sizeE_eq]
 simp only [Try.f47,Option.getD_some]
 simp only [go_sem,Ex.a]
 have hlen:=hx.len
 by_cases hd:deep > 32
 · have h1:decide (deep > 32)=true:=by simpa using hd
   simp only [go_sem,h1,if_pos (Or.inl hd:deep > 32∨IntKind.i64.wrap (left - 1) < 0)]
 · have h1:decide (deep > 32)=false:=by simpa using hd
   by_cases hl0:IntKind.i64.wrap (left - 1) < 0
   · have h2:decide (IntKind.i64.wrap (left - 1) < 0)=true:=by simpa using hl0
     simp only [go_sem,h1,h2,if_pos (Or.inr hl0:deep > 32∨IntKind.i64.wrap (left - 1) < 0)]
   · have h2:decide (IntKind.i64.wrap (left - 1) < 0)=false:=by simpa using hl0
     have hcond:¬ (deep > 32∨IntKind.i64.wrap (left - 1) < 0):=fun h => h.elim hd hl0
     rw [if_neg hcond]
     simp only [go_sem,h1,h2]
     refine Ev.loop_ind (fun m tm τ W => ∃ (i:Nat) (lf:Int),m=x.l.length - i∧i≤x.l.length∧W=[]∧σ.n+1≤τ.n∧τ.get σ.n=.cells x.c∧sizeEL (x.l.drop i) (IntKind.i64.wrap (deep+1)) lf=sizeEL x.l (IntKind.i64.wrap (deep+1)) (IntKind.i64.wrap (left - 1)) ∧
      tm.at 1=.d (.int .i64 deep)∧tm.at 2=.d (.int .i64 lf)∧tm.at 18=x.ld∧tm.at 19=.d (.int .i64 x.l.length)∧tm.at 20=.d (.int .i64 i)) ?_ x.l.length _ _ _ ⟨0,_,rfl,by omega,rfl,by simp [St.n_push],St.get_push_eq,rfl,?_,?_,?_,?_,?_⟩
     · rintro m tm τ W ⟨i,lf,rfl,hi,rfl,hn,hg,he,t1,t2,t18,t19,t20⟩ ih
       by_cases hl:i < x.l.length
       · have hget:x.l[i]?=some x.l[i]:=by simp [hl]
         have hmem:x.l[i] ∈ x.l:=List.getElem_mem hl
         simp only [go_sem,t1,t2,t18,t19,t20,dec_lt' hl,Ex.index_ld hget]
         refine ⟨_,_,_,sizeE_call h75 x.l[i] (IntKind.i64.wrap (deep+1)) lf _ (hx.sub hmem),?_⟩
         rw [List.drop_eq_getElem_cons hl,sizeEL] at he
         have lz:low σ.n [τ.n]=[]:=by rw [low_cons_ge (by omega)]; rfl
         by_cases hs:sizeE x.l[i] (IntKind.i64.wrap (deep+1)) lf < 0
         · have h3:decide (sizeE x.l[i] (IntKind.i64.wrap (deep+1)) lf < 0)=true:=by simpa using hs
           rw [if_pos hs] at he
           simp only [go_sem,h3,lz]
           rw [← he]
         · have h3:decide (sizeE x.l[i] (IntKind.i64.wrap (deep+1)) lf < 0)=false:=by simpa using hs
           rw [if_neg hs] at he
           simp only [go_sem,h3,lz,t20,wrap_succ' hl hlen]
           exact ih _ _ _ _ (by omega) ⟨i+1,_,rfl,hl,rfl,by simp only [St.n_set,St.n_push]; omega,by rw [St.get_set_ne (by omega),St.get_push_ne (by omega)]; exact hg,he,by simp only [go_sem,t1],by simp only [go_sem],by simp only [go_sem,t18],by simp only [go_sem,t19],by simp only [go_sem]⟩
       · simp only [go_sem,t1,t2,t18,t19,t20,dec_ge' hl]
         rw [List.drop_eq_nil_of_le (by omega),sizeEL] at he
         rw [he]
     all_goals first | rfl | (simp only [go_sem]; done) | (simp only [go_sem]; rfl)
termination_by x
decreasing_by exact Ex.sub_lt hmem
end Go.Am
namespace Go.Am
open Go Go.Proofs
variable {fz:Nat→Md}
structure Ru where
 name:ByteArray
 body:Ex
def Ru.cs (r:Ru):List D:=.str r.name :: r.body.cs
def Ru.c (r:Ru):List A:=.d (.str r.name) :: r.body.c
theorem Ru.cs_map (r:Ru):r.cs.map A.d=r.c:=by simp [Ru.cs,Ru.c,Ex.cs_map]
theorem Ru.cs_len (r:Ru):r.cs.length=4:=by simp [Ru.cs,Ex.cs_len]
theorem Ru.c_len (r:Ru):r.c.length=4:=rfl
theorem Ru.c_take (r:Ru):r.c.take 4=r.c:=rfl
theorem Ru.c_body (r:Ru):(r.c.drop 1).take 3=r.body.c:=rfl
theorem Ru.c_cell (r:Ru):r.c.all A.isCell=true:=by simp [Ru.c,Ex.c,Ex.ld,A.isCell]
structure Gr where
 tokens:Int
 z:Bool
 rules:List Ru
namespace Gr
def rd (g:Gr):A:=.d (.slc (g.z && g.rules.isEmpty) (g.rules.map Ru.cs))
def c (g:Gr):List A:=[.d (.int .i64 g.tokens),g.rd]
def a (g:Gr):A:=.agg g.c
theorem c_len (g:Gr):g.c.length=2:=rfl
theorem c_take (g:Gr):g.c.take 2=g.c:=rfl
theorem c_0 (g:Gr):g.c[0]?=some (.d (.int .i64 g.tokens)):=rfl
theorem c_1 (g:Gr):g.c[1]?=some g.rd:=rfl
theorem c_cell (g:Gr):g.c.all A.isCell=true:=by simp [c,rd,A.isCell]
theorem len_rd (σ:St) (g:Gr):sliceLen σ g.rd=some g.rules.length:=by simp [rd,sliceLen]
theorem refs_rd (g:Gr):g.rd.refs=[]:=by simp [rd,A.refs]
theorem cells_rd (g:Gr):g.rd.cells=some [g.rd]:=rfl
theorem isCell_rd (g:Gr):g.rd.isCell=true:=rfl
theorem index_rd {σ:St} {g:Gr} {y:Ru} {i:Nat} {kd:IntKind} (h:g.rules[i]?=some y):indexK σ 4 g.rd (.d (.int kd (i:Int)))=.val (.d (.vptr y.cs 0)) σ [] []:=by
 unfold rd; rw [indexK_d]; exact indexD_nat (by simp [h]) y.cs_len
end Gr
attribute [go_sem] Ru.c_len Ru.c_take Ru.c_body Ru.cs_map Ru.c_cell Gr.c_len Gr.c_take Gr.c_0 Gr.c_1 Gr.c_cell Gr.len_rd Gr.refs_rd Gr.cells_rd Gr.isCell_rd
def rightN (t:Int) (r:Nat) (k:Int):Option (Int × Int × Int) :=
 if k=0 then some (1,0,0) else if k=1 then some (t,0,0) else if k=2 then some ((r:Int),0,0) else if k=4 then some (1,1,512) else if k=3 then some (1,0,512) else if k=5∨k=6 then some (1,1,1) else none
def rightC (n len:Int):Option (Int × Int × Int)→Bool
 | none => false
 | some (names,least,most) => !(decide (n < 0) || decide (n ≥ names) || decide (len < least) || decide (len > most))
mutual
/-- built right? -/
def rightE (t:Int) (r:Nat):Ex→Bool
 | .mk k n _ l => rightC n l.length (rightN t r k) && rightL t r l
def rightL (t:Int) (r:Nat):List Ex→Bool
 | [] => true
 | x :: l => rightE t r x && rightL t r l
end
theorem rightL_all (t:Int) (r:Nat) (l:List Ex):rightL t r l=!(l.any fun y => !rightE t r y):=by
 induction l with
 | nil => rfl
 | cons x l ih => rw [rightL,List.any_cons,ih]; simp
theorem rightE_eq (t:Int) (r:Nat) (x:Ex):rightE t r x=(rightC x.num x.l.length (rightN t r x.kind) && !(x.l.any fun y => !rightE t r y)):=by
 cases x; rw [rightE,rightL_all]; rfl
set_option maxHeartbeats 4000000 in
theorem right_call (h76:fz 48=.cut) (h102:fz 79=.cut) (h82:fz 54=.cut) (h106:fz 83=.cut) (g:Gr) (x:Ex) (σ:St) (hx:SmallE x) :
 CallsTo (XX fz) (.func 48 []) [g.a,x.a] σ (.d (.bool (rightE g.tokens g.rules.length x))) σ []:=by
 refine CallsTo.cut0 h76 fn48 (by simp) rfl ?_
 rw [rightE_eq]
 simp only [Try.f48,Option.getD_some]
 have hlen:=hx.len
 -- what stands behind the kind's numbers
 have inner:∀ τ:St,Ext ((σ.push (.cells g.c)).push (.cells x.c)) τ→∀ y ∈ x.l,CallsTo (XX fz) (.func 79 [.ptr σ.n 0]) [y.a] τ (.d (.bool (!rightE g.tokens g.rules.length y))) τ []:=fun τ hτ y hy => by
  refine CallsTo.cut0 h102 fn79 (by simp) rfl ?_
  simp only [Try.f79,Option.getD_some]
  have hg:τ.get σ.n=.cells g.c:=by rw [hτ.g _ (by simp [St.n_push]; omega),St.get_push_ne (by simp [St.n_push]),St.get_push_eq]
  have hne:σ.n≠τ.n:=by have:=hτ.n; simp only [St.n_push] at this; omega
  simp only [go_sem,Ex.a,hg,hne]
  refine ⟨_,_,_,right_call h76 h102 h82 h106 g y _ (hx.sub hy),?_⟩
  simp only [go_sem]
 by_cases k0:x.kind=0
 · have e0:(x.kind == 0)=true:=by simpa using k0
   have hN:rightN g.tokens g.rules.length x.kind=some (1,0,0):=by unfold rightN; simp [k0]
   rw [hN,rightC]
   cases c1:decide (x.num < 0) with
   | true => simp only [go_sem,Ex.a,Gr.a,e0,c1]
   | false =>
    cases c2:decide (x.num ≥ 1) with
    | true => simp only [go_sem,Ex.a,Gr.a,e0,c1,c2]
    | false =>
     cases c3:decide ((x.l.length:Int) < 0) with
     | true => simp only [go_sem,Ex.a,Gr.a,e0,c1,c2,c3]
     | false =>
      cases c4:decide ((x.l.length:Int) > 0) with
      | true => simp only [go_sem,Ex.a,Gr.a,e0,c1,c2,c3,c4]
      | false =>
       simp only [go_sem,Ex.a,Gr.a,e0,c1,c2,c3,c4]
       refine ⟨_,_,_,contains_call h82 h106 x.l (x.z && x.l.isEmpty) _ _ _ hlen inner,?_⟩
       simp only [go_sem]
 have e0:(x.kind == 0)=false:=by simpa using k0
 by_cases k1:x.kind=1
 · have e1:(x.kind == 1)=true:=by simpa using k1
   have hN:rightN g.tokens g.rules.length x.kind=some (g.tokens,0,0):=by unfold rightN; simp [k1]
   rw [hN,rightC]
   cases c1:decide (x.num < 0) with
   | true => simp only [go_sem,Ex.a,Gr.a,e0,e1,c1]
   | false =>
    cases c2:decide (x.num ≥ g.tokens) with
    | true => simp only [go_sem,Ex.a,Gr.a,e0,e1,c1,c2]
    | false =>
     cases c3:decide ((x.l.length:Int) < 0) with
     | true => simp only [go_sem,Ex.a,Gr.a,e0,e1,c1,c2,c3]
     | false =>
      cases c4:decide ((x.l.length:Int) > 0) with
      | true => simp only [go_sem,Ex.a,Gr.a,e0,e1,c1,c2,c3,c4]
      | false =>
       simp only [go_sem,Ex.a,Gr.a,e0,e1,c1,c2,c3,c4]
       refine ⟨_,_,_,contains_call h82 h106 x.l (x.z && x.l.isEmpty) _ _ _ hlen inner,?_⟩
       simp only [go_sem]
 have e1:(x.kind == 1)=false:=by simpa using k1
 by_cases k2:x.kind=2
 · have e2:(x.kind == 2)=true:=by simpa using k2
   have hN:rightN g.tokens g.rules.length x.kind=some ((g.rules.length:Int),0,0):=by unfold rightN; simp [k2]
   rw [hN,rightC]
   cases c1:decide (x.num < 0) with
   | true => simp only [go_sem,Ex.a,Gr.a,e0,e1,e2,c1]
   | false =>
    cases c2:decide (x.num ≥ (g.rules.length:Int)) with
    | true => simp only [go_sem,Ex.a,Gr.a,e0,e1,e2,c1,c2]
    | false =>
     cases c3:decide ((x.l.length:Int) < 0) with
     | true => simp only [go_sem,Ex.a,Gr.a,e0,e1,e2,c1,c2,c3]
     | false =>
      cases c4:decide ((x.l.length:Int) > 0) with
      | true => simp only [go_sem,Ex.a,Gr.a,e0,e1,e2,c1,c2,c3,c4]
      | false =>
       simp only [go_sem,Ex.a,Gr.a,e0,e1,e2,c1,c2,c3,c4]
       refine ⟨_,_,_,contains_call h82 h106 x.l (x.z && x.l.isEmpty) _ _ _ hlen inner,?_⟩
       simp only [go_sem]
 have e2:(x.kind == 2)=false:=by simpa using k2
 by_cases k4:x.kind=4
 · have e4:(x.kind == 4)=true:=by simpa using k4
   have hN:rightN g.tokens g.rules.length x.kind=some (1,1,512):=by unfold rightN; simp [k4]
   rw [hN,rightC]
   cases c1:decide (x.num < 0) with
   | true => simp only [go_sem,Ex.a,Gr.a,e0,e1,e2,e4,c1]
   | false =>
    cases c2:decide (x.num ≥ 1) with
    | true => simp only [go_sem,Ex.a,Gr.a,e0,e1,e2,e4,c1,c2]
    | false =>
     cases c3:decide ((x.l.length:Int) < 1) with
     | true => simp only [go_sem,Ex.a,Gr.a,e0,e1,e2,e4,c1,c2,c3]
     | false =>
      cases c4:decide ((x.l.length:Int) > 512) with
      | true => simp only [go_sem,Ex.a,Gr.a,e0,e1,e2,e4,c1,c2,c3,c4]
      | false =>
       simp only [go_sem,Ex.a,Gr.a,e0,e1,e2,e4,c1,c2,c3,c4]
       refine ⟨_,_,_,contains_call h82 h106 x.l (x.z && x.l.isEmpty) _ _ _ hlen inner,?_⟩
       simp only [go_sem]
 have e4:(x.kind == 4)=false:=by simpa using k4
 by_cases k3:x.kind=3
 · have e3:(x.kind == 3)=true:=by simpa using k3
   have hN:rightN g.tokens g.rules.length x.kind=some (1,0,512):=by unfold rightN; simp [k3]
   rw [hN,rightC]
   cases c1:decide (x.num < 0) with
   | true => simp only [go_sem,Ex.a,Gr.a,e0,e1,e2,e4,e3,c1]
   | false =>
    cases c2:decide (x.num ≥ 1) with
    | true => simp only [go_sem,Ex.a,Gr.a,e0,e1,e2,e4,e3,c1,c2]
    | false =>
     cases c3:decide ((x.l.length:Int) < 0) with
     | true => simp only [go_sem,Ex.a,Gr.a,e0,e1,e2,e4,e3,c1,c2,c3]
     | false =>
      cases c4:decide ((x.l.length:Int) > 512) with
      | true => simp only [go_sem,Ex.a,Gr.a,e0,e1,e2,e4,e3,c1,c2,c3,c4]
      | false =>
       simp only [go_sem,Ex.a,Gr.a,e0,e1,e2,e4,e3,c1,c2,c3,c4]
       refine ⟨_,_,_,contains_call h82 h106 x.l (x.z && x.l.isEmpty) _ _ _ hlen inner,?_⟩
       simp only [go_sem]
 have e3:(x.kind == 3)=false:=by simpa using k3
 by_cases k5:x.kind=5
 · have e5:(x.kind == 5)=true:=by simpa using k5
   have hN:rightN g.tokens g.rules.length x.kind=some (1,1,1):=by unfold rightN; simp [k5]
   rw [hN,rightC]
   cases c1:decide (x.num < 0) with
   | true => simp only [go_sem,Ex.a,Gr.a,e0,e1,e2,e4,e3,e5,c1]
   | false =>
    cases c2:decide (x.num ≥ 1) with
    | true => simp only [go_sem,Ex.a,Gr.a,e0,e1,e2,e4,e3,e5,c1,c2]
    | false =>
     cases c3:decide ((x.l.length:Int) < 1) with
     | true => simp only [go_sem,Ex.a,Gr.a,e0,e1,e2,e4,e3,e5,c1,c2,c3]
     | false =>
      cases c4:decide ((x.l.length:Int) > 1) with
      | true => simp only [go_sem,Ex.a,Gr.a,e0,e1,e2,e4,e3,e5,c1,c2,c3,c4]
      | false =>
       simp only [go_sem,Ex.a,Gr.a,e0,e1,e2,e4,e3,e5,c1,c2,c3,c4]
       refine ⟨_,_,_,contains_call h82 h106 x.l (x.z && x.l.isEmpty) _ _ _ hlen inner,?_⟩
       simp only [go_sem]
 have e5:(x.kind == 5)=false:=by simpa using k5
 by_cases k6:x.kind=6
 · have e6:(x.kind == 6)=true:=by simpa using k6
   have hN:rightN g.tokens g.rules.length x.kind=some (1,1,1):=by unfold rightN; simp [k6]
   rw [hN,rightC]
   cases c1:decide (x.num < 0) with
   | true => simp only [go_sem,Ex.a,Gr.a,e0,e1,e2,e4,e3,e5,e6,c1]
   | false =>
    cases c2:decide (x.num ≥ 1) with
    | true => simp only [go_sem,Ex.a,Gr.a,e0,e1,e2,e4,e3,e5,e6,c1,c2]
    | false =>
     cases c3:decide ((x.l.length:Int) < 1) with
     | true => simp only [go_sem,Ex.a,Gr.a,e0,e1,e2,e4,e3,e5,e6,c1,c2,c3]
     | false =>
      cases c4:decide ((x.l.length:Int) > 1) with
      | true => simp only [go_sem,Ex.a,Gr.a,e0,e1,e2,e4,e3,e5,e6,c1,c2,c3,c4]
      | false =>
       simp only [go_sem,Ex.a,Gr.a,e0,e1,e2,e4,e3,e5,e6,c1,c2,c3,c4]
       refine ⟨_,_,_,contains_call h82 h106 x.l (x.z && x.l.isEmpty) _ _ _ hlen inner,?_⟩
       simp only [go_sem]
 have e6:(x.kind == 6)=false:=by simpa using k6
 have hN:rightN g.tokens g.rules.length x.kind=none:=by unfold rightN; simp [k0,k1,k2,k3,k4,k5,k6]
 rw [hN,rightC]
 simp only [go_sem,Ex.a,Gr.a,e0,e1,e2,e3,e4,e5,e6]
termination_by x
decreasing_by exact Ex.sub_lt hy
end Go.Am
namespace Go.Am
open Go Go.Proofs
variable {fz:Nat→Md}
mutual
/-- what a part can be told of -/
def canE (tok:Bool) (q:Int→Bool):Ex→Bool
 | .mk k n _ l => if k=1 then tok else if k=2 then q n else if k=4 then canAny tok q l else if k=3 then canAll tok q l else true
def canAny (tok:Bool) (q:Int→Bool):List Ex→Bool
 | [] => false
 | x :: l => canE tok q x || canAny tok q l
def canAll (tok:Bool) (q:Int→Bool):List Ex→Bool
 | [] => true
 | x :: l => canE tok q x && canAll tok q l
end
theorem canAny_eq (tok:Bool) (q:Int→Bool) (l:List Ex):canAny tok q l=l.any (canE tok q):=by
 induction l with
 | nil => rfl
 | cons x l ih => rw [canAny,List.any_cons,ih]
theorem canAll_eq (tok:Bool) (q:Int→Bool) (l:List Ex):canAll tok q l=!(l.any fun y => !canE tok q y):=by
 induction l with
 | nil => rfl
 | cons x l ih => rw [canAll,List.any_cons,ih]; simp
theorem canE_eq (tok:Bool) (q:Int→Bool) (x:Ex):canE tok q x=if x.kind=1 then tok else if x.kind=2 then q x.num else if x.kind=4 then x.l.any (canE tok q) else if x.kind=3 then !(x.l.any fun y => !canE tok q y) else true:=by
 cases x; rw [canE,canAny_eq,canAll_eq]; rfl
mutual
/-- all calls of a part are of rules that are there -/
def callsIn (r:Nat):Ex→Bool
 | .mk k n _ l => (if k=2 then decide (0≤n∧n < r) else true) && callsInL r l
def callsInL (r:Nat):List Ex→Bool
 | [] => true
 | x :: l => callsIn r x && callsInL r l
end
theorem callsInL_mem {r:Nat}:∀ {l:List Ex} {y:Ex},callsInL r l=true→y ∈ l→callsIn r y=true
 | x :: l,y,h,hy => by
  rw [callsInL,Bool.and_eq_true] at h
  rcases List.mem_cons.1 hy with rfl | hy
  · exact h.1
  · exact callsInL_mem h.2 hy
theorem callsIn_eq (r:Nat) (x:Ex):callsIn r x=((if x.kind=2 then decide (0≤x.num∧x.num < r) else true) && callsInL r x.l):=by cases x; rw [callsIn]; rfl
set_option maxHeartbeats 4000000 in
theorem can_call (h79:fz 51=.cut) (h104:fz 81=.cut) (h105:fz 82=.cut) (h82:fz 54=.cut) (h106:fz 83=.cut) (tok:Bool) (q:Int→Bool) (r:Nat) (f:Nat) (cap:List A) (x:Ex) (σ:St) (hx:SmallE x) (hr:callsIn r x=true)
 (hq:∀ τ,Ext σ τ→∀ n:Int,0≤n→n < r→CallsTo (XX fz) (.func f cap) [.d (.int .i64 n)] τ (.d (.bool (q n))) τ []) :
 CallsTo (XX fz) (.func 51 []) [x.a,.d (.bool tok),.func f cap] σ (.d (.bool (canE tok q x))) σ []:=by
 refine CallsTo.cut0 h79 fn51 (by simp) rfl ?_
 rw [canE_eq]
 rw [callsIn_eq,Bool.and_eq_true] at hr
 simp only [Try.f51,Option.getD_some]
 have hlen:=hx.len
 generalize hσ0:(((σ.push (.cells x.c)).push (.cells [.d (.bool tok)])).push (.cells [.func f cap]))=σ0
 have n0:σ0.n=σ.n+3:=by rw [← hσ0]; simp [St.n_push]
 have g1:σ0.get (σ.n+1)=.cells [.d (.bool tok)]:=by rw [← hσ0,St.get_push_ne (by simp [St.n_push])]; exact St.get_push_eq' (by simp [St.n_push])
 have g2:σ0.get (σ.n+2)=.cells [.func f cap]:=by rw [← hσ0]; exact St.get_push_eq' (by simp [St.n_push])
 have hext0:Ext σ σ0:=by rw [← hσ0]; exact (Ext.refl σ).push.push.push
 have inner:∀ τ:St,Ext σ0 τ→∀ y ∈ x.l,CallsTo (XX fz) (.func 81 [.ptr (σ.n+1) 0,.ptr (σ.n+2) 0]) [y.a] τ (.d (.bool (canE tok q y))) τ []:=fun τ hτ y hy => by
  refine CallsTo.cut0 h104 fn81 (by simp) rfl ?_
  simp only [Try.f81,Option.getD_some]
  have hn:=hτ.n
  have k1:=(hτ.g (σ.n+1) (by omega)).trans g1
  have k2:=(hτ.g (σ.n+2) (by omega)).trans g2
  have m1:σ.n+1≠τ.n:=by omega
  have m2:σ.n+2≠τ.n:=by omega
  simp only [go_sem,Ex.a,k1,k2,m1,m2]
  refine ⟨_,_,_,can_call h79 h104 h105 h82 h106 tok q r f cap y _ (hx.sub hy) (callsInL_mem hr.2 hy) (fun τ' hτ' n a b => hq τ' (hext0.trans (hτ.trans ((Ext.refl τ).push.trans hτ'))) n a b),?_⟩
  simp only [go_sem]
 by_cases c1:x.kind=1
 · have e1:(x.kind == 1)=true:=by simpa using c1
   simp only [go_sem,Ex.a,e1,c1]
 have e1:(x.kind == 1)=false:=by simpa using c1
 by_cases c2:x.kind=2
 · have e2:(x.kind == 2)=true:=by simpa using c2
   have hr1:=hr.1
   rw [if_pos c2] at hr1
   have hr2:0≤x.num∧x.num < r:=by simpa using hr1
   simp only [go_sem,Ex.a,e1,e2,c1,c2]
   refine ⟨_,_,_,hq _ ?_ x.num hr2.1 hr2.2,?_⟩
   · rw [hσ0]; exact (hext0.push).set (by omega)
   · simp only [go_sem]
 have e2:(x.kind == 2)=false:=by simpa using c2
 by_cases c4:x.kind=4
 · have e4:(x.kind == 4)=true:=by simpa using c4
   simp only [go_sem,Ex.a,e1,e2,e4,c1,c2,c4]
   refine ⟨_,_,_,contains_call h82 h106 x.l (x.z && x.l.isEmpty) _ (canE tok q) _ hlen (fun τ hτ y hy => inner τ ?_ y hy),?_⟩
   · have:Ext σ0 ((σ0.push (.cells [.d .nfunc])).set (σ.n+3) (.cells [.func 81 [.ptr (σ.n+1) 0,.ptr (σ.n+2) 0]])):=((Ext.refl σ0).push).set (by omega)
     rw [hσ0] at hτ; exact this.trans hτ
   · simp only [go_sem]
 have e4:(x.kind == 4)=false:=by simpa using c4
 by_cases c3:x.kind=3
 · have e3:(x.kind == 3)=true:=by simpa using c3
   simp only [go_sem,Ex.a,e1,e2,e3,e4,c1,c2,c3,c4]
   have hext1:Ext σ0 ((σ0.push (.cells [.d .nfunc])).set (σ.n+3) (.cells [.func 81 [.ptr (σ.n+1) 0,.ptr (σ.n+2) 0]])):=((Ext.refl σ0).push).set (by omega)
   refine ⟨_,_,_,contains_call h82 h106 x.l (x.z && x.l.isEmpty) _ (fun y => !canE tok q y) _ hlen (fun τ hτ y hy => ?_),?_⟩
   · rw [hσ0] at hτ
     refine CallsTo.cut0 h105 fn82 (by simp) rfl ?_
     simp only [Try.f82,Option.getD_some]
     have hn:=hτ.n
     simp only [St.n_set,St.n_push] at hn
     have k3:τ.get (σ.n+3)=.cells [.func 81 [.ptr (σ.n+1) 0,.ptr (σ.n+2) 0]]:=by rw [hτ.g (σ.n+3) (by simp only [St.n_set,St.n_push]; omega),St.get_set_eq]
     have m3:σ.n+3≠τ.n:=by omega
     simp only [go_sem,Ex.a,k3,m3]
     refine ⟨_,_,_,inner _ ((hext1.trans hτ).push) y hy,?_⟩
     simp only [go_sem]
   · simp only [go_sem]
 have e3:(x.kind == 3)=false:=by simpa using c3
 simp only [go_sem,Ex.a,e1,e2,e3,e4,c1,c2,c3,c4]
termination_by x
decreasing_by exact Ex.sub_lt hy
end Go.Am
namespace Go.Am
open Go Go.Proofs
variable {fz:Nat→Md}
def bA (l:List Bool):List A:=l.map fun b => .d (.bool b)
def boolsD (l:List Bool):List (List D):=l.map fun b => [.bool b]
theorem bA_len (l:List Bool):(bA l).length=l.length:=by simp [bA]
theorem bA_get {l:List Bool} {i:Nat} (h:i < l.length):(bA l)[i]?=some (.d (.bool (l.getD i false))):=by simp [bA,h]
theorem bA_set {l:List Bool} {i:Nat}:(bA l).set i (.d (.bool true))=bA (l.set i true):=by simp [bA,List.map_set]
theorem bA_flat:∀ l:List Bool,bA l=((boolsD l).flatMap id).map A.d
 | [] => rfl
 | b :: l => by have:=bA_flat l; simp only [bA,boolsD,List.map_cons,List.flatMap_cons,List.map_append] at this ⊢; rw [this]; rfl
def growPass (tok:Bool):List Ex→Nat→List Bool→Bool→List Bool × Bool
 | [],_,out,more => (out,more)
 | x :: l,i,out,more => if (!(out.getD i false) && canE tok (fun n => out.getD n.toNat false) x)=true then growPass tok l (i+1) (out.set i true) true else growPass tok l (i+1) out more
def growF (tok:Bool) (l:List Ex):Nat→List Bool→List Bool
 | 0,out => out
 | n+1,out => if (growPass tok l 0 out false).2=true then growF tok l n (growPass tok l 0 out false).1 else (growPass tok l 0 out false).1
def growsP (tok:Bool) (l:List Ex):List Bool:=growF tok l (l.length+1) (List.replicate l.length false)
theorem pass_len (tok:Bool):∀ (l:List Ex) (i:Nat) (out:List Bool) (more:Bool),(growPass tok l i out more).1.length=out.length
 | [],_,_,_ => rfl
 | x :: l,i,out,more => by rw [growPass]; split <;> simp [pass_len tok l]
theorem count_set {out:List Bool} {i:Nat} (hi:i < out.length) (h:out.getD i false=false):(out.set i true).count false+1=out.count false:=by
 have h':out[i]=false:=by simpa [hi] using h
 have:=List.count_set (a:=true) (b:=false) (l:=out) (i:=i) hi
 rw [h'] at this
 have hp:0 < out.count false:=List.count_pos_iff.2 (h' ▸ List.getElem_mem hi)
 simp at this; omega
theorem pass_count (tok:Bool):∀ (l:List Ex) (i:Nat) (out:List Bool) (more:Bool),i+l.length≤out.length→(growPass tok l i out more).1.count false≤out.count false ∧
 (more=false→(growPass tok l i out more).2=true→(growPass tok l i out more).1.count false < out.count false)
 | [],_,_,_,_ => by simp [growPass]
 | x :: l,i,out,more,hl => by
  rw [growPass]
  simp only [List.length_cons] at hl
  split
  · rename_i h
    rw [Bool.and_eq_true] at h
    have hc:=count_set (out:=out) (i:=i) (by omega) (by simpa using h.1)
    have:=(pass_count tok l (i+1) (out.set i true) true (by simp; omega)).1
    exact ⟨by omega,fun _ _ => by omega⟩
  · exact pass_count tok l (i+1) out more (by omega)
theorem gq_call (h103:fz 80=.cut) {kt kr:Nat} {out:List Bool} {n:Int} {τ:St} (h1:τ.get kt=.cells [.row kr 0 out.length 1]) (h2:τ.get kr=.cells (bA out)) (h0:0≤n) (hn:n < out.length) :
 CallsTo (XX fz) (.func 80 [.ptr kt 0]) [.d (.int .i64 n)] τ (.d (.bool (out.getD n.toNat false))) τ []:=by
 obtain ⟨i,rfl⟩:=Int.eq_ofNat_of_zero_le h0
 have hi:i < out.length:=by omega
 refine CallsTo.cut0 h103 fn80 (by simp) rfl ?_
 simp only [Try.f80,Option.getD_some]
 have hx:=indexR_nat (σ:=τ) (k:=kr) (off:=0) (s:=1) (cs:=bA out) hi
 have e:0+i * 1=i:=by omega
 rw [e] at hx
 simp only [go_sem,h1,h2,hx,bA_get hi,Int.toNat_natCast]
set_option maxHeartbeats 4000000 in
theorem grows_call (h77:fz 49=.ice) (h103:fz 80=.cut) (h79:fz 51=.cut) (h104:fz 81=.cut) (h105:fz 82=.cut) (h82:fz 54=.cut) (h106:fz 83=.cut) (g:Gr) (tok:Bool) (σ:St) (hL:g.rules.length < 1000000)
 (hg:∀ r ∈ g.rules,SmallE r.body∧callsIn g.rules.length r.body=true) :
 CallsTo (XX fz) (.func 49 []) [g.a,.d (.bool tok)] σ (.d (.slc false (boolsD (growsP tok (g.rules.map (·.body)))))) σ []:=by
 refine CallsTo.ice0 h77 fn49 (by simp) ?_
 simp only [Try.f49,Option.getD_some]
 have hmk:=mksE_nat (σ:=σ.push (.cells g.c)) (kd:=.bool) (s:=1) (b:=1) (n:=g.rules.length) (z:=[.d (.bool false)]) (zv:=.d (.bool false)) ⟨rfl,by omega,by omega,by omega⟩
 simp only [go_sem,Gr.a,hmk]
 generalize hF:growsP tok (g.rules.map (·.body))=F
 generalize hσ0:(((σ.push (.cells g.c)).push (.cells (rep g.rules.length [.d (.bool false)]))).push (.cells [.d (.slc true [])])).set (σ.n+2) (.cells [.row (σ.n+1) 0 g.rules.length 1])=σ0
 have hrep:rep g.rules.length [A.d (D.bool false)]=bA (List.replicate g.rules.length false):=by
  generalize g.rules.length=m
  induction m with
  | zero => rfl
  | succ m ih => rw [rep_succ,ih]; simp [bA,List.replicate_succ]
 have n0:σ0.n=σ.n+3:=by rw [← hσ0]; simp [St.n_push,St.n_set]
 have b0:σ0.get σ.n=.cells g.c:=by rw [← hσ0]; simp only [go_sem]
 have b1:σ0.get (σ.n+1)=.cells (bA (List.replicate g.rules.length false)):=by rw [← hσ0]; simp only [go_sem,hrep]
 have b2:σ0.get (σ.n+2)=.cells [.row (σ.n+1) 0 g.rules.length 1]:=by rw [← hσ0]; simp only [go_sem]
 clear hσ0
 refine Ev.loop_ind (fun m tm τ W => ∃ (out:List Bool) (more:Bool) (n:Nat),m=(if more then n+1 else 0)∧((more=true∧growF tok (g.rules.map (·.body)) n out=F∧out.count false < n)∨(more=false∧out=F))∧out.length=g.rules.length∧W=[]∧σ.n+3≤τ.n ∧
  τ.get σ.n=.cells g.c∧τ.get (σ.n+1)=.cells (bA out)∧τ.get (σ.n+2)=.cells [.row (σ.n+1) 0 g.rules.length 1]∧Tm.at tm 1=.d (.bool tok)∧Tm.at tm 2=.ptr σ.n 0∧Tm.at tm 5=.ptr (σ.n+2) 0∧Tm.at tm 6=.d (.bool more)) ?_ (g.rules.length+2) _ _ _
  ⟨List.replicate g.rules.length false,true,g.rules.length+1,by simp,.inl ⟨rfl,by rw [← hF]; unfold growsP; simp,by have:=List.count_le_length (a:=false) (l:=List.replicate g.rules.length false); rw [List.length_replicate] at this; omega⟩,by simp,rfl,by omega,b0,b1,b2,?_,?_,?_,?_⟩
 · rintro m tm τ W ⟨out,more,n,rfl,hst,hol,rfl,hn,g0,g1,g2,t1,t2,t5,t6⟩ ih
   rcases hst with ⟨rfl,hgf,hct⟩ | ⟨rfl,rfl⟩
   · simp only [go_sem,t1,t2,t5,t6,g0]
     cases n with
     | zero => omega
     | succ n =>
     rw [growF] at hgf
     refine Ev.loop_ind (fun m tm τ W => ∃ (i:Nat) (o:List Bool) (mo:Bool),m=g.rules.length - i∧i≤g.rules.length∧growPass tok ((g.rules.map (·.body)).drop i) i o mo=growPass tok (g.rules.map (·.body)) 0 out false∧o.length=g.rules.length∧W=[]∧σ.n+3≤τ.n ∧
      τ.get σ.n=.cells g.c∧τ.get (σ.n+1)=.cells (bA o)∧τ.get (σ.n+2)=.cells [.row (σ.n+1) 0 g.rules.length 1]∧Tm.at tm 1=.d (.bool tok)∧Tm.at tm 2=.ptr σ.n 0∧Tm.at tm 5=.ptr (σ.n+2) 0∧Tm.at tm 6=.d (.bool mo) ∧
      Tm.at tm 15=g.rd∧Tm.at tm 16=.d (.int .i64 g.rules.length)∧Tm.at tm 17=.d (.int .i64 i)) ?_ g.rules.length _ _ _
      ⟨0,out,false,rfl,by omega,by rw [List.drop_zero],hol,rfl,hn,g0,g1,g2,?_,?_,?_,?_,?_,?_,?_⟩
     · clear t1 t2 t5 t6 g0 g1 g2 hn
       rintro m tm τ W ⟨i,o,mo,rfl,hi,hps,hlo,rfl,hn,g0,g1,g2,t1,t2,t5,t6,t15,t16,t17⟩ ih2
       by_cases hl:i < g.rules.length
       · have hget:g.rules[i]?=some g.rules[i]:=by simp [hl]
         have hmem:g.rules[i] ∈ g.rules:=List.getElem_mem hl
         obtain ⟨hsm,hcl⟩:=hg _ hmem
         have hio:i < o.length:=by omega
         have hm1:(g.rules.map (·.body)).drop i=g.rules[i].body :: (g.rules.map (·.body)).drop (i+1):=by
          rw [List.drop_eq_getElem_cons (by simpa using hl)]; simp
         rw [hm1,growPass] at hps
         have hx:=fun ρ:St => indexR_nat (σ:=ρ) (k:=σ.n+1) (off:=0) (s:=1) (cs:=bA o) (show i < g.rules.length from hl)
         have e:0+i * 1=i:=by omega
         simp only [e] at hx
         have lz:low σ.n [τ.n]=[]:=by rw [low_cons_ge (by omega)]; rfl
         have m0:σ.n≠τ.n:=by omega
         have m1:σ.n+1≠τ.n:=by omega
         have m2:σ.n+2≠τ.n:=by omega
         cases ho:o.getD i false with
         | true =>
          rw [ho] at hps
          have hbg:=bA_get hio
          rw [ho] at hbg
          simp only [go_sem,t1,t2,t5,t6,t15,t16,t17,dec_lt' hl,Gr.index_rd hget,g0,g1,g2,m0,m1,m2,hx,hbg,lz,wrap_succ' hl (by omega)]
          exact ih2 _ _ _ _ (by omega) ⟨i+1,o,mo,rfl,hl,by simpa using hps,hlo,rfl,by simp only [St.n_set,St.n_push]; omega,by simp only [go_sem,m0,g0],by simp only [go_sem,m1,g1],by simp only [go_sem,m2,g2],by simp only [go_sem,t1],by simp only [go_sem,t2],by simp only [go_sem,t5],by simp only [go_sem,t6],by simp only [go_sem,t15],by simp only [go_sem,t16],by simp only [go_sem]⟩
         | false =>
          rw [ho] at hps
          have hbg:=bA_get hio
          rw [ho] at hbg
          simp only [go_sem,t1,t2,t5,t6,t15,t16,t17,dec_lt' hl,Gr.index_rd hget,g0,g1,g2,m0,m1,m2,hx,hbg,lz]
          have hcan:=can_call (fz:=fz) h79 h104 h105 h82 h106 tok (fun n => o.getD n.toNat false) g.rules.length 80 [.ptr (σ.n+2) 0] g.rules[i].body ((τ.push (.cells [.d (.str ⟨⟨[]⟩⟩),.d (.int .i64 0),.d (.int .i64 0),.d (.slc true [])])).set τ.n (.cells g.rules[i].c)) hsm hcl
           (fun ρ hρ n' a b => gq_call (kr:=σ.n+1) h103 (by rw [hρ.g _ (by simp only [St.n_set,St.n_push]; omega),hlo]; simp only [go_sem,m2,g2]) (by rw [hρ.g _ (by simp only [St.n_set,St.n_push]; omega)]; simp only [go_sem,m1,g1]) a (by omega))
          refine ⟨_,_,_,hcan,?_⟩
          cases hc:canE tok (fun n => o.getD n.toNat false) g.rules[i].body with
          | false =>
           rw [hc] at hps
           simp only [go_sem,t17,wrap_succ' hl (by omega)]
           exact ih2 _ _ _ _ (by omega) ⟨i+1,o,mo,rfl,hl,by simpa using hps,hlo,rfl,by simp only [St.n_set,St.n_push]; omega,by simp only [go_sem,m0,g0],by simp only [go_sem,m1,g1],by simp only [go_sem,m2,g2],by simp only [go_sem,t1],by simp only [go_sem,t2],by simp only [go_sem,t5],by simp only [go_sem,t6],by simp only [go_sem,t15],by simp only [go_sem,t16],by simp only [go_sem]⟩
          | true =>
           rw [hc] at hps
           have hbl:=bA_len o
           have hset:=bA_set (l:=o) (i:=i)
           have lz1:low σ.n [σ.n+1]=[]:=by simp [low]
           have hio2:i < (bA o).length:=by omega
           simp only [go_sem,t1,t2,t5,t6,t15,t16,t17,g0,g1,g2,m0,m1,m2,hx,hio2,hset,lz1,wrap_succ' hl (by omega)]
           exact ih2 _ _ _ _ (by omega) ⟨i+1,o.set i true,true,rfl,hl,by simpa using hps,by simpa using hlo,rfl,by simp only [St.n_set,St.n_push]; omega,by simp only [go_sem,m0,g0],by simp only [go_sem],by simp only [go_sem,m2,g2],by simp only [go_sem,t1],by simp only [go_sem,t2],by simp only [go_sem,t5],by simp only [go_sem],by simp only [go_sem,t15],by simp only [go_sem,t16],by simp only [go_sem]⟩
       · rw [List.drop_eq_nil_of_le (by simp; omega),growPass] at hps
         simp only [go_sem,t15,t16,t17,dec_ge' hl]
         rw [← hps] at hgf
         dsimp only at hgf
         have hcnt:=pass_count tok (g.rules.map (·.body)) 0 out false (by simp; omega)
         rw [← hps] at hcnt
         dsimp only at hcnt
         cases mo with
         | true =>
          rw [if_pos rfl] at hgf
          have hlt:=hcnt.2 rfl rfl
          exact ih (n+1) _ _ _ (by simp) ⟨o,true,n,by simp,.inl ⟨rfl,hgf,by omega⟩,hlo,rfl,hn,g0,g1,g2,by simp only [go_sem,t1],by simp only [go_sem,t2],by simp only [go_sem,t5],by simp only [go_sem,t6]⟩
         | false =>
          rw [if_neg (by simp)] at hgf
          exact ih 0 _ _ _ (by simp) ⟨o,false,n,by simp,.inr ⟨rfl,hgf⟩,hlo,rfl,hn,g0,g1,g2,by simp only [go_sem,t1],by simp only [go_sem,t2],by simp only [go_sem,t5],by simp only [go_sem,t6]⟩
     all_goals first | rfl | (simp only [go_sem,t1,t2,t5,t6]; done) | (simp only [go_sem,t1,t2,t5,t6]; rfl)
   · simp only [go_sem,t1,t2,t5,t6,g2]
     have hfl:boolsD out=out.map fun b => [.bool b]:=rfl
     have hall:∀ x ∈ boolsD out,x.length=1:=by intro x hx; obtain ⟨y,-,rfl⟩:=List.mem_map.1 hx; rfl
     have hblen:(boolsD out).length=g.rules.length:=by simp [boolsD,hol]
     have hba:=bA_flat out
     have hfr:=freeze_row (σ:=τ) (lo:=σ.n) (n:=fzDepth) (k:=σ.n+1) (len:=g.rules.length) (es:=1) (ds:=(boolsD out).flatMap id) (by simp [fzDepth]) g1 (by omega) (by rw [bA_len]; omega) (by
      rw [hba,List.take_of_length_le (by rw [List.length_map,flat_len hall]; omega)]
      exact freezeL_map (by rw [flat_len hall]; simp [fzDepth]; omega))
     have hch:=chunks_flat hall
     rw [hblen] at hch
     rw [hch] at hfr
     rw [hfr]
     simp only [go_sem]
 all_goals first | rfl | (simp only [go_sem]; done) | (simp only [go_sem]; rfl)
end Go.Am
namespace Go.Am
open Go Go.Proofs
variable {fz:Nat→Md}
def idxG {α:Type} (p:α→Bool):Nat→List α→Int
 | _,[] => -1
 | i,x :: l => if p x then (i:Int) else idxG p (i+1) l
theorem idxG_any {α:Type} (p:α→Bool):∀ (l:List α) (i:Nat),decide (idxG p i l ≥ 0)=l.any p
 | [],i => by simp [idxG]
 | x :: l,i => by
  rw [idxG,List.any_cons]
  cases h:p x with
  | true => simp
  | false => simp only [Bool.false_eq_true,if_false,Bool.false_or]; exact idxG_any p l (i+1)
theorem indexb_call (h107:fz 84=.cut) (l:List Bool) (z:Bool) (b:Bool) (σ:St) (hl:l.length < 1000000000) :
 CallsTo (XX fz) (.func 84 []) [.d (.slc z (boolsD l)),.d (.bool b)] σ (.d (.int .i64 (idxG (b == ·) 0 l))) σ []:=by
 refine CallsTo.cut0 h107 fn84 (by simp) rfl ?_
 simp only [Try.f84,Option.getD_some]
 have hlen:∀ τ:St,sliceLen τ (.d (.slc z (boolsD l)))=some l.length:=fun τ => by simp [sliceLen,boolsD]
 simp only [go_sem,hlen,boolsD,List.length_map]
 refine Ev.loop_ind (fun m tm τ W => ∃ i:Nat,m=l.length - i∧i≤l.length∧W=[]∧τ=σ∧idxG (b == ·) 0 l=idxG (b == ·) i (l.drop i) ∧
  tm.at 0=.d (.slc z (boolsD l))∧tm.at 1=.d (.bool b)∧tm.at 7=.d (.int .i64 l.length)∧tm.at 8=.d (.int .i64 i)) ?_ l.length _ _ _ ⟨0,rfl,by omega,rfl,rfl,rfl,?_,?_,?_,?_⟩
 · rintro m tm τ W ⟨i,rfl,hi,rfl,rfl,he,t0,t1,t7,t8⟩ ih
   by_cases hlt:i < l.length
   · have hget:(boolsD l)[i]?=some [.bool l[i]]:=by simp [boolsD,hlt]
     have hidx:indexK τ 1 (.d (.slc z (boolsD l))) (.d (.int .i64 (i:Int)))=.val (.d (.vptr [.bool l[i]] 0)) τ [] []:=by rw [indexK_d]; exact indexD_nat hget rfl
     rw [List.drop_eq_getElem_cons hlt,idxG] at he
     cases e:(b == l[i]) with
     | true =>
      rw [e] at he
      simp only [go_sem,t0,t1,t7,t8,dec_lt' hlt,hidx,e,List.map_cons,List.map_nil,List.getElem?_cons_zero]
      rw [he]; rfl
     | false =>
      rw [e] at he
      simp only [go_sem,t0,t1,t7,t8,dec_lt' hlt,hidx,e,List.map_cons,List.map_nil,List.getElem?_cons_zero,wrap_succ' hlt hl]
      exact ih _ _ _ _ (by omega) ⟨i+1,rfl,hlt,rfl,rfl,by rw [he]; rfl,by simp only [go_sem,t0],by simp only [go_sem,t1],by simp only [go_sem,t7],by simp only [go_sem]⟩
   · simp only [go_sem,t0,t1,t7,t8,dec_ge' hlt]
     rw [he,List.drop_eq_nil_of_le (by omega)]; rfl
 all_goals first | rfl | (simp only [go_sem]; done) | (simp only [go_sem]; rfl)
theorem containsb_call (h83:fz 55=.cut) (h107:fz 84=.cut) (l:List Bool) (z:Bool) (b:Bool) (σ:St) (hl:l.length < 1000000000) :
 CallsTo (XX fz) (.func 55 []) [.d (.slc z (boolsD l)),.d (.bool b)] σ (.d (.bool (l.any (b == ·)))) σ []:=by
 refine CallsTo.cut0 h83 fn55 (by simp) rfl ?_
 simp only [Try.f55,Option.getD_some]
 simp only [go_sem]
 refine ⟨_,_,_,indexb_call h107 l z b σ hl,?_⟩
 simp only [go_sem,idxG_any]
theorem indexr_call (h108:fz 85=.cut) (l:List Ru) (z:Bool) (f:A) (p:Ru→Bool) (σ:St) (hl:l.length < 1000000000) (hf:∀ τ,Ext σ τ→∀ y ∈ l,CallsTo (XX fz) f [.agg y.c] τ (.d (.bool (p y))) τ []) :
 CallsTo (XX fz) (.func 85 []) [.d (.slc z (l.map Ru.cs)),f] σ (.d (.int .i64 (idxG p 0 l))) σ []:=by
 refine CallsTo.cut0 h108 fn85 (by simp) rfl ?_
 simp only [Try.f85,Option.getD_some]
 have hlen:∀ τ:St,sliceLen τ (.d (.slc z (l.map Ru.cs)))=some l.length:=fun τ => by simp [sliceLen]
 simp only [go_sem,List.length_map]
 refine Ev.loop_ind (fun m tm τ W => ∃ i:Nat,m=l.length - i∧i≤l.length∧W=[]∧τ=σ∧idxG p 0 l=idxG p i (l.drop i) ∧
  tm.at 0=.d (.slc z (l.map Ru.cs))∧tm.at 1=f∧tm.at 7=.d (.int .i64 l.length)∧tm.at 8=.d (.int .i64 i)) ?_ l.length _ _ _ ⟨0,rfl,by omega,rfl,rfl,rfl,?_,?_,?_,?_⟩
 · rintro m tm τ W ⟨i,rfl,hi,rfl,rfl,he,t0,t1,t7,t8⟩ ih
   by_cases hlt:i < l.length
   · have hget:l[i]?=some l[i]:=by simp [hlt]
     have hidx:indexK τ 4 (.d (.slc z (l.map Ru.cs))) (.d (.int .i64 (i:Int)))=.val (.d (.vptr (l[i]).cs 0)) τ [] []:=by rw [indexK_d]; exact indexD_nat (by simp [hget]) (l[i]).cs_len
     simp only [go_sem,t0,t1,t7,t8,dec_lt' hlt,hidx]
     refine ⟨_,_,_,hf _ (Ext.refl _) _ (List.getElem_mem hlt),?_⟩
     rw [List.drop_eq_getElem_cons hlt,idxG] at he
     cases hp:p l[i] with
     | true =>
      rw [hp] at he
      simp only [go_sem,t8]
      rw [he]; rfl
     | false =>
      rw [hp] at he
      simp only [go_sem,t0,t1,t7,t8,wrap_succ' hlt hl]
      exact ih _ _ _ _ (by omega) ⟨i+1,rfl,hlt,rfl,rfl,by rw [he]; rfl,by simp only [go_sem,t0],by simp only [go_sem,t1],by simp only [go_sem,t7],by simp only [go_sem]⟩
   · simp only [go_sem,t0,t1,t7,t8,dec_ge' hlt]
     rw [he,List.drop_eq_nil_of_le (by omega)]; rfl
 all_goals first | rfl | (simp only [go_sem]; done) | (simp only [go_sem]; rfl)
theorem containsr_call (h84:fz 56=.cut) (h108:fz 85=.cut) (l:List Ru) (z:Bool) (f:A) (p:Ru→Bool) (σ:St) (hl:l.length < 1000000000) (hf:∀ τ,Ext σ τ→∀ y ∈ l,CallsTo (XX fz) f [.agg y.c] τ (.d (.bool (p y))) τ []) :
 CallsTo (XX fz) (.func 56 []) [.d (.slc z (l.map Ru.cs)),f] σ (.d (.bool (l.any p))) σ []:=by
 refine CallsTo.cut0 h84 fn56 (by simp) rfl ?_
 simp only [Try.f56,Option.getD_some]
 simp only [go_sem]
 refine ⟨_,_,_,indexr_call h108 l z f p σ hl hf,?_⟩
 simp only [go_sem,idxG_any]
end Go.Am

/- Part G0 of a proof that runs a program's calls on a small machine whose values bear no addresses: no conditions. -/
import Derived.Test.YtfhoagkadjinlaaAmA6
import Derived.Test.YtfhoagkadjinlaaAmF1
import Derived.Test.YtfhoagkadjinlaaRows
import Derived.WalkKit
import Derived.ProofKit
import Derived.OpenShut
import Derived.JoinedCond
import Derived.Carry
import Derived.Test.YtfhoagkadjinlaaAmQ3
set_option autoImplicit false
set_option linter.unusedSimpArgs false
set_option linter.unusedVariables false
set_option linter.unusedSectionVars false
namespace Go.Am
open Go Go.Proofs Go.Proofs.Ytfhoagkadjinlaa
open Go.ChangeShapes Go.WideShapes Go.ChangeAt Go.RowKit
theorem Addr.add_add (a:Addr) (n m:Nat):(a.add n).add m=a.add (n+m):=by
 unfold Addr.add
 by_cases hn:n=0
 · subst hn; simp
 · by_cases hm:m=0
   · subst hm; simp [hn]
   · simp [hn,hm,Nat.add_assoc]
theorem cells_get {w:World} {base n:Nat} {a:Addr} {vs:List Value} (h:w.cells? base a n=some vs):vs.length=n∧∀ i,i < n→w.cell? (a.add i)=vs[i]?:=by
 unfold World.cells? at h
 split at h
 · have hl:∀ (l:List Nat) (vs:List Value),l.mapM (fun i => w.cell? (a.add i))=some vs→vs.length=l.length∧∀ j,j < l.length→(l[j]?).bind (fun i => w.cell? (a.add i))=vs[j]?:=by
    intro l
    induction l with
    | nil => intro vs h; simp at h; subst h; simp
    | cons x l ih =>
     intro vs h
     rw [List.mapM_cons] at h
     cases hx:w.cell? (a.add x) with
     | none => simp [hx] at h
     | some v =>
      cases hr:l.mapM (fun i => w.cell? (a.add i)) with
      | none => simp [hx,hr] at h
      | some r =>
       simp [hx,hr] at h; subst h
       obtain ⟨h1,h2⟩:=ih r hr
       refine ⟨by simp [h1],fun j hj => ?_⟩
       cases j with
       | zero => simp [hx]
       | succ j => simp only [List.getElem?_cons_succ]; exact h2 j (by simpa using hj)
   obtain ⟨h1,h2⟩:=hl _ _ h
   rw [List.length_range] at h1
   refine ⟨h1,fun i hi => ?_⟩
   have:=h2 i (by simpa using hi)
   rw [← this]; simp [hi]
 · cases h
theorem collect {α:Type} (P:Nat→α→Prop):∀ n,(∀ i,i < n→∃ y,P i y)→∃ l:List α,l.length=n∧∀ i y,l[i]?=some y→P i y
 | 0,_ => ⟨[],rfl,by simp⟩
 | n+1,h => by
  obtain ⟨l,h1,h2⟩:=collect P n fun i hi => h i (by omega)
  obtain ⟨y,hy⟩:=h n (by omega)
  refine ⟨l ++ [y],by simp [h1],fun i z hz => ?_⟩
  rw [List.getElem?_append] at hz
  split at hz
  · exact h2 i z hz
  · rename_i hi
    have:i=n:=by
     have:=List.getElem?_eq_some_iff.1 hz
     obtain ⟨h3,_⟩:=this; simp at h3; omega
    subst this
    rw [h1] at hz; simp at hz; subst hz; exact hy
def DCells (M:Mem) (ds:List D) (vs:List Value):Prop:=vs.length=ds.length∧∀ (j:Nat) (d:D),ds[j]?=some d→∃ v,vs[j]?=some v∧DR M d v
theorem dr_slice {w:World} {base es:Nat} {a:Addr} {len cap:Nat} {xs:List (List D)} (hl:xs.length=len) (hc:len≤cap)
 (h:∀ i x,xs[i]?=some x→x.length=es∧∃ vs,w.cells? base (a.add (i * es)) es=some vs∧DCells w.cell? x vs):DR w.cell? (.slc false xs) (.slice (some a) len cap):=by
 subst hl
 refine .slc xs a cap es (fun i j => (w.cell? (a.add (i * es+j))).getD default) hc (fun i x hx => (h i x hx).1) (fun i x j d hx hd => ?_) (fun i x j d hx hd => ?_)
 · obtain ⟨h1,vs,h2,h3⟩:=h i x hx
   obtain ⟨v,hv,_⟩:=h3.2 j d hd
   obtain ⟨e1,e2⟩:=cells_get h2
   have hj:j < es:=by rw [← e1]; exact (List.getElem?_eq_some_iff.1 hv).1
   have:=e2 j hj
   rw [Addr.add_add] at this
   rw [this,hv]; rfl
 · obtain ⟨h1,vs,h2,h3⟩:=h i x hx
   obtain ⟨v,hv,hdr⟩:=h3.2 j d hd
   obtain ⟨e1,e2⟩:=cells_get h2
   have hj:j < es:=by rw [← e1]; exact (List.getElem?_eq_some_iff.1 hv).1
   have:=e2 j hj
   rw [Addr.add_add] at this
   rw [this,hv]; exact hdr
theorem bulk_sum {H α:Type} (f:α→Nat):∀ (l:List α) (m:List (DataW H)),l.length=m.length→(∀ (i:Nat) (y:α) (d:DataW H),l[i]?=some y→m[i]?=some d→f y≤Rows.uptoBulk d)→(l.map f).sum≤Rows.uptoBulkAll m
 | [],m,_,_ => by simp
 | y :: l,[],h,_ => by cases h
 | y :: l,d :: m,h,hf => by
  have h1:=hf 0 y d rfl rfl
  have h2:=bulk_sum f l m (by simpa using h) fun i y d hy hd => hf (i+1) y d (by simpa using hy) (by simpa using hd)
  simp only [List.map_cons,List.sum_cons,Rows.uptoBulkAll]; omega
end Go.Am
namespace Go.Am
open Go Go.Proofs Go.Proofs.Ytfhoagkadjinlaa
open Go.ChangeShapes Go.WideShapes Go.ChangeAt Go.RowKit
theorem cells40:Try.prog.cellsOf 40=3:=by kernel_rfl
theorem cells42:Try.prog.cellsOf 42=4:=by kernel_rfl
theorem cells24:Try.prog.cellsOf 24=2:=by kernel_rfl
theorem cells38:Try.prog.cellsOf 38=1:=by kernel_rfl
theorem cells22:Try.prog.cellsOf 22=1:=by kernel_rfl
theorem cells9:Try.prog.cellsOf 9=1:=by kernel_rfl
theorem cells3':Try.prog.cellsOf 3=1:=by kernel_rfl
theorem len3 {α:Type} {l:List α} (h:l.length=3):∃ a b c,l=[a,b,c]:=by
 match l,h with
 | [a,b,c],_ => exact ⟨a,b,c,rfl⟩
theorem len2 {α:Type} {l:List α} (h:l.length=2):∃ a b,l=[a,b]:=by
 match l,h with
 | [a,b],_ => exact ⟨a,b,rfl⟩
theorem len4' {α:Type} {l:List α} (h:l.length=4):∃ a b c d,l=[a,b,c,d]:=by
 match l,h with
 | [a,b,c,d],_ => exact ⟨a,b,c,d,rfl⟩
theorem ex_of {H:Type} {enc:TypeId × Value→H} {w:World} {sp:Nat→Bool} {held:Bool}:∀ (n:Nat) (cs:List Value) (x:DataW H × List MemPlace),DataW.trod enc Try.prog w 0 sp held n 40 cs=some x →
 ∃ y:Ex,DCells w.cell? y.cs cs∧y.sz≤Rows.uptoBulk x.1:=by
 intro n
 induction n using Nat.strongRecOn with
 | ind n ih =>
  intro cs x h
  obtain ⟨xs,m,rfl,rfl,hl,hlen,hf⟩:=DataW.trod_struct Try.underlying40 h
  rw [cells40] at hl
  obtain ⟨c0,c1,c2,rfl⟩:=len3 hl
  obtain ⟨x0,x1,x2,rfl⟩:=len3 (show xs.length=3 from hlen)
  have h0:DataW.trod enc Try.prog w 0 sp held m 3 (([c0,c1,c2].drop 0).take (Try.prog.cellsOf 3))=[x0,x1,x2][0]?:=by have:=hf 0 _ rfl; exact this
  have h1:DataW.trod enc Try.prog w 0 sp held m 3 (([c0,c1,c2].drop 1).take (Try.prog.cellsOf 3))=[x0,x1,x2][1]?:=by have:=hf 1 _ rfl; exact this
  have h3:DataW.trod enc Try.prog w 0 sp held m 38 (([c0,c1,c2].drop 2).take (Try.prog.cellsOf 38))=[x0,x1,x2][2]?:=by have:=hf 2 _ rfl; exact this
  simp only [cells3',cells38,List.drop_zero,List.take_succ_cons,List.take_zero,List.drop_succ_cons,List.getElem?_cons_zero,List.getElem?_cons_succ] at h0 h1 h3
  obtain ⟨n0,e0,-,-⟩:=DataW.trod_int Try.underlying3 h0
  obtain ⟨n1,e1,-,-⟩:=DataW.trod_int Try.underlying3 h1
  have e0:c0=.int .i64 n0:=by simpa using e0
  have e1:c1=.int .i64 n1:=by simpa using e1
  subst e0 e1
  have fin:∀ (z:Bool) (l:List Ex),DR w.cell? (.slc (z && l.isEmpty) (l.map Ex.cs)) c2→DCells w.cell? (Ex.mk n0 n1 z l).cs [.int .i64 n0,.int .i64 n1,c2]:=fun z l hd => by
   refine ⟨by rw [Ex.cs_len]; rfl,fun j d hj => ?_⟩
   rw [Ex.cs] at hj
   match j,hj with
   | 0,hj => simp at hj; subst hj; exact ⟨_,rfl,.int _ _⟩
   | 1,hj => simp at hj; subst hj; exact ⟨_,rfl,.int _ _⟩
   | 2,hj => simp only [List.getElem?_cons_succ,List.getElem?_cons_zero,Option.some.injEq] at hj; subst hj; exact ⟨_,rfl,hd⟩
   | j+3,hj => simp at hj
  rcases DataW.trod_slice Try.underlying38 h3 with ⟨e3,rfl⟩ | ⟨a,len,cap,elems,rest,k,rfl,e3,rfl,-,hcap,-,hel,hrd,-,-⟩
  · simp only [List.cons.injEq,and_true] at e3; subst e3
    refine ⟨.mk n0 n1 true [],fin true [] .slcNil,?_⟩
    rw [Ex.sz]; simp [Rows.uptoBulk]
  · simp only [List.cons.injEq,and_true] at e3; subst e3
    rw [cells40] at hrd
    have hex:∀ i,i < len→∃ y:Ex,(∃ vs,w.cells? 0 (a.add (i * 3)) 3=some vs∧DCells w.cell? y.cs vs)∧∀ e,elems[i]?=some e→y.sz≤Rows.uptoBulk e.1:=fun i hi => by
     have hi':=hrd i hi
     rw [List.getElem?_eq_getElem (by omega)] at hi'
     cases hc:w.cells? 0 (a.add (i * 3)) 3 with
     | none => rw [hc] at hi'; cases hi'
     | some vs =>
      rw [hc] at hi'
      obtain ⟨y,hy1,hy2⟩:=ih k (by omega) vs _ hi'
      exact ⟨y,⟨vs,rfl,hy1⟩,fun e he => by rw [List.getElem?_eq_getElem (by omega)] at he; cases he; exact hy2⟩
    obtain ⟨l,hll,hl2⟩:=collect _ len hex
    refine ⟨.mk n0 n1 false l,fin false l ?_,?_⟩
    · refine dr_slice (base:=0) (es:=3) (by simp [hll]) hcap fun i x hx => ?_
      rw [List.getElem?_map] at hx
      cases hy:l[i]? with
      | none => rw [hy] at hx; cases hx
      | some y => rw [hy] at hx; cases hx; exact ⟨y.cs_len,(hl2 i y hy).1⟩
    · rw [Ex.sz]
      have:=bulk_sum Ex.sz l (elems.map (·.1)) (by simp [hll,hel]) fun i y d hy hd => by
       rw [List.getElem?_map] at hd
       cases he:elems[i]? with
       | none => rw [he] at hd; cases hd
       | some e => rw [he] at hd; cases hd; exact (hl2 i y hy).2 e he
      simp only [List.map_cons,List.map_nil,Rows.uptoBulk,Rows.uptoBulkAll]; omega
theorem ru_of {H:Type} {enc:TypeId × Value→H} {w:World} {sp:Nat→Bool} {held:Bool} (n:Nat) (cs:List Value) (x:DataW H × List MemPlace) (h:DataW.trod enc Try.prog w 0 sp held n 42 cs=some x) :
 ∃ y:Ru,DCells w.cell? y.cs cs∧y.body.sz≤Rows.uptoBulk x.1:=by
 obtain ⟨xs,m,rfl,rfl,hl,hlen,hf⟩:=DataW.trod_struct Try.underlying42 h
 rw [cells42] at hl
 obtain ⟨c0,c1,c2,c3,rfl⟩:=len4' hl
 obtain ⟨x0,x1,rfl⟩:=len2 (show xs.length=2 from hlen)
 have h0:DataW.trod enc Try.prog w 0 sp held m 9 (([c0,c1,c2,c3].drop 0).take (Try.prog.cellsOf 9))=[x0,x1][0]?:=by have:=hf 0 _ rfl; exact this
 have h1:DataW.trod enc Try.prog w 0 sp held m 40 (([c0,c1,c2,c3].drop 1).take (Try.prog.cellsOf 40))=[x0,x1][1]?:=by have:=hf 1 _ rfl; exact this
 simp only [cells9,cells40,List.drop_zero,List.take_succ_cons,List.take_zero,List.drop_succ_cons,List.getElem?_cons_zero,List.getElem?_cons_succ] at h0 h1
 obtain ⟨s,e0,-,-⟩:=DataW.trod_string Try.underlying9 h0
 have e0:c0=.string s:=by simpa using e0
 subst e0
 obtain ⟨y,hy1,hy2⟩:=ex_of m _ _ h1
 refine ⟨⟨s,y⟩,⟨by rw [Ru.cs_len]; rfl,fun j d hj => ?_⟩,?_⟩
 · rw [Ru.cs] at hj
   cases j with
   | zero => simp at hj; subst hj; exact ⟨_,rfl,.str _⟩
   | succ j => exact hy1.2 j d (by simpa using hj)
 · simp only [List.map_cons,List.map_nil,Rows.uptoBulk,Rows.uptoBulkAll]; omega
def Gr.sz (g:Gr):Nat:=1+(g.rules.map fun r => r.body.sz).sum
theorem Gr.small_of {g:Gr} {n:Nat} (h:g.sz≤n) (hn:n < 2000000):SmallG g∧g.rules.length < 2000000:=by
 have h1:∀ l:List Ru,l.length≤(l.map fun r => r.body.sz).sum:=by
  intro l
  induction l with
  | nil => simp
  | cons r l ih => have:=r.body.sz_eq; simp; omega
 refine ⟨fun r hr => ?_,?_⟩
 · have:∀ l:List Ru,r ∈ l→r.body.sz≤(l.map fun r => r.body.sz).sum:=by
    intro l
    induction l with
    | nil => intro h; cases h
    | cons a l ih =>
     intro h
     rcases List.mem_cons.1 h with rfl | h
     · simp
     · have:=ih h; simp; omega
   have:=this _ hr
   unfold Gr.sz at h; unfold SmallE; omega
 · have:=h1 g.rules; unfold Gr.sz at h; omega
theorem gr_of {H:Type} {enc:TypeId × Value→H} {w:World} {sp:Nat→Bool} {held:Bool} (n:Nat) (cs:List Value) (x:DataW H × List MemPlace) (h:DataW.trod enc Try.prog w 0 sp held n 24 cs=some x) :
 ∃ g:Gr,VRL w.cell? (fun _ => .absent) g.c cs∧g.sz≤Rows.uptoBulk x.1:=by
 obtain ⟨xs,m,rfl,rfl,hl,hlen,hf⟩:=DataW.trod_struct Try.underlying24 h
 rw [cells24] at hl
 obtain ⟨c0,c1,rfl⟩:=len2 hl
 obtain ⟨x0,x1,rfl⟩:=len2 (show xs.length=2 from hlen)
 have h0:DataW.trod enc Try.prog w 0 sp held m 3 (([c0,c1].drop 0).take (Try.prog.cellsOf 3))=[x0,x1][0]?:=by have:=hf 0 _ rfl; exact this
 have h1:DataW.trod enc Try.prog w 0 sp held m 22 (([c0,c1].drop 1).take (Try.prog.cellsOf 22))=[x0,x1][1]?:=by have:=hf 1 _ rfl; exact this
 simp only [cells3',cells22,List.drop_zero,List.take_succ_cons,List.take_zero,List.drop_succ_cons,List.getElem?_cons_zero,List.getElem?_cons_succ] at h0 h1
 obtain ⟨t,e0,-,-⟩:=DataW.trod_int Try.underlying3 h0
 have e0:c0=.int .i64 t:=by simpa using e0
 subst e0
 rcases DataW.trod_slice Try.underlying22 h1 with ⟨e3,rfl⟩ | ⟨a,len,cap,elems,rest,k,rfl,e3,rfl,-,hcap,-,hel,hrd,-,-⟩
 · simp only [List.cons.injEq,and_true] at e3; subst e3
   refine ⟨⟨t,true,[]⟩,.cons (.d (.int _ _)) (.cons (.d .slcNil) .nil),?_⟩
   simp [Gr.sz,Rows.uptoBulk]
 · simp only [List.cons.injEq,and_true] at e3; subst e3
   rw [cells42] at hrd
   have hex:∀ i,i < len→∃ y:Ru,(∃ vs,w.cells? 0 (a.add (i * 4)) 4=some vs∧DCells w.cell? y.cs vs)∧∀ e,elems[i]?=some e→y.body.sz≤Rows.uptoBulk e.1:=fun i hi => by
    have hi':=hrd i hi
    rw [List.getElem?_eq_getElem (by omega)] at hi'
    cases hc:w.cells? 0 (a.add (i * 4)) 4 with
    | none => rw [hc] at hi'; cases hi'
    | some vs =>
     rw [hc] at hi'
     obtain ⟨y,hy1,hy2⟩:=ru_of k vs _ hi'
     exact ⟨y,⟨vs,rfl,hy1⟩,fun e he => by rw [List.getElem?_eq_getElem (by omega)] at he; cases he; exact hy2⟩
   obtain ⟨l,hll,hl2⟩:=collect _ len hex
   refine ⟨⟨t,false,l⟩,.cons (.d (.int _ _)) (.cons (.d ?_) .nil),?_⟩
   · refine dr_slice (base:=0) (es:=4) (by simp [hll]) hcap fun i x hx => ?_
     rw [List.getElem?_map] at hx
     cases hy:l[i]? with
     | none => rw [hy] at hx; cases hx
     | some y => rw [hy] at hx; cases hx; exact ⟨y.cs_len,(hl2 i y hy).1⟩
   · have:=bulk_sum (fun r:Ru => r.body.sz) l (elems.map (·.1)) (by simp [hll,hel]) fun i y d hy hd => by
      rw [List.getElem?_map] at hd
      cases he:elems[i]? with
      | none => rw [he] at hd; cases hd
      | some e => rw [he] at hd; cases hd; exact (hl2 i y hy).2 e he
     simp only [List.map_cons,List.map_nil,Rows.uptoBulk,Rows.uptoBulkAll,Gr.sz]; omega
theorem ints_of {H:Type} {enc:TypeId × Value→H} {w:World} {sp:Nat→Bool} {held:Bool} (n:Nat) (v:Value) (x:DataW H × List MemPlace) (h:DataW.trod enc Try.prog w 0 sp held n 25 [v]=some x) :
 ∃ (z:Bool) (l:List Int),DR w.cell? (.slc z (intsD l)) v∧l.length≤Rows.uptoBulk x.1:=by
 rcases DataW.trod_slice Try.underlying25 h with ⟨e3,rfl⟩ | ⟨a,len,cap,elems,rest,k,rfl,e3,rfl,-,hcap,-,hel,hrd,-,-⟩
 · have e3:v=.slice none 0 0:=by simpa using e3
   subst e3
   exact ⟨true,[],.slcNil,by simp⟩
 · have e3:v=.slice (some a) len cap:=by simpa using e3
   subst e3
   rw [cells3'] at hrd
   have hex:∀ i,i < len→∃ y:Int,(∃ vs,w.cells? 0 (a.add (i * 1)) 1=some vs∧DCells w.cell? [.int .i64 y] vs)∧∀ e,elems[i]?=some e→1≤Rows.uptoBulk e.1:=fun i hi => by
    have hi':=hrd i hi
    rw [List.getElem?_eq_getElem (by omega)] at hi'
    cases hc:w.cells? 0 (a.add (i * 1)) 1 with
    | none => rw [hc] at hi'; cases hi'
    | some vs =>
     rw [hc] at hi'
     obtain ⟨y,e0,ex,-⟩:=DataW.trod_int Try.underlying3 hi'
     subst e0
     refine ⟨y,⟨_,rfl,rfl,fun j d hj => ?_⟩,fun e he => ?_⟩
     · cases j with
       | zero => simp at hj; subst hj; exact ⟨_,rfl,.int _ _⟩
       | succ j => simp at hj
     · rw [List.getElem?_eq_getElem (by omega)] at he; cases he
       rw [ex]; simp [Rows.uptoBulk]
   obtain ⟨l,hll,hl2⟩:=collect _ len hex
   refine ⟨false,l,dr_slice (base:=0) (es:=1) (by simp [hll,intsD]) hcap fun i x hx => ?_,?_⟩
   · rw [intsD,List.getElem?_map] at hx
     cases hy:l[i]? with
     | none => rw [hy] at hx; cases hx
     | some y => rw [hy] at hx; cases hx; exact ⟨rfl,(hl2 i y hy).1⟩
   · have:=bulk_sum (fun _:Int => 1) l (elems.map (·.1)) (by simp [hll,hel]) fun i y d hy hd => by
      rw [List.getElem?_map] at hd
      cases he:elems[i]? with
      | none => rw [he] at hd; cases hd
      | some e => rw [he] at hd; cases hd; exact (hl2 i y hy).2 e he
     have h2:∀ l:List Int,(l.map fun _:Int => (1:Nat)).sum=l.length:=fun l => by
      induction l with
      | nil => rfl
      | cons a l ih => rw [List.map_cons,List.sum_cons,ih,List.length_cons]; omega
     rw [h2 l] at this
     simp only [Rows.uptoBulk]; omega
end Go.Am

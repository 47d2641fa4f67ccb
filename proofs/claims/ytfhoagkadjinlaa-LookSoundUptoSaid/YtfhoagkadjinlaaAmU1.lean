/- Part U1 of a proof that runs a program's calls on a small machine whose values bear no addresses: no conditions. -/
import Derived.Test.YtfhoagkadjinlaaAmR1
set_option autoImplicit false
set_option linter.unusedSimpArgs false
set_option linter.unusedVariables false
set_option linter.unusedSectionVars false
namespace Go.Am
open Go Go.Proofs
variable {fz:Nat→Md}
mutual
def deepE:Ex→Int→Bool
 | .mk _ _ _ l,m => if m=0 then true else deepL l (IntKind.i64.wrap (m - 1))
def deepL:List Ex→Int→Bool
 | [],_ => false
 | x :: l,m => deepE x m || deepL l m
end
theorem deepE_eq (x:Ex) (m:Int):deepE x m=if m=0 then true else deepL x.l (IntKind.i64.wrap (m - 1)):=by cases x; rw [deepE]; rfl
set_option maxHeartbeats 1000000 in
theorem deep_call (h74:fz 29=.cut) (x:Ex) (m:Int) (σ:St) (hx:SmallE x):CallsTo (XX fz) (.func 29 []) [x.a,.d (.int .i64 m)] σ (.d (.bool (deepE x m))) σ []:=by
 refine CallsTo.cut0 h74 fn29 (by simp) rfl ?_
 rw [deepE_eq]
 simp only [Try.f29,Option.getD_some]
 have hlen:=hx.len
 simp only [go_sem,Ex.a]
 by_cases h0:m=0
 · have e0:(m == 0)=true:=by simpa using h0
   simp only [go_sem,e0,if_pos h0]
 · have e0:(m == 0)=false:=by simpa using h0
   rw [if_neg h0]
   simp only [go_sem,e0]
   refine Ev.loop_ind (fun k tm τ W => ∃ i:Nat,k=x.l.length - i∧i≤x.l.length∧W=[]∧τ=σ.push (.cells x.c)∧deepL (x.l.drop i) (IntKind.i64.wrap (m - 1))=deepL x.l (IntKind.i64.wrap (m - 1)) ∧
    tm.at 1=.d (.int .i64 m)∧tm.at 2=.ptr σ.n 0∧tm.at 4=.d (.bool false)∧tm.at 5=.d (.int .i64 i)) ?_ x.l.length _ _ _ ⟨0,rfl,by omega,rfl,rfl,rfl,?_,?_,?_,?_⟩
   · rintro k tm τ W ⟨i,rfl,hi,rfl,rfl,he,t1,t2,t4,t5⟩ ih
     by_cases hl:i < x.l.length
     · have hget:x.l[i]?=some x.l[i]:=by simp [hl]
       have hmem:x.l[i] ∈ x.l:=List.getElem_mem hl
       simp only [go_sem,t1,t2,t4,t5,dec_lt' hl,Ex.index_ld hget]
       refine ⟨_,_,_,deep_call h74 x.l[i] _ _ (hx.sub hmem),?_⟩
       rw [List.drop_eq_getElem_cons hl,deepL] at he
       cases hd:deepE x.l[i] (IntKind.i64.wrap (m - 1)) with
       | true =>
        rw [hd,Bool.true_or] at he
        simp only [go_sem,t1,t2,t4,t5,← he]
       | false =>
        rw [hd,Bool.false_or] at he
        simp only [go_sem,t1,t2,t4,t5,wrap_succ' hl hlen]
        exact ih _ _ _ _ (by omega) ⟨i+1,rfl,hl,rfl,rfl,he,by simp only [go_sem,t1],by simp only [go_sem,t2],by simp only [go_sem,t4],by simp only [go_sem]⟩
     · simp only [go_sem,t1,t2,t4,t5,dec_ge' hl]
       rw [List.drop_eq_nil_of_le (by omega),deepL] at he
       rw [← he]
   all_goals first | rfl | (simp only [go_sem]; done) | (simp only [go_sem]; rfl)
termination_by x
decreasing_by exact Ex.sub_lt hmem
def deepG (g:Gr):Bool:=g.rules.any fun r => deepE r.body 1000
set_option maxHeartbeats 1000000 in
theorem deepG_call (h34:fz 7=.cut) (h74:fz 29=.cut) (g:Gr) (σ:St) (hg:SmallG g) (hL:g.rules.length < 1000000000):CallsTo (XX fz) (.func 7 []) [g.a] σ (.d (.bool (deepG g))) σ []:=by
 refine CallsTo.cut0 h34 fn7 (by simp) rfl ?_
 simp only [Try.f7,Option.getD_some]
 simp only [go_sem,Gr.a]
 unfold deepG
 refine Ev.loop_ind (fun k tm τ W => ∃ i:Nat,k=g.rules.length - i∧i≤g.rules.length∧W=[]∧τ=σ.push (.cells g.c)∧((g.rules.drop i).any fun r => deepE r.body 1000)=(g.rules.any fun r => deepE r.body 1000) ∧
  tm.at 1=.ptr σ.n 0∧tm.at 2=.d (.bool false)∧tm.at 3=.d (.int .i64 i)) ?_ g.rules.length _ _ _ ⟨0,rfl,by omega,rfl,rfl,rfl,?_,?_,?_⟩
 · rintro k tm τ W ⟨i,rfl,hi,rfl,rfl,he,t1,t2,t3⟩ ih
   by_cases hl:i < g.rules.length
   · have hget:g.rules[i]?=some g.rules[i]:=by simp [hl]
     have hmem:g.rules[i] ∈ g.rules:=List.getElem_mem hl
     simp only [go_sem,t1,t2,t3,dec_lt' hl,Gr.index_rd hget]
     refine ⟨_,_,_,deep_call h74 g.rules[i].body _ _ (hg _ hmem),?_⟩
     rw [List.drop_eq_getElem_cons hl,List.any_cons] at he
     cases hd:deepE g.rules[i].body 1000 with
     | true =>
      rw [hd,Bool.true_or] at he
      simp only [go_sem,t1,t2,t3,← he]
     | false =>
      rw [hd,Bool.false_or] at he
      simp only [go_sem,t1,t2,t3,wrap_succ' hl hL]
      exact ih _ _ _ _ (by omega) ⟨i+1,rfl,hl,rfl,rfl,he,by simp only [go_sem,t1],by simp only [go_sem,t2],by simp only [go_sem]⟩
   · simp only [go_sem,t1,t2,t3,dec_ge' hl]
     rw [List.drop_eq_nil_of_le (by omega),List.any_nil] at he
     rw [← he]
 all_goals first | rfl | (simp only [go_sem]; done) | (simp only [go_sem]; rfl)
theorem app_ex {es b:Nat} {τ:St} {a:A} {l:List (List D)} {bs:List Nat} {j:Nat} {x:List D} (hes:x.length=es) (hb:b≤64) (r:RowN es τ a l bs) (hj:τ.get j=.cells (x.map A.d)) (hl:l.length < 2000000000) :
 ∃ a' τ' T bs',appendA es b τ a (.row j 0 1 es)=.val a' τ' T []∧RowN es τ' a' (l ++ [x]) bs'∧Kept τ bs τ' bs' T∧a'.cells=some [a']∧a'.isCell=true:=by
 obtain ⟨a',τ',T,bs',h1,h2,h3⟩:=r.app (b:=b) (x:=.row j 0 1 es) (ys:=[x]) (by rw [sliceCells_row hj (by simp [hes])]; simp; exact List.take_of_length_le (by simp [hes])) (by rw [sliceLen_row,hj]; rfl) (by simpa using hes) (by have:=Nat.mul_le_mul (show l.length+[x].length≤2000000001 by simp; omega) hb; omega) (by simp; omega)
 exact ⟨a',τ',T,bs',h1,h2,h3,h2.1.cells,h2.1.cell⟩
theorem fzD0:(0 < fzDepth)=True:=by unfold fzDepth; simp
theorem fzD1:(0 < fzDepth - 1)=True:=by unfold fzDepth; simp
theorem fzD2:(0 < fzDepth - 1 - 1)=True:=by unfold fzDepth; simp
end Go.Am

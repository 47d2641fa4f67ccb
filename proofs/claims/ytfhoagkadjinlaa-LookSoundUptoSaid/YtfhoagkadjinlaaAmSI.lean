/- Part SI of a proof that runs a program's calls on a small machine whose values bear no addresses: no conditions. -/
import Derived.Test.YtfhoagkadjinlaaAmSH
set_option autoImplicit false
set_option linter.unusedSimpArgs false
set_option linter.unusedVariables false
set_option linter.unusedSectionVars false
namespace Go.Am.Sm
open Go Go.Am Go.Proofs
variable {fz:Nat→Md}
theorem maxA2 {a b:Int}:minmax true [.d (.int .i64 a),.d (.int .i64 b)]=some (.d (.int .i64 (max a b))):=by
 have:(if b > a then b else a)=max a b:=by rw [Int.max_def]; split <;> split <;> omega
 rw [← this]; rfl
def mxL (l:List Int):Int:=(l.drop 1).foldl max (l.getD 0 0)
theorem foldmax_le:∀ (l:List Int) (a:Int),a≤l.foldl max a∧∀ x ∈ l,x≤l.foldl max a
 | [],a => ⟨Int.le_refl _,fun x hx => by cases hx⟩
 | y :: l,a => by
  obtain ⟨h1,h2⟩:=foldmax_le l (max a y)
  refine ⟨by rw [List.foldl_cons]; omega,fun x hx => ?_⟩
  rw [List.foldl_cons]
  rcases List.mem_cons.1 hx with rfl | hx
  · omega
  · exact h2 x hx
theorem foldmax_mem:∀ (l:List Int) (a:Int),l.foldl max a=a∨l.foldl max a ∈ l
 | [],a => .inl rfl
 | y :: l,a => by
  rw [List.foldl_cons]
  rcases foldmax_mem l (max a y) with h | h
  · rw [h]
    rcases Int.le_total a y with q | q
    · rw [Int.max_eq_right q]; exact .inr (by simp)
    · exact .inl (Int.max_eq_left q)
  · exact .inr (by simp [h])
theorem mxL_mem {l:List Int} (h:0 < l.length):mxL l ∈ l:=by
 cases l with
 | nil => simp at h
 | cons x l =>
  unfold mxL
  rcases foldmax_mem l x with q | q
  · simp only [List.drop_one,List.tail_cons,List.getD_cons_zero]; rw [q]; simp
  · simp only [List.drop_one,List.tail_cons,List.getD_cons_zero]; exact List.mem_cons_of_mem _ q
theorem mxL_le {l:List Int} {x:Int} (hx:x ∈ l):x≤mxL l:=by
 cases l with
 | nil => cases hx
 | cons y l =>
  unfold mxL
  simp only [List.drop_one,List.tail_cons,List.getD_cons_zero]
  obtain ⟨h1,h2⟩:=foldmax_le l y
  rcases List.mem_cons.1 hx with rfl | hx
  · exact h1
  · exact h2 x hx
theorem max_c (h47:fz 62=.cut) {l:List Int} (h0:0 < l.length) (hl:l.length < 1000000) (z:Bool) (σ:St):CallsTo (XX fz) (.func 62 []) [.d (.slc z (intsD l))] σ (.d (.int .i64 (mxL l))) σ []:=by
 refine CallsTo.cut0 h47 fn62 (by simp) rfl ?_
 simp only [Try.f62,Option.getD_some]
 have d0:decide ((l.length:Int) < 1)=false:=by rw [decide_eq_false_iff_not]; omega
 have in0:∀ ρ:St,indexD ρ 1 (intsD l) 0=.val (.d (.vptr [.int .i64 l[0]] 0)) ρ [] []:=fun ρ => index_ints (σ:=ρ) (z:=z) (i:=0) h0
 have e0:l[0]=((l.take 1).drop 1).foldl max (l.getD 0 0):=by
  cases l with
  | nil => simp at h0
  | cons x l => rfl
 rw [e0] at in0
 simp only [go_sem,d0,in0]
 refine Ev.loop_ind (fun m tm τ W => ∃ i:Nat,m=l.length - i∧1≤i∧i≤l.length∧W=[]∧tm.at 0=.d (.slc z (intsD l))∧tm.at 3=.d (.int .i64 (((l.take i).drop 1).foldl max (l.getD 0 0)))∧tm.at 4=.d (.int .i64 (i:Int))) ?_ (l.length - 1) _ _ _ ⟨1,rfl,Nat.le_refl _,h0,rfl,?_,?_,?_⟩
 · rintro m tm τ W ⟨i,rfl,hi1,hi,rfl,t0,t3,t4⟩ ih
   by_cases hlt:i < l.length
   · have inx:=fun (ρ:St) => index_ints (σ:=ρ) (z:=z) hlt
     have hd:((l.take (i+1)).drop 1).foldl max (l.getD 0 0)=max (((l.take i).drop 1).foldl max (l.getD 0 0)) l[i]:=by
      rw [List.take_succ_eq_append_getElem hlt,List.drop_append_of_le_length (by rw [List.length_take]; omega),List.foldl_append]; rfl
     simp only [go_sem,t0,t3,t4,dec_lt' hlt,inx,o_maxA,maxA2,← hd,wrap_succ' hlt (show l.length < 1000000000 by omega)]
     refine ih _ _ _ _ (by omega) ⟨i+1,rfl,by omega,hlt,rfl,?_,?_,?_⟩
     all_goals (simp only [go_sem,t0])
   · obtain rfl:i=l.length:=by omega
     rw [List.take_length] at t3
     simp only [go_sem,t0,t3,t4,dec_ge' hlt,mxL]
 all_goals first | rfl | (simp only [go_sem]; done) | (simp only [go_sem]; rfl) | skip
theorem index48_c (h48:fz 63=.cut) {l:List Int} {v:Int} (hv:v ∈ l) (hl:l.length < 1000000) (z:Bool) (σ:St):∃ i:Nat,i < l.length∧l[i]?=some v∧(∀ j,j < i→l[j]?≠some v)∧CallsTo (XX fz) (.func 63 []) [.d (.slc z (intsD l)),.d (.int .i64 v)] σ (.d (.int .i64 (i:Int))) σ []:=by
 have key:=CallsTo.cutN (X:=XX fz) (f:=63) (cap:=[]) (args:=[.d (.slc z (intsD l)),.d (.int .i64 v)]) (σ:=σ) (P:=fun a => ∃ i:Nat,i < l.length∧l[i]?=some v∧(∀ j,j < i→l[j]?≠some v)∧a=.d (.int .i64 (i:Int))) h48 fn63 (by simp) ?_
 · obtain ⟨a,h1,i,h2,h3,h4,rfl⟩:=key
   exact ⟨i,h2,h3,h4,h1⟩
 simp only [Try.f63,Option.getD_some]
 simp only [go_sem]
 refine Ev.loop_ind (fun m tm τ W => ∃ i:Nat,m=l.length - i∧i≤l.length∧W=[]∧(∀ j,j < i→l[j]?≠some v)∧tm.at 0=.d (.slc z (intsD l))∧tm.at 1=.d (.int .i64 v)∧tm.at 7=.d (.int .i64 (l.length:Int))∧tm.at 8=.d (.int .i64 (i:Int))) ?_ l.length _ _ _ ⟨0,rfl,Nat.zero_le _,rfl,(fun j hj => absurd hj (Nat.not_lt_zero _)),?_,?_,?_,?_⟩
 · rintro m tm τ W ⟨i,rfl,hi,rfl,hno,t0,t1,t7,t8⟩ ih
   by_cases hlt:i < l.length
   · have inx:=fun (ρ:St) => index_ints (σ:=ρ) (z:=z) hlt
     by_cases hq:v=l[i]
     · have c1:(v == l[i])=true:=by simpa using hq
       simp only [go_sem,t0,t1,t7,t8,dec_lt' hlt,inx,c1]
       exact ⟨rfl,i,hlt,by rw [List.getElem?_eq_getElem hlt,hq],hno,rfl⟩
     · have c1:(v == l[i])=false:=by simpa using hq
       simp only [go_sem,t0,t1,t7,t8,dec_lt' hlt,inx,c1,wrap_succ' hlt (show l.length < 1000000000 by omega)]
       refine ih _ _ _ _ (by omega) ⟨i+1,rfl,hlt,rfl,fun j hj => ?_,?_,?_,?_,?_⟩
       · rcases Nat.lt_or_ge j i with q | q
         · exact hno j q
         · obtain rfl:j=i:=by omega
           rw [List.getElem?_eq_getElem hlt]; intro e; cases e; exact hq rfl
       all_goals (simp only [go_sem,t0,t1,t7])
   · obtain ⟨j,hj,e⟩:=List.mem_iff_getElem.1 hv
     exact absurd (by rw [List.getElem?_eq_getElem hj,e]) (hno j (by omega))
 all_goals first | rfl | (simp only [go_sem]; done) | (simp only [go_sem]; rfl) | skip
end Go.Am.Sm
namespace Go.Am.Sm
open Go Go.Am Go.Proofs
theorem wayV_NE {g:Gr} (hg:SmallG g) (hc:checkP g=0) {l:List Int} (hL:l.length≤1000) {s:Nat} {B:List Nat} (hs:SpOk (newN g).N s B) (hB:B.length≤1000) {r:List Eg} (hget:(newN g).N.es[s]?=some r) {e:Eg} (he:e ∈ r) :
 NE l (newN g).N (newX g) B e (wayV l (newN g).N (newX g) B e):=by
 have hN:=newN_G (GOk.of hc)
 obtain ⟨k1,k2,k3,k4,k5,k6⟩:=hN.ed s _ hget e he
 have v:=fun (l:List Int) (hL:l.length≤1000) {s:Nat} {B:List Nat} (hs:SpOk (newN g).N s B) => (viable_L (zt:=true) (l:=l) hg hc hL hs (σ:=St.empty) (ba:=.d (.slc true (intsD (natsI B)))) (.inl ⟨true,rfl⟩)).1
 unfold wayV NE
 by_cases e0:e.kind=0
 · rw [if_pos e0]; exact .inl ⟨e0,v l hL (hs.move k4 k5)⟩
 rw [if_neg e0]
 by_cases e1:e.kind=1
 · rw [if_pos e1]
   by_cases hq:l[0]?=some e.num
   · rw [if_pos hq]
     exact .inr (.inr (.inl ⟨e1,hq,_,Nat.add_comm _ _,v (l.drop 1) (by rw [List.length_drop]; omega) (hs.move k4 k5)⟩))
   · rw [if_neg hq]; exact .inr (.inr (.inr ⟨e1,hq,rfl⟩))
 · rw [if_neg e1]
   have e2:e.kind=2:=by omega
   exact .inr (.inl ⟨e2,v l hL (hs.call hN hget he e2 (by omega))⟩)
theorem wayL_max {g:Gr} (hg:SmallG g) (hc:checkP g=0) {l:List Int} (hL:l.length≤1000) {s:Nat} {B:List Nat} (hs:SpOk (newN g).N s B) (hB:B.length≤1000) {r:List Eg} (hget:(newN g).N.es[s]?=some r) (h0:r≠[]) :
 IsG l (newN g).N (newX g) s B (mxL (wayL l (newN g).N (newX g) B r)).toNat∧0≤mxL (wayL l (newN g).N (newX g) B r):=by
 have hN:=newN_G (GOk.of hc)
 have hne:0 < (wayL l (newN g).N (newX g) B r).length:=by
  unfold wayL; rw [List.length_map]; exact List.length_pos_iff.2 h0
 obtain ⟨e,he,hee⟩:=List.mem_map.1 (mxL_mem hne)
 have hee:((wayV l (newN g).N (newX g) B e:Nat):Int)=mxL (wayL l (newN g).N (newX g) B r):=hee
 refine ⟨IsG.row hN hget h0 (fun e' he' n hn => ?_) ⟨e,he,?_⟩ (fun e' he' => ⟨_,wayV_NE hg hc hL hs hB hget he'⟩),by omega⟩
 · rw [hn.eq (wayV_NE hg hc hL hs hB hget he')]
   have:=mxL_le (l:=wayL l (newN g).N (newX g) B r) (x:=((wayV l (newN g).N (newX g) B e':Nat):Int)) (List.mem_map.2 ⟨e',he',rfl⟩)
   omega
 · rw [← hee,Int.toNat_natCast]; exact wayV_NE hg hc hL hs hB hget he
theorem ways_L {zt zb:Bool} {g:Gr} {l:List Int} (hg:SmallG g) (hc:checkP g=0) (hL:l.length≤1000) {s:Nat} {B:List Nat} (hs:SpOk (newN g).N s B) (hBl:B.length≤1000) {r:List Eg} (hget:(newN g).N.es[s]?=some r) (σ:St) :
 CallsTo (XX mdE) (.func 26 []) [simA (newN g).N (newX g),.agg [.d (.int .i64 (s:Int)),.d (.slc zb (intsD (natsI B)))],.d (.slc zt (intsD l))] σ (.tup [.d (slD (wayL l (newN g).N (newX g) B r)),.d (.int .i64 0)]) σ [] :=
 ways_c rfl rfl rfl rfl rfl rfl rfl rfl rfl rfl rfl rfl rfl rfl hg hc hL hs hBl hget σ
def ChoV (L:List Int) (a:A):Prop:=(L=[]∧a=.tup [.d (.int .i64 (-1)),.d (.int .i64 0),.d (.int .i64 0)])∨(∃ i:Nat,i < L.length∧L[i]?=some (mxL L)∧(∀ j,j < i→L[j]?≠some (mxL L))∧a=.tup [.d (.int .i64 (i:Int)),.d (.int .i64 (mxL L)),.d (.int .i64 0)])
theorem choose_L {zt zb:Bool} {g:Gr} {l:List Int} (hg:SmallG g) (hc:checkP g=0) (hL:l.length≤1000) {s:Nat} {B:List Nat} (hs:SpOk (newN g).N s B) (hBl:B.length≤1000) {r:List Eg} (hget:(newN g).N.es[s]?=some r) (σ:St) :
 ∃ a,CallsTo (XX mdE) (.func 28 []) [simA (newN g).N (newX g),.agg [.d (.int .i64 (s:Int)),.d (.slc zb (intsD (natsI B)))],.d (.slc zt (intsD l))] σ a σ []∧ChoV (wayL l (newN g).N (newX g) B r) a:=by
 have hrl:r.length≤10000:=(newN_fits (GOk.of hc)).l _ (List.mem_of_getElem? hget)
 refine CallsTo.cutN (cap:=[]) rfl fn28 (by simp) ?_
 simp only [Try.f28,Option.getD_some]
 simp only [go_sem]
 refine ⟨_,_,_,ways_L hg hc hL hs hBl hget _,?_⟩
 have c0:((0:Int) != 0)=false:=rfl
 have hwl:(wayL l (newN g).N (newX g) B r).length=r.length:=by simp [wayL]
 have hlen:∀ ρ:St,sliceLen ρ (.d (slD (wayL l (newN g).N (newX g) B r)))=some r.length:=fun ρ => by rw [len_sl,hwl]
 generalize wayL l (newN g).N (newX g) B r=L at hwl hlen ⊢
 by_cases hr0:r.length=0
 · have c1:((r.length:Int) == 0)=true:=by rw [hr0]; rfl
   simp only [go_sem,c0,hlen,c1]
   exact ⟨rfl,.inl ⟨List.length_eq_zero_iff.1 (by omega),rfl⟩⟩
 · have c1:((r.length:Int) == 0)=false:=by rw [beq_eq_false_iff_ne]; omega
   have hLp:0 < L.length:=by omega
   simp only [go_sem,c0,hlen,c1]
   refine ⟨_,_,_,max_c rfl hLp (by omega) _ _,?_⟩
   obtain ⟨i,h1,h2,h3,h4⟩:=index48_c (fz:=mdE) rfl (mxL_mem hLp) (by omega) L.isEmpty (σ.push (.cells [.d (.int .i64 (s:Int)),.d (.slc zb (intsD (natsI B)))]))
   simp only [go_sem]
   refine ⟨_,_,_,h4,?_⟩
   simp only [go_sem]
   exact ⟨rfl,.inr ⟨i,h1,h2,h3,rfl⟩⟩
end Go.Am.Sm

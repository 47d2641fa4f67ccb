/- Part T1 of a proof that runs a program's calls on a small machine whose values bear no addresses: no conditions. -/
import Derived.Test.YtfhoagkadjinlaaAmQ3
import Derived.Test.YtfhoagkadjinlaaAmX1
set_option autoImplicit false
set_option linter.unusedSimpArgs false
set_option linter.unusedVariables false
set_option linter.unusedSectionVars false
namespace Go.Am
open Go Go.Proofs
variable {fz:Nat→Md}
theorem index_ints {σ:St} {l:List Int} {z:Bool} {i:Nat} (h:i < l.length):indexK σ 1 (.d (.slc z (intsD l))) (.d (.int .i64 (i:Int)))=.val (.d (.vptr [.int .i64 l[i]] 0)) σ [] []:=by
 rw [indexK_d]; exact indexD_nat (by simp [intsD,h]) rfl
def cmpI (a b:Int):Int:=if a < b then -1 else if a > b then 1 else 0
set_option maxHeartbeats 1000000 in
theorem isNaN_c (h:fz 123=.cut) (a:Int) (σ:St):CallsTo (XX fz) (.func 123 []) [.d (.int .i64 a)] σ (.d (.bool false)) σ []:=by
 refine CallsTo.cut0 h fn123 (by simp) rfl ?_
 simp only [Try.f123,Option.getD_some]
 have e:(a != a)=false:=by simp
 simp only [go_sem,e]
set_option maxHeartbeats 1000000 in
theorem cmp_c (h:fz 122=.cut) (h2:fz 123=.cut) (a b:Int) (σ:St):CallsTo (XX fz) (.func 122 []) [.d (.int .i64 a),.d (.int .i64 b)] σ (.d (.int .i64 (cmpI a b))) σ []:=by
 refine CallsTo.cut0 h fn122 (by simp) rfl ?_
 simp only [Try.f122,Option.getD_some]
 simp only [go_sem]
 refine ⟨_,_,_,isNaN_c h2 a _,?_⟩
 simp only [go_sem]
 refine ⟨_,_,_,isNaN_c h2 b _,?_⟩
 unfold cmpI
 cases h1:decide (a < b) with
 | true =>
  have h1':a < b:=by simpa using h1
  simp only [go_sem,h1,if_pos h1']
 | false =>
  have h1':¬ a < b:=by simpa using h1
  cases h3:decide (a > b) with
  | true =>
   have h3':a > b:=by simpa using h3
   simp only [go_sem,h1,h3,if_neg h1',if_pos h3']
  | false =>
   have h3':¬ a > b:=by simpa using h3
   simp only [go_sem,h1,h3,if_neg h1',if_neg h3']
def cmpL:List Int→List Int→Int
 | [],[] => 0
 | [],_ :: _ => -1
 | _ :: _,[] => 1
 | a :: l,b :: r => if cmpI a b=0 then cmpL l r else cmpI a b
set_option maxHeartbeats 4000000 in
theorem compare_c (h47:fz 111=.cut) (h:fz 122=.cut) (h2:fz 123=.cut) (a b:List Int) (z y:Bool) (ha:a.length < 1000000) (hb:b.length < 1000000) (σ:St):CallsTo (XX fz) (.func 111 []) [.d (.slc z (intsD a)),.d (.slc y (intsD b))] σ (.d (.int .i64 (cmpL a b))) σ []:=by
 refine CallsTo.cut0 h47 fn111 (by simp) rfl ?_
 simp only [Try.f111,Option.getD_some]
 simp only [go_sem,intsD_len]
 refine Ev.loop_ind (fun k tm τ W => ∃ i:Nat,k=a.length - i∧i≤a.length∧i≤b.length∧W=[]∧τ=σ∧cmpL (a.drop i) (b.drop i)=cmpL a b ∧
  tm.at 0=.d (.slc z (intsD a))∧tm.at 1=.d (.slc y (intsD b))∧tm.at 9=.d (.slc z (intsD a))∧tm.at 10=.d (.int .i64 (a.length:Int))∧tm.at 11=.d (.int .i64 i)) ?_ a.length _ _ _ ⟨0,rfl,by omega,by omega,rfl,rfl,rfl,?_,?_,?_,?_,?_⟩
 · rintro k tm τ W ⟨i,rfl,hi,hib,rfl,rfl,he,t0,t1,t9,t10,t11⟩ ih
   by_cases hl:i < a.length
   · simp only [go_sem,t0,t1,t9,t10,t11,dec_lt' hl,index_ints hl,intsD_len]
     rw [List.drop_eq_getElem_cons hl] at he
     by_cases hb2:i < b.length
     · have e2:decide ((i:Int) ≥ (b.length:Int))=false:=by simp; omega
       rw [List.drop_eq_getElem_cons hb2,cmpL] at he
       simp only [go_sem,t0,t1,t9,t10,t11,e2,index_ints hb2,intsD_len]
       refine ⟨_,_,_,cmp_c h h2 _ _ _,?_⟩
       cases hc:(cmpI a[i] b[i] != 0) with
       | true =>
        have hc':¬ cmpI a[i] b[i]=0:=by simpa using hc
        rw [if_neg hc'] at he
        rw [← he]
        simp only [go_sem,hc]
       | false =>
        have hc':cmpI a[i] b[i]=0:=by simpa using hc
        rw [if_pos hc'] at he
        simp only [go_sem,hc,t11,wrap_succ' hl (by omega)]
        exact ih _ _ _ _ (by omega) ⟨i+1,rfl,hl,hb2,rfl,rfl,he,by simp only [go_sem,t0],by simp only [go_sem,t1],by simp only [go_sem,t9],by simp only [go_sem,t10],by simp only [go_sem]⟩
     · have e2:decide ((i:Int) ≥ (b.length:Int))=true:=by simp; omega
       rw [show b.drop i=[] from List.drop_eq_nil_of_le (by omega),cmpL] at he
       simp only [go_sem,t0,t1,t9,t10,t11,e2,intsD_len,← he]
   · rw [show a.drop i=[] from List.drop_eq_nil_of_le (by omega)] at he
     by_cases hb2:i < b.length
     · have e2:decide ((a.length:Int) < (b.length:Int))=true:=by simp; omega
       rw [List.drop_eq_getElem_cons hb2,cmpL] at he
       simp only [go_sem,t0,t1,t9,t10,t11,dec_ge' hl,e2,intsD_len,← he]
     · have e2:decide ((a.length:Int) < (b.length:Int))=false:=by simp; omega
       rw [List.drop_eq_nil_of_le (by omega),cmpL] at he
       simp only [go_sem,t0,t1,t9,t10,t11,dec_ge' hl,e2,intsD_len,← he]
 all_goals first | rfl | (simp only [go_sem]; done) | (simp only [go_sem]; rfl)
theorem cmpL_lex:∀ {a b:List Int},a.length=b.length→decide (cmpL a b < 0)=lexLt a b
 | [],[],_ => rfl
 | [],_ :: _,h => by simp at h
 | _ :: _,[],h => by simp at h
 | a :: l,b :: r,h => by
  have ih:=cmpL_lex (a:=l) (b:=r) (by simpa using h)
  rw [cmpL,lexLt]
  unfold cmpI
  by_cases h1:a < b
  · simp [h1]
  · by_cases h2:a > b
    · have:¬ a=b:=by omega
      simp [h1,h2,this]
    · have:a=b:=by omega
      subst this
      simp [ih]
set_option maxHeartbeats 1000000 in
theorem less_c (h53:fz 78=.cut) (h47:fz 111=.cut) (h:fz 122=.cut) (h2:fz 123=.cut) (a b:List Int) (z y:Bool) (ha:a.length < 1000000) (hb:b.length < 1000000) (σ:St):CallsTo (XX fz) (.func 78 []) [.d (.slc z (intsD a)),.d (.slc y (intsD b))] σ (.d (.bool (lessP a b))) σ []:=by
 refine CallsTo.cut0 h53 fn78 (by simp) rfl ?_
 simp only [Try.f78,Option.getD_some]
 unfold lessP
 by_cases hl:a.length=b.length
 · have e:((a.length:Int) != (b.length:Int))=false:=by simp [hl]
   rw [if_pos hl]
   simp only [go_sem,intsD_len,e]
   refine ⟨_,_,_,compare_c h47 h h2 a b z y ha hb _,?_⟩
   simp only [go_sem,cmpL_lex hl]
 · have e:((a.length:Int) != (b.length:Int))=true:=by simp; omega
   rw [if_neg hl]
   have e2:decide ((a.length:Int) < (b.length:Int))=decide (a.length < b.length):=by rw [decide_eq_decide]; omega
   simp only [go_sem,intsD_len,e,e2]
end Go.Am
namespace Go.Am
open Go Go.Proofs
variable {fz:Nat→Md}
def slD (s:List Int):D:=.slc s.isEmpty (intsD s)
def MS (M:List (Nat × List Int)):List (A × A):=M.map fun e => (.d (.int .i64 (e.1:Int)),.d (slD e.2))
def FM (M:List (Nat × List Int)) (n:Nat):Option (List Int):=(M.find? (·.1 == n)).map (·.2)
theorem find_MS {σ:St} {n:Nat}:∀ (M:List (Nat × List Int)) (off:Nat),(∃ j s,M[j]?=some (n,s)∧FM M n=some s∧mapFind (XX fz) σ 3 (.d (.int .i64 (n:Int))) (MS M) off=some (some (off+j,.d (slD s)))) ∨
 FM M n=none∧mapFind (XX fz) σ 3 (.d (.int .i64 (n:Int))) (MS M) off=some none
 | [],off => .inr ⟨rfl,rfl⟩
 | (k,s) :: M,off => by
  have hME:MS ((k,s) :: M)=(.d (.int .i64 (k:Int)),.d (slD s)) :: MS M:=rfl
  by_cases e:k=n
  · subst e
    left
    refine ⟨0,s,rfl,by simp [FM],?_⟩
    rw [hME,mapFind,eq_int]
    simp
  · have e':((k:Int) == (n:Int))=false:=by simp; omega
    have e2:((n:Int) == (k:Int))=false:=by simp; omega
    have hF:FM ((k,s) :: M) n=FM M n:=by
     have:(k == n)=false:=by simpa using e
     simp [FM,this]
    rw [hF,hME,mapFind,eq_int]
    rcases find_MS (σ:=σ) (n:=n) M (off+1) with ⟨j,s',h1,h2,h3⟩ | ⟨h1,h2⟩
    · left
      refine ⟨j+1,s',by simpa using h1,h2,?_⟩
      simp only [e2,e',h3]
      simp; try omega
    · right
      refine ⟨h1,?_⟩
      simp only [e2,e',h2]
      try simp
def shR:Option (List Int)→A
 | some s => .tup [.d (slD s),.d (.bool true)]
 | none => .tup [.d (.slc true []),.d (.bool false)]
end Go.Am
namespace Go.Am
open Go Go.Proofs
variable {fz:Nat→Md}
def Len256 (F:Nat→Option (List Int)):Prop:=∀ n s,F n=some s→s.length≤256
section
variable {F:Nat→Option (List Int)}
theorem shortS_len:∀ (l:List Ex) (out s:List Int),out.length≤256→shortS F l out=some s→s.length≤256
 | [],out,s,h,e => by rw [shortS] at e; cases e; exact h
 | x :: l,out,s,h,e => by
  rw [shortS] at e
  split at e
  · cases e
  · by_cases hh:out.length+(‹List Int›).length > 256
    · rw [if_pos hh] at e; cases e
    · rw [if_neg hh] at e; exact shortS_len l _ s (by rw [List.length_append]; omega) e
theorem shortE_len (hF:Len256 F):∀ (x:Ex) (s:List Int),shortE F x=some s→s.length≤256:=fun x s e => by
 rw [shortE_eq] at e
 split at e
 · cases e; simp
 split at e
 · exact hF _ _ e
 split at e
 · exact shortS_len _ _ _ (by simp) e
 split at e
 · rcases shortA_mem F x.l none s e with h | ⟨y,hy,h⟩
   · cases h
   · exact shortE_len hF y s h
 · cases e; simp
termination_by x => x
decreasing_by exact Ex.sub_lt hy
end
theorem slD_len (s:List Int):(intsD s).length=s.length:=intsD_len s
theorem isE (s:List Int):(intsD s).isEmpty=s.isEmpty:=by cases s <;> rfl
set_option maxHeartbeats 8000000 in
theorem short_c (h52:fz 77=.ice) (h53:fz 78=.cut) (h47:fz 111=.cut) (h89:fz 122=.cut) (h106:fz 123=.cut) {t:Int} {r:Nat} (M:List (Nat × List Int)) (hF:Len256 (FM M)) (m:Nat) (x:Ex) (σ:St) (hx:SmallE x) (ho:okE t r x) (hm:σ.get m=.map (MS M)) (hlt:m < σ.n) :
 CallsTo (XX fz) (.func 77 []) [x.a,.map m] σ (shR (shortE (FM M) x)) σ []:=by
 refine CallsTo.ice0 h52 fn77 (by simp) ?_
 simp only [Try.f77,Option.getD_some]
 rw [shortE_eq]
 have hmp:(σ.push (.cells x.c)).get m=.map (MS M):=by rw [St.get_push_ne (by omega)]; exact hm
 have hlen:=hx.len
 simp only [go_sem,Ex.a]
 by_cases k1:x.kind=1
 · have e:(x.kind == 1)=true:=by simpa using k1
   rw [if_pos k1]
   simp only [go_sem,e]
   have hf:=freeze_row (σ:=(σ.push (.cells x.c)).push (.cells [.d (.int .i64 x.num)])) (lo:=σ.n) (n:=fzDepth) (k:=σ.n+1) (len:=1) (es:=1) (cs:=[.d (.int .i64 x.num)]) (ds:=[.int .i64 x.num]) (by unfold fzDepth; omega) (St.get_push_eq' (by simp [St.n_push])) (by omega) (by simp) (by
    rw [List.take_of_length_le (by simp),freezeL_cons (by unfold fzDepth; omega),freeze_d,freezeL_nil]; rfl)
   rw [hf]; rfl
 have e1:(x.kind == 1)=false:=by simpa using k1
 rw [if_neg k1]
 by_cases k2:x.kind=2
 · have e:(x.kind == 2)=true:=by simpa using k2
   rw [if_pos k2]
   obtain ⟨c1,c2⟩:=ho.call k2
   obtain ⟨n,hn⟩:=Int.eq_ofNat_of_zero_le c1
   simp only [go_sem,e1,e,hn,hmp,key_int]
   rcases find_MS (fz:=fz) (σ:=σ.push (.cells x.c)) (n:=n) M 0 with ⟨j,s,q0,q1,q3⟩ | ⟨q1,q2⟩
   · simp only [go_sem,q3]
     show _=shR (FM M n)
     rw [q1]; rfl
   · simp only [go_sem,q2]
     show _=shR (FM M n)
     rw [q1]; rfl
 have e2:(x.kind == 2)=false:=by simpa using k2
 rw [if_neg k2]
 by_cases k3:x.kind=3
 · have e:(x.kind == 3)=true:=by simpa using k3
   rw [if_pos k3]
   simp only [go_sem,e1,e2,e]
   refine Ev.loop_ind (fun k tm τ W => ∃ (i:Nat) (out:List Int) (a:A) (bs:List Nat),k=x.l.length - i∧i≤x.l.length∧W=[]∧σ.n+1≤τ.n∧τ.get σ.n=.cells x.c∧τ.get m=.map (MS M)∧RowN 1 τ a (intsD out) bs∧(∀ k ∈ bs,σ.n+1≤k)∧out.length≤256∧shortS (FM M) (x.l.drop i) out=shortS (FM M) x.l [] ∧
    tm.at 1=.map m∧tm.at 8=a∧tm.at 40=x.ld∧tm.at 41=.d (.int .i64 (x.l.length:Int))∧tm.at 42=.d (.int .i64 i)) ?_ x.l.length _ _ _ ⟨0,[],.d (.slc true []),[],rfl,by omega,rfl,?_,?_,hmp,RowN.nil,by simp,by simp,rfl,?_,?_,?_,?_,?_⟩
   · rintro k tm τ W ⟨i,out,a,bs,rfl,hi,rfl,hn,g0,gm,hR,hbs,hol,he,t1,t8,t40,t41,t42⟩ ih
     by_cases hl:i < x.l.length
     · have hget:x.l[i]?=some x.l[i]:=by simp [hl]
       have hmem:x.l[i] ∈ x.l:=List.getElem_mem hl
       rw [List.drop_eq_getElem_cons hl,shortS] at he
       simp only [go_sem,t1,t8,t40,t41,t42,dec_lt' hl,Ex.index_ld hget]
       generalize hτ:(τ.push (.cells [.d (.int .i64 0),.d (.int .i64 0),.d (.slc true [])])).set τ.n (.cells x.l[i].c)=τ1
       have n1:τ1.n=τ.n+1:=by rw [← hτ]; simp [St.n_set,St.n_push]
       have o1:∀ j,j < τ.n→τ1.get j=τ.get j:=fun j hj => by rw [← hτ,St.get_set_ne (by omega),St.get_push_ne hj]
       have lz:low σ.n [τ.n]=[]:=by rw [low_cons_ge (by omega)]; rfl
       have hR1:RowN 1 τ1 a (intsD out) bs:=hR.stay (by omega) fun k hk => o1 k (hR.1.lt hk)
       refine ⟨_,_,_,short_c h52 h53 h47 h89 h106 M hF m x.l[i] _ (hx.sub hmem) (ho.sub hmem) (by rw [o1 m (by omega)]; exact gm) (by omega),?_⟩
       cases hs:shortE (FM M) x.l[i] with
       | none =>
        rw [hs] at he
        dsimp only at he
        simp only [go_sem,shR,lz,← he]
       | some s =>
        have hsl:=shortE_len hF _ _ hs
        rw [hs] at he
        dsimp only at he
        have hRl:sliceLen τ1 a=some out.length:=by rw [hR1.1.len,intsD_len]
        cases hc:decide ((out.length:Int)+(s.length:Int) > 256) with
        | true =>
         have hc':out.length+s.length > 256:=by have:(out.length:Int)+(s.length:Int) > 256:=(by simpa using hc); omega
         rw [if_pos hc'] at he
         have hw:IntKind.i64.wrap ((out.length:Int)+(s.length:Int))=(out.length:Int)+(s.length:Int):=wrap_small (by omega) (by omega)
         simp only [go_sem,shR,slD,slD_len,hRl,t8,hw,hc,lz,← he]
        | false =>
         have hc':¬ out.length+s.length > 256:=by have:¬ ((out.length:Int)+(s.length:Int) > 256):=(by simpa using hc); omega
         rw [if_neg hc'] at he
         have hw:IntKind.i64.wrap ((out.length:Int)+(s.length:Int))=(out.length:Int)+(s.length:Int):=wrap_small (by omega) (by omega)
         simp only [go_sem,shR,slD,slD_len,hRl,t8,hw,hc,lz]
         obtain ⟨a',τ',T,bs',happ,hR',hK⟩:=hR1.app (x:=.d (.slc s.isEmpty (intsD s))) (ys:=intsD s) (b:=8) rfl (by simp [sliceLen]) (intsD_one s) (by rw [intsD_len,intsD_len]; omega) (by rw [intsD_len,intsD_len]; omega)
         have hT:low σ.n T=[]:=low_all fun k hk => by
          rcases hK.w k hk with h | h
          · have:=hbs k h; omega
          · omega
         have hn':=hK.n
         have k0:τ'.get σ.n=.cells x.c:=by rw [hK.same σ.n (by omega) (fun h => by have:=hbs _ h; omega),o1 _ (by omega)]; exact g0
         have km:τ'.get m=.map (MS M):=by rw [hK.same m (by omega) (fun h => by have:=hbs _ h; omega),o1 _ (by omega)]; exact gm
         simp only [go_sem,happ,hT,t42,wrap_succ' hl hlen]
         refine ih _ _ _ _ (by omega) ⟨i+1,out ++ s,a',bs',rfl,hl,rfl,by omega,k0,km,by rw [show intsD (out ++ s)=intsD out ++ intsD s by simp [intsD]]; exact hR',fun k hk => ?_,by rw [List.length_append]; omega,he,by simp only [go_sem,t1],by simp only [go_sem],by simp only [go_sem,t40],by simp only [go_sem,t41],by simp only [go_sem]⟩
         rcases hK.o k hk with h | h
         · exact hbs k h
         · omega
     · rw [List.drop_eq_nil_of_le (by omega),shortS] at he
       simp only [go_sem,t1,t8,t40,t41,t42,dec_ge' hl]
       rw [← he]
       have hf:=hR.freeze (lo:=σ.n) (n:=fzDepth) (fun k hk => by have:=hbs k hk; omega) (by rw [intsD_len]; unfold fzDepth; omega)
       have hfw:freezeW τ σ.n fzDepth a=some (.d (slD out)):=by
        rw [isE] at hf
        rcases hR.1.2 with ⟨-,rfl,-⟩ | ⟨k,rfl,-⟩
        · rw [freezeW,hf]
          · rfl
          · intro cs h; cases h
        · rw [freezeW,hf]
          · rfl
          · intro cs h; cases h
       rw [hfw]; rfl
   · simp only [St.n_push]; omega
   · exact St.get_push_eq
   all_goals first | rfl | (simp only [go_sem]; done) | (simp only [go_sem]; rfl)
 have e3:(x.kind == 3)=false:=by simpa using k3
 rw [if_neg k3]
 by_cases k4:x.kind=4
 · have e:(x.kind == 4)=true:=by simpa using k4
   rw [if_pos k4]
   simp only [go_sem,e1,e2,e3,e]
   refine Ev.loop_ind (fun k tm τ W => ∃ (i:Nat) (best:Option (List Int)),k=x.l.length - i∧i≤x.l.length∧W=[]∧σ.n+1≤τ.n∧τ.get m=.map (MS M)∧(∀ b,best=some b→b.length≤256)∧shortA (FM M) (x.l.drop i) best=shortA (FM M) x.l none ∧
    tm.at 1=.map m∧tm.at 13=.d (slD (best.getD []))∧tm.at 14=.d (.bool best.isSome)∧tm.at 70=x.ld∧tm.at 71=.d (.int .i64 (x.l.length:Int))∧tm.at 72=.d (.int .i64 i)) ?_ x.l.length _ _ _ ⟨0,none,rfl,by omega,rfl,?_,hmp,by simp,rfl,?_,?_,?_,?_,?_,?_⟩
   · rintro k tm τ W ⟨i,best,rfl,hi,rfl,hn,gm,hbl,he,t1,t13,t14,t70,t71,t72⟩ ih
     by_cases hl:i < x.l.length
     · have hget:x.l[i]?=some x.l[i]:=by simp [hl]
       have hmem:x.l[i] ∈ x.l:=List.getElem_mem hl
       rw [List.drop_eq_getElem_cons hl,shortA] at he
       simp only [go_sem,t1,t13,t14,t70,t71,t72,dec_lt' hl,Ex.index_ld hget]
       generalize hτ:(τ.push (.cells [.d (.int .i64 0),.d (.int .i64 0),.d (.slc true [])])).set τ.n (.cells x.l[i].c)=τ1
       have n1:τ1.n=τ.n+1:=by rw [← hτ]; simp [St.n_set,St.n_push]
       have o1:∀ j,j < τ.n→τ1.get j=τ.get j:=fun j hj => by rw [← hτ,St.get_set_ne (by omega),St.get_push_ne hj]
       have lz:low σ.n [τ.n]=[]:=by rw [low_cons_ge (by omega)]; rfl
       have km:τ1.get m=.map (MS M):=by rw [o1 _ (by omega)]; exact gm
       refine ⟨_,_,_,short_c h52 h53 h47 h89 h106 M hF m x.l[i] _ (hx.sub hmem) (ho.sub hmem) km (by omega),?_⟩
       cases hs:shortE (FM M) x.l[i] with
       | none =>
        rw [hs] at he
        dsimp only at he
        simp only [go_sem,shR,t1,t13,t14,t72,wrap_succ' hl hlen,lz]
        exact ih _ _ _ _ (by omega) ⟨i+1,best,rfl,hl,rfl,by omega,km,hbl,he,by simp only [go_sem,t1],by simp only [go_sem,t13],by simp only [go_sem,t14],by simp only [go_sem,t70],by simp only [go_sem,t71],by simp only [go_sem]⟩
       | some s =>
        have hsl:=shortE_len hF _ _ hs
        rw [hs] at he
        dsimp only at he
        cases best with
        | none =>
         simp only [go_sem,shR,t1,t13,t14,t72,wrap_succ' hl hlen,lz,Option.isSome_none]
         exact ih _ _ _ _ (by omega) ⟨i+1,some s,rfl,hl,rfl,by omega,km,fun b hb => by cases hb; exact hsl,he,by simp only [go_sem,t1],by simp only [go_sem,Option.getD_some],by simp only [go_sem,Option.isSome_some],by simp only [go_sem,t70],by simp only [go_sem,t71],by simp only [go_sem]⟩
        | some b =>
         have hb:=hbl b rfl
         simp only [go_sem,shR,t1,t13,t14,lz,Option.isSome_some,Option.getD_some]
         refine ⟨_,_,_,less_c h53 h47 h89 h106 s b s.isEmpty b.isEmpty (by omega) (by omega) _,?_⟩
         dsimp only at he
         cases hp:lessP s b with
         | true =>
          rw [hp,if_pos rfl] at he
          simp only [go_sem,t72,wrap_succ' hl hlen]
          exact ih _ _ _ _ (by omega) ⟨i+1,some s,rfl,hl,rfl,by omega,km,fun b hb => by cases hb; exact hsl,he,by simp only [go_sem,t1],by simp only [go_sem,Option.getD_some],by simp only [go_sem,Option.isSome_some],by simp only [go_sem,t70],by simp only [go_sem,t71],by simp only [go_sem]⟩
         | false =>
          rw [hp,if_neg (by simp)] at he
          simp only [go_sem,t72,wrap_succ' hl hlen]
          exact ih _ _ _ _ (by omega) ⟨i+1,some b,rfl,hl,rfl,by omega,km,hbl,he,by simp only [go_sem,t1],by simp only [go_sem,t13,Option.getD_some],by simp only [go_sem,t14,Option.isSome_some],by simp only [go_sem,t70],by simp only [go_sem,t71],by simp only [go_sem]⟩
     · rw [List.drop_eq_nil_of_le (by omega),shortA] at he
       simp only [go_sem,t1,t13,t14,t70,t71,t72,dec_ge' hl]
       rw [← he]
       cases best <;> rfl
   · simp only [St.n_push]; omega
   all_goals first | rfl | (simp only [go_sem]; done) | (simp only [go_sem]; rfl)
 have e4:(x.kind == 4)=false:=by simpa using k4
 rw [if_neg k4]
 simp only [go_sem,e1,e2,e3,e4]
 rfl
termination_by x
decreasing_by all_goals exact Ex.sub_lt hmem
end Go.Am
namespace Go.Am
open Go Go.Proofs
variable {fz:Nat→Md}
set_option maxHeartbeats 2000000 in
theorem clone_c (h48:fz 65=.ice) (s:List Int) (hs:s.length < 1000000) (σ:St):CallsTo (XX fz) (.func 65 []) [.d (slD s)] σ (.d (slD s)) σ []:=by
 refine CallsTo.ice0 h48 fn65 (by simp) ?_
 simp only [Try.f65,Option.getD_some]
 cases s with
 | nil =>
  simp only [go_sem,slD,intsD,List.map_nil,List.isEmpty_nil]
  try rfl
 | cons n s =>
  simp only [go_sem,slD,List.isEmpty_cons]
  have hl:(n :: s).length < 1000000:=hs
  have hA:RowAt 1 (σ.push (.cells [])) (.row σ.n 0 0 1) [] [σ.n]:=⟨by simp,.inr ⟨σ.n,rfl,St.get_push_eq,by simp [St.n_push],rfl⟩⟩
  obtain ⟨a',τ',T,bs',happ,hR',hK⟩:=hA.app (x:=.d (.slc false (intsD (n :: s)))) (ys:=intsD (n :: s)) (b:=8) rfl (by simp [sliceLen]) (intsD_one _) (by rw [intsD_len]; simp only [List.length_nil]; omega) (by rw [intsD_len]; simp only [List.length_nil]; omega)
  have hT:low σ.n T=[]:=low_all fun k hk => by
   rcases hK.w k hk with h | h
   · simp at h; omega
   · simp only [St.n_push] at h; omega
  have hbs:∀ k ∈ bs',σ.n≤k:=fun k hk => by
   rcases hK.o k hk with h | h
   · simp at h; omega
   · simp only [St.n_push] at h; omega
  simp only [go_sem,happ,hT]
  have hf:freeze τ' σ.n fzDepth a'=some (.slc false (intsD (n :: s))):=by
   rcases hR'.freeze (lo:=σ.n) (n:=fzDepth) hbs (by rw [List.nil_append,intsD_len]; unfold fzDepth; omega) with h | ⟨k,-,h⟩
   · exact h
   · exact h
  have hfw:freezeV τ' σ.n fzDepth a'=some (.d (.slc false (intsD (n :: s)))):=by
   rcases hR'.2 with ⟨h,-,-⟩ | ⟨k,rfl,-⟩
   · simp [intsD] at h
   · rw [List.nil_append] at hf ⊢
     simp only [go_sem,hf]
     try rfl
  first | (rw [hfw]; done) | (rw [hfw]; rfl) | exact hfw
end Go.Am

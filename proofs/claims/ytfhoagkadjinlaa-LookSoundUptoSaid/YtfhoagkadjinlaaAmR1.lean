/- Part R1 of a proof that runs a program's calls on a small machine whose values bear no addresses: no conditions. -/
import Derived.Test.YtfhoagkadjinlaaAmQ4
import Derived.Test.YtfhoagkadjinlaaAmA6
set_option autoImplicit false
set_option linter.unusedSimpArgs false
set_option linter.unusedVariables false
set_option linter.unusedSectionVars false
namespace Go.Am
open Go Go.Proofs
variable {fz:Nat→Md}
mutual
def decE:List D→Option Ex
 | [.int .i64 k,.int .i64 n,.slc z l] => if z && !l.isEmpty then none else match decL l with
  | some m => some (.mk k n z m)
  | none => none
 | _ => none
def decL:List (List D)→Option (List Ex)
 | [] => some []
 | x :: l => match decE x,decL l with
  | some a,some b => some (a :: b)
  | _,_ => none
end
mutual
def Ex.strip:Ex→Ex
 | .mk k n z l => .mk k n (z && l.isEmpty) (stripL l)
def Ex.stripL:List Ex→List Ex
 | [] => []
 | x :: l => x.strip :: stripL l
end
theorem stripL_map (l:List Ex):Ex.stripL l=l.map Ex.strip:=by
 induction l with
 | nil => rfl
 | cons x l ih => rw [Ex.stripL,ih]; rfl
theorem strip_cs:∀ x:Ex,x.strip.cs=x.cs
 | .mk k n z l => by
  rw [Ex.strip,Ex.cs,Ex.cs,stripL_map]
  have:(l.map Ex.strip).map Ex.cs=l.map Ex.cs:=by
   rw [List.map_map]; exact List.map_congr_left fun y hy => strip_cs y
  rw [this]; simp
theorem strip_sz:∀ x:Ex,x.strip.sz=x.sz
 | .mk k n z l => by
  rw [Ex.strip,Ex.sz,Ex.sz,stripL_map]
  have:(l.map Ex.strip).map Ex.sz=l.map Ex.sz:=by
   rw [List.map_map]; exact List.map_congr_left fun y hy => strip_sz y
  rw [this]
mutual
theorem decE_cs:∀ x:Ex,decE x.cs=some x.strip
 | .mk k n z l => by
  rw [Ex.cs,Ex.strip,decE,decL_cs l]
  cases z <;> cases l <;> simp
theorem decL_cs:∀ l:List Ex,decL (l.map Ex.cs)=some (Ex.stripL l)
 | [] => by rw [Ex.stripL,List.map_nil,decL]
 | x :: l => by rw [List.map_cons,decL,decE_cs x,decL_cs l,Ex.stripL]
end
mutual
theorem decE_sound:∀ (cs:List D) (x:Ex),decE cs=some x→x.cs=cs
 | [.int .i64 k,.int .i64 n,.slc z l],x,h => by
  rw [decE] at h
  split at h
  · cases h
  · rename_i hz
    split at h
    · rename_i m hm
      cases h
      have:=decL_sound l m hm
      have hl:m.isEmpty=l.isEmpty:=by rw [← this]; cases m <;> rfl
      rw [Ex.cs,this,hl]
      cases z <;> cases l <;> simp_all
    · cases h
 | [],x,h => by simp [decE] at h
 | [a],x,h => by simp [decE] at h
 | [a,b],x,h => by simp [decE] at h
 | a :: b :: c :: d :: e,x,h => by simp [decE] at h
 | [.bool _,_,_],x,h => by simp [decE] at h
 | [.str _,_,_],x,h => by simp [decE] at h
 | [.slc _ _,_,_],x,h => by simp [decE] at h
 | [.vptr _ _,_,_],x,h => by simp [decE] at h
 | [.nptr,_,_],x,h => by simp [decE] at h
 | [.nmap,_,_],x,h => by simp [decE] at h
 | [.nfunc,_,_],x,h => by simp [decE] at h
 | [.int k _,b,c],x,h => by
  unfold decE at h
  split at h
  · rename_i e
    simp only [List.cons.injEq,D.int.injEq] at e
    obtain ⟨⟨rfl,rfl⟩,rfl,rfl,-⟩:=e
    rename_i k n z l
    split at h
    · cases h
    · rename_i hz
      split at h
      · rename_i m hm
        cases h
        have:=decL_sound l m hm
        have hl:m.isEmpty=l.isEmpty:=by rw [← this]; cases m <;> rfl
        rw [Ex.cs,this,hl]
        cases z <;> cases l <;> simp_all
      · cases h
  · cases h
theorem decL_sound:∀ (l:List (List D)) (m:List Ex),decL l=some m→m.map Ex.cs=l
 | [],m,h => by rw [decL] at h; cases h; rfl
 | x :: l,m,h => by
  rw [decL] at h
  split at h
  · rename_i a b h1 h2
    cases h
    rw [List.map_cons,decE_sound x a h1,decL_sound l b h2]
  · cases h
end
def decR:List D→Option Ru
 | .str s :: r => (decE r).map fun x => ⟨s,x⟩
 | _ => none
def Ru.strip (r:Ru):Ru:=⟨r.name,r.body.strip⟩
theorem decR_cs (r:Ru):decR r.cs=some r.strip:=by rw [Ru.cs,decR,decE_cs]; rfl
theorem decR_sound {cs:List D} {r:Ru} (h:decR cs=some r):r.cs=cs:=by
 unfold decR at h
 split at h
 · rename_i s t
   cases he:decE t with
   | none => rw [he] at h; cases h
   | some x => rw [he] at h; cases h; rw [Ru.cs,decE_sound t x he]
 · cases h
def decRs:List (List D)→Option (List Ru)
 | [] => some []
 | x :: l => match decR x,decRs l with
  | some a,some b => some (a :: b)
  | _,_ => none
theorem decRs_cs:∀ l:List Ru,decRs (l.map Ru.cs)=some (l.map Ru.strip)
 | [] => rfl
 | x :: l => by rw [List.map_cons,decRs,decR_cs x,decRs_cs l]; rfl
theorem decRs_sound:∀ {l:List (List D)} {m:List Ru},decRs l=some m→m.map Ru.cs=l
 | [],m,h => by rw [decRs] at h; cases h; rfl
 | x :: l,m,h => by
  rw [decRs] at h
  split at h
  · rename_i a b h1 h2
    cases h
    rw [List.map_cons,decR_sound h1,decRs_sound h2]
  · cases h
mutual
def Ex.szS:Ex→Nat
 | .mk _ _ _ l => 1+szSL l
def Ex.szSL:List Ex→Nat
 | [] => 0
 | x :: l => x.szS+szSL l
end
mutual
theorem szS_eq:∀ x:Ex,x.szS=x.sz
 | .mk k n z l => by rw [Ex.szS,Ex.sz,szSL_eq l]
theorem szSL_eq:∀ l:List Ex,Ex.szSL l=(l.map Ex.sz).sum
 | [] => by rw [Ex.szSL]; rfl
 | x :: l => by rw [Ex.szSL,szS_eq x,szSL_eq l]; simp
end
mutual
def Ex.csS:Ex→List D
 | .mk k n z l => [.int .i64 k,.int .i64 n,.slc (z && l.isEmpty) (csSL l)]
def Ex.csSL:List Ex→List (List D)
 | [] => []
 | x :: l => x.csS :: csSL l
end
def Gr.aS (g:Gr):A:=.agg [.d (.int .i64 g.tokens),.d (.slc (g.z && g.rules.isEmpty) (g.rules.map fun r => .str r.name :: r.body.csS))]
def smallE (x:Ex):Bool:=decide (x.szS < 1000000000)
theorem smallE_iff {x:Ex}:smallE x=true ↔ SmallE x:=by simp [smallE,SmallE,szS_eq]
def decG:A→Option Gr
 | .agg [.d (.int .i64 t),.d (.slc z l)] => if z && !l.isEmpty then none else match decRs l with
  | some m => if m.all fun r => smallE r.body then some ⟨t,z,m⟩ else none
  | none => none
 | _ => none
def Gr.strip (g:Gr):Gr:=⟨g.tokens,g.z && g.rules.isEmpty,g.rules.map Ru.strip⟩
theorem Gr.strip_a (g:Gr):g.strip.a=g.a:=by
 have:(g.rules.map Ru.strip).map Ru.cs=g.rules.map Ru.cs:=by
  rw [List.map_map]; exact List.map_congr_left fun y hy => by simp [Ru.strip,Ru.cs,strip_cs]
 simp only [Gr.a,Gr.c,Gr.rd,Gr.strip,this]
 simp
theorem Gr.strip_small {g:Gr} (h:SmallG g):SmallG g.strip:=fun r hr => by
 obtain ⟨r',h1,rfl⟩:=List.mem_map.1 hr
 have:=h r' h1
 unfold SmallE at this ⊢
 rw [Ru.strip,strip_sz]; exact this
theorem decG_a {g:Gr} (h:SmallG g):decG g.a=some g.strip:=by
 have h1:((g.rules.map Ru.strip).all fun r => smallE r.body)=true:=List.all_eq_true.2 fun r hr => by
  have:=Gr.strip_small h r hr
  exact smallE_iff.2 this
 simp only [Gr.a,Gr.c,Gr.rd,decG,decRs_cs,h1]
 cases hz:g.z <;> cases hr:g.rules <;> simp [Gr.strip,hz,hr]
theorem decG_sound {a:A} {g:Gr} (h:decG a=some g):g.a=a∧SmallG g:=by
 unfold decG at h
 split at h
 · split at h
   · cases h
   · split at h
     · rename_i t z l hz _ m hm
       split at h
       · rename_i hs
         cases h
         have:=decRs_sound hm
         have hl:m.isEmpty=l.isEmpty:=by rw [← this]; cases m <;> rfl
         refine ⟨?_,fun r hr => ?_⟩
         · simp only [Gr.a,Gr.c,Gr.rd,this,hl]
           cases z <;> cases l <;> simp_all
         · have:=List.all_eq_true.1 hs r hr
           exact smallE_iff.1 this
       · cases h
     · cases h
 · cases h
section
variable (bs:List Ex) (l:List Int)
end
section
variable {bs:List Ex} {l:List Int}
end
end Go.Am
namespace Go.Am
open Go Go.Proofs
def mdB:Nat→Md:=fun f => match f with
 | 9050 => .keep | 49 => .ice | 9046 => .ice
 | _ => .cut
theorem noOra {P:Program}:∀ f F,oraOf (mdB f)=some F→OraS P f F:=by
 intro f F h
 unfold mdB at h
 split at h <;> cases h
theorem fz20B:Fz20 mdB:=⟨rfl,rfl,rfl,rfl,rfl,rfl,rfl,rfl,rfl,rfl,rfl,rfl,rfl,rfl,rfl,rfl,rfl,rfl,rfl,rfl,rfl,rfl,rfl,rfl,rfl,rfl,rfl⟩
theorem mixedT:Try.prog.follows .mixedOrders=true:=by kernel_rfl
theorem CallsTo.det {X:X} {f:A} {args:List A} {σ σ1 σ2:St} {r1 r2:A} {W1 W2:List Nat} (h1:CallsTo X f args σ r1 σ1 W1) (h2:CallsTo X f args σ r2 σ2 W2):r1=r2:=by
 obtain ⟨n,h1⟩:=h1
 obtain ⟨m,h2⟩:=h2
 have a:=(mono_le (Nat.le_max_left n m)).2.2 _ _ _ _ h1
 have b:=(mono_le (Nat.le_max_right n m)).2.2 _ _ _ _ h2
 rw [a] at b; cases b; rfl
def F35:List A→Option A
 | [a] => (decG a).map fun g => .d (.int .i64 (checkP g))
 | _ => none
theorem F35_at {g:Gr} (h:SmallG g):F35 [g.a]=some (.d (.int .i64 (checkP g))):=by
 have h1:=check_c fz20B g h St.empty
 have h2:=check_c fz20B g.strip (Gr.strip_small h) St.empty
 rw [Gr.strip_a] at h2
 have:=CallsTo.det h1 h2
 simp only [F35,decG_a h,Option.map_some]
 rw [this]
theorem ora35:OraS Try.prog 24 F35:=by
 refine oraS_of (fz:=mdB) noOra mixedT fun args r h => ?_
 unfold F35 at h
 split at h
 · rename_i a
   cases hd:decG a with
   | none => rw [hd] at h; cases h
   | some g =>
    rw [hd] at h; cases h
    obtain ⟨rfl,hs⟩:=decG_sound hd
    exact ⟨rfl,_,_,check_c fz20B g hs St.empty⟩
 · cases h
def mdI:Nat→Md:=fun f => match f with
 | 64 => .ice | 9030 => .ice
 | _ => .keep
theorem noOraI {P:Program}:∀ f F,oraOf (mdI f)=some F→OraS P f F:=by
 intro f F h
 unfold mdI at h
 split at h <;> cases h
def miniG:Gr:=⟨29,false,[
 ⟨⟨#[112,114,111,103,114,97,109]⟩,(.mk 3 0 false [(.mk 5 0 false [(.mk 3 0 false [(.mk 2 1 true [])])]),(.mk 1 0 true [])])⟩,
 ⟨⟨#[105,116,101,109]⟩,(.mk 4 0 false [(.mk 3 0 false [(.mk 1 4 true []),(.mk 1 1 true []),(.mk 1 12 true []),(.mk 6 0 false [(.mk 3 0 false [(.mk 1 1 true []),(.mk 5 0 false [(.mk 3 0 false [(.mk 1 16 true []),(.mk 1 1 true [])])])])]),(.mk 1 13 true []),(.mk 2 2 true [])]),(.mk 3 0 false [(.mk 2 3 true [])])])⟩,
 ⟨⟨#[98,108,111,99,107]⟩,(.mk 3 0 false [(.mk 1 14 true []),(.mk 5 0 false [(.mk 3 0 false [(.mk 2 3 true [])])]),(.mk 1 15 true [])])⟩,
 ⟨⟨#[115,116,97,116,101,109,101,110,116]⟩,(.mk 4 0 false [(.mk 3 0 false [(.mk 1 5 true []),(.mk 1 1 true []),(.mk 1 18 true []),(.mk 2 7 true []),(.mk 1 17 true [])]),(.mk 3 0 false [(.mk 2 4 true [])]),(.mk 3 0 false [(.mk 1 8 true []),(.mk 2 7 true []),(.mk 2 2 true [])]),(.mk 3 0 false [(.mk 1 9 true []),(.mk 6 0 false [(.mk 3 0 false [(.mk 2 7 true [])])]),(.mk 1 17 true [])]),(.mk 3 0 false [(.mk 2 2 true [])]),(.mk 3 0 false [(.mk 2 5 true []),(.mk 1 18 true []),(.mk 2 7 true []),(.mk 1 17 true [])]),(.mk 3 0 false [(.mk 2 5 true []),(.mk 1 12 true []),(.mk 6 0 false [(.mk 3 0 false [(.mk 2 6 true [])])]),(.mk 1 13 true []),(.mk 1 17 true [])])])⟩,
 ⟨⟨#[98,114,97,110,99,104]⟩,(.mk 3 0 false [(.mk 1 6 true []),(.mk 2 7 true []),(.mk 2 2 true []),(.mk 6 0 false [(.mk 3 0 false [(.mk 1 7 true []),(.mk 4 0 false [(.mk 3 0 false [(.mk 2 2 true [])]),(.mk 3 0 false [(.mk 2 4 true [])])])])])])⟩,
 ⟨⟨#[112,97,116,104]⟩,(.mk 3 0 false [(.mk 1 1 true []),(.mk 5 0 false [(.mk 3 0 false [(.mk 1 19 true []),(.mk 1 1 true [])])])])⟩,
 ⟨⟨#[97,114,103,115]⟩,(.mk 3 0 false [(.mk 2 7 true []),(.mk 5 0 false [(.mk 3 0 false [(.mk 1 16 true []),(.mk 2 7 true [])])])])⟩,
 ⟨⟨#[101,120,112,114]⟩,(.mk 3 0 false [(.mk 2 8 true []),(.mk 6 0 false [(.mk 3 0 false [(.mk 4 0 false [(.mk 3 0 false [(.mk 1 24 true [])]),(.mk 3 0 false [(.mk 1 25 true [])]),(.mk 3 0 false [(.mk 1 26 true [])])]),(.mk 2 8 true [])])])])⟩,
 ⟨⟨#[115,117,109]⟩,(.mk 3 0 false [(.mk 2 9 true []),(.mk 5 0 false [(.mk 3 0 false [(.mk 4 0 false [(.mk 3 0 false [(.mk 1 20 true [])]),(.mk 3 0 false [(.mk 1 21 true [])])]),(.mk 2 9 true [])])])])⟩,
 ⟨⟨#[116,101,114,109]⟩,(.mk 3 0 false [(.mk 2 10 true []),(.mk 5 0 false [(.mk 3 0 false [(.mk 4 0 false [(.mk 3 0 false [(.mk 1 22 true [])]),(.mk 3 0 false [(.mk 1 23 true [])])]),(.mk 2 10 true [])])])])⟩,
 ⟨⟨#[102,97,99,116,111,114]⟩,(.mk 4 0 false [(.mk 3 0 false [(.mk 1 2 true [])]),(.mk 3 0 false [(.mk 1 3 true [])]),(.mk 3 0 false [(.mk 1 10 true [])]),(.mk 3 0 false [(.mk 1 11 true [])]),(.mk 3 0 false [(.mk 1 12 true []),(.mk 2 7 true []),(.mk 1 13 true [])]),(.mk 3 0 false [(.mk 1 21 true []),(.mk 2 10 true [])]),(.mk 3 0 false [(.mk 1 27 true []),(.mk 2 10 true [])]),(.mk 3 0 false [(.mk 2 5 true []),(.mk 6 0 false [(.mk 3 0 false [(.mk 1 12 true []),(.mk 6 0 false [(.mk 3 0 false [(.mk 2 6 true [])])]),(.mk 1 13 true [])])])])])⟩
]⟩
theorem mini_run:(callA (XX mdI) 3000 (.func 64 []) [] St.empty).map (·.1)=some miniG.aS:=by kernel_rfl
def F28:List A→Option A
 | [] => some miniG.aS
 | _ => none
theorem ora28:OraS Try.prog 64 F28:=by
 refine oraS_of (fz:=mdI) noOraI mixedT fun args r h => ?_
 unfold F28 at h
 split at h
 · cases h
   refine ⟨rfl,?_⟩
   have:=mini_run
   cases hc:callA (XX mdI) 3000 (.func 64 []) [] St.empty with
   | none => rw [hc] at this; cases this
   | some q =>
    obtain ⟨a,σ',T⟩:=q
    rw [hc] at this; cases this
    exact ⟨σ',T,3000,hc⟩
 · cases h
end Go.Am

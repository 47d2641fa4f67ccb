/- Part M1 of a proof that runs a program's calls on a small machine whose values bear no addresses: no conditions. -/
import Derived.Test.YtfhoagkadjinlaaAmT2
import Derived.Test.YtfhoagkadjinlaaAmU1
set_option autoImplicit false
set_option linter.unusedSimpArgs false
set_option linter.unusedVariables false
set_option linter.unusedSectionVars false
namespace Go.Am
open Go Go.Proofs
variable {fz:Nat→Md}
structure Eg where
 kind:Int
 num:Int
 to:Nat
def Eg.D (e:Eg):List D:=[.int .i64 e.kind,.int .i64 e.num,.int .i64 (e.to:Int)]
structure Nv where
 es:List (List Eg)
 rs:List Int
namespace Nv
def fresh (N:Nv) (r:Int):Nv:=⟨N.es ++ [[]],N.rs ++ [r]⟩
def edge (N:Nv) (f:Nat) (k n:Int) (t:Nat):Nv:=⟨N.es.modify f (· ++ [⟨k,n,t⟩]),N.rs⟩
def rule (N:Nv) (s:Nat):Int:=N.rs.getD s 0
end Nv
mutual
/-- a part, laid from a state to another one -/
def layE:Ex→Nat→Nat→Nv→Nv
 | .mk k n _ l,f,t,N =>
  if k=1 then N.edge f 1 n t else if k=2 then N.edge f 2 n t
  else if k=3 then layS l f t N
  else if k=4 then layA l f t N
  else if k=5 then
   (layH l N.es.length N.es.length ((N.fresh (N.rule f)).edge f 0 0 N.es.length)).edge N.es.length 0 0 t
  else if k=6 then (layH l f t N).edge f 0 0 t
  else N.edge f 0 0 t
/-- parts one behind the other -/
def layS:List Ex→Nat→Nat→Nv→Nv
 | [],f,t,N => N.edge f 0 0 t
 | x :: l,f,t,N => match l with
  | [] => layE x f t N
  | _ :: _ => layS l N.es.length t (layE x f N.es.length (N.fresh (N.rule f)))
/-- parts, each along a way -/
def layA:List Ex→Nat→Nat→Nv→Nv
 | [],_,_,N => N
 | x :: l,f,t,N => layA l f t (layE x N.es.length t ((N.fresh (N.rule f)).edge f 0 0 N.es.length))
/-- the first one, along a way -/
def layH:List Ex→Nat→Nat→Nv→Nv
 | [],_,_,N => N
 | x :: _,f,t,N => layE x N.es.length t ((N.fresh (N.rule f)).edge f 0 0 N.es.length)
end
def layW (x:Ex) (f t:Nat) (N:Nv):Nv:=layE x N.es.length t ((N.fresh (N.rule f)).edge f 0 0 N.es.length)
structure Nv.Fits (N:Nv) (B:Nat):Prop where
 e:N.es.length≤B
 r:N.rs.length=N.es.length
 l:∀ x ∈ N.es,x.length≤B
theorem Nv.Fits.mono {N:Nv} {B C:Nat} (h:N.Fits B) (hc:B≤C):N.Fits C:=⟨Nat.le_trans h.e hc,h.r,fun x hx => Nat.le_trans (h.l x hx) hc⟩
theorem Nv.Fits.fresh {N:Nv} {B:Nat} (h:N.Fits B) (r:Int):(N.fresh r).Fits (B+1):=by
 refine ⟨?_,?_,fun x hx => ?_⟩
 · have:=h.e; simp [Nv.fresh]; omega
 · simp [Nv.fresh,h.r]
 · rcases List.mem_append.1 hx with hx | hx
   · have:=h.l x hx; omega
   · simp at hx; subst hx; simp
theorem Nv.Fits.edge {N:Nv} {B:Nat} (h:N.Fits B) (f:Nat) (k n:Int) (t:Nat):(N.edge f k n t).Fits (B+1):=by
 refine ⟨?_,?_,fun x hx => ?_⟩
 · have:=h.e; simp [Nv.edge]; omega
 · simp [Nv.edge,h.r]
 · obtain ⟨i,hi,rfl⟩:=List.mem_iff_getElem.1 hx
   simp only [Nv.edge,List.length_modify] at hi
   have:=h.l _ (List.getElem_mem hi)
   simp only [Nv.edge,List.getElem_modify]
   split <;> simp <;> omega
theorem Nv.es_fresh (N:Nv) (r:Int):(N.fresh r).es.length=N.es.length+1:=by simp [Nv.fresh]
theorem Nv.es_edge (N:Nv) (f:Nat) (k n:Int) (t:Nat):(N.edge f k n t).es.length=N.es.length:=by simp [Nv.edge]
theorem layE_eq (x:Ex) (f t:Nat) (N:Nv):layE x f t N =
 if x.kind=1 then N.edge f 1 x.num t else if x.kind=2 then N.edge f 2 x.num t
 else if x.kind=3 then layS x.l f t N
 else if x.kind=4 then layA x.l f t N
 else if x.kind=5 then
  (layH x.l N.es.length N.es.length ((N.fresh (N.rule f)).edge f 0 0 N.es.length)).edge N.es.length 0 0 t
 else if x.kind=6 then (layH x.l f t N).edge f 0 0 t
 else N.edge f 0 0 t:=by
 cases x; rw [layE]; rfl
theorem layS_cons2 (x y:Ex) (l:List Ex) (f t:Nat) (N:Nv):layS (x :: y :: l) f t N=layS (y :: l) N.es.length t (layE x f N.es.length (N.fresh (N.rule f))):=by rw [layS]
theorem layS_one (x:Ex) (f t:Nat) (N:Nv):layS [x] f t N=layE x f t N:=by rw [layS]
theorem Ex.szS_pos (x:Ex):1≤x.szS:=by cases x; rw [Ex.szS]; omega
mutual
theorem layE_fits:∀ (x:Ex) (f t B:Nat) (N:Nv),N.Fits B→(layE x f t N).Fits (B+5 * x.szS - 2)∧N.es.length≤(layE x f t N).es.length
 | .mk k n z l,f,t,B,N,h => by
  rw [layE,Ex.szS]
  have e0:∀ (g:Nat) (j m:Int) (u:Nat),(N.edge g j m u).Fits (B+5 * (1+Ex.szSL l) - 2)∧N.es.length≤(N.edge g j m u).es.length:=fun g j m u => ⟨(h.edge g j m u).mono (by omega),by rw [Nv.es_edge]; exact Nat.le_refl _⟩
  split
  · exact e0 _ _ _ _
  split
  · exact e0 _ _ _ _
  split
  · have:=layS_fits l f t B N h; exact ⟨this.1.mono (by omega),this.2⟩
  split
  · have:=layA_fits l f t B N h; exact ⟨this.1.mono (by omega),this.2⟩
  split
  · have:=layH_fits l N.es.length N.es.length (B+2) _ ((h.fresh (N.rule f)).edge f 0 0 N.es.length)
    rw [Nv.es_edge,Nv.es_fresh] at this
    exact ⟨(this.1.edge _ _ _ _).mono (by omega),by rw [Nv.es_edge]; omega⟩
  split
  · have:=layH_fits l f t B N h
    exact ⟨(this.1.edge _ _ _ _).mono (by omega),by rw [Nv.es_edge]; omega⟩
  · exact e0 _ _ _ _
theorem layS_fits:∀ (l:List Ex) (f t B:Nat) (N:Nv),N.Fits B→(layS l f t N).Fits (B+5 * (Ex.szSL l)+1)∧N.es.length≤(layS l f t N).es.length
 | [],f,t,B,N,h => by rw [layS]; exact ⟨(h.edge _ _ _ _).mono (by omega),by rw [Nv.es_edge]; exact Nat.le_refl _⟩
 | [x],f,t,B,N,h => by
  rw [layS,Ex.szSL,Ex.szSL]; have:=layE_fits x f t B N h; exact ⟨this.1.mono (by omega),this.2⟩
 | x :: y :: l,f,t,B,N,h => by
  rw [layS_cons2,Ex.szSL]
  have h1:=layE_fits x f N.es.length (B+1) _ (h.fresh (N.rule f))
  have h2:=layS_fits (y :: l) N.es.length t _ _ h1.1
  have h3:=x.szS_pos
  rw [Nv.es_fresh] at h1
  exact ⟨h2.1.mono (by omega),by omega⟩
theorem layA_fits:∀ (l:List Ex) (f t B:Nat) (N:Nv),N.Fits B→(layA l f t N).Fits (B+5 * (Ex.szSL l))∧N.es.length≤(layA l f t N).es.length
 | [],f,t,B,N,h => by rw [layA]; exact ⟨h.mono (by omega),Nat.le_refl _⟩
 | x :: l,f,t,B,N,h => by
  rw [layA,Ex.szSL]
  have h1:=layE_fits x N.es.length t (B+2) _ ((h.fresh (N.rule f)).edge f 0 0 N.es.length)
  have h2:=layA_fits l f t _ _ h1.1
  have h3:=x.szS_pos
  rw [Nv.es_edge,Nv.es_fresh] at h1
  exact ⟨h2.1.mono (by omega),by omega⟩
theorem layH_fits:∀ (l:List Ex) (f t B:Nat) (N:Nv),N.Fits B→(layH l f t N).Fits (B+5 * (Ex.szSL l))∧N.es.length≤(layH l f t N).es.length
 | [],f,t,B,N,h => by rw [layH]; exact ⟨h.mono (by omega),Nat.le_refl _⟩
 | x :: l,f,t,B,N,h => by
  rw [layH,Ex.szSL]
  have h1:=layE_fits x N.es.length t (B+2) _ ((h.fresh (N.rule f)).edge f 0 0 N.es.length)
  have h3:=x.szS_pos
  rw [Nv.es_edge,Nv.es_fresh] at h1
  exact ⟨h1.1.mono (by omega),by omega⟩
end
end Go.Am
namespace Go.Am
open Go Go.Proofs
variable {fz:Nat→Md}
def OwnT (tag:Nat→Nat) (t:Nat) (bs:List Nat):Prop:=∀ j ∈ bs,tag j=t
def upT (tag:Nat→Nat) (k t:Nat):Nat→Nat:=fun j => if j=k then t else tag j
theorem upT_eq {tag:Nat→Nat} {k t:Nat}:upT tag k t k=t:=by simp [upT]
theorem upT_ne {tag:Nat→Nat} {k t j:Nat} (h:j≠k):upT tag k t j=tag j:=by simp [upT,h]
def EdgM (tag:Nat→Nat) (σ:St) (ae:A) (es:List (List Eg)):Prop :=
 ∃ cs,((es=[]∧ae=.d (.slc true []))∨∃ k,ae=.row k 0 es.length 1∧σ.get k=.cells cs∧tag k=1∧k < σ.n)∧cs.length=es.length ∧
  ∀ (i:Nat) (x:List Eg),es[i]?=some x→∃ c bs,cs[i]?=some c∧RowN 3 σ c (x.map Eg.D) bs∧OwnT tag (10+i) bs
structure Nx where
 en:List Int
 lv:List Int
 ca:List (List Int)
 lg:List Bool
def caD (l:List (List Int)):List (List D):=l.map fun s => [slD s]
def bsD (l:List Bool):List (List D):=l.map fun b => [.bool b]
def RowT (tag:Nat→Nat) (t:Nat) (σ:St) (a:A) (xs:List (List D)):Prop:=∃ bs,RowN 1 σ a xs bs∧OwnT tag t bs
theorem RowT.stay {tag tag':Nat→Nat} {t:Nat} {σ τ:St} {a:A} {xs:List (List D)} (h:RowT tag t σ a xs) (hn:σ.n≤τ.n) (hg:∀ k,k < σ.n→tag k=t→τ.get k=σ.get k) (ht:∀ k,k < σ.n→tag k=t→tag' k=t):RowT tag' t τ a xs:=by
 obtain ⟨bs,h1,h2⟩:=h
 exact ⟨bs,h1.stay hn fun k hk => hg k (h1.1.lt hk) (h2 k hk),fun k hk => ht k (h1.1.lt hk) (h2 k hk)⟩
theorem EdgM.stay {tag tag':Nat→Nat} {σ τ:St} {ae:A} {es:List (List Eg)} (h:EdgM tag σ ae es) (hn:σ.n≤τ.n) (hg:∀ k,k < σ.n→(tag k=1∨10≤tag k)→τ.get k=σ.get k) (ht:∀ k,k < σ.n→(tag k=1∨10≤tag k)→tag' k=tag k):EdgM tag' τ ae es:=by
 obtain ⟨cs,h1,h2,h3⟩:=h
 refine ⟨cs,?_,h2,fun i x hi => ?_⟩
 · rcases h1 with h1 | ⟨k,r1,r2,r3,r4⟩
   · exact .inl h1
   · exact .inr ⟨k,r1,(hg k r4 (.inl r3)).trans r2,(ht k r4 (.inl r3)).trans r3,by omega⟩
 · obtain ⟨c,bs,c1,c2,c3⟩:=h3 i x hi
   refine ⟨c,bs,c1,c2.stay hn fun k hk => hg k (c2.1.lt hk) (.inr (by rw [c3 k hk]; omega)),fun k hk => ?_⟩
   rw [ht k (c2.1.lt hk) (.inr (by rw [c3 k hk]; omega))]; exact c3 k hk
structure XM (tag:Nat→Nat) (σ:St) (an al ac ag:A) (X:Nx):Prop where
 en:RowT tag 3 σ an (intsD X.en)
 lv:RowT tag 4 σ al (intsD X.lv)
 ca:RowT tag 5 σ ac (caD X.ca)
 lg:RowT tag 6 σ ag (bsD X.lg)
theorem XM.stay {tag tag':Nat→Nat} {σ τ:St} {an al ac ag:A} {X:Nx} (h:XM tag σ an al ac ag X) (hn:σ.n≤τ.n) (hg:∀ k,k < σ.n→3≤tag k→tag k≤6→τ.get k=σ.get k) (ht:∀ k,k < σ.n→3≤tag k→tag k≤6→tag' k=tag k):XM tag' τ an al ac ag X where
 en:=h.en.stay hn (fun k h1 h2 => hg k h1 (by omega) (by omega)) (fun k h1 h2 => by rw [ht k h1 (by omega) (by omega)]; exact h2)
 lv:=h.lv.stay hn (fun k h1 h2 => hg k h1 (by omega) (by omega)) (fun k h1 h2 => by rw [ht k h1 (by omega) (by omega)]; exact h2)
 ca:=h.ca.stay hn (fun k h1 h2 => hg k h1 (by omega) (by omega)) (fun k h1 h2 => by rw [ht k h1 (by omega) (by omega)]; exact h2)
 lg:=h.lg.stay hn (fun k h1 h2 => hg k h1 (by omega) (by omega)) (fun k h1 h2 => by rw [ht k h1 (by omega) (by omega)]; exact h2)
structure NetM (lo:Nat) (tag:Nat→Nat) (σ:St) (p:Nat) (N:Nv) (X:Nx):Prop where
 low:∀ j,j < lo→tag j=7
 high:∀ j,σ.n≤j→tag j=7
 tp:tag p=0
 cell:∃ ae ar an al ac ag,σ.get p=.cells [ae,ar,an,al,ac,ag]∧EdgM tag σ ae N.es∧RowT tag 2 σ ar (intsD N.rs)∧XM tag σ an al ac ag X
theorem NetM.lt {lo p:Nat} {tag:Nat→Nat} {σ:St} {N:Nv} {X:Nx} (h:NetM lo tag σ p N X):p < σ.n:=by
 rcases Nat.lt_or_ge p σ.n with h1 | h1
 · exact h1
 · have:=h.high p h1; rw [h.tp] at this; cases this
theorem NetM.ge {lo p:Nat} {tag:Nat→Nat} {σ:St} {N:Nv} {X:Nx} (h:NetM lo tag σ p N X):lo≤p:=by
 rcases Nat.lt_or_ge p lo with h1 | h1
 · have:=h.low p h1; rw [h.tp] at this; cases this
 · exact h1
theorem NetM.stay {lo p:Nat} {tag:Nat→Nat} {σ τ:St} {N:Nv} {X:Nx} (h:NetM lo tag σ p N X) (hn:σ.n≤τ.n) (hg:∀ k,k < σ.n→tag k≠7→τ.get k=σ.get k):NetM lo tag τ p N X:=by
 obtain ⟨ae,ar,an,al,ac,ag,h1,h2,h3,h4⟩:=h.cell
 refine ⟨h.low,fun j hj => h.high j (by omega),h.tp,ae,ar,an,al,ac,ag,?_,?_,?_,?_⟩
 · rw [hg p h.lt (by rw [h.tp]; omega)]; exact h1
 · exact h2.stay hn (fun k a b => hg k a (by omega)) (fun _ _ _ => rfl)
 · exact h3.stay hn (fun k a b => hg k a (by omega)) (fun _ _ b => b)
 · exact h4.stay hn (fun k a b c => hg k a (by omega)) (fun _ _ _ _ => rfl)
theorem NetM.push {lo p:Nat} {tag:Nat→Nat} {σ:St} {N:Nv} {X:Nx} (h:NetM lo tag σ p N X) (b:Blk):NetM lo tag (σ.push b) p N X :=
 h.stay (by simp [St.n_push]) fun k hk _ => St.get_push_ne hk
theorem NetM.set {lo p k:Nat} {tag:Nat→Nat} {σ:St} {N:Nv} {X:Nx} (h:NetM lo tag σ p N X) (hk:tag k=7) (b:Blk):NetM lo tag (σ.set k b) p N X :=
 h.stay (by simp [St.n_set]) fun j _ hj => St.get_set_ne (by rintro rfl; exact hj hk)
structure KeptT (tag:Nat→Nat) (σ:St) (tag':Nat→Nat) (σ':St) (W:List Nat):Prop where
 n:σ.n≤σ'.n
 same:∀ j,j < σ.n→tag j=7→σ'.get j=σ.get j
 tags:∀ j,j < σ.n→tag' j=tag j
 w:∀ j,j ∈ W→tag j≠7∨σ.n≤j
section
variable {tag tag1 tag2:Nat→Nat} {σ σ1 σ2:St} {W T:List Nat} {k:Nat}
theorem KeptT.refl:KeptT tag σ tag σ []:=⟨Nat.le_refl _,fun _ _ _ => rfl,fun _ _ => rfl,fun _ h => by cases h⟩
theorem KeptT.push (h:KeptT tag σ tag1 σ1 W) (b:Blk):KeptT tag σ tag1 (σ1.push b) W :=
 ⟨by have:=h.n; rw [St.n_push]; omega,fun j h1 h2 => by have:=h.n; rw [St.get_push_ne (by omega)]; exact h.same j h1 h2,h.tags,h.w⟩
theorem KeptT.set (h:KeptT tag σ tag1 σ1 W) (b:Blk) (hk:σ.n≤k∨tag k≠7):KeptT tag σ tag1 (σ1.set k b) W :=
 ⟨h.n,fun j h1 h2 => by rw [St.get_set_ne (by rintro rfl; rcases hk with hk | hk; omega; exact hk h2)]; exact h.same j h1 h2,h.tags,h.w⟩
theorem KeptT.call (h:KeptT tag σ tag1 σ1 W) (g:KeptT tag1 σ1 tag2 σ2 T):KeptT tag σ tag2 σ2 (W ++ low σ.n T) where
 n:=Nat.le_trans h.n g.n
 same:=fun j h1 h2 => by rw [g.same j (Nat.lt_of_lt_of_le h1 h.n) (by rw [h.tags j h1]; exact h2)]; exact h.same j h1 h2
 tags:=fun j h1 => by rw [g.tags j (Nat.lt_of_lt_of_le h1 h.n)]; exact h.tags j h1
 w:=fun j hj => by
  rcases List.mem_append.1 hj with hj | hj
  · exact h.w j hj
  · simp only [low,List.mem_filter,decide_eq_true_eq] at hj
    rcases g.w j hj.1 with h' | h'
    · rw [h.tags j hj.2] at h'; exact .inl h'
    · have:=h.n; omega
theorem KeptT.write (h:KeptT tag σ tag1 σ1 W) (b:Blk) (hk:σ.n≤k∨tag k≠7):KeptT tag σ tag1 (σ1.set k b) (W ++ low σ.n [k]) :=
 ⟨(h.set b hk).n,(h.set b hk).same,h.tags,fun j hj => by
  rcases List.mem_append.1 hj with hj | hj
  · exact h.w j hj
  · simp only [low,List.mem_filter,List.mem_singleton] at hj; rw [hj.1]; exact hk.symm⟩
theorem KeptT.wr (h:KeptT tag σ tag1 σ1 W) (hw:∀ j ∈ T,j ∈ W∨tag j≠7∨σ.n≤j):KeptT tag σ tag1 σ1 T :=
 ⟨h.n,h.same,h.tags,fun j hj => (hw j hj).elim (h.w j) id⟩
end
def NRun (X:X) (lo p:Nat) (f:A) (args:List A) (tag:Nat→Nat) (σ:St) (r:A) (N:Nv) (x:Nx):Prop :=
 ∃ σ' T tag',CallsTo X f args σ r σ' T∧NetM lo tag' σ' p N x∧KeptT tag σ tag' σ' T
theorem NRun.of {X:X} {lo p f:Nat} {args:List A} {F:AFn} {tag:Nat→Nat} {σ:St} {r:A} {N:Nv} {x:Nx} (hz:X.fz f=.keep) (hF:X.fn f=some F) (hl:args.length≤F.nt)
 (e:Ev X f F.nt none σ.n [.code F.body] (initTm args 0 .nil) σ [] (RetQ X F.results fun a σ1 W1 => a=r∧∃ tag',NetM lo tag' σ1 p N x∧KeptT tag σ tag' σ1 W1)):NRun X lo p (.func f []) args tag σ r N x:=by
 obtain ⟨n,o,hn,hq⟩:=e
 cases o with
 | leave _ _ _ => exact hq.elim
 | ret tm σ1 W1 =>
  unfold RetQ at hq
  dsimp only at hq
  split at hq
  · rename_i l hl'
    obtain ⟨rfl,tag',h1,h2⟩:=hq
    refine ⟨σ1,W1,tag',CallsTo.ofQ hF (by simpa using hl) ⟨n,_,by rw [List.append_nil]; exact hn,by unfold RetQ; dsimp only; rw [hl']; simp [leaveCall,hz]⟩,h1,h2⟩
  · exact hq.elim
theorem EdgM.app {tag:Nat→Nat} {σ:St} {ae:A} {es:List (List Eg)} {j b:Nat} (h:EdgM tag σ ae es) (hj:σ.get j=.cells [.d (.slc true [])]) (hb:b≤64) (hl:es.length < 2000000000) :
 ∃ σ' T,appendA 1 b σ ae (.row j 0 1 1)=.val (.row σ.n 0 (es.length+1) 1) σ' T []∧σ'.n=σ.n+1∧(∀ i,i < σ.n→tag i≠1→σ'.get i=σ.get i)∧(∀ i ∈ T,tag i=1) ∧
  ∀ tag',(∀ i,i < σ.n→tag' i=tag i)→tag' σ.n=1→EdgM tag' σ' (.row σ.n 0 (es.length+1) 1) (es ++ [[]]):=by
 obtain ⟨cs,h1,h2,h3⟩:=h
 have s1:sliceCells σ (.row j 0 1 1)=some [.d (.slc true [])]:=by rw [sliceCells_row hj (by simp)]; rfl
 have s2:sliceLen σ (.row j 0 1 1)=some 1:=by rw [sliceLen_row,hj]; rfl
 have key:∀ σ':St,σ'.n=σ.n+1→(∀ i,i < σ.n→tag i≠1→σ'.get i=σ.get i)→σ'.get σ.n=.cells (cs ++ [.d (.slc true [])]) →
  ∀ tag',(∀ i,i < σ.n→tag' i=tag i)→tag' σ.n=1→EdgM tag' σ' (.row σ.n 0 (es.length+1) 1) (es ++ [[]]):=fun σ' hn hs hg tag' ht htn => by
  refine ⟨cs ++ [.d (.slc true [])],.inr ⟨σ.n,by rw [List.length_append]; rfl,hg,htn,by omega⟩,by simp [h2],fun i x hi => ?_⟩
  rcases Nat.lt_or_ge i es.length with hl | hl
  · rw [List.getElem?_append_left hl] at hi
    obtain ⟨c,bs,c1,c2,c3⟩:=h3 i x hi
    refine ⟨c,bs,by rw [List.getElem?_append_left (by omega)]; exact c1,c2.stay (by omega) fun k hk => hs k (c2.1.lt hk) (by rw [c3 k hk]; omega),fun k hk => ?_⟩
    rw [ht k (c2.1.lt hk)]; exact c3 k hk
  · rw [List.getElem?_append_right hl] at hi
    have:i - es.length=0:=by
     rcases Nat.eq_zero_or_pos (i - es.length) with h | h
     · exact h
     · rw [List.getElem?_eq_none (by simp; omega)] at hi; cases hi
    rw [this] at hi
    cases hi
    exact ⟨.d (.slc true []),[],by rw [List.getElem?_append_right (by omega)]; rw [show i - cs.length=0 by omega]; rfl,RowN.nil,fun _ h => by cases h⟩
 rcases h1 with ⟨rfl,rfl⟩ | ⟨k,rfl,hk,htk,hlt⟩
 · have:cs=[]:=by simpa using h2
   subst this
   rw [appendA_nil s1 s2 (by simp) rfl (by omega) (by omega),if_neg (by omega)]
   exact ⟨_,_,rfl,by simp [St.n_push],fun i hi _ => St.get_push_ne hi,by simp,key _ (by simp [St.n_push]) (fun i hi _ => St.get_push_ne hi) St.get_push_eq⟩
 · rw [appendA_row hk s1 s2 (by simp) rfl (by omega) (by have:=Nat.mul_le_mul (show es.length+1≤2000000001 by omega) hb; omega) (by omega),if_neg (by omega)]
   have hs:∀ i,i < σ.n→tag i≠1→((σ.set k .dead).push (.cells ((cs.drop 0).take (es.length * 1) ++ [.d (.slc true [])]))).get i=σ.get i:=fun i hi hne => by
    rw [St.get_push_ne (by rw [St.n_set]; exact hi),St.get_set_ne (by rintro rfl; exact hne htk)]
   refine ⟨_,_,rfl,by simp [St.n_push,St.n_set],hs,by simpa using htk,key _ (by simp [St.n_push,St.n_set]) hs ?_⟩
   rw [St.get_push_eq' (by rw [St.n_set]),List.drop_zero,List.take_of_length_le (by omega)]
theorem RowT.app {tag:Nat→Nat} {t:Nat} {σ:St} {a:A} {xs:List (List D)} {j b:Nat} {y:List D} (h:RowT tag t σ a xs) (hy:y.length=1) (hj:σ.get j=.cells (y.map A.d)) (hb:b≤64) (hl:xs.length < 2000000000) :
 ∃ a' σ' T,appendA 1 b σ a (.row j 0 1 1)=.val a' σ' T []∧a'.cells=some [a']∧a'.isCell=true∧σ.n≤σ'.n∧(∀ i,i < σ.n→tag i≠t→σ'.get i=σ.get i)∧(∀ i ∈ T,tag i=t∨σ.n≤i) ∧
  ∀ tag',(∀ i,i < σ.n→tag' i=tag i)→(∀ i,σ.n≤i→i < σ'.n→tag' i=t)→RowT tag' t σ' a' (xs ++ [y]):=by
 obtain ⟨bs,h1,h2⟩:=h
 obtain ⟨a',τ',T,bs',q1,q2,q3,q4,q5⟩:=app_ex (b:=b) hy hb h1 hj hl
 refine ⟨a',τ',T,q1,q4,q5,q3.n,fun i hi hne => q3.same i hi fun hb => hne (h2 i hb),fun i hi => ?_,fun tag' ht htn => ⟨bs',q2,fun i hi => ?_⟩⟩
 · rcases q3.w i hi with h | h
   · exact .inl (h2 i h)
   · exact .inr h
 · rcases q3.o i hi with h | h
   · rw [ht i (h1.1.lt h)]; exact h2 i h
   · exact htn i h (q2.1.lt hi)
end Go.Am
namespace Go.Am
open Go Go.Proofs
variable {fz:Nat→Md}
theorem EdgM.alive {tag:Nat→Nat} {σ:St} {k o m e:Nat} {es:List (List Eg)} (h:EdgM tag σ (.row k o m e) es):aliveB (σ.get k)=true:=by
 obtain ⟨cs,h1,-,-⟩:=h
 rcases h1 with ⟨-,h1⟩ | ⟨k',h1,h2,-,-⟩
 · cases h1
 · cases h1; rw [h2]; rfl
set_option maxHeartbeats 2000000 in
theorem fresh_c (h39:fz 43=.keep) {lo p B:Nat} {tag:Nat→Nat} {σ:St} {N:Nv} {x:Nx} (h:NetM lo tag σ p N x) (hB:N.Fits B) (hb:B < 1000000000) (r:Int) :
 NRun (XX fz) lo p (.func 43 []) [.ptr p 0,.d (.int .i64 r)] tag σ (.d (.int .i64 (N.es.length:Int))) (N.fresh r) x:=by
 refine NRun.of h39 fn43 (by simp) ?_
 simp only [Try.f43,Option.getD_some]
 obtain ⟨ae,ar,an,al,ac,ag,hc,hE,hR,hX⟩:=h.cell
 have hlt:=h.lt
 have hne:p≠σ.n:=by omega
 have hel:=hB.e
 have hrl:=hB.r
 simp only [go_sem,hc,hne,hlt]
 have hE1:EdgM tag (σ.push (.cells [.d (.slc true [])])) ae N.es:=hE.stay (by simp [St.n_push]) (fun k hk _ => St.get_push_ne hk) (fun _ _ _ => rfl)
 obtain ⟨σ2,T,happ,n2,same2,hT,hE2⟩:=hE1.app (b:=24) (j:=σ.n) St.get_push_eq (by omega) (by omega)
 simp only [St.n_push] at happ n2 same2 hE2
 have c2:σ2.get p=.cells [ae,ar,an,al,ac,ag]:=by rw [same2 p (by omega) (by rw [h.tp]; omega),St.get_push_ne hlt]; exact hc
 have ne3:p≠σ2.n:=by omega
 simp only [go_sem,happ,c2,ne3]
 have htl:tag σ.n=7:=h.high _ (Nat.le_refl _)
 generalize hσ3:((σ2.set p (Blk.cells [A.row (σ.n+1) 0 (N.es.length+1) 1,ar,an,al,ac,ag])).push (Blk.cells [A.d (D.int IntKind.i64 r)]))=σ3
 have n3:σ3.n=σ2.n+1:=by rw [← hσ3]; simp [St.n_push,St.n_set]
 have s3:∀ j,j < σ.n→tag j≠1→j≠p→σ3.get j=σ.get j:=fun j h1 h2 h4 => by
  rw [← hσ3,St.get_push_ne (by simp only [St.n_set]; omega),St.get_set_ne h4,same2 j (by omega) h2,St.get_push_ne h1]
 let tag1:=upT tag (σ.n+1) 1
 have tg1:∀ j,j < σ.n+1→tag1 j=tag j:=fun j hj => upT_ne (by omega)
 have hE3:=hE2 tag1 (fun i hi => tg1 i hi) upT_eq
 have hR1:RowT tag1 2 σ3 ar (intsD N.rs):=hR.stay (by omega) (fun k h1 h2 => s3 k h1 (by omega) (by rintro rfl; rw [h.tp] at h2; cases h2)) (fun k h1 h2 => by rw [tg1 k (by omega)]; exact h2)
 obtain ⟨a',σ5,T2,happ2,a1,a2,n5,same5,hT2,hR5⟩:=hR1.app (b:=8) (j:=σ2.n) (y:=[.int .i64 r]) rfl (by rw [← hσ3,St.get_push_eq' (by rw [St.n_set])]; rfl) (by omega) (by rw [intsD_len]; omega)
 have p1:tag1 p=0:=by rw [tg1 p (by omega),h.tp]
 have c5:σ5.get p=.cells [A.row (σ.n+1) 0 (N.es.length+1) 1,ar,an,al,ac,ag]:=by
  rw [same5 p (by omega) (by omega),← hσ3,St.get_push_ne (by simp only [St.n_set]; omega),St.get_set_eq]
 have g25:∀ k,k < σ2.n→tag1 k≠2→k≠p→σ5.get k=σ2.get k:=fun k h1 h2 h4 => by
  rw [same5 k (by omega) h2,← hσ3,St.get_push_ne (by simp only [St.n_set]; omega),St.get_set_ne h4]
 have alv:aliveB (σ5.get (σ.n+1))=true:=by
  rw [g25 _ (by omega) (by show upT tag (σ.n+1) 1 (σ.n+1)≠2; rw [upT_eq]; omega) (by omega)]; exact hE3.alive
 have ne6:σ.n+1≠p:=by omega
 simp only [go_sem,happ2,c5,a1,a2,alv,ne6]
 rw [wrap_small (by omega) (by omega)]
 let tag2:Nat→Nat:=fun j => if σ3.n≤j∧j < σ5.n then 2 else tag1 j
 have tg2:∀ j,j < σ3.n→tag2 j=tag1 j:=fun j hj => if_neg (by omega)
 refine ⟨by congr 2; omega,tag2,⟨fun j hj => ?_,fun j hj => ?_,?_,_,_,_,_,_,_,St.get_set_eq,?_,?_,?_⟩,?_⟩
 · have:=h.ge; rw [tg2 j (by omega),tg1 j (by omega)]; exact h.low j hj
 · simp only [St.n_set] at hj
   show (if σ3.n≤j∧j < σ5.n then 2 else tag1 j)=7
   rw [if_neg (by omega)]
   show upT tag (σ.n+1) 1 j=7
   rw [upT_ne (by omega)]; exact h.high j (by omega)
 · rw [tg2 p (by omega)]; exact p1
 · refine hE3.stay (by simp only [St.n_set]; omega) (fun k h1 h2 => ?_) (fun k h1 h2 => tg2 k (by omega))
   have hkp:k≠p:=by rintro rfl; omega
   rw [St.get_set_ne hkp,g25 k h1 (by omega) hkp]
 · have hR6:=hR5 tag2 tg2 (fun i h1 h2 => if_pos ⟨h1,h2⟩)
   rw [show (N.fresh r).rs=N.rs ++ [r] from rfl,show intsD (N.rs ++ [r])=intsD N.rs ++ [[.int .i64 r]] by simp [intsD]]
   refine hR6.stay (Nat.le_refl _) (fun k h1 h2 => St.get_set_ne ?_) (fun _ _ h2 => h2)
   rintro rfl; rw [tg2 k (by omega),p1] at h2; cases h2
 · refine hX.stay (by simp only [St.n_set]; omega) (fun k h1 h2 h4 => ?_) (fun k h1 h2 h4 => by rw [tg2 k (by omega),tg1 k (by omega)])
   have hkp:k≠p:=by rintro rfl; rw [h.tp] at h2; omega
   rw [St.get_set_ne hkp,g25 k (by omega) (by rw [tg1 k (by omega)]; omega) hkp,same2 k (by omega) (by omega),St.get_push_ne h1]
 · refine ⟨by simp only [St.n_set]; omega,fun j h1 h2 => ?_,fun j h1 => by rw [tg2 j (by omega),tg1 j (by omega)],fun j hj => ?_⟩
   · have hkp:j≠p:=by rintro rfl; rw [h.tp] at h2; omega
     rw [St.get_set_ne hkp,g25 j (by omega) (by rw [tg1 j (by omega)]; omega) hkp,same2 j (by omega) (by omega),St.get_push_ne h1]
   · simp only [List.mem_append,low,List.mem_filter,decide_eq_true_eq,List.mem_singleton] at hj
     rcases hj with ((⟨hj,-⟩ | ⟨rfl,-⟩) | ⟨hj,hj'⟩) | ⟨rfl,-⟩
     · exact .inl (by rw [hT j hj]; omega)
     · exact .inl (by rw [h.tp]; omega)
     · rcases hT2 j hj with h' | h'
       · rw [tg1 j (by omega)] at h'; exact .inl (by omega)
       · omega
     · exact .inl (by rw [h.tp]; omega)
end Go.Am
namespace Go.Am
open Go Go.Proofs
variable {fz:Nat→Md}
set_option maxHeartbeats 2000000 in
theorem edge_c (h79:fz 75=.keep) {lo p B:Nat} {tag:Nat→Nat} {σ:St} {N:Nv} {x:Nx} (h:NetM lo tag σ p N x) (hB:N.Fits B) (hb:B < 1000000000) (f:Nat) (k n:Int) (t:Nat) (hf:f < N.es.length) :
 NRun (XX fz) lo p (.func 75 []) [.ptr p 0,.d (.int .i64 (f:Int)),.d (.int .i64 k),.d (.int .i64 n),.d (.int .i64 (t:Int))] tag σ (.tup []) (N.edge f k n t) x:=by
 refine NRun.of h79 fn75 (by simp) ?_
 simp only [Try.f75,Option.getD_some]
 obtain ⟨ae,ar,an,al,ac,ag,hc,⟨cs,hE1,hE2,hE3⟩,hR,hX⟩:=h.cell
 have hlt:=h.lt
 have hne:p≠σ.n:=by omega
 have hel:=hB.e
 rcases hE1 with ⟨h0,-⟩ | ⟨ke,rfl,hke,tke,ltk⟩
 · rw [h0] at hf; simp at hf
 have hget:N.es[f]?=some N.es[f]:=by simp [hf]
 obtain ⟨c,bs,hc1,hc2,hc3⟩:=hE3 f _ hget
 have hl:=hB.l _ (List.getElem_mem hf)
 have nk:ke≠σ.n:=by omega
 have hidx:∀ τ:St,indexR τ 1 ke 0 N.es.length 1 (f:Int) (.cells cs)=.val (.ptr ke (0+f * 1)) τ [] [ke]:=fun τ => indexR_nat hf
 simp only [Nat.zero_add,Nat.mul_one] at hidx
 have hcc:=hc2.1.cell
 have hccs:=hc2.1.cells
 simp only [go_sem,hc,hne,hlt,hke,hidx,nk,ltk,hc1]
 have hc2':RowN 3 (σ.push (.cells (Eg.D ⟨k,n,t⟩ |>.map A.d))) c (N.es[f].map Eg.D) bs:=hc2.stay (by simp [St.n_push]) fun k hk => St.get_push_ne (hc2.1.lt hk)
 obtain ⟨a',σ2,T,bs',happ,hR',hK,a1,a2⟩:=app_ex (es:=3) (b:=24) (x:=Eg.D ⟨k,n,t⟩) (j:=σ.n) rfl (by omega) hc2' St.get_push_eq (by rw [List.length_map]; omega)
 simp only [Eg.D,List.map_cons,List.map_nil] at happ
 have n2:=hK.n
 try simp only [St.n_push] at n2
 have tbs:∀ j ∈ bs,tag j=10+f:=hc3
 have s2:∀ j,j < σ.n→tag j≠10+f→σ2.get j=σ.get j:=fun j h1 h2 => by
  rw [hK.same j (by simp only [St.n_push]; omega) (fun hj => h2 (hc3 j hj)),St.get_push_ne h1]
 have k2:σ2.get ke=.cells cs:=by rw [s2 ke ltk (by omega)]; exact hke
 have hlen:f < cs.length:=by omega
 simp only [go_sem,happ,a1,a2,k2,hidx,hlen]
 have hTt:∀ j ∈ T,tag j=10+f∨σ.n+1≤j:=fun j hj => by
  rcases hK.w j hj with h' | h'
  · exact .inl (hc3 j h')
  · exact .inr h'
 have hTp:p ∉ T:=fun hp => by
  rcases hTt p hp with h' | h'
  · rw [h.tp] at h'; omega
  · omega
 refine ⟨drawOk_rel [17,19] [(17,0),(17,1),(17,2),(17,3),(17,4)] rfl (by kernel_rfl) rfl (by simp [meets]; exact fun q hq e => hTp (e ▸ hq)),?_⟩
 let tag2:Nat→Nat:=fun j => if σ.n+1≤j∧j < σ2.n then 10+f else tag j
 have tg2:∀ j,j < σ.n+1→tag2 j=tag j:=fun j hj => if_neg (by omega)
 have t7:tag σ.n=7:=h.high _ (Nat.le_refl _)
 refine ⟨tag2,⟨fun j hj => ?_,fun j hj => ?_,?_,A.row ke 0 N.es.length 1,ar,an,al,ac,ag,?_,⟨cs.set f a',.inr ⟨ke,?_,St.get_set_eq,?_,?_⟩,?_,fun i y hi => ?_⟩,?_,?_⟩,?_⟩
 · have:=h.ge; rw [tg2 j (by omega)]; exact h.low j hj
 · simp only [St.n_set] at hj
   show (if σ.n+1≤j∧j < σ2.n then 10+f else tag j)=7
   rw [if_neg (by omega)]; exact h.high j (by omega)
 · rw [tg2 p (by omega)]; exact h.tp
 · rw [St.get_set_ne (by rintro rfl; rw [h.tp] at tke; cases tke),s2 p hlt (by rw [h.tp]; omega)]; exact hc
 · rw [Nv.es_edge]
 · rw [tg2 ke (by omega)]; exact tke
 · simp only [St.n_set]; omega
 · rw [List.length_set,Nv.es_edge]; exact hE2
 · simp only [Nv.edge,List.getElem?_modify] at hi
   by_cases hif:f=i
   · subst hif
     rw [hget] at hi
     simp only [if_true,Option.map_eq_map,Option.map_some,Option.some.injEq] at hi
     subst hi
     refine ⟨a',bs',by rw [List.getElem?_set_self (by omega)],?_,fun j hj => ?_⟩
     · have:List.map Eg.D (N.es[f] ++ [⟨k,n,t⟩])=List.map Eg.D N.es[f] ++ [Eg.D ⟨k,n,t⟩]:=by simp
       rw [this]
       refine hR'.stay (by simp only [St.n_set]; omega) fun j hj => St.get_set_ne ?_
       rintro rfl
       rcases hK.o j hj with h' | h'
       · have:=hc3 j h'; omega
       · simp only [St.n_push] at h'; omega
     · rcases hK.o j hj with h' | h'
       · have:=hc2.1.lt h'; rw [tg2 j (by omega)]; exact hc3 j h'
       · simp only [St.n_push] at h'; exact if_pos ⟨h',hR'.1.lt hj⟩
   · have hi':N.es[i]?=some y:=by
      cases hq:N.es[i]? with
      | none => rw [hq] at hi; cases hi
      | some z => rw [hq] at hi; simpa [hif] using hi
     obtain ⟨c4,bs4,e1,e2,e3⟩:=hE3 i y hi'
     refine ⟨c4,bs4,by rw [List.getElem?_set_ne hif]; exact e1,e2.stay (by simp only [St.n_set]; omega) fun j hj => ?_,fun j hj => ?_⟩
     · have:=e3 j hj
       rw [St.get_set_ne (by rintro rfl; omega),s2 j (e2.1.lt hj) (by omega)]
     · have:=e2.1.lt hj; rw [tg2 j (by omega)]; exact e3 j hj
 · refine hR.stay (by simp only [St.n_set]; omega) (fun j h1 h2 => ?_) (fun j h1 h2 => by rw [tg2 j (by omega)]; exact h2)
   rw [St.get_set_ne (by rintro rfl; omega),s2 j h1 (by omega)]
 · refine hX.stay (by simp only [St.n_set]; omega) (fun j h1 h2 h4 => ?_) (fun j h1 _ _ => tg2 j (by omega))
   rw [St.get_set_ne (by rintro rfl; omega),s2 j h1 (by omega)]
 · refine ⟨by simp only [St.n_set]; omega,fun j h1 h2 => ?_,fun j h1 => tg2 j (by omega),fun j hj => ?_⟩
   · rw [St.get_set_ne (by rintro rfl; omega),s2 j h1 (by omega)]
   · simp only [List.mem_append,low,List.mem_filter,decide_eq_true_eq,List.mem_singleton] at hj
     rcases hj with ⟨hj,-⟩ | ⟨rfl,-⟩
     · rcases hTt j hj with h' | h'
       · exact .inl (by omega)
       · omega
     · exact .inl (by omega)
end Go.Am
namespace Go.Am
open Go Go.Proofs
variable {fz:Nat→Md}
theorem ints_flat:∀ l:List Int,(List.flatMap id (intsD l)).map A.d=l.map fun n => A.d (.int .i64 n)
 | [] => rfl
 | n :: l => by
  have:=ints_flat l
  simp only [intsD,List.map_cons,List.flatMap_cons,id,List.cons_append,List.nil_append] at this ⊢; rw [this]
theorem RowT.int_at {tag:Nat→Nat} {t:Nat} {σ:St} {a:A} {l:List Int} {i:Nat} (h:RowT tag t σ a (intsD l)) (hi:i < l.length) :
 ∃ k cs,a=.row k 0 l.length 1∧σ.get k=.cells cs∧k < σ.n∧cs[i]?=some (.d (.int .i64 (l.getD i 0))):=by
 obtain ⟨bs,h1,-⟩:=h
 rcases h1.1.2 with ⟨h0,-,-⟩ | ⟨k,rfl,hk,hlt,-⟩
 · cases l with
   | nil => simp at hi
   | cons _ _ => simp [intsD] at h0
 · refine ⟨k,_,by rw [intsD_len],hk,hlt,?_⟩
   rw [ints_flat,List.getElem?_map,List.getD_eq_getElem?_getD]
   have:l[i]?=some l[i]:=by simp [hi]
   rw [this]; rfl
set_option maxHeartbeats 2000000 in
theorem way_c (h80:fz 76=.keep) (h39:fz 43=.keep) (h79:fz 75=.keep) {lo p B:Nat} (y:Ex) (f t:Nat)
 (hlay:∀ (B:Nat) (tag:Nat→Nat) (σ:St) (N:Nv) (x:Nx) (s:Nat),NetM lo tag σ p N x→N.Fits B→B+5 * y.szS < 1000000000→s < N.es.length →
  NRun (XX fz) lo p (.func 44 []) [.ptr p 0,y.a,.d (.int .i64 (s:Int)),.d (.int .i64 (t:Int))] tag σ (.tup []) (layE y s t N) x)
 {tag:Nat→Nat} {σ:St} {N:Nv} {x:Nx} (h:NetM lo tag σ p N x) (hB:N.Fits B) (hb:B+5 * y.szS+2 < 1000000000) (hf:f < N.es.length) :
 NRun (XX fz) lo p (.func 76 []) [.ptr p 0,y.a,.d (.int .i64 (f:Int)),.d (.int .i64 (t:Int))] tag σ (.tup []) (layW y f t N) x:=by
 refine NRun.of h80 fn76 (by simp) ?_
 simp only [Try.f76,Option.getD_some]
 have h1:=h.push (.cells y.c)
 have hK0:KeptT tag σ tag (σ.push (.cells y.c)) []:=KeptT.refl.push _
 have gx:(σ.push (.cells y.c)).get σ.n=.cells y.c:=St.get_push_eq
 have n1:(σ.push (.cells y.c)).n=σ.n+1:=by simp [St.n_push]
 have htl:tag σ.n=7:=h.high _ (Nat.le_refl _)
 obtain ⟨ae,ar,an,al,ac,ag,hc,hE,hR,hX⟩:=h.cell
 obtain ⟨kr,cr,rfl,hkr,kl,hat⟩:=hR.int_at (i:=f) (by rw [hB.r]; exact hf)
 have hidx:∀ τ:St,indexR τ 1 kr 0 N.rs.length 1 (f:Int) (.cells cr)=.val (.ptr kr (0+f * 1)) τ [] [kr]:=fun τ => indexR_nat (by rw [hB.r]; exact hf)
 simp only [Nat.zero_add,Nat.mul_one] at hidx
 have hlt:=h.lt
 have ne1:p≠σ.n:=by omega
 have ne2:kr≠σ.n:=by omega
 simp only [go_sem,Ex.a,hc,hkr,hidx,hat,hlt,ne1,ne2]
 obtain ⟨σ2,T2,tag2,c2,h2,hK2⟩:=fresh_c h39 h1 hB (by omega) (N.rs.getD f 0)
 refine ⟨_,_,_,c2,?_⟩
 have hB2:=hB.fresh (N.rs.getD f 0)
 have e2:=Nv.es_fresh N (N.rs.getD f 0)
 obtain ⟨σ3,T3,tag3,c3,h3,hK3⟩:=edge_c h79 h2 hB2 (by omega) f 0 0 N.es.length (by omega)
 refine ⟨_,_,_,c3,?_⟩
 have g2:tag2 σ.n=7:=by rw [hK2.tags _ (by omega)]; exact htl
 have gx3:σ3.get σ.n=.cells y.c:=by
  have:=hK2.n
  rw [hK3.same _ (by omega) g2,hK2.same _ (by omega) htl]; exact gx
 simp only [go_sem,gx3]
 obtain ⟨σ4,T4,tag4,c4,h4,hK4⟩:=hlay (B+2) tag3 σ3 _ x N.es.length h3 (hB2.edge _ _ _ _) (by omega) (by rw [Nv.es_edge]; omega)
 refine ⟨_,_,_,c4,?_⟩
 exact ⟨tag4,h4,((hK0.call hK2).call hK3).call hK4⟩
end Go.Am

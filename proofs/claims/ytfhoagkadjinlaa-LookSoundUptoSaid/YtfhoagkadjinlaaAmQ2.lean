/- Part Q2 of a proof that runs a program's calls on a small machine whose values bear no addresses: no conditions. -/
import Derived.Test.YtfhoagkadjinlaaAmQ1
import Derived.Test.YtfhoagkadjinlaaAmAR
set_option autoImplicit false
set_option linter.unusedSimpArgs false
set_option linter.unusedVariables false
set_option linter.unusedSectionVars false
namespace Go.Am
open Go Go.Proofs
variable {fz:Nat→Md}
structure Mod (σ τ:St) (W:List Nat):Prop where
 n:σ.n≤τ.n
 same:∀ k,k < σ.n→k ∉ W→τ.get k=σ.get k
 lt:∀ k,k ∈ W→k < σ.n
section
variable {σ τ ρ:St} {W T:List Nat} {b:Blk} {k:Nat}
theorem Mod.refl:Mod σ σ []:=⟨Nat.le_refl _,fun _ _ _ => rfl,fun _ h => by cases h⟩
theorem Mod.push (h:Mod σ τ W):Mod σ (τ.push b) W:=⟨by rw [St.n_push]; have:=h.n; omega,fun j h1 h2 => by have:=h.n; rw [St.get_push_ne (by omega)]; exact h.same j h1 h2,h.lt⟩
theorem Mod.set (h:Mod σ τ W) (hk:σ.n≤k):Mod σ (τ.set k b) W:=⟨h.n,fun j h1 h2 => by rw [St.get_set_ne (by omega)]; exact h.same j h1 h2,h.lt⟩
theorem mem_low {lo j:Nat} {T:List Nat}:j ∈ low lo T ↔ j ∈ T∧j < lo:=by simp [low]
theorem Mod.write (h:Mod σ τ W):Mod σ (τ.set k b) (W ++ low σ.n [k]) where
 n:=h.n
 same j h1 h2:=by
  rw [List.mem_append,not_or,mem_low] at h2
  rw [St.get_set_ne (by rintro rfl; exact h2.2 ⟨by simp,h1⟩)]; exact h.same j h1 h2.1
 lt j hj:=by
  rw [List.mem_append,mem_low] at hj
  exact hj.elim (h.lt j) (fun h => h.2)
theorem Mod.call (h:Mod σ τ W) (g:Mod τ ρ T):Mod σ ρ (W ++ low σ.n T) where
 n:=Nat.le_trans h.n g.n
 same j h1 h2:=by
  rw [List.mem_append,not_or,mem_low] at h2
  rw [g.same j (Nat.lt_of_lt_of_le h1 h.n) fun hj => h2.2 ⟨hj,h1⟩]; exact h.same j h1 h2.1
 lt j hj:=by
  rw [List.mem_append,mem_low] at hj
  exact hj.elim (h.lt j) (fun h => h.2)
end
theorem CallsTo.cutM {X:X} {f:Nat} {cap args:List A} {F:AFn} {r:A} {σ:St} {P:St→List Nat→Prop} (hz:X.fz f=.cut) (hF:X.fn f=some F) (hl:args.length+cap.length≤F.nt) (hr:r.under σ.n=true)
 (e:Ev X f F.nt none σ.n [.code F.body] (initTm (args ++ cap) 0 .nil) σ [] (RetQ X F.results fun a σ1 W1 => a=r∧Mod σ σ1 W1∧(∀ k,k ∈ W1→(σ1.get k).under σ.n=true)∧P σ1 W1)) :
 ∃ σ' W' σ1,CallsTo X (.func f cap) args σ r σ' W'∧Mod σ σ' W'∧σ'.n=σ.n∧(∀ k,k < σ.n→σ'.get k=σ1.get k)∧(∀ k,σ.n≤k→σ'.get k=σ.get k)∧P σ1 W':=by
 obtain ⟨n,o,hn,hq⟩:=e
 cases o with
 | leave _ _ _ => exact hq.elim
 | ret tm σ1 W1 =>
  unfold RetQ at hq
  dsimp only at hq
  split at hq
  · rename_i l hl'
    obtain ⟨rfl,h4,h5,h6⟩:=hq
    refine ⟨cutSt σ σ1 W1,W1,σ1,CallsTo.ofQ hF hl ⟨n,_,hn,?_⟩,⟨by rw [n_cutSt]; exact Nat.le_refl _,fun k _ hk => by rw [get_cutSt,if_neg hk],h4.lt⟩,n_cutSt _ _ _,fun k hk => ?_,fun k hk => ?_,h6⟩
    · unfold RetQ; dsimp only; rw [hl']
      have:W1.all (fun k => (σ1.get k).under σ.n)=true:=List.all_eq_true.2 h5
      simp [leaveCall,hz,hr]
      exact fun k hk e => absurd (h5 k hk) (by rw [e]; simp)
    · rw [get_cutSt]; split
      · rfl
      · rename_i h; exact (h4.same k hk h).symm
    · rw [get_cutSt,if_neg fun h => by have:=h4.lt k h; omega]
  · exact hq.elim
def qOf (nl:List Bool) (n:Int):Bool:=nl.getD n.toNat false
theorem index_bools {σ:St} {l:List Bool} {z:Bool} {i:Nat} (h:i < l.length):indexK σ 1 (.d (.slc z (boolsD l))) (.d (.int .i64 (i:Int)))=.val (.d (.vptr [.bool (l.getD i false)] 0)) σ [] []:=by
 rw [indexK_d]; exact indexD_nat (by simp [boolsD,h]) rfl
theorem nq_call (h80:fz 52=.cut) {kn:Nat} {nl:List Bool} {n:Int} {τ:St} (h1:τ.get kn=.cells [.d (.slc false (boolsD nl))]) (h0:0≤n) (hn:n < nl.length) :
 CallsTo (XX fz) (.func 52 [.ptr kn 0]) [.d (.int .i64 n)] τ (.d (.bool (qOf nl n))) τ []:=by
 obtain ⟨i,rfl⟩:=Int.eq_ofNat_of_zero_le h0
 have hi:i < nl.length:=by omega
 refine CallsTo.cut0 h80 fn52 (by simp) rfl ?_
 simp only [Try.f52,Option.getD_some]
 simp only [go_sem,h1,index_bools hi,List.map_cons,List.map_nil,List.getElem?_cons_zero,qOf,Int.toNat_natCast]
theorem null_call (h78:fz 50=.cut) (h80:fz 52=.cut) (h79:fz 51=.cut) (h104:fz 81=.cut) (h105:fz 82=.cut) (h82:fz 54=.cut) (h106:fz 83=.cut) {kn:Nat} {nl:List Bool} {x:Ex} {τ:St}
 (h1:τ.get kn=.cells [.d (.slc false (boolsD nl))]) (hk:kn < τ.n) (hx:SmallE x) (hc:callsIn nl.length x=true) :
 CallsTo (XX fz) (.func 50 [.ptr kn 0]) [x.a] τ (.d (.bool (canE false (qOf nl) x))) τ []:=by
 refine CallsTo.cut0 h78 fn50 (by simp) rfl ?_
 simp only [Try.f50,Option.getD_some]
 have m0:kn≠τ.n:=by omega
 simp only [go_sem,Ex.a]
 refine ⟨_,_,_,can_call h79 h104 h105 h82 h106 false (qOf nl) nl.length 52 [.ptr kn 0] x _ hx hc (fun ρ hρ n a b => nq_call h80 (by rw [hρ.g kn (by simp only [St.n_push]; omega),St.get_push_ne hk]; exact h1) a b),?_⟩
 simp only [go_sem]
mutual
/-- a star or an option of what can be nothing -/
def vainE (q:Int→Bool):Ex→Bool
 | .mk k _ _ l => (decide (k=5∨k=6) && headB q l) || vainL q l
def vainL (q:Int→Bool):List Ex→Bool
 | [] => false
 | x :: l => vainE q x || vainL q l
def headB (q:Int→Bool):List Ex→Bool
 | [] => false
 | x :: _ => canE false q x
end
theorem vainL_any (q:Int→Bool) (l:List Ex):vainL q l=l.any (vainE q):=by
 induction l with
 | nil => rfl
 | cons x l ih => rw [vainL,List.any_cons,ih]
theorem vainE_eq (q:Int→Bool) (x:Ex):vainE q x=((decide (x.kind=5∨x.kind=6) && headB q x.l) || x.l.any (vainE q)):=by
 cases x; rw [vainE,vainL_any]; rfl
def okE (t:Int) (r:Nat) (x:Ex):Prop:=rightE t r x=true
theorem okE.sub {t:Int} {r:Nat} {x y:Ex} (h:okE t r x) (hy:y ∈ x.l):okE t r y:=by
 unfold okE at *
 rw [rightE_eq,Bool.and_eq_true] at h
 have:=h.2
 rw [Bool.not_eq_true',List.any_eq_false] at this
 have:=this y hy
 simpa using this
theorem okE.c {t:Int} {r:Nat} {x:Ex} (h:okE t r x):rightC x.num x.l.length (rightN t r x.kind)=true:=by
 unfold okE at h; rw [rightE_eq,Bool.and_eq_true] at h; exact h.1
theorem okE.call {t:Int} {r:Nat} {x:Ex} (h:okE t r x) (k:x.kind=2):0≤x.num∧x.num < r:=by
 have:=h.c
 simp [rightN,k,rightC] at this; omega
theorem okE.star {t:Int} {r:Nat} {x:Ex} (h:okE t r x) (k:x.kind=5∨x.kind=6):∃ y,x.l=[y]:=by
 have:=h.c
 have e:rightN t r x.kind=some (1,1,1):=by rcases k with k | k <;> simp [rightN,k]
 rw [e] at this
 simp [rightC] at this
 exact List.length_eq_one_iff.1 (by omega)
theorem okE.calls {t:Int} {r:Nat}:∀ {x:Ex},okE t r x→callsIn r x=true:=fun {x} h => by
 have hsub:∀ y ∈ x.l,callsIn r y=true:=fun y hy => okE.calls (h.sub hy)
 rw [callsIn_eq,Bool.and_eq_true]
 refine ⟨?_,?_⟩
 · split
   · rename_i k; exact decide_eq_true (h.call k)
   · rfl
 · have:∀ l:List Ex,(∀ y ∈ l,callsIn r y=true)→callsInL r l=true:=by
    intro l
    induction l with
    | nil => intro _; rfl
    | cons a l ih => intro hl; rw [callsInL,hl a (by simp),ih fun y hy => hl y (by simp [hy])]; rfl
   exact this _ hsub
termination_by x => x
decreasing_by exact Ex.sub_lt hy
set_option maxHeartbeats 1000000 in
theorem vain_call (h81:fz 53=.cut) (h78:fz 50=.cut) (h80:fz 52=.cut) (h79:fz 51=.cut) (h104:fz 81=.cut) (h105:fz 82=.cut) (h82:fz 54=.cut) (h106:fz 83=.cut) {kn k9 k10:Nat} {nl:List Bool} {t:Int} {x:Ex} {τ:St}
 (h1:τ.get kn=.cells [.d (.slc false (boolsD nl))]) (h9:τ.get k9=.cells [.func 50 [.ptr kn 0]]) (h10:τ.get k10=.cells [.func 53 [.ptr k9 0,.ptr k10 0]]) (hk:kn < τ.n) (hk9:k9 < τ.n) (hk10:k10 < τ.n) (hx:SmallE x) (hc:okE t nl.length x) :
 CallsTo (XX fz) (.func 53 [.ptr k9 0,.ptr k10 0]) [x.a] τ (.d (.bool (vainE (qOf nl) x))) τ []:=by
 refine CallsTo.cut0 h81 fn53 (by simp) rfl ?_
 rw [vainE_eq]
 simp only [Try.f53,Option.getD_some]
 have m0:kn≠τ.n:=by omega
 have m9:k9≠τ.n:=by omega
 have m10:k10≠τ.n:=by omega
 have hrec:∀ ρ,Ext (τ.push (.cells x.c)) ρ→∀ y ∈ x.l,CallsTo (XX fz) (.func 53 [.ptr k9 0,.ptr k10 0]) [y.a] ρ (.d (.bool (vainE (qOf nl) y))) ρ []:=fun ρ hρ y hy => by
  have hn:=hρ.n
  simp only [St.n_push] at hn
  exact vain_call h81 h78 h80 h79 h104 h105 h82 h106 (kn:=kn) (k9:=k9) (k10:=k10) (by rw [hρ.g kn (by simp only [St.n_push]; omega),St.get_push_ne hk]; exact h1) (by rw [hρ.g k9 (by simp only [St.n_push]; omega),St.get_push_ne hk9]; exact h9) (by rw [hρ.g k10 (by simp only [St.n_push]; omega),St.get_push_ne hk10]; exact h10) (by omega) (by omega) (by omega) (hx.sub hy) (hc.sub hy)
 have hlen:=hx.len
 cases e5:(x.kind == 5) with
 | true =>
  have k5:x.kind=5:=by simpa using e5
  obtain ⟨y,hy⟩:=hc.star (.inl k5)
  have hy':y ∈ x.l:=by rw [hy]; simp
  have hidx:∀ ρ:St,indexK ρ 3 x.ld (.d (.int .i64 0))=.val (.d (.vptr y.cs 0)) ρ [] []:=fun ρ => Ex.index_ld (x:=x) (i:=0) (by rw [hy]; rfl)
  simp only [go_sem,Ex.a,e5,h9,h10,m9,m10,hidx]
  refine ⟨_,_,_,null_call h78 h80 h79 h104 h105 h82 h106 (kn:=kn) (by rw [St.get_push_ne hk]; exact h1) (by simp only [St.n_push]; omega) (hx.sub hy') (hc.sub hy').calls,?_⟩
  have hh:headB (qOf nl) x.l=canE false (qOf nl) y:=by rw [hy]; rfl
  rw [hh]
  simp only [k5,true_or,decide_true,Bool.true_and]
  cases hn:canE false (qOf nl) y with
  | true => simp only [go_sem,Bool.true_or]; trivial
  | false =>
   simp only [go_sem,h10,m10,Bool.false_or]
   refine ⟨drawOk_quiet rfl,_,_,_,contains_call h82 h106 x.l (x.z && x.l.isEmpty) _ (vainE (qOf nl)) _ hlen (fun ρ hρ y hy => hrec ρ hρ y hy),?_⟩
   simp only [go_sem]
 | false =>
  cases e6:(x.kind == 6) with
  | true =>
   have k6:x.kind=6:=by simpa using e6
   obtain ⟨y,hy⟩:=hc.star (.inr k6)
   have hy':y ∈ x.l:=by rw [hy]; simp
   have hidx:∀ ρ:St,indexK ρ 3 x.ld (.d (.int .i64 0))=.val (.d (.vptr y.cs 0)) ρ [] []:=fun ρ => Ex.index_ld (x:=x) (i:=0) (by rw [hy]; rfl)
   simp only [go_sem,Ex.a,e5,e6,h9,h10,m9,m10,hidx]
   refine ⟨_,_,_,null_call h78 h80 h79 h104 h105 h82 h106 (kn:=kn) (by rw [St.get_push_ne hk]; exact h1) (by simp only [St.n_push]; omega) (hx.sub hy') (hc.sub hy').calls,?_⟩
   have hh:headB (qOf nl) x.l=canE false (qOf nl) y:=by rw [hy]; rfl
   rw [hh]
   simp only [k6,or_true,decide_true,Bool.true_and]
   cases hn:canE false (qOf nl) y with
   | true => simp only [go_sem,Bool.true_or]; trivial
   | false =>
    simp only [go_sem,h10,m10,Bool.false_or]
    refine ⟨drawOk_quiet rfl,_,_,_,contains_call h82 h106 x.l (x.z && x.l.isEmpty) _ (vainE (qOf nl)) _ hlen (fun ρ hρ y hy => hrec ρ hρ y hy),?_⟩
    simp only [go_sem]
  | false =>
   have hk56:decide (x.kind=5∨x.kind=6)=false:=by simp at e5 e6; simp [e5,e6]
   simp only [go_sem,Ex.a,e5,e6,h9,h10,m9,m10]
   refine ⟨drawOk_quiet rfl,_,_,_,contains_call h82 h106 x.l (x.z && x.l.isEmpty) _ (vainE (qOf nl)) _ hlen (fun ρ hρ y hy => hrec ρ hρ y hy),?_⟩
   simp only [go_sem,hk56,Bool.false_and,Bool.false_or]
termination_by x
decreasing_by exact Ex.sub_lt hy
theorem rvain_call (h85:fz 57=.cut) (h81:fz 53=.cut) (h78:fz 50=.cut) (h80:fz 52=.cut) (h79:fz 51=.cut) (h104:fz 81=.cut) (h105:fz 82=.cut) (h82:fz 54=.cut) (h106:fz 83=.cut) {kn k9 k10:Nat} {nl:List Bool} {t:Int} {x:Ru} {τ:St}
 (h1:τ.get kn=.cells [.d (.slc false (boolsD nl))]) (h9:τ.get k9=.cells [.func 50 [.ptr kn 0]]) (h10:τ.get k10=.cells [.func 53 [.ptr k9 0,.ptr k10 0]]) (hk:kn < τ.n) (hk9:k9 < τ.n) (hk10:k10 < τ.n) (hx:SmallE x.body) (hc:okE t nl.length x.body) :
 CallsTo (XX fz) (.func 57 [.ptr k10 0]) [.agg x.c] τ (.d (.bool (vainE (qOf nl) x.body))) τ []:=by
 refine CallsTo.cut0 h85 fn57 (by simp) rfl ?_
 simp only [Try.f57,Option.getD_some]
 have m10:k10≠τ.n:=by omega
 simp only [go_sem,h10,m10]
 refine ⟨_,_,_,vain_call h81 h78 h80 h79 h104 h105 h82 h106 (kn:=kn) (k9:=k9) (k10:=k10) (nl:=nl) (t:=t) (by rw [St.get_push_ne hk]; exact h1) (by rw [St.get_push_ne hk9]; exact h9) (by rw [St.get_push_ne hk10]; exact h10) (by simp only [St.n_push]; omega) (by simp only [St.n_push]; omega) (by simp only [St.n_push]; omega) hx hc,?_⟩
 simp only [go_sem]
end Go.Am
namespace Go.Am
open Go Go.Proofs
variable {fz:Nat→Md}
mutual
/-- which rules a part begins with, with those that are seen -/
def firstE (go:Nat→List Bool→List Bool) (q:Int→Bool):Ex→List Bool→List Bool
 | .mk k n _ l,s => firstL go q k l (if k=2∧s.getD n.toNat false=false then go n.toNat (s.set n.toNat true) else s)
def firstL (go:Nat→List Bool→List Bool) (q:Int→Bool) (k:Int):List Ex→List Bool→List Bool
 | [],s => s
 | y :: l,s => if k=3∧canE false q y=false then firstE go q y s else firstL go q k l (firstE go q y s)
end
theorem firstE_eq (go:Nat→List Bool→List Bool) (q:Int→Bool) (x:Ex) (s:List Bool):firstE go q x s=firstL go q x.kind x.l (if x.kind=2∧s.getD x.num.toNat false=false then go x.num.toNat (s.set x.num.toNat true) else s):=by
 cases x; rw [firstE]; rfl
def goF (l:List Ex) (q:Int→Bool):Nat→Nat→List Bool→List Bool
 | 0,_,s => s
 | f+1,n,s => match l[n]? with
  | some x => firstE (goF l q f) q x s
  | none => s
def Les (s s':List Bool):Prop:=s'.length=s.length∧s'.count false≤s.count false
theorem Les.refl (s:List Bool):Les s s:=⟨rfl,Nat.le_refl _⟩
theorem Les.trans {a b c:List Bool} (h:Les a b) (k:Les b c):Les a c:=⟨k.1.trans h.1,Nat.le_trans k.2 h.2⟩
theorem Les.set (s:List Bool) (n:Nat):Les s (s.set n true):=by
 refine ⟨by simp,?_⟩
 by_cases h:n < s.length
 · have:=List.count_set (a:=true) (b:=false) (l:=s) (i:=n) h
   simp at this; rw [this]; omega
 · rw [List.set_eq_of_length_le (by omega)]; exact Nat.le_refl _
mutual
theorem firstE_les {go:Nat→List Bool→List Bool} {q:Int→Bool} (hgo:∀ n s,Les s (go n s)):∀ (x:Ex) (s:List Bool),Les s (firstE go q x s)
 | .mk k n z l,s => by
  rw [firstE]
  refine Les.trans ?_ (firstL_les hgo k l _)
  split
  · exact (Les.set s _).trans (hgo _ _)
  · exact Les.refl _
theorem firstL_les {go:Nat→List Bool→List Bool} {q:Int→Bool} (hgo:∀ n s,Les s (go n s)) (k:Int):∀ (l:List Ex) (s:List Bool),Les s (firstL go q k l s)
 | [],s => by rw [firstL]; exact Les.refl _
 | y :: l,s => by
  rw [firstL]
  split
  · exact firstE_les hgo y s
  · exact (firstE_les hgo y s).trans (firstL_les hgo k l _)
end
theorem goF_les (l:List Ex) (q:Int→Bool):∀ (f n:Nat) (s:List Bool),Les s (goF l q f n s)
 | 0,n,s => Les.refl s
 | f+1,n,s => by
  rw [goF]
  split
  · exact firstE_les (goF_les l q f) _ s
  · exact Les.refl s
def Code.r:Code→Code | .seq _ b => b | c => c
def Code.l:Code→Code | .seq a _ => a | c => c
theorem bA_under (l:List Bool) (n:Nat):(Blk.cells (bA l)).under n=true:=by
 have:∀ l:List Bool,A.underL n (bA l)=true:=by
  intro l
  induction l with
  | nil => rfl
  | cons b l ih => show (A.under n (.d (.bool b)) && A.underL n (bA l))=true; rw [ih]; rfl
 exact this l
structure FEnv (k1 k2 k3 k4 kn ks:Nat) (g:Gr) (nl:List Bool) (τ:St):Prop where
 b1:τ.get k1=.cells [.row ks 0 g.rules.length 1]
 b2:τ.get k2=.cells [.func 58 [.ptr k1 0,.ptr k2 0,.ptr k3 0,.ptr k4 0]]
 b3:τ.get k3=.cells g.c
 b4:τ.get k4=.cells [.func 50 [.ptr kn 0]]
 bn:τ.get kn=.cells [.d (.slc false (boolsD nl))]
 l:k1 < τ.n∧k2 < τ.n∧k3 < τ.n∧k4 < τ.n∧kn < τ.n∧ks < τ.n
 ne:k1≠ks∧k2≠ks∧k3≠ks∧k4≠ks∧kn≠ks
theorem FEnv.mono {k1 k2 k3 k4 kn ks:Nat} {g:Gr} {nl:List Bool} {τ ρ:St} (h:FEnv k1 k2 k3 k4 kn ks g nl τ) (hn:τ.n≤ρ.n) (hg:∀ k,k < τ.n→k≠ks→ρ.get k=τ.get k):FEnv k1 k2 k3 k4 kn ks g nl ρ:=by
 obtain ⟨b1,b2,b3,b4,bn,⟨l1,l2,l3,l4,ln,ls⟩,n1,n2,n3,n4,nn⟩:=h
 exact ⟨by rw [hg _ l1 n1,b1],by rw [hg _ l2 n2,b2],by rw [hg _ l3 n3,b3],by rw [hg _ l4 n4,b4],by rw [hg _ ln nn,bn],⟨by omega,by omega,by omega,by omega,by omega,by omega⟩,n1,n2,n3,n4,nn⟩
set_option maxHeartbeats 4000000 in
theorem first_call (h86:fz 58=.cut) (h78:fz 50=.cut) (h80:fz 52=.cut) (h79:fz 51=.cut) (h104:fz 81=.cut) (h105:fz 82=.cut) (h82:fz 54=.cut) (h106:fz 83=.cut) (g:Gr) (nl:List Bool) (t:Int) (hnl:nl.length=g.rules.length) (hL:g.rules.length < 1000000)
 (hg:∀ r ∈ g.rules,SmallE r.body∧okE t g.rules.length r.body) (k1 k2 k3 k4 kn ks:Nat) (f:Nat) (x:Ex) (s:List Bool) (σ:St) (hx:SmallE x) (hc:okE t g.rules.length x) (hE:FEnv k1 k2 k3 k4 kn ks g nl σ) (hb:σ.get ks=.cells (bA s)) (hsl:s.length=g.rules.length) (hf:s.count false≤f) :
 ∃ W,CallsTo (XX fz) (.func 58 [.ptr k1 0,.ptr k2 0,.ptr k3 0,.ptr k4 0]) [x.a] σ (.tup []) (σ.set ks (.cells (bA (firstE (goF (g.rules.map (·.body)) (qOf nl) f) (qOf nl) x s)))) W∧Mod σ (σ.set ks (.cells (bA (firstE (goF (g.rules.map (·.body)) (qOf nl) f) (qOf nl) x s)))) W∧∀ k ∈ W,k=ks:=by
 generalize hF:firstE (goF (g.rules.map (·.body)) (qOf nl) f) (qOf nl) x s=F
 have key:=CallsTo.cutM (X:=XX fz) (f:=58) (cap:=[.ptr k1 0,.ptr k2 0,.ptr k3 0,.ptr k4 0]) (args:=[x.a]) (r:=.tup []) (σ:=σ) (P:=fun σ1 W => σ1.get ks=.cells (bA F)∧∀ k ∈ W,k=ks) h86 fn58 (by simp) rfl ?_
 · obtain ⟨σ',W',σ1,hcall,hM,hn,hlo,hhi,hP⟩:=key
   have he:σ'=σ.set ks (.cells (bA F)):=by
    refine St.ext' hn fun k => ?_
    rw [St.get_set]
    by_cases hk:k=ks
    · rw [if_pos hk,hk,hlo ks hE.l.2.2.2.2.2]; exact hP.1
    · rw [if_neg hk]
      by_cases hkn:k < σ.n
      · exact hM.same k hkn fun hw => hk (hP.2 k hw)
      · exact hhi k (by omega)
   rw [he] at hcall hM
   exact ⟨W',hcall,hM,hP.2⟩
 · rw [firstE_eq] at hF
   obtain ⟨l1,l2,l3,l4,ln,ls⟩:=hE.l
   have m1:k1≠σ.n:=by omega
   have m2:k2≠σ.n:=by omega
   have m3:k3≠σ.n:=by omega
   have m4:k4≠σ.n:=by omega
   have mn:kn≠σ.n:=by omega
   have ms:ks≠σ.n:=by omega
   have ms':σ.n≠ks:=by omega
   have hlen:=hx.len
   have b1:=hE.b1
   have b2:=hE.b2
   have b3:=hE.b3
   have ne2:=hE.ne.2.1
   have ne3:=hE.ne.2.2.1
   have rest:∀ (tm:Tm) (τ:St) (W:List Nat) (s1:List Bool),firstL (goF (g.rules.map (·.body)) (qOf nl) f) (qOf nl) x.kind x.l s1=F→s1.length=g.rules.length→s1.count false≤f→FEnv k1 k2 k3 k4 kn ks g nl τ→τ.get ks=.cells (bA s1)→τ.get σ.n=.cells x.c→σ.n+1≤τ.n→Mod σ τ W→(∀ k ∈ W,k=ks) →
    tm.at 1=.ptr k1 0→tm.at 2=.ptr k2 0→tm.at 3=.ptr k3 0→tm.at 4=.ptr k4 0→tm.at 5=.ptr σ.n 0 →
    Ev (XX fz) 58 52 none σ.n [.code (Code.r (Code.r (Try.f58.body.getD .skip)))] tm τ W (RetQ (XX fz) [] fun a σ1 W1 => a=.tup []∧Mod σ σ1 W1∧(∀ k,k ∈ W1→(σ1.get k).under σ.n=true)∧σ1.get ks=.cells (bA F)∧∀ k ∈ W1,k=ks):=by
    clear hF hf hsl hb s hE b1 b2 b3
    intro tm τ W s1 hF hsl hf hE hb hbx hn hM hW t1 t2 t3 t4 t5
    simp only [Try.f58,Option.getD_some,Code.r]
    simp only [go_sem,t1,t2,t3,t4,t5,hbx]
    refine Ev.loop_ind (fun m tm τ W => ∃ (i:Nat) (s1:List Bool),m=x.l.length - i∧i≤x.l.length∧firstL (goF (g.rules.map (·.body)) (qOf nl) f) (qOf nl) x.kind (x.l.drop i) s1=F∧s1.length=g.rules.length∧s1.count false≤f∧FEnv k1 k2 k3 k4 kn ks g nl τ∧τ.get ks=.cells (bA s1)∧τ.get σ.n=.cells x.c∧σ.n+1≤τ.n∧Mod σ τ W∧(∀ k ∈ W,k=ks) ∧
     tm.at 1=.ptr k1 0∧tm.at 2=.ptr k2 0∧tm.at 3=.ptr k3 0∧tm.at 4=.ptr k4 0∧tm.at 5=.ptr σ.n 0∧tm.at 33=x.ld∧tm.at 34=.d (.int .i64 x.l.length)∧tm.at 35=.d (.int .i64 i)) ?_ x.l.length _ _ _
     ⟨0,s1,rfl,by omega,hF,hsl,hf,hE,hb,hbx,hn,hM,hW,by simp only [go_sem,t1],by simp only [go_sem,t2],by simp only [go_sem,t3],by simp only [go_sem,t4],by simp only [go_sem,t5],by simp only [go_sem],by simp only [go_sem],by simp only [go_sem]; rfl⟩
    clear hF hsl hf hE hb hbx hn hM hW t1 t2 t3 t4 t5 s1
    rintro m tm τ W ⟨i,s1,rfl,hi,hF,hsl,hf,hE,hb,hbx,hn,hM,hW,t1,t2,t3,t4,t5,t33,t34,t35⟩ ih
    by_cases hl:i < x.l.length
    · have hget:x.l[i]?=some x.l[i]:=by simp [hl]
      have hmem:x.l[i] ∈ x.l:=List.getElem_mem hl
      obtain ⟨q1,q2,q3,q4,qn,qs⟩:=hE.l
      have b2:=hE.b2
      have b4:=hE.b4
      have n2:k2≠τ.n:=by omega
      have n4:k4≠τ.n:=by omega
      simp only [go_sem,t1,t2,t3,t4,t5,t33,t34,t35,dec_lt' hl,Ex.index_ld hget,b2,n2]
      obtain ⟨hxs,hcs⟩:SmallE x.l[i]∧okE t g.rules.length x.l[i]:=⟨hx.sub hmem,hc.sub hmem⟩
      rw [List.drop_eq_getElem_cons hl,firstL] at hF
      generalize hτ2:(τ.push (Blk.cells [A.d (D.int IntKind.i64 0),A.d (D.int IntKind.i64 0),A.d (D.slc true [])])).set τ.n (Blk.cells x.l[i].c)=τ2
      have hn2:τ2.n=τ.n+1:=by rw [← hτ2]; simp [St.n_set,St.n_push]
      have g2:∀ k,k < τ.n→τ2.get k=τ.get k:=fun k h1 => by rw [← hτ2,St.get_set_ne (by omega),St.get_push_ne h1]
      have gy2:τ2.get τ.n=.cells x.l[i].c:=by rw [← hτ2,St.get_set_eq]
      have M2:Mod σ τ2 W:=by rw [← hτ2]; exact hM.push.set (by omega)
      have lz:low σ.n [τ.n]=[]:=by rw [low_cons_ge (by omega)]; rfl
      have hE2:FEnv k1 k2 k3 k4 kn ks g nl τ2:=hE.mono (by omega) fun k h1 _ => g2 k h1
      obtain ⟨T,hcall,hMT,hT⟩:=first_call h86 h78 h80 h79 h104 h105 h82 h106 g nl t hnl hL hg k1 k2 k3 k4 kn ks f x.l[i] s1 τ2 hxs hcs hE2 (by rw [g2 ks qs]; exact hb) hsl hf
      refine ⟨_,_,_,hcall,?_⟩
      have hles:=firstE_les (q:=qOf nl) (goF_les (g.rules.map (·.body)) (qOf nl) f) x.l[i] s1
      generalize firstE (goF (g.rules.map (·.body)) (qOf nl) f) (qOf nl) x.l[i] s1=s2 at hF hles hMT
      have M3:=M2.call hMT
      generalize hτ3:τ2.set ks (Blk.cells (bA s2))=τ3 at hMT M3
      have hn3:τ3.n=τ2.n:=by rw [← hτ3]; rfl
      have g3:∀ k,k≠ks→τ3.get k=τ2.get k:=fun k h1 => by rw [← hτ3,St.get_set_ne h1]
      have gs3:τ3.get ks=.cells (bA s2):=by rw [← hτ3,St.get_set_eq]
      have hE3:FEnv k1 k2 k3 k4 kn ks g nl τ3:=hE2.mono (by omega) fun k _ h2 => g3 k h2
      have b4':=hE3.b4
      have gx3:τ3.get σ.n=.cells x.c:=by rw [g3 _ ms',g2 _ (by omega)]; exact hbx
      have gy3:τ3.get τ.n=.cells x.l[i].c:=by rw [g3 _ (by omega)]; exact gy2
      have hW3:∀ k ∈ W ++ low σ.n T,k=ks:=fun k hk => by
       rw [List.mem_append,mem_low] at hk
       exact hk.elim (hW k) fun h => hT k h.1
      have hs2:s2.length=g.rules.length:=by rw [hles.1]; exact hsl
      have hf2:s2.count false≤f:=by have:=hles.2; omega
      by_cases c3:x.kind=3
      · have e3:(x.kind == 3)=true:=by simpa using c3
        simp only [go_sem,lz,List.append_nil,t1,t2,t3,t4,t5,gx3,b4',gy3,e3]
        refine ⟨_,_,_,null_call h78 h80 h79 h104 h105 h82 h106 (kn:=kn) hE3.bn (hE3.l.2.2.2.2.1) hxs (by rw [hnl]; exact hcs.calls),?_⟩
        cases hcan:canE false (qOf nl) x.l[i] with
        | false =>
         rw [hcan,if_pos ⟨c3,rfl⟩] at hF
         subst hF
         simp only [go_sem]
         exact ⟨M3,fun k hk => by rw [hW3 k hk,gs3]; exact bA_under _ _,gs3,hW3⟩
        | true =>
         rw [hcan,if_neg (by simp)] at hF
         simp only [go_sem,t35,wrap_succ' hl hlen]
         exact ih _ _ _ _ (by omega) ⟨i+1,s2,rfl,hl,hF,hs2,hf2,hE3,gs3,gx3,by omega,M3,hW3,by simp only [go_sem,t1],by simp only [go_sem,t2],by simp only [go_sem,t3],by simp only [go_sem,t4],by simp only [go_sem,t5],by simp only [go_sem,t33],by simp only [go_sem,t34],by simp only [go_sem]⟩
      · have e3:(x.kind == 3)=false:=by simpa using c3
        rw [if_neg fun h => c3 h.1] at hF
        simp only [go_sem,lz,List.append_nil,t1,t2,t3,t4,t5,t35,gx3,e3,wrap_succ' hl hlen]
        exact ih _ _ _ _ (by omega) ⟨i+1,s2,rfl,hl,hF,hs2,hf2,hE3,gs3,gx3,by omega,M3,hW3,by simp only [go_sem,t1],by simp only [go_sem,t2],by simp only [go_sem,t3],by simp only [go_sem,t4],by simp only [go_sem,t5],by simp only [go_sem,t33],by simp only [go_sem,t34],by simp only [go_sem]⟩
    · simp only [go_sem,t33,t34,t35,dec_ge' hl]
      rw [List.drop_eq_nil_of_le (by omega),firstL] at hF
      subst hF
      exact ⟨hM,fun k hk => by rw [hW k hk,hb]; exact bA_under _ _,hb,hW⟩
   have hbody:Try.f58.body.getD .skip=.seq (Code.l (Try.f58.body.getD .skip)) (.seq (Code.l (Code.r (Try.f58.body.getD .skip))) (Code.r (Code.r (Try.f58.body.getD .skip)))):=rfl
   rw [hbody]
   generalize Code.r (Code.r (Try.f58.body.getD .skip))=B at rest
   simp only [Code.l,Code.r,Try.f58,Option.getD_some]
   cases e2:(x.kind == 2) with
   | false =>
    have c2:¬ x.kind=2:=by simpa using e2
    rw [if_neg (fun h => c2 h.1)] at hF
    simp only [go_sem,Ex.a,e2,b1,m1]
    exact rest _ _ _ s hF hsl hf (hE.mono (by simp only [St.n_push]; omega) fun k hk _ => St.get_push_ne hk) (by rw [St.get_push_ne ls]; exact hb) St.get_push_eq (by simp only [St.n_push]; omega) Mod.refl.push (fun k hk => by cases hk) (by simp only [go_sem]) (by simp only [go_sem]) (by simp only [go_sem]) (by simp only [go_sem]) (by simp only [go_sem])
   | true =>
    have c2:x.kind=2:=by simpa using e2
    obtain ⟨i,hi⟩:=Int.eq_ofNat_of_zero_le (hc.call c2).1
    have hi2:=(hc.call c2).2
    rw [hi] at hi2 hF
    have hi3:i < g.rules.length:=by omega
    have his:i < s.length:=by omega
    have hib:i < (bA s).length:=by rw [bA_len]; omega
    have hidx:=fun ρ:St => indexR_nat (σ:=ρ) (k:=ks) (off:=0) (s:=1) (cs:=bA s) hi3
    have e0:0+i * 1=i:=by omega
    simp only [e0] at hidx
    simp only [Int.toNat_natCast] at hF
    cases hs:s.getD i false with
    | true =>
     have hbg:=bA_get his
     rw [hs] at hbg hF
     simp only [go_sem,Ex.a,e2,hi,b1,hb,m1,ms,hidx,hbg]
     rw [if_neg (by simp)] at hF
     exact rest _ _ _ s hF hsl hf (hE.mono (by simp only [St.n_push]; omega) fun k hk _ => St.get_push_ne hk) (by rw [St.get_push_ne ls]; exact hb) St.get_push_eq (by simp only [St.n_push]; omega) Mod.refl.push (fun k hk => by cases hk) (by simp only [go_sem]) (by simp only [go_sem]) (by simp only [go_sem]) (by simp only [go_sem]) (by simp only [go_sem])
    | false =>
     have hbg:=bA_get his
     rw [hs] at hbg hF
     have hset:=bA_set (l:=s) (i:=i)
     have hgr:∀ ρ:St,indexK ρ 4 g.rd (.d (.int .i64 (i:Int)))=.val (.d (.vptr (g.rules[i]).cs 0)) ρ [] []:=fun ρ => Gr.index_rd (by simp [hi3])
     simp only [go_sem,Ex.a,e2,hi,b1,b2,b3,hb,m1,m2,m3,ms,ms',ne2,ne3,hidx,hbg,hib,hset,hgr]
     rw [if_pos ⟨c2,rfl⟩] at hF
     have hmem:g.rules[i] ∈ g.rules:=List.getElem_mem hi3
     have hcs:=count_set his hs
     generalize hτ2:(σ.push (Blk.cells x.c)).set ks (Blk.cells (bA (s.set i true)))=τ2
     have n2:τ2.n=σ.n+1:=by rw [← hτ2]; simp [St.n_set,St.n_push]
     have g2:∀ k,k < σ.n→k≠ks→τ2.get k=σ.get k:=fun k h1 h2 => by rw [← hτ2,St.get_set_ne h2,St.get_push_ne h1]
     have gs2:τ2.get ks=.cells (bA (s.set i true)):=by rw [← hτ2,St.get_set_eq]
     have gx2:τ2.get σ.n=.cells x.c:=by rw [← hτ2,St.get_set_ne ms',St.get_push_eq]
     have M2:Mod σ τ2 (low σ.n [ks]):=by
      have:=(Mod.refl (σ:=σ)).push (b:=.cells x.c) |>.write (k:=ks) (b:=.cells (bA (s.set i true)))
      rw [hτ2] at this; simpa using this
     cases f with
     | zero => omega
     | succ f =>
     obtain ⟨T,hcall,hMT,hT⟩:=first_call h86 h78 h80 h79 h104 h105 h82 h106 g nl t hnl hL hg k1 k2 k3 k4 kn ks f g.rules[i].body (s.set i true) τ2 (hg _ hmem).1 (hg _ hmem).2 (hE.mono (by omega) g2) gs2 (by simpa using hsl) (by omega)
     refine ⟨_,_,_,hcall,drawOk_end _ rfl rfl (by kernel_rfl),?_⟩
     have hgo:goF (g.rules.map (·.body)) (qOf nl) (f+1) i (s.set i true)=firstE (goF (g.rules.map (·.body)) (qOf nl) f) (qOf nl) g.rules[i].body (s.set i true):=by
      rw [goF]; simp [hi3]
     rw [← hgo] at hMT
     have hles:=goF_les (g.rules.map (·.body)) (qOf nl) (f+1) i (s.set i true)
     rw [← hgo]
     refine rest _ _ _ _ hF (by rw [hles.1]; simpa using hsl) (by have:=hles.2; omega) (hE.mono (by simp only [St.n_set]; omega) fun k h1 h2 => by rw [St.get_set_ne h2]; exact g2 k h1 h2) (by rw [St.get_set_eq]) (by rw [St.get_set_ne ms']; exact gx2) (by simp only [St.n_set]; omega) (M2.call hMT) (fun k hk => ?_) (by simp only [go_sem]) (by simp only [go_sem]) (by simp only [go_sem]) (by simp only [go_sem]) (by simp only [go_sem])
     rw [List.mem_append,mem_low,mem_low] at hk
     rcases hk with hk | hk
     · simpa using hk.1
     · exact hT k hk.1
termination_by (f,SizeOf.sizeOf x)
decreasing_by
 · exact Prod.Lex.right _ (Ex.sub_lt hmem)
 · exact Prod.Lex.left _ _ (by omega)
end Go.Am
namespace Go.Am
open Go Go.Proofs
variable {fz:Nat→Md}
def Gr.bodies (g:Gr):List Ex:=g.rules.map (·.body)
def leftL (bs:List Ex) (q:Int→Bool):Nat→List Ex→Bool
 | _,[] => false
 | i,x :: l => (firstE (goF bs q bs.length) q x (List.replicate bs.length false)).getD i false || leftL bs q (i+1) l
theorem rep_bools (m:Nat):rep m [A.d (D.bool false)]=bA (List.replicate m false):=by
 induction m with
 | zero => rfl
 | succ m ih => rw [rep_succ,ih]; simp [bA,List.replicate_succ]
structure CEnv (k9 k11 k12 kn lo:Nat) (g:Gr) (nl:List Bool) (τ:St):Prop where
 b1:∃ c,τ.get k11=.cells [c]
 b2:τ.get k12=.cells [.func 58 [.ptr k11 0,.ptr k12 0,.ptr lo 0,.ptr k9 0]]
 b3:τ.get lo=.cells g.c
 b4:τ.get k9=.cells [.func 50 [.ptr kn 0]]
 bn:τ.get kn=.cells [.d (.slc false (boolsD nl))]
 l:lo < kn∧kn < k9∧k9 < k11∧k11 < k12∧k12 < τ.n
set_option maxHeartbeats 4000000 in
theorem check_3 (h86:fz 58=.cut) (h78:fz 50=.cut) (h80:fz 52=.cut) (h79:fz 51=.cut) (h104:fz 81=.cut) (h105:fz 82=.cut) (h82:fz 54=.cut) (h106:fz 83=.cut) (g:Gr) (nl:List Bool) (t:Int) (hnl:nl.length=g.rules.length) (hL:g.rules.length < 1000000)
 (hg:∀ r ∈ g.rules,SmallE r.body∧okE t g.rules.length r.body) (k9 k11 k12 kn lo:Nat) (tm:Tm) (τ:St) (hE:CEnv k9 k11 k12 kn lo g nl τ) (t1:tm.at 1=.ptr lo 0) (t11:tm.at 11=.ptr k11 0) (t12:tm.at 12=.ptr k12 0) (res:Int) (hres:res=if leftL g.bodies (qOf nl) 0 g.bodies=true then 201 else 0) :
 Ev (XX fz) 24 95 none lo [.code (Code.r (Code.r (Code.r (Code.r (Code.r (Code.r (Code.r (Code.r (Code.r (Code.r (Code.r (Code.r (Code.r (Code.r (Try.f24.body.getD .skip)))))))))))))))] tm τ [] (RetQ (XX fz) [.tmp 2] fun a _ W1 => a=.d (.int .i64 res)∧W1=[]):=by
 simp only [Try.f24,Option.getD_some,Code.r]
 have b3:=hE.b3
 simp only [go_sem,t1,b3]
 refine Ev.loop_ind (fun m tm τ W => ∃ i:Nat,m=g.rules.length - i∧i≤g.rules.length∧W=[]∧leftL g.bodies (qOf nl) 0 g.bodies=leftL g.bodies (qOf nl) i (g.bodies.drop i)∧CEnv k9 k11 k12 kn lo g nl τ ∧
  tm.at 1=.ptr lo 0∧tm.at 11=.ptr k11 0∧tm.at 12=.ptr k12 0∧tm.at 75=g.rd∧tm.at 76=.d (.int .i64 g.rules.length)∧tm.at 77=.d (.int .i64 i)) ?_ g.rules.length _ _ _
  ⟨0,rfl,by omega,rfl,rfl,hE,by simp only [go_sem,t1],by simp only [go_sem,t11],by simp only [go_sem,t12],by simp only [go_sem],by simp only [go_sem],by simp only [go_sem]; rfl⟩
 clear hE b3 t1 t11 t12
 rintro m tm τ W ⟨i,rfl,hi,rfl,he,hE,t1,t11,t12,t75,t76,t77⟩ ih
 by_cases hl:i < g.rules.length
 · have hget:g.rules[i]?=some g.rules[i]:=by simp [hl]
   have hmem:g.rules[i] ∈ g.rules:=List.getElem_mem hl
   obtain ⟨⟨c,b1⟩,b2,b3,b4,bn,l1,l2,l3,l4,l5⟩:=hE
   have hmk:=fun σ:St => mksE_nat (σ:=σ) (kd:=.bool) (s:=1) (b:=1) (n:=g.rules.length) (z:=[.d (.bool false)]) (zv:=.d (.bool false)) ⟨rfl,by omega,by omega,by omega⟩
   have n1:lo≠τ.n:=by omega
   have n11:k11≠τ.n:=by omega
   have n12:k12≠τ.n:=by omega
   have n11':k11≠τ.n+1:=by omega
   have n12':k12≠τ.n+1:=by omega
   have n1':lo≠τ.n+1:=by omega
   have n1211:k12≠k11:=by omega
   have nl11:lo≠k11:=by omega
   have nt11:τ.n≠k11:=by omega
   have lz0:low lo [τ.n]=[]:=by rw [low_cons_ge (by omega)]; rfl
   have lz1:low lo [k11]=[]:=by rw [low_cons_ge (by omega)]; rfl
   simp only [go_sem,t1,t11,t12,t75,t76,t77,dec_lt' hl,Gr.index_rd hget,b1,b2,b3,n1,n11,n12,n11',n12',n1',n1211,nl11,nt11,hmk,rep_bools,lz0,lz1]
   generalize hτ2:(((τ.push (Blk.cells [A.d (D.str { data:={ toList:=[] } }),A.d (D.int IntKind.i64 0),A.d (D.int IntKind.i64 0),A.d (D.slc true [])])).set τ.n (Blk.cells g.rules[i].c)).push (Blk.cells (bA (List.replicate g.rules.length false)))).set k11 (Blk.cells [A.row (τ.n+1) 0 g.rules.length 1])=τ2
   have hn2:τ2.n=τ.n+2:=by rw [← hτ2]; simp [St.n_set,St.n_push]
   have g2:∀ k,k < τ.n→k≠k11→τ2.get k=τ.get k:=fun k h1 h2 => by
    rw [← hτ2,St.get_set_ne h2,St.get_push_ne (by simp only [St.n_set,St.n_push]; omega),St.get_set_ne (by omega),St.get_push_ne h1]
   have g11:τ2.get k11=.cells [A.row (τ.n+1) 0 g.rules.length 1]:=by rw [← hτ2,St.get_set_eq]
   have gs2:τ2.get (τ.n+1)=.cells (bA (List.replicate g.rules.length false)):=by
    rw [← hτ2,St.get_set_ne (by omega)]; exact St.get_push_eq' (by simp [St.n_set,St.n_push])
   have hFE:FEnv k11 k12 lo k9 kn (τ.n+1) g nl τ2:=⟨g11,by rw [g2 _ (by omega) (by omega)]; exact b2,by rw [g2 _ (by omega) (by omega)]; exact b3,by rw [g2 _ (by omega) (by omega)]; exact b4,by rw [g2 _ (by omega) (by omega)]; exact bn,by omega,by omega⟩
   obtain ⟨T,hcall,hMT,hT⟩:=first_call h86 h78 h80 h79 h104 h105 h82 h106 g nl t hnl hL hg k11 k12 lo k9 kn (τ.n+1) g.bodies.length g.rules[i].body (List.replicate g.rules.length false) τ2 (hg _ hmem).1 (hg _ hmem).2 hFE gs2 (by simp) (by have:=List.count_le_length (a:=false) (l:=List.replicate g.rules.length false); rw [List.length_replicate] at this; rw [Gr.bodies,List.length_map]; omega)
   refine ⟨_,_,_,hcall,?_⟩
   have hbl:g.bodies.length=g.rules.length:=by rw [Gr.bodies,List.length_map]
   have hles:=firstE_les (q:=qOf nl) (goF_les g.bodies (qOf nl) g.bodies.length) g.rules[i].body (List.replicate g.rules.length false)
   have hm1:g.bodies.drop i=g.rules[i].body :: g.bodies.drop (i+1):=by
    rw [List.drop_eq_getElem_cons (by rw [hbl]; exact hl)]; simp [Gr.bodies]
   rw [hm1,leftL] at he
   have hgo:goF (g.rules.map (·.body)) (qOf nl) g.bodies.length=goF g.bodies (qOf nl) g.bodies.length:=rfl
   rw [hgo]
   rw [hbl] at he hles
   rw [hbl]
   generalize firstE (goF g.bodies (qOf nl) g.rules.length) (qOf nl) g.rules[i].body (List.replicate g.rules.length false)=s2 at he hles
   have hsl:s2.length=g.rules.length:=by rw [hles.1]; simp
   have lzT:low lo T=[]:=low_all fun k hk => by rw [hT k hk]; omega
   have n11s:k11≠τ.n+1:=by omega
   have hlt:i < s2.length:=by omega
   have hbg:=bA_get hlt
   have hib:i < (bA s2).length:=by rw [bA_len]; omega
   have hidx:=fun ρ:St => indexR_nat (σ:=ρ) (k:=τ.n+1) (off:=0) (s:=1) (cs:=bA s2) hl
   have e0:0+i * 1=i:=by omega
   simp only [e0] at hidx
   cases hs:s2.getD i false with
   | true =>
    rw [hs] at hbg he
    simp only [go_sem,t11,lzT,n11s,g11,hidx,hbg]
    rw [hres,he]; simp
   | false =>
    rw [hs] at hbg
    rw [hs,Bool.false_or] at he
    have hE2:CEnv k9 k11 k12 kn lo g nl (τ2.set (τ.n+1) (Blk.cells (bA s2))):=⟨⟨_,by rw [St.get_set_ne n11s]; exact g11⟩,by rw [St.get_set_ne (by omega),g2 _ (by omega) (by omega)]; exact b2,by rw [St.get_set_ne (by omega),g2 _ (by omega) (by omega)]; exact b3,by rw [St.get_set_ne (by omega),g2 _ (by omega) (by omega)]; exact b4,by rw [St.get_set_ne (by omega),g2 _ (by omega) (by omega)]; exact bn,by simp only [St.n_set]; omega⟩
    simp only [go_sem,t11,t77,lzT,n11s,g11,hidx,hbg,wrap_succ' hl (by omega)]
    exact ih _ _ _ _ (by omega) ⟨i+1,rfl,hl,rfl,he,hE2,by simp only [go_sem,t1],by simp only [go_sem,t11],by simp only [go_sem,t12],by simp only [go_sem,t75],by simp only [go_sem,t76],by simp only [go_sem]⟩
 · have hnil:g.bodies.drop i=[]:=List.drop_eq_nil_of_le (by rw [Gr.bodies,List.length_map]; omega)
   rw [hnil,leftL] at he
   simp only [go_sem,t75,t76,t77,dec_ge' hl]
   rw [hres,he]; simp
theorem growF_len (tok:Bool) (l:List Ex):∀ (n:Nat) (out:List Bool),(growF tok l n out).length=out.length
 | 0,out => rfl
 | n+1,out => by rw [growF]; split <;> simp [growF_len tok l n,pass_len]
theorem growsP_len (tok:Bool) (l:List Ex):(growsP tok l).length=l.length:=by rw [growsP,growF_len]; simp
def Gr.null (g:Gr):List Bool:=growsP false g.bodies
def Gr.some (g:Gr):List Bool:=growsP true g.bodies
def check2P (g:Gr):Int :=
 if g.some.any (false == ·) || g.rules.any (fun r => vainE (qOf g.null) r.body) then 200 else if leftL g.bodies (qOf g.null) 0 g.bodies=true then 201 else 0
set_option maxHeartbeats 4000000 in
theorem check_2 (h83:fz 55=.cut) (h107:fz 84=.cut) (h84:fz 56=.cut) (h108:fz 85=.cut) (h85:fz 57=.cut) (h81:fz 53=.cut) (h77:fz 49=.ice) (h103:fz 80=.cut) (h86:fz 58=.cut) (h78:fz 50=.cut) (h80:fz 52=.cut) (h79:fz 51=.cut) (h104:fz 81=.cut) (h105:fz 82=.cut) (h82:fz 54=.cut) (h106:fz 83=.cut) (g:Gr) (t:Int) (hL:g.rules.length < 1000000)
 (hg:∀ r ∈ g.rules,SmallE r.body∧okE t g.rules.length r.body) (lo:Nat) (tm:Tm) (τ:St) (hlo:lo < τ.n) (hb:τ.get lo=.cells g.c) (t1:tm.at 1=.ptr lo 0) :
 Ev (XX fz) 24 95 none lo [.code (Code.r (Code.r (Code.r (Code.r (Code.r (Code.r (Try.f24.body.getD .skip)))))))] tm τ [] (RetQ (XX fz) [.tmp 2] fun a _ W1 => a=.d (.int .i64 (check2P g))∧W1=[]):=by
 have rest:=fun tm' τ' => check_3 h86 h78 h80 h79 h104 h105 h82 h106 g g.null t (by rw [Gr.null,growsP_len,Gr.bodies,List.length_map]) hL hg (τ.n+1) (τ.n+3) (τ.n+4) τ.n lo tm' τ'
 generalize hX:Code.r (Code.r (Code.r (Code.r (Code.r (Code.r (Try.f24.body.getD .skip))))))=X at rest ⊢
 have hbody:X=.seq (Code.l X) (.seq (Code.l (Code.r X)) (.seq (Code.l (Code.r (Code.r X))) (.seq (Code.l (Code.r (Code.r (Code.r X)))) (.seq (Code.l (Code.r (Code.r (Code.r (Code.r X))))) (.seq (Code.l (Code.r (Code.r (Code.r (Code.r (Code.r X)))))) (.seq (Code.l (Code.r (Code.r (Code.r (Code.r (Code.r (Code.r X))))))) (.seq (Code.l (Code.r (Code.r (Code.r (Code.r (Code.r (Code.r (Code.r X)))))))) (Code.r (Code.r (Code.r (Code.r (Code.r (Code.r (Code.r (Code.r X))))))))))))))) :=by rw [← hX]; rfl
 rw [hbody]
 generalize Code.r (Code.r (Code.r (Code.r (Code.r (Code.r (Code.r (Code.r X)))))))=B at rest
 rw [← hX]
 simp only [Code.l,Code.r,Try.f24,Option.getD_some]
 have hgs:∀ (tok:Bool) (σ:St),CallsTo (XX fz) (.func 49 []) [.agg g.c,.d (.bool tok)] σ (.d (.slc false (boolsD (growsP tok g.bodies)))) σ []:=fun tok σ => grows_call h77 h103 h79 h104 h105 h82 h106 g tok σ hL fun r hr => ⟨(hg r hr).1,(hg r hr).2.calls⟩
 simp only [go_sem,t1,hb]
 refine ⟨_,_,_,hgs false τ,?_⟩
 have n0:lo≠τ.n:=by omega
 have n1:lo≠τ.n+1:=by omega
 have n2:lo≠τ.n+2:=by omega
 have lz0:low lo [τ.n]=[]:=by rw [low_cons_ge (by omega)]; rfl
 have lz1:low lo [τ.n+1]=[]:=by rw [low_cons_ge (by omega)]; rfl
 have lz2:low lo [τ.n+2]=[]:=by rw [low_cons_ge (by omega)]; rfl
 simp only [go_sem,t1,hb,n0,n1,n2,lz0,lz1,lz2]
 generalize hτ3:(((((τ.push (Blk.cells [A.d (D.slc true [])])).set τ.n (Blk.cells [A.d (D.slc false (boolsD (growsP false g.bodies)))])).push (Blk.cells [A.d D.nfunc])).set (τ.n+1) (Blk.cells [A.func 50 [A.ptr τ.n 0]])).push (Blk.cells [A.d D.nfunc])).set (τ.n+2) (Blk.cells [A.func 53 [A.ptr (τ.n+1) 0,A.ptr (τ.n+2) 0]])=τ3
 have hn3:τ3.n=τ.n+3:=by rw [← hτ3]; simp [St.n_set,St.n_push]
 have c0:τ3.get lo=.cells g.c:=by rw [← hτ3]; simp only [go_sem,n0,n1,n2,hb]
 have cn:τ3.get τ.n=.cells [.d (.slc false (boolsD g.null))]:=by rw [← hτ3]; simp only [go_sem]; rfl
 have c9:τ3.get (τ.n+1)=.cells [.func 50 [.ptr τ.n 0]]:=by rw [← hτ3]; simp only [go_sem]
 have c10:τ3.get (τ.n+2)=.cells [.func 53 [.ptr (τ.n+1) 0,.ptr (τ.n+2) 0]]:=by rw [← hτ3]; simp only [go_sem]
 have hbl:g.bodies.length=g.rules.length:=by rw [Gr.bodies,List.length_map]
 refine ⟨_,_,_,hgs true τ3,?_⟩
 refine ⟨_,_,_,containsb_call h83 h107 _ false false τ3 (by rw [growsP_len,hbl]; omega),?_⟩
 have hsome:growsP true g.bodies=g.some:=rfl
 rw [hsome]
 unfold check2P
 cases hs:g.some.any (false == ·) with
 | true =>
  simp only [go_sem,gb,Bool.true_or]
 | false =>
  have hnl:g.null.length=g.rules.length:=by rw [Gr.null,growsP_len,hbl]
  simp only [go_sem,gb,c0,Bool.false_or]
  refine ⟨_,_,_,containsr_call h84 h108 g.rules (g.z && g.rules.isEmpty) _ (fun r => vainE (qOf g.null) r.body) τ3 (by omega) (fun ρ hρ y hy => rvain_call h85 h81 h78 h80 h79 h104 h105 h82 h106 (kn:=τ.n) (k9:=τ.n+1) (k10:=τ.n+2) (t:=t) (by rw [hρ.g _ (by omega)]; exact cn) (by rw [hρ.g _ (by omega)]; exact c9) (by rw [hρ.g _ (by omega)]; exact c10) (by have:=hρ.n; omega) (by have:=hρ.n; omega) (by have:=hρ.n; omega) (hg y hy).1 (by rw [hnl]; exact (hg y hy).2)),?_⟩
  cases hv:g.rules.any (fun r => vainE (qOf g.null) r.body) with
  | true => simp only [go_sem]
  | false =>
   have lz3:low lo [τ.n+4]=[]:=by rw [low_cons_ge (by omega)]; rfl
   simp only [go_sem,t1,hn3,lz3,hv]
   refine rest _ _ ⟨⟨.d (.slc true []),?_⟩,?_,?_,?_,?_,by simp only [St.n_set,St.n_push]; omega⟩ (by simp only [go_sem,t1]) (by simp only [go_sem]) (by simp only [go_sem]) _ rfl
   · rw [St.get_set_ne (by omega),St.get_push_ne (by simp only [St.n_push]; omega)]; exact St.get_push_eq' hn3.symm
   · rw [St.get_set_eq]
   · rw [St.get_set_ne (by omega),St.get_push_ne (by simp only [St.n_push]; omega),St.get_push_ne (by omega)]; exact c0
   · rw [St.get_set_ne (by omega),St.get_push_ne (by simp only [St.n_push]; omega),St.get_push_ne (by omega)]; exact c9
   · rw [St.get_set_ne (by omega),St.get_push_ne (by simp only [St.n_push]; omega),St.get_push_ne (by omega)]; exact cn
def sizesL:List Ex→Int→Int
 | [],left => left
 | x :: l,left => if sizeE x 1 left < 0 then -1 else sizesL l (sizeE x 1 left)
def checkP (g:Gr):Int :=
 if (decide ((g.rules.length:Int) > 32) || decide (g.tokens > 64))=true then 5 else if sizesL g.bodies 512 < 0 then 5 else
 if (((g.rules.length:Int) == 0) || decide (g.tokens < 1))=true then 2 else if g.bodies.all (rightE g.tokens g.rules.length)=false then 2 else check2P g
def SmallG (g:Gr):Prop:=∀ r ∈ g.rules,SmallE r.body
set_option maxHeartbeats 4000000 in
theorem check_1 (h76:fz 48=.cut) (h102:fz 79=.cut) (h83:fz 55=.cut) (h107:fz 84=.cut) (h84:fz 56=.cut) (h108:fz 85=.cut) (h85:fz 57=.cut) (h81:fz 53=.cut) (h77:fz 49=.ice) (h103:fz 80=.cut) (h86:fz 58=.cut) (h78:fz 50=.cut) (h80:fz 52=.cut) (h79:fz 51=.cut) (h104:fz 81=.cut) (h105:fz 82=.cut) (h82:fz 54=.cut) (h106:fz 83=.cut) (g:Gr) (hL:g.rules.length < 1000000)
 (hg:SmallG g) (lo:Nat) (tm:Tm) (τ:St) (hlo:lo < τ.n) (hb:τ.get lo=.cells g.c) (t1:tm.at 1=.ptr lo 0) :
 Ev (XX fz) 24 95 none lo [.code (Code.r (Code.r (Code.r (Code.r (Try.f24.body.getD .skip)))))] tm τ [] (RetQ (XX fz) [.tmp 2] fun a _ W1 => a=.d (.int .i64 (if (((g.rules.length:Int) == 0) || decide (g.tokens < 1))=true then 2 else if g.bodies.all (rightE g.tokens g.rules.length)=false then 2 else check2P g))∧W1=[]):=by
 have rest:=fun hg tm' τ' => check_2 h83 h107 h84 h108 h85 h81 h77 h103 h86 h78 h80 h79 h104 h105 h82 h106 g g.tokens hL hg lo tm' τ'
 generalize hX:Code.r (Code.r (Code.r (Code.r (Try.f24.body.getD .skip))))=X at rest ⊢
 have hbody:X=.seq (Code.l X) (.seq (Code.l (Code.r X)) (Code.r (Code.r X))):=by rw [← hX]; rfl
 rw [hbody]
 generalize Code.r (Code.r X)=B at rest
 rw [← hX]
 simp only [Code.l,Code.r,Try.f24,Option.getD_some]
 generalize hF:(if g.bodies.all (rightE g.tokens g.rules.length)=false then (2:Int) else check2P g)=F
 have hbl:g.bodies.length=g.rules.length:=by rw [Gr.bodies,List.length_map]
 cases h0:((g.rules.length:Int) == 0) with
 | true => simp only [go_sem,t1,hb,h0,Bool.true_or]
 | false =>
  cases h1:decide (g.tokens < 1) with
  | true => simp only [go_sem,t1,hb,h0,h1,Bool.or_true]
  | false =>
   simp only [go_sem,t1,hb,h0,h1,Bool.or_false]
   refine Ev.loop_ind (fun m tm τ W => ∃ i:Nat,m=g.rules.length - i∧i≤g.rules.length∧W=[]∧(∀ x ∈ g.bodies.take i,rightE g.tokens g.rules.length x=true)∧lo < τ.n∧τ.get lo=.cells g.c ∧
    tm.at 1=.ptr lo 0∧tm.at 48=g.rd∧tm.at 49=.d (.int .i64 g.rules.length)∧tm.at 50=.d (.int .i64 i)) ?_ g.rules.length _ _ _
    ⟨0,rfl,by omega,rfl,by simp,hlo,hb,by simp only [go_sem,t1],by simp only [go_sem],by simp only [go_sem],by simp only [go_sem]; rfl⟩
   clear hlo hb t1
   rintro m tm τ W ⟨i,rfl,hi,rfl,he,hlo,hb,t1,t48,t49,t50⟩ ih
   by_cases hl:i < g.rules.length
   · have hget:g.rules[i]?=some g.rules[i]:=by simp [hl]
     have hmem:g.rules[i] ∈ g.rules:=List.getElem_mem hl
     have n0:lo≠τ.n:=by omega
     have lz0:low lo [τ.n]=[]:=by rw [low_cons_ge (by omega)]; rfl
     simp only [go_sem,t1,t48,t49,t50,dec_lt' hl,Gr.index_rd hget,hb,n0,lz0]
     refine ⟨_,_,_,right_call h76 h102 h82 h106 g g.rules[i].body _ (hg _ hmem),?_⟩
     have hbi:g.bodies[i]?=some g.rules[i].body:=by simp [Gr.bodies,hl]
     cases hr:rightE g.tokens g.rules.length g.rules[i].body with
     | false =>
      have hall:g.bodies.all (rightE g.tokens g.rules.length)=false:=by
       rw [List.all_eq_false]; exact ⟨_,List.mem_of_getElem? hbi,by simp [hr]⟩
      rw [if_pos hall] at hF
      simp only [go_sem,hF.symm]
     | true =>
      simp only [go_sem,t50,wrap_succ' hl (by omega)]
      refine ih _ _ _ _ (by omega) ⟨i+1,rfl,hl,rfl,fun x hx => ?_,by simp only [St.n_set,St.n_push]; omega,by simp only [go_sem,n0,hb],by simp only [go_sem,t1],by simp only [go_sem,t48],by simp only [go_sem,t49],by simp only [go_sem]⟩
      have hlb:i < g.bodies.length:=by omega
      rw [List.take_succ_eq_append_getElem hlb,List.mem_append,List.mem_singleton] at hx
      rcases hx with hx | rfl
      · exact he x hx
      · have:g.bodies[i]=g.rules[i].body:=by simp [Gr.bodies]
        rw [this]; exact hr
   · rw [List.take_of_length_le (by omega)] at he
     have hall:g.bodies.all (rightE g.tokens g.rules.length)=true:=List.all_eq_true.2 he
     rw [hall,if_neg (by simp)] at hF
     simp only [go_sem,t48,t49,t50,dec_ge' hl,← hF]
     exact rest (fun r hr => ⟨hg r hr,he _ (List.mem_map.2 ⟨r,hr,rfl⟩)⟩) _ _ hlo hb (by simp only [go_sem,t1])
set_option maxHeartbeats 4000000 in
theorem check_call (h35:fz 24=.cut) (h75:fz 47=.cut) (h76:fz 48=.cut) (h102:fz 79=.cut) (h83:fz 55=.cut) (h107:fz 84=.cut) (h84:fz 56=.cut) (h108:fz 85=.cut) (h85:fz 57=.cut) (h81:fz 53=.cut) (h77:fz 49=.ice) (h103:fz 80=.cut) (h86:fz 58=.cut) (h78:fz 50=.cut) (h80:fz 52=.cut) (h79:fz 51=.cut) (h104:fz 81=.cut) (h105:fz 82=.cut) (h82:fz 54=.cut) (h106:fz 83=.cut) (g:Gr) (hg:SmallG g) (σ:St) :
 CallsTo (XX fz) (.func 24 []) [g.a] σ (.d (.int .i64 (checkP g))) σ []:=by
 refine CallsTo.cut0 h35 fn24 (by simp) rfl ?_
 have rest:=fun hL tm' τ' => check_1 h76 h102 h83 h107 h84 h108 h85 h81 h77 h103 h86 h78 h80 h79 h104 h105 h82 h106 g hL hg σ.n tm' τ'
 generalize hX:Try.f24.body.getD .skip=X at rest ⊢
 have hbody:X=.seq (Code.l X) (.seq (Code.l (Code.r X)) (.seq (Code.l (Code.r (Code.r X))) (.seq (Code.l (Code.r (Code.r (Code.r X)))) (Code.r (Code.r (Code.r (Code.r X))))))):=by rw [← hX]; rfl
 rw [hbody]
 generalize Code.r (Code.r (Code.r (Code.r X)))=B at rest
 rw [← hX]
 simp only [Code.l,Code.r,Try.f24,Option.getD_some]
 unfold checkP
 cases h0:decide ((g.rules.length:Int) > 32) with
 | true => simp only [go_sem,Gr.a,h0,Bool.true_or]
 | false =>
  cases h1:decide (g.tokens > 64) with
  | true => simp only [go_sem,Gr.a,h0,h1,Bool.or_true]
  | false =>
   have hL:g.rules.length < 1000000:=by simp at h0; omega
   have hbl:g.bodies.length=g.rules.length:=by rw [Gr.bodies,List.length_map]
   have rest:=rest hL
   simp only [go_sem,Gr.a,h0,h1,Bool.or_false]
   generalize (if (((g.rules.length:Int) == 0) || decide (g.tokens < 1))=true then (2:Int) else if g.bodies.all (rightE g.tokens g.rules.length)=false then 2 else check2P g)=F at rest ⊢
   refine Ev.loop_ind (fun m tm τ W => ∃ (i:Nat) (lf:Int),m=g.rules.length - i∧i≤g.rules.length∧W=[]∧sizesL g.bodies 512=sizesL (g.bodies.drop i) lf∧0≤lf∧σ.n < τ.n∧τ.get σ.n=.cells g.c ∧
    tm.at 1=.ptr σ.n 0∧tm.at 3=.d (.int .i64 lf)∧tm.at 25=g.rd∧tm.at 26=.d (.int .i64 g.rules.length)∧tm.at 27=.d (.int .i64 i)) ?_ g.rules.length _ _ _
    ⟨0,512,rfl,by omega,rfl,rfl,by omega,by simp only [St.n_push]; omega,St.get_push_eq,by simp only [go_sem],by simp only [go_sem],by simp only [go_sem],by simp only [go_sem],by simp only [go_sem]; rfl⟩
   rintro m tm τ W ⟨i,lf,rfl,hi,rfl,he,hlf,hlo,hb,t1,t3,t25,t26,t27⟩ ih
   by_cases hl:i < g.rules.length
   · have hget:g.rules[i]?=some g.rules[i]:=by simp [hl]
     have hmem:g.rules[i] ∈ g.rules:=List.getElem_mem hl
     have n0:σ.n≠τ.n:=by omega
     have lz0:low σ.n [τ.n]=[]:=by rw [low_cons_ge (by omega)]; rfl
     simp only [go_sem,t1,t3,t25,t26,t27,dec_lt' hl,Gr.index_rd hget,hb,n0,lz0]
     refine ⟨_,_,_,sizeE_call h75 g.rules[i].body 1 lf _ (hg _ hmem),?_⟩
     have hm1:g.bodies.drop i=g.rules[i].body :: g.bodies.drop (i+1):=by
      rw [List.drop_eq_getElem_cons (by rw [hbl]; exact hl)]; simp [Gr.bodies]
     rw [hm1,sizesL] at he
     by_cases hs:sizeE g.rules[i].body 1 lf < 0
     · have hs':decide (sizeE g.rules[i].body 1 lf < 0)=true:=by simpa using hs
       rw [if_pos hs] at he
       have hneg:sizesL g.bodies 512 < 0:=by rw [he]; decide
       simp only [go_sem,hs',hneg,if_true]
     · have hs':decide (sizeE g.rules[i].body 1 lf < 0)=false:=by simpa using hs
       rw [if_neg hs] at he
       simp only [go_sem,hs',t27,wrap_succ' hl (by omega)]
       exact ih _ _ _ _ (by omega) ⟨i+1,_,rfl,hl,rfl,he,by omega,by simp only [St.n_set,St.n_push]; omega,by simp only [go_sem,n0,hb],by simp only [go_sem,t1],by simp only [go_sem],by simp only [go_sem,t25],by simp only [go_sem,t26],by simp only [go_sem]⟩
   · rw [List.drop_eq_nil_of_le (by omega),sizesL] at he
     have hneg:¬ sizesL g.bodies 512 < 0:=by rw [he]; omega
     simp only [go_sem,t25,t26,t27,dec_ge' hl,hneg,if_false]
     exact rest _ _ hlo hb (by simp only [go_sem,t1])
end Go.Am

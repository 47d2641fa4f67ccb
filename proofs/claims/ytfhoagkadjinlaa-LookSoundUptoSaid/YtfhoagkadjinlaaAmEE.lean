/- Part EE of a proof that runs a program's calls on a small machine whose values bear no addresses: no conditions. -/
import Derived.Test.YtfhoagkadjinlaaAmED
import Derived.Test.YtfhoagkadjinlaaAmQ4
import Derived.Test.YtfhoagkadjinlaaAmL1
set_option autoImplicit false
set_option linter.unusedSimpArgs false
set_option linter.unusedVariables false
set_option linter.unusedSectionVars false
namespace Go.Am
open Go Go.Proofs
variable {fz:Nat→Md}
abbrev netP' (N:Nv) (X:Nx):D:=.vptr (netC N X) 0
theorem mini_ok:checkP miniG=0:=by kernel_rfl
theorem mini_small:SmallG miniG:=by
 have h:decG miniG.aS=some miniG:=by kernel_rfl
 exact (decG_sound h).2
set_option maxRecDepth 8000 in
set_option maxHeartbeats 16000000 in
theorem mini_c (h64:∀ σ:St,CallsTo (XX fz) (.func 64 []) [] σ miniG.a σ []) (hnew:∀ (g:Gr) (σ:St),SmallG g→CallsTo (XX fz) (.func 19 []) [g.a] σ (.tup [.d (newV g).1,.d (.int .i64 (newV g).2)]) σ [])
 (h30:fz 30=.keep) (h11:fz 11=.keep) (h36:fz 36=.keep) (h46:fz 46=.cut) (h65:fz 65=.ice) (h66:fz 66=.ice) (h34:fz 34=.ice) (h67:fz 67=.cut) (h35:fz 35=.cut) (σ:St) :
 ∃ a σ' W,CallsTo (XX fz) (.func 30 []) [] σ a σ' W∧σ.n≤σ'.n∧(∀ k,k < σ.n→σ'.get k=σ.get k)∧(∀ k ∈ W,σ.n≤k) ∧
  ∃ kt km ra ba rea tb bh rch,a=.tup [.ptr kt 0,.d (.int .i64 (((newX miniG).ent 3:Nat):Int)),.d (.bool true)]∧TbK σ.n kt km ra ba rea tb miniG.rules.length (newN miniG).N (newX miniG) bh rch σ'∧BhOk (newN miniG).N miniG.rules.length rch bh:=by
 have h:=GOk.of mini_ok
 have hN:=newN_G h
 have hF:=newN_fits h
 have hne:=newN_ne h
 have hel:=hF.e
 have hR:miniG.rules.length=11:=rfl
 refine CallsTo.keepP h30 fn30 (by simp) ?_
 simp only [Try.f30,Option.getD_some]
 obtain ⟨a,σ1,W1,hc1,a1,a2,a3,a4⟩:=lookNew_c hnew h11 h36 h46 h65 h66 h34 h67 h35 miniG mini_small σ
 rcases a4 with ⟨a4,-⟩ | ⟨-,kt,km,ra,ba,rea,tb,bh,rch,rfl,hT,hm,hB⟩
 · exact absurd mini_ok a4
 have hn1:=hnew miniG σ1 mini_small
 have hv:newV miniG=(netP' (newN miniG).N (newX miniG),0):=by unfold newV; rw [mini_ok]; rfl
 rw [hv] at hn1
 have lW1:low σ.n W1=[]:=low_all fun k hk => a3 k hk
 have c0:((0:Int) != 0)=false:=rfl
 have hnet:=fun (ρ:St) => net_c h46 h65 h66 h34 hne hF (by omega) (show (newX miniG).en.length < 1000000 by have:=hN.enl; omega) (show (newX miniG).lv.length < 1000000 by have:=hN.lvl; omega) ρ
 simp only [go_sem]
 refine ⟨_,_,_,h64 σ,?_⟩
 refine ⟨_,_,_,hc1,?_⟩
 simp only [go_sem]
 refine ⟨_,_,_,h64 σ1,?_⟩
 refine ⟨_,_,_,hn1,?_⟩
 have in3:∀ ρ:St,indexK ρ 1 (.d (slD (newX miniG).en)) (.d (.int .i64 3))=.val (.d (.vptr [.int .i64 ((newX miniG).en.getD 3 0)] 0)) ρ [] []:=fun (ρ:St) => index_sl (σ:=ρ) (kd:=.i64) (l:=(newX miniG).en) (i:=3) (by rw [hN.enl]; decide)
 rw [(hN.en 3 (by decide)).2.1] at in3
 have lz:low σ.n [σ1.n]=[]:=by rw [low_cons_ge a1]; rfl
 have hen:((newX miniG).en.length:Int)=11:=by rw [hN.enl]; rfl
 have c11:((11:Int) != 11)=false:=rfl
 have n1:∀ k,k < σ1.n→k≠σ1.n:=fun k hk => by omega
 simp only [go_sem,lW1,c0]
 refine ⟨_,_,_,hnet _,?_⟩
 simp only [go_sem,netA,netC3,c0,len_sl,hen,c11,in3,lz]
 refine ⟨drawOk_rel [] [] rfl (by kernel_rfl) rfl (by simp),?_⟩
 have hg:∀ k,k < σ1.n→((σ1.push (Blk.cells [A.d (D.slc true []),A.d (D.slc true []),A.d (D.slc true [])])).set σ1.n (Blk.cells [A.d (newN miniG).N.esD,A.d (slD (newX miniG).en),A.d (slD (newX miniG).lv)])).get k=σ1.get k:=fun k hk => by
  rw [St.get_set_ne (by omega),St.get_push_ne hk]
 refine ⟨by omega,fun k hk => (hg k (by omega)).trans (a2 k hk),(fun k hk => by cases hk),kt,km,ra,ba,rea,tb,bh,rch,rfl,TbK.stay ⟨hT,[],[],⟨hm,fun k v hk => (by cases hk),fun k hk => (by cases hk)⟩⟩ (by simp only [St.n_set,St.n_push]; omega) fun k _ hk => hg k hk,hB⟩
end Go.Am
namespace Go.Am
open Go Go.Proofs
theorem Lk.congr {l:List Int} {N:Nv} {X:Nx} {lv lv':Nat→Nat→List (Nat × Nat)} (h:∀ n p x,x ∈ lv n p→x ∈ lv' n p) {F:List (Nat × Nat)} {s p:Nat} (k:Lk l N X lv F s p):Lk l N X lv' F s p:=by
 induction k with
 | start h1 => exact .start h1
 | free _ h1 h2 h3 ih => exact .free ih h1 h2 h3
 | tok _ h1 h2 h3 h4 ih => exact .tok ih h1 h2 h3 h4
 | call _ h1 h2 h3 h4 ih => exact .call ih h1 h2 h3 h4
 | leave _ h1 h2 ih => exact .leave ih h1 (h _ _ _ h2)
theorem LkP.congr {l:List Int} {N:Nv} {X:Nx} {bh bh':Nat→List Nat} (h:∀ n s,s ∈ bh n→s ∈ bh' n) {F:List (Nat × Nat)} {k:Nat} (q:LkP l N X (lvB bh) F k):LkP l N X (lvB bh') F k:=by
 obtain ⟨s,p,h1,h2⟩:=q
 refine ⟨s,p,h1.congr fun n p x hx => ?_,h2⟩
 obtain ⟨s,q1,rfl⟩:=List.mem_map.1 hx
 exact List.mem_map.2 ⟨s,h _ _ q1,rfl⟩
theorem AlwP.congr {l:List Int} {N:Nv} {X:Nx} {bh bh':Nat→List Nat} (h:∀ n s,s ∈ bh n→s ∈ bh' n) {e:Eg} (q:AlwP l N X bh e):AlwP l N X bh' e:=by
 rcases q with ⟨h1,h2⟩ | h1 | ⟨h1,h2 | ⟨k,h2,h3⟩⟩ | ⟨h1,h2,h3,h4⟩
 · exact .inl ⟨h1,h2.congr h⟩
 · exact .inr (.inl h1)
 · exact .inr (.inr (.inl ⟨h1,.inl h2⟩))
 · exact .inr (.inr (.inl ⟨h1,.inr ⟨k,h2,h3.congr h⟩⟩))
 · exact .inr (.inr (.inr ⟨h1,h2,h3,h4.congr h⟩))
theorem waysP_congr {l:List Int} {N:Nv} {X:Nx} {bh bh':Nat→List Nat} {rch rch':Nat→Bool} {s:Nat} (h:∀ n s,s ∈ bh n ↔ s ∈ bh' n) (hr:rch (N.rule s).toNat=rch' (N.rule s).toNat):waysP l N X bh rch s=waysP l N X bh' rch' s:=by
 refine inc_ext waysP_inc waysP_inc fun j => ?_
 rw [waysP_mem,waysP_mem,hr]
 constructor
 · rintro ⟨h1,r,e,h2,h3,h4⟩; exact ⟨h1,r,e,h2,h3,h4.congr fun n s => (h n s).1⟩
 · rintro ⟨h1,r,e,h2,h3,h4⟩; exact ⟨h1,r,e,h2,h3,h4.congr fun n s => (h n s).2⟩
def bhR (m:Nat):List Eg→List Nat
 | [] => []
 | e :: r => if e.kind=2∧e.num.toNat=m then e.to :: bhR m r else bhR m r
def bhX:List (List Eg)→Nat→List Nat
 | [],_ => []
 | r :: rs,m => bhR m r ++ bhX rs m
theorem bhR_mem {m s:Nat}:∀ {r:List Eg},s ∈ bhR m r ↔ ∃ e,e ∈ r∧e.kind=2∧e.num.toNat=m∧e.to=s
 | [] => by simp [bhR]
 | e :: r => by
  unfold bhR
  split
  · rename_i h
    rw [List.mem_cons,bhR_mem]
    constructor
    · rintro (q | ⟨e',h1,h2⟩)
      · exact ⟨e,by simp,h.1,h.2,q.symm⟩
      · exact ⟨e',by simp [h1],h2⟩
    · rintro ⟨e',h1,h2,h3,h4⟩
      rcases List.mem_cons.1 h1 with rfl | h1
      · exact .inl h4.symm
      · exact .inr ⟨e',h1,h2,h3,h4⟩
  · rename_i h
    rw [bhR_mem]
    constructor
    · rintro ⟨e',h1,h2⟩; exact ⟨e',by simp [h1],h2⟩
    · rintro ⟨e',h1,h2,h3,h4⟩
      rcases List.mem_cons.1 h1 with rfl | h1
      · exact absurd ⟨h2,h3⟩ h
      · exact ⟨e',h1,h2,h3,h4⟩
theorem bhX_mem {m s:Nat}:∀ {es:List (List Eg)},s ∈ bhX es m ↔ ∃ (t:Nat) (r:List Eg) (e:Eg),es[t]?=some r∧e ∈ r∧e.kind=2∧e.num.toNat=m∧e.to=s
 | [] => by simp [bhX]
 | r :: rs => by
  unfold bhX
  rw [List.mem_append,bhR_mem,bhX_mem]
  constructor
  · rintro (⟨e,h⟩ | ⟨t,r',e,h1,h⟩)
    · exact ⟨0,r,e,rfl,h⟩
    · exact ⟨t+1,r',e,by simpa using h1,h⟩
  · rintro ⟨t,r',e,h1,h⟩
    cases t with
    | zero => simp at h1; subst h1; exact .inl ⟨e,h⟩
    | succ t => simp at h1; exact .inr ⟨t,r',e,h1,h⟩
def rcR:List Eg→List Nat→List Nat
 | [],A => A
 | e :: r,A => if e.kind=2∧A.contains e.num.toNat=false then rcR r (e.num.toNat :: A) else rcR r A
def rcX (N:Nv):List (List Eg)→Nat→List Nat→List Nat
 | [],_,A => A
 | r :: rs,t,A => rcX N rs (t+1) (if A.contains (N.rule t).toNat then rcR r A else A)
def rcN (N:Nv):Nat→List Nat→List Nat
 | 0,A => A
 | n+1,A => rcN N n (rcX N N.es 0 A)
theorem rcR_ok {N:Nv} {t:Nat} {r:List Eg} (hr:N.es[t]?=some r) (h:RcP N 0 (N.rule t).toNat):∀ (r':List Eg) (A:List Nat),(∀ e ∈ r',e ∈ r)→(∀ m ∈ A,RcP N 0 m)→∀ m ∈ rcR r' A,RcP N 0 m
 | [],A,_,hA => hA
 | e :: r',A,hs,hA => by
  unfold rcR
  split
  · rename_i q
    refine rcR_ok hr h r' _ (fun e he => hs e (by simp [he])) fun m hm => ?_
    rcases List.mem_cons.1 hm with rfl | hm
    · exact .step h hr rfl (hs e (by simp)) q.1
    · exact hA m hm
  · exact rcR_ok hr h r' _ (fun e he => hs e (by simp [he])) hA
theorem rcX_ok {N:Nv}:∀ (rs:List (List Eg)) (t:Nat) (A:List Nat),(∀ i r,rs[i]?=some r→N.es[t+i]?=some r)→(∀ m ∈ A,RcP N 0 m)→∀ m ∈ rcX N rs t A,RcP N 0 m
 | [],t,A,_,hA => hA
 | r :: rs,t,A,hs,hA => by
  unfold rcX
  refine rcX_ok rs (t+1) _ (fun i r' hi => by have:=hs (i+1) r' (by simpa using hi); rw [show t+1+i=t+(i+1) by omega]; exact this) ?_
  split
  · rename_i q
    exact rcR_ok (hs 0 r rfl) (hA _ (by simpa using q)) r A (fun _ h => h) hA
  · exact hA
theorem rcN_ok {N:Nv}:∀ (n:Nat) (A:List Nat),(∀ m ∈ A,RcP N 0 m)→∀ m ∈ rcN N n A,RcP N 0 m
 | 0,A,hA => hA
 | n+1,A,hA => rcN_ok n _ (rcX_ok N.es 0 A (fun i r h => by rw [Nat.zero_add]; exact h) hA)
def rcAll (R:Nat) (A:List Nat):Bool:=(List.range R).all fun m => A.contains m
set_option maxRecDepth 1000000
def miniN:Nv:=⟨[[⟨0,0,3⟩],[],[⟨1,0,1⟩],[⟨0,0,4⟩,⟨0,0,2⟩],[⟨2,1,3⟩],[⟨0,0,7⟩,⟨0,0,18⟩],[],[⟨1,4,8⟩],[⟨1,1,9⟩],[⟨1,12,10⟩],[⟨0,0,12⟩,⟨0,0,11⟩],[⟨1,13,17⟩],[⟨1,1,13⟩],[⟨0,0,14⟩],[⟨0,0,15⟩,⟨0,0,11⟩],[⟨1,16,16⟩],[⟨1,1,14⟩],[⟨2,2,6⟩],[⟨2,3,6⟩],[⟨1,14,21⟩],[],[⟨0,0,23⟩],[⟨1,15,20⟩],[⟨0,0,24⟩,⟨0,0,22⟩],[⟨2,3,23⟩],[⟨0,0,27⟩,⟨0,0,32⟩,⟨0,0,33⟩,⟨0,0,36⟩,⟨0,0,40⟩,⟨0,0,41⟩,⟨0,0,45⟩],[],[⟨1,5,28⟩],[⟨1,1,29⟩],[⟨1,18,30⟩],[⟨2,7,31⟩],[⟨1,17,26⟩],[⟨2,4,26⟩],[⟨1,8,34⟩],[⟨2,7,35⟩],[⟨2,2,26⟩],[⟨1,9,37⟩],[⟨0,0,39⟩,⟨0,0,38⟩],[⟨1,17,26⟩],[⟨2,7,38⟩],[⟨2,2,26⟩],[⟨2,5,42⟩],[⟨1,18,43⟩],[⟨2,7,44⟩],[⟨1,17,26⟩],[⟨2,5,46⟩],[⟨1,12,47⟩],[⟨0,0,49⟩,⟨0,0,48⟩],[⟨1,13,50⟩],[⟨2,6,48⟩],[⟨1,17,26⟩],[⟨1,6,53⟩],[],[⟨2,7,54⟩],[⟨2,2,55⟩],[⟨0,0,56⟩,⟨0,0,52⟩],[⟨1,7,57⟩],[⟨0,0,58⟩,⟨0,0,59⟩],[⟨2,2,52⟩],[⟨2,4,52⟩],[⟨1,1,62⟩],[],[⟨0,0,63⟩],[⟨0,0,64⟩,⟨0,0,61⟩],[⟨1,19,65⟩],[⟨1,1,63⟩],[⟨2,7,68⟩],[],[⟨0,0,69⟩],[⟨0,0,70⟩,⟨0,0,67⟩],[⟨1,16,71⟩],[⟨2,7,69⟩],[⟨2,8,74⟩],[],[⟨0,0,75⟩,⟨0,0,73⟩],[⟨0,0,77⟩,⟨0,0,78⟩,⟨0,0,79⟩],[⟨2,8,73⟩],[⟨1,24,76⟩],[⟨1,25,76⟩],[⟨1,26,76⟩],[⟨2,9,82⟩],[],[⟨0,0,83⟩],[⟨0,0,84⟩,⟨0,0,81⟩],[⟨0,0,86⟩,⟨0,0,87⟩],[⟨2,9,83⟩],[⟨1,20,85⟩],[⟨1,21,85⟩],[⟨2,10,90⟩],[],[⟨0,0,91⟩],[⟨0,0,92⟩,⟨0,0,89⟩],[⟨0,0,94⟩,⟨0,0,95⟩],[⟨2,10,91⟩],[⟨1,22,93⟩],[⟨1,23,93⟩],[⟨0,0,98⟩,⟨0,0,99⟩,⟨0,0,100⟩,⟨0,0,101⟩,⟨0,0,102⟩,⟨0,0,105⟩,⟨0,0,107⟩,⟨0,0,109⟩],[],[⟨1,2,97⟩],[⟨1,3,97⟩],[⟨1,10,97⟩],[⟨1,11,97⟩],[⟨1,12,103⟩],[⟨2,7,104⟩],[⟨1,13,97⟩],[⟨1,21,106⟩],[⟨2,10,97⟩],[⟨1,27,108⟩],[⟨2,10,97⟩],[⟨2,5,110⟩],[⟨0,0,111⟩,⟨0,0,97⟩],[⟨1,12,112⟩],[⟨0,0,114⟩,⟨0,0,113⟩],[⟨1,13,97⟩],[⟨2,6,113⟩]],[0,0,0,0,0,1,1,1,1,1,1,1,1,1,1,1,1,1,1,2,2,2,2,2,2,3,3,3,3,3,3,3,3,3,3,3,3,3,3,3,3,3,3,3,3,3,3,3,3,3,3,4,4,4,4,4,4,4,4,4,5,5,5,5,5,5,6,6,6,6,6,6,7,7,7,7,7,7,7,7,8,8,8,8,8,8,8,8,9,9,9,9,9,9,9,9,10,10,10,10,10,10,10,10,10,10,10,10,10,10,10,10,10,10,10]⟩
def miniX:Nx:=⟨[0,5,19,25,51,60,66,72,80,88,96],[1,6,20,26,52,61,67,73,81,89,97],(newX miniG).ca,(newX miniG).lg⟩
theorem mini_N:(newN miniG).N=miniN:=by kernel_rfl
theorem mini_X:newX miniG=miniX:=by kernel_rfl
theorem mini_rc:rcAll 11 (rcN miniN 11 [0])=true:=by kernel_rfl
theorem mini_w0:waysX miniN miniX [] (bhX miniN.es) [⟨0,0,27⟩,⟨0,0,32⟩,⟨0,0,33⟩,⟨0,0,36⟩,⟨0,0,40⟩,⟨0,0,41⟩,⟨0,0,45⟩] 0=some [0,1,2,3,4,5,6]:=by kernel_rfl
theorem mini_w1:waysX miniN miniX [5] (bhX miniN.es) [⟨0,0,27⟩,⟨0,0,32⟩,⟨0,0,33⟩,⟨0,0,36⟩,⟨0,0,40⟩,⟨0,0,41⟩,⟨0,0,45⟩] 0=some [0]:=by kernel_rfl
theorem mini_w2:waysX miniN miniX [1] (bhX miniN.es) [⟨0,0,27⟩,⟨0,0,32⟩,⟨0,0,33⟩,⟨0,0,36⟩,⟨0,0,40⟩,⟨0,0,41⟩,⟨0,0,45⟩] 0=some [5,6]:=by kernel_rfl
theorem mini_w3:waysX miniN miniX [1,18] (bhX miniN.es) [⟨0,0,27⟩,⟨0,0,32⟩,⟨0,0,33⟩,⟨0,0,36⟩,⟨0,0,40⟩,⟨0,0,41⟩,⟨0,0,45⟩] 0=some [5]:=by kernel_rfl
theorem mini_w4:waysX miniN miniX [1,12] (bhX miniN.es) [⟨0,0,27⟩,⟨0,0,32⟩,⟨0,0,33⟩,⟨0,0,36⟩,⟨0,0,40⟩,⟨0,0,41⟩,⟨0,0,45⟩] 0=some [6]:=by kernel_rfl
theorem mini_w5:waysX miniN miniX [13] (bhX miniN.es) [⟨0,0,27⟩,⟨0,0,32⟩,⟨0,0,33⟩,⟨0,0,36⟩,⟨0,0,40⟩,⟨0,0,41⟩,⟨0,0,45⟩] 0=some []:=by kernel_rfl
theorem mini_st:(newX miniG).ent 3 < (newN miniG).N.es.length:=((newN_G (GOk.of mini_ok)).en 3 (by decide)).1
theorem mini_ways {l:List Int} {bh:Nat→List Nat} {rch:Nat→Bool} (hB:BhOk (newN miniG).N miniG.rules.length rch bh) {js:List Nat} (h:waysX miniN miniX l (bhX miniN.es) [⟨0,0,27⟩,⟨0,0,32⟩,⟨0,0,33⟩,⟨0,0,36⟩,⟨0,0,40⟩,⟨0,0,41⟩,⟨0,0,45⟩] 0=some js):waysP l (newN miniG).N (newX miniG) bh rch ((newX miniG).ent 3)=js:=by
 have hk:=GOk.of mini_ok
 have hN:=newN_G hk
 have hall:∀ m,m < 11→RcP (newN miniG).N 0 m:=fun m hm => by
  have h1:=mini_rc
  rw [← mini_N] at h1
  unfold rcAll at h1
  rw [List.all_eq_true] at h1
  have h2:=h1 m (by simpa using hm)
  exact rcN_ok 11 [0] (fun m hm => by simp at hm; subst hm; exact .refl) m (by simpa using h2)
 have hrr:∀ t,t < (newN miniG).N.es.length→RcP (newN miniG).N 0 ((newN miniG).N.rule t).toNat:=fun t ht => hall _ (hN.rr t ht).2
 have hmem:∀ n s,s ∈ bh n ↔ s ∈ bhX (newN miniG).N.es n:=fun n s => by
  rw [hB.mem,bhX_mem]
  constructor
  · rintro ⟨t,r,e,q1,q2,q3,q4,q5,-⟩; exact ⟨t,r,e,q1,q2,q3,q4,q5⟩
  · rintro ⟨t,r,e,q1,q2,q3,q4,q5⟩; exact ⟨t,r,e,q1,q2,q3,q4,q5,hrr t (List.getElem?_eq_some_iff.1 q1).1⟩
 have hget:(newN miniG).N.es[(newX miniG).ent 3]?=some [⟨0,0,27⟩,⟨0,0,32⟩,⟨0,0,33⟩,⟨0,0,36⟩,⟨0,0,40⟩,⟨0,0,41⟩,⟨0,0,45⟩]:=by rw [mini_N,mini_X]; kernel_rfl
 rw [← mini_N,← mini_X] at h
 have hb:∀ n,∀ s ∈ bhX (newN miniG).N.es n,s < (newN miniG).N.es.length:=fun n s hs => by
  obtain ⟨t,r,e,q1,q2,q3,q4,q5⟩:=bhX_mem.1 hs
  rw [← q5]; exact (hN.ed t r q1 e q2).2.2.2.1
 rw [waysP_congr (rch':=fun _ => true) hmem ((hB.rch _).2 (hrr _ mini_st))]
 exact waysX_ok hN hb hget rfl h
end Go.Am
namespace Go.Am
open Go Go.Proofs
variable {fz:Nat→Md}
theorem SlV.pre {σ:St} {k:Nat} {l:List Int} {u:Nat} (hk:σ.get k=.cells (l.map fun n => A.d (.int .i64 n))) (hu:u≤l.length):SlV 1 σ (.row k 0 u 1) (intsD (l.take u)) where
 all:=fun x hx => by obtain ⟨n,-,rfl⟩:=List.mem_map.1 hx; rfl
 len:=by rw [sliceLen_row,hk,intsD_len,List.length_take,Nat.min_eq_left hu]; rfl
 sc:=by
  rw [sliceCells_row hk (by rw [List.length_map]; omega),List.drop_zero,Nat.mul_one,← List.map_take]
  congr 1
  generalize l.take u=l2
  induction l2 with
  | nil => rfl
  | cons x l2 ih => simp only [intsD,List.map_cons,List.flatMap_cons,id,List.singleton_append] at ih ⊢; rw [ih]
 idx:=by
  intro kd i x hx
  have hi:i < u:=by
   have:=(List.getElem?_eq_some_iff.1 hx).1
   rw [intsD_len,List.length_take] at this; omega
  refine ⟨_,_,by rw [indexK_row,hk]; exact indexR_nat hi,fun kd' b z zv => ⟨[k],?_⟩⟩
  rw [loadK_ptr,hk,loadB_cells]
  congr 1
  have hil:i < l.length:=by omega
  have hx2:x=[.int .i64 l[i]]:=by
   simp [intsD,List.getElem?_take_of_lt hi,hil] at hx; exact hx.symm
  subst hx2
  cases kd'.agg with
  | true =>
   rw [partOf_t,partOf_t,if_pos (by rw [List.length_map]; omega),if_pos (by simp)]
   simp only [Nat.zero_add,Nat.mul_one,List.map_cons,List.map_nil,List.drop_zero,List.take_succ_cons,List.take_zero]
   congr 2
   rw [List.drop_eq_getElem_cons (by rw [List.length_map]; exact hil),List.take_succ_cons,List.take_zero,List.getElem_map]
  | false => rw [partOf_f,partOf_f]; simp [hil]
theorem TokA.cut {ts:List Nat} {σ:St} {k:Nat} {l:List Int} {u:Nat} (hk:σ.get k=.cells (l.map fun n => A.d (.int .i64 n))) (hm:k ∈ ts) (hu:u≤l.length):TokA ts σ (.row k 0 u 1) (l.take u) :=
 ⟨fun ρ _ hρ => SlV.pre ((hρ k hm).trans hk) hu,rfl,rfl⟩
theorem TokA.lit {ts:List Nat} {σ:St} {k:Nat} {l:List Int} (hk:σ.get k=.cells (l.map fun n => A.d (.int .i64 n))) (hm:k ∈ ts):TokA ts σ (.row k 0 l.length 1) l:=by
 have:=TokA.cut (u:=l.length) hk hm (Nat.le_refl _)
 rw [List.take_length] at this; exact this
theorem TkCut.lit {ts:List Nat} {σ:St} {k:Nat} {l:List Int} (hk:σ.get k=.cells (l.map fun n => A.d (.int .i64 n))) (hm:k ∈ ts):TkCut fz ts σ (.row k 0 l.length 1) l:=fun τ u _ hg hu => by
 have hk2:=(hg k hm).trans hk
 refine ⟨.row k 0 u 1,[k],fun tm => ?_,TokA.cut hk2 hm hu⟩
 unfold sliceT
 simp [evalOp,ev,Tm.at_set,bnd,ti25,ti3,hk2,hu]
set_option maxRecDepth 8000 in
set_option maxHeartbeats 16000000 in
theorem works_c (h64:∀ σ:St,CallsTo (XX fz) (.func 64 []) [] σ miniG.a σ []) (hnew:∀ (g:Gr) (σ:St),SmallG g→CallsTo (XX fz) (.func 19 []) [g.a] σ (.tup [.d (newV g).1,.d (.int .i64 (newV g).2)]) σ [])
 (h8:fz 8=.cut) (h30:fz 30=.keep) (h11:fz 11=.keep) (h36:fz 36=.keep) (h46:fz 46=.cut) (h65:fz 65=.ice) (h66:fz 66=.ice) (h34:fz 34=.ice) (h67:fz 67=.cut) (h35:fz 35=.cut)
 (h31:fz 31=.keep) (h32:fz 32=.keep) (h16:fz 16=.keep) (h18:fz 18=.cut) (h14:fz 14=.keep) (h39:fz 39=.cut) (h40:fz 40=.keep) (h71:fz 71=.cut) (h106:fz 106=.keep) (h107:fz 107=.keep) (h120:fz 120=.keep) (h119:fz 119=.keep) (h108:fz 108=.keep) (σ:St) :
 CallsTo (XX fz) (.func 8 []) [] σ (.d (.bool true)) σ []:=by
 have h:=GOk.of mini_ok
 have hN:=newN_G h
 refine CallsTo.cut0 h8 fn8 (by simp) rfl ?_
 simp only [Try.f8,Option.getD_some]
 obtain ⟨a,σ1,W1,hc1,a1,a2,a3,kt,km,ra,ba,rea,tb,bh,rch,rfl,hT1,hB⟩:=mini_c h64 hnew h30 h11 h36 h46 h65 h66 h34 h67 h35 σ
 have hb:∀ n,∀ s ∈ bh n,s < (newN miniG).N.es.length:=fun n s hs => by
  obtain ⟨t,r,e,q1,q2,q3,q4,q5,-⟩:=(hB.mem n s).1 hs
  rw [← q5]; exact (hN.ed t r q1 e q2).2.2.2.1
 have lW1:low σ.n W1=[]:=low_all fun k hk => a3 k hk
 have hpush:∀ {τ:St} (cs:List A),σ.n≤τ.n→TbK σ.n kt km ra ba rea tb miniG.rules.length (newN miniG).N (newX miniG) bh rch τ→TbK σ.n kt km ra ba rea tb miniG.rules.length (newN miniG).N (newX miniG) bh rch (τ.push (.cells cs)):=fun cs _ hT => hT.stay (by rw [St.n_push]; omega) fun k _ hk => St.get_push_ne hk
 have lWs:∀ (τ:St) (W:List Nat),σ.n≤τ.n→TbK σ.n kt km ra ba rea tb miniG.rules.length (newN miniG).N (newX miniG) bh rch τ→(∀ k ∈ W,k=km∨τ.n≤k)→low σ.n W=[]:=fun τ W hn hT hW => low_all fun k hk => by
  rcases hW k hk with rfl | q
  · exact hT.kml.1
  · omega
 have ask:=fun (l ws:List Int) (tok want:A) (kq kw:Nat) (hl:l.length≤4) (hws:natsI (waysP l (newN miniG).N (newX miniG) bh rch ((newX miniG).ent 3))=ws) (hwl:ws.length < 1000000) (τ:St) (hT:TbK σ.n kt km ra ba rea tb miniG.rules.length (newN miniG).N (newX miniG) bh rch τ) (h1:TokA (kq :: tb) τ tok l) (h2:kq < τ.n∧kq≠km) (h3:TokA [kw] τ want ws) (h4:kw < τ.n∧kw≠km) =>
  waysL_c h31 h18 h14 h39 h40 h71 h106 h107 h120 h119 h108 mini_small mini_ok hl hb hB.len mini_st τ hT h1 h2 h3 h4 hws hwl
 simp only [go_sem]
 refine ⟨_,_,_,hc1,?_⟩
 have r7:∀ a:A,rep 7 [a]=[a,a,a,a,a,a,a]:=fun _ => rfl
 have r3:∀ a:A,rep 3 [a]=[a,a,a]:=fun _ => rfl
 have r2:∀ a:A,rep 2 [a]=[a,a]:=fun _ => rfl
 have r1:∀ a:A,rep 1 [a]=[a]:=fun _ => rfl
 have gtok:∀ (τ:St) (l:List Int),(τ.push (.cells (l.map fun n => A.d (.int .i64 n)))).get τ.n=.cells (l.map fun n => A.d (.int .i64 n)):=fun τ l => St.get_push_eq
 have gtok2:∀ (τ:St) (l:List Int) (b:List A),((τ.push (.cells (l.map fun n => A.d (.int .i64 n)))).push (.cells b)).get τ.n=.cells (l.map fun n => A.d (.int .i64 n)):=fun τ l b => by rw [St.get_push_ne (by rw [St.n_push]; omega),St.get_push_eq]
 have gwant2:∀ (τ:St) (l:List Int) (b:List A),((τ.push (.cells b)).push (.cells (l.map fun n => A.d (.int .i64 n)))).get (τ.n+1)=.cells (l.map fun n => A.d (.int .i64 n)):=fun τ l b => St.get_push_eq' (by rw [St.n_push])
 have hktm:kt≠km:=fun e => hT1.t.km.2.2 (e ▸ hT1.t.tab.kt)
 have hktn:=hT1.t.tab.lt _ hT1.t.tab.kt
 have hkmn:=hT1.t.km.2.1
 simp only [go_sem,lW1,r7,r3,r2,r1,List.length_cons,List.length_nil,List.set_cons_zero,List.set_cons_succ]
 have m1:σ.n≤σ1.n:=a1
 have hp2:=hpush [.d (.int .i64 0),.d (.int .i64 1),.d (.int .i64 2),.d (.int .i64 3),.d (.int .i64 4),.d (.int .i64 5),.d (.int .i64 6)] m1 hT1
 obtain ⟨σ2,W2,hc2,hT2,n2,g2,w2⟩:=ask [] [0,1,2,3,4,5,6] (.d (.slc true [])) (.row σ1.n 0 7 1) kt σ1.n (by decide) (by rw [mini_ways hB mini_w0]; rfl) (by decide) _ hp2 (TokA.data (z:=true) (l:=[])) ⟨by rw [St.n_push]; omega,hktm⟩ (TokA.lit (l:=[0,1,2,3,4,5,6]) (gtok σ1 [0,1,2,3,4,5,6]) (by simp)) ⟨by rw [St.n_push]; omega,by omega⟩
 have lW2:low σ.n W2=[]:=lWs _ W2 (by simp only [St.n_push]; omega) hp2 w2
 simp only [St.n_push] at n2
 have m2:σ.n≤σ2.n:=by omega
 have q2:=hT2.t.km.2.1
 refine ⟨_,_,_,hc2,?_⟩
 simp only [go_sem,lW2,r7,r3,r2,r1,List.length_cons,List.length_nil,List.set_cons_zero,List.set_cons_succ]
 have hp3:=hpush [.d (.int .i64 0)] (by rw [St.n_push]; omega) (hpush [.d (.int .i64 5)] m2 hT2)
 obtain ⟨σ3,W3,hc3,hT3,n3,g3,w3⟩:=ask [5] [0] (.row σ2.n 0 1 1) (.row (σ2.n+1) 0 1 1) σ2.n (σ2.n+1) (by decide) (by rw [mini_ways hB mini_w1]; rfl) (by decide) _ hp3 (TokA.lit (l:=[5]) (gtok2 σ2 [5] _) (by simp)) ⟨by rw [St.n_push,St.n_push]; omega,by omega⟩ (TokA.lit (l:=[0]) (gwant2 σ2 [0] _) (by simp)) ⟨by rw [St.n_push,St.n_push]; omega,by omega⟩
 have lW3:low σ.n W3=[]:=lWs _ W3 (by simp only [St.n_push]; omega) hp3 w3
 simp only [St.n_push] at n3
 have m3:σ.n≤σ3.n:=by omega
 have q3:=hT3.t.km.2.1
 refine ⟨_,_,_,hc3,?_⟩
 simp only [go_sem,lW3,r7,r3,r2,r1,List.length_cons,List.length_nil,List.set_cons_zero,List.set_cons_succ]
 have hp4:=hpush [.d (.int .i64 5),.d (.int .i64 6)] (by rw [St.n_push]; omega) (hpush [.d (.int .i64 1)] m3 hT3)
 obtain ⟨σ4,W4,hc4,hT4,n4,g4,w4⟩:=ask [1] [5,6] (.row σ3.n 0 1 1) (.row (σ3.n+1) 0 2 1) σ3.n (σ3.n+1) (by decide) (by rw [mini_ways hB mini_w2]; rfl) (by decide) _ hp4 (TokA.lit (l:=[1]) (gtok2 σ3 [1] _) (by simp)) ⟨by rw [St.n_push,St.n_push]; omega,by omega⟩ (TokA.lit (l:=[5,6]) (gwant2 σ3 [5,6] _) (by simp)) ⟨by rw [St.n_push,St.n_push]; omega,by omega⟩
 have lW4:low σ.n W4=[]:=lWs _ W4 (by simp only [St.n_push]; omega) hp4 w4
 simp only [St.n_push] at n4
 have m4:σ.n≤σ4.n:=by omega
 have q4:=hT4.t.km.2.1
 refine ⟨_,_,_,hc4,?_⟩
 simp only [go_sem,lW4,r7,r3,r2,r1,List.length_cons,List.length_nil,List.set_cons_zero,List.set_cons_succ]
 have hp5:=hpush [.d (.int .i64 5)] (by rw [St.n_push]; omega) (hpush [.d (.int .i64 1),.d (.int .i64 18)] m4 hT4)
 obtain ⟨σ5,W5,hc5,hT5,n5,g5,w5⟩:=ask [1,18] [5] (.row σ4.n 0 2 1) (.row (σ4.n+1) 0 1 1) σ4.n (σ4.n+1) (by decide) (by rw [mini_ways hB mini_w3]; rfl) (by decide) _ hp5 (TokA.lit (l:=[1,18]) (gtok2 σ4 [1,18] _) (by simp)) ⟨by rw [St.n_push,St.n_push]; omega,by omega⟩ (TokA.lit (l:=[5]) (gwant2 σ4 [5] _) (by simp)) ⟨by rw [St.n_push,St.n_push]; omega,by omega⟩
 have lW5:low σ.n W5=[]:=lWs _ W5 (by simp only [St.n_push]; omega) hp5 w5
 simp only [St.n_push] at n5
 have m5:σ.n≤σ5.n:=by omega
 have q5:=hT5.t.km.2.1
 refine ⟨_,_,_,hc5,?_⟩
 simp only [go_sem,lW5,r7,r3,r2,r1,List.length_cons,List.length_nil,List.set_cons_zero,List.set_cons_succ]
 have hp6:=hpush [.d (.int .i64 6)] (by rw [St.n_push]; omega) (hpush [.d (.int .i64 1),.d (.int .i64 12)] m5 hT5)
 obtain ⟨σ6,W6,hc6,hT6,n6,g6,w6⟩:=ask [1,12] [6] (.row σ5.n 0 2 1) (.row (σ5.n+1) 0 1 1) σ5.n (σ5.n+1) (by decide) (by rw [mini_ways hB mini_w4]; rfl) (by decide) _ hp6 (TokA.lit (l:=[1,12]) (gtok2 σ5 [1,12] _) (by simp)) ⟨by rw [St.n_push,St.n_push]; omega,by omega⟩ (TokA.lit (l:=[6]) (gwant2 σ5 [6] _) (by simp)) ⟨by rw [St.n_push,St.n_push]; omega,by omega⟩
 have lW6:low σ.n W6=[]:=lWs _ W6 (by simp only [St.n_push]; omega) hp6 w6
 simp only [St.n_push] at n6
 have m6:σ.n≤σ6.n:=by omega
 have q6:=hT6.t.km.2.1
 refine ⟨_,_,_,hc6,?_⟩
 simp only [go_sem,lW6,r7,r3,r2,r1,List.length_cons,List.length_nil,List.set_cons_zero,List.set_cons_succ]
 have hp7:=hpush [.d (.int .i64 13)] m6 hT6
 obtain ⟨σ7,W7,hc7,hT7,n7,g7,w7⟩:=ask [13] [] (.row σ6.n 0 1 1) (.d (.slc true [])) σ6.n kt (by decide) (by rw [mini_ways hB mini_w5]; rfl) (by decide) _ hp7 (TokA.lit (l:=[13]) (gtok σ6 [13]) (by simp)) ⟨by rw [St.n_push]; omega,by omega⟩ (TokA.data (z:=true) (l:=[])) ⟨by rw [St.n_push]; omega,hktm⟩
 have lW7:low σ.n W7=[]:=lWs _ W7 (by simp only [St.n_push]; omega) hp7 w7
 simp only [St.n_push] at n7
 have m7:σ.n≤σ7.n:=by omega
 have q7:=hT7.t.km.2.1
 refine ⟨_,_,_,hc7,?_⟩
 simp only [go_sem,lW7,r7,r3,r2,r1,List.length_cons,List.length_nil,List.set_cons_zero,List.set_cons_succ]
 have hp8:=hpush [.d (.int .i64 1),.d (.int .i64 18),.d (.int .i64 1)] m7 hT7
 obtain ⟨σ8,W8,hc8,hT8,n8,g8,w8⟩:=sure_c (l:=[1,18,1]) (kq:=σ7.n) h32 h16 h39 h40 h71 h106 h107 h120 h119 h108 mini_small mini_ok (by decide) hb hB.len mini_st _ hp8 (TokA.lit (l:=[1,18,1]) (gtok σ7 [1,18,1]) (by simp)) (TkCut.lit (gtok σ7 [1,18,1]) (by simp)) ⟨by rw [St.n_push]; omega,by omega⟩ (w:=5) (n:=2) (by
  simp [prU,mini_ways hB mini_w0,mini_ways hB mini_w2,mini_ways hB mini_w3])
 have lW8:low σ.n W8=[]:=lWs _ W8 (by simp only [St.n_push]; omega) hp8 w8
 simp only [St.n_push] at n8
 have m8:σ.n≤σ8.n:=by omega
 have q8:=hT8.t.km.2.1
 refine ⟨_,_,_,hc8,?_⟩
 simp only [go_sem,lW8,r7,r3,r2,r1,List.length_cons,List.length_nil,List.set_cons_zero,List.set_cons_succ]
 have hp9:=hpush [.d (.int .i64 13)] m8 hT8
 obtain ⟨σ9,W9,hc9,hT9,n9,g9,w9⟩:=sure_c (l:=[13]) (kq:=σ8.n) h32 h16 h39 h40 h71 h106 h107 h120 h119 h108 mini_small mini_ok (by decide) hb hB.len mini_st _ hp9 (TokA.lit (l:=[13]) (gtok σ8 [13]) (by simp)) (TkCut.lit (gtok σ8 [13]) (by simp)) ⟨by rw [St.n_push]; omega,by omega⟩ (w:=-1) (n:=1) (by
  simp [prU,mini_ways hB mini_w0,mini_ways hB mini_w5])
 have lW9:low σ.n W9=[]:=lWs _ W9 (by simp only [St.n_push]; omega) hp9 w9
 simp only [St.n_push] at n9
 have m9:σ.n≤σ9.n:=by omega
 have q9:=hT9.t.km.2.1
 refine ⟨_,_,_,hc9,?_⟩
 exact ⟨rfl,lW9⟩
end Go.Am

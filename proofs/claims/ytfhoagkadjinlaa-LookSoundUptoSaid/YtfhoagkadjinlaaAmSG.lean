/- Part SG of a proof that runs a program's calls on a small machine whose values bear no addresses: no conditions. -/
import Derived.Test.YtfhoagkadjinlaaAmSF
import Derived.Test.YtfhoagkadjinlaaAmO6
import Derived.Test.YtfhoagkadjinlaaAmEF
set_option autoImplicit false
set_option linter.unusedSimpArgs false
set_option linter.unusedVariables false
set_option linter.unusedSectionVars false
namespace Go.Am.Sm
open Go Go.Am Go.Proofs
variable {fz:Nat→Md}
def nasA (l:List Nat):List A:=l.map fun (n:Nat) => A.d (.int .i64 (n:Int))
theorem nasA_len (l:List Nat):(nasA l).length=l.length:=by simp [nasA]
theorem nasA_D (l:List Nat):nasA l=((intsD (natsI l)).flatMap id).map A.d:=by
 induction l with
 | nil => rfl
 | cons x l ih => simp [nasA,intsD,natsI] at ih ⊢; exact ih
def BkP (lo:Nat) (σ:St) (a:A) (B:List Nat) (ks:List Nat):Prop:=(a=.d (.slc true [])∧B=[]∧ks=[]) ∨
 ∃ k off cs,ks=[k]∧a=.row k off B.length 1∧σ.get k=.cells cs∧off+B.length=cs.length∧cs.drop off=nasA B∧lo≤k∧k < σ.n
section
variable {lo:Nat} {σ τ:St} {a:A} {B:List Nat} {ks:List Nat}
theorem BkP.lt (h:BkP lo σ a B ks):∀ k ∈ ks,lo≤k∧k < σ.n:=by
 rcases h with ⟨-,-,rfl⟩ | ⟨k,off,cs,rfl,-,-,-,-,h5,h6⟩
 · intro k hk; cases hk
 · intro j hj; simp at hj; subst hj; exact ⟨h5,h6⟩
theorem BkP.stay (h:BkP lo σ a B ks) (hn:σ.n≤τ.n) (hg:∀ k ∈ ks,τ.get k=σ.get k):BkP lo τ a B ks:=by
 rcases h with h | ⟨k,off,cs,rfl,h1,h2,h3,h4,h5,h6⟩
 · exact .inl h
 · exact .inr ⟨k,off,cs,rfl,h1,(hg k (by simp)).trans h2,h3,h4,h5,by omega⟩
theorem BkP.cell (h:BkP lo σ a B ks):a.cells=some [a]∧a.isCell=true:=by
 rcases h with ⟨rfl,-,-⟩ | ⟨k,off,cs,rfl,rfl,-⟩ <;> exact ⟨rfl,rfl⟩
theorem BkP.len (h:BkP lo σ a B ks):sliceLen σ a=some B.length:=by
 rcases h with ⟨rfl,rfl,-⟩ | ⟨k,off,cs,rfl,rfl,h2,-⟩
 · rfl
 · rw [sliceLen_row,h2]; rfl
theorem BkP.sc (h:BkP lo σ a B ks):sliceCells σ a=some (nasA B):=by
 rcases h with ⟨rfl,rfl,-⟩ | ⟨k,off,cs,rfl,rfl,h2,h3,h4,-⟩
 · rfl
 · dsimp only [sliceCells]
   rw [h2]; dsimp only
   rw [if_pos (by omega),h4,List.take_of_length_le (by rw [nasA_len]; omega)]
theorem nasA_cell (l:List Nat):(nasA l).all A.isCell=true:=by
 rw [List.all_eq_true]; intro x hx
 obtain ⟨n,-,rfl⟩:=List.mem_map.1 hx; rfl
theorem BkP.cons {n:Nat} (h:BkP lo σ a B ks) (hlo:lo≤σ.n) (hl:B.length < 1000000):∃ a' τ' T ks',appendA 1 8 (σ.push (.cells [.d (.int .i64 (n:Int))])) (.row σ.n 0 1 1) a=.val a' τ' T []∧BkP lo τ' a' (n :: B) ks' ∧
 (∀ k,k < σ.n→τ'.get k=σ.get k)∧σ.n≤τ'.n∧(∀ k ∈ T,σ.n≤k)∧a'.cells=some [a']∧a'.isCell=true:=by
 have h1:=h.stay (τ:=σ.push (.cells [.d (.int .i64 (n:Int))])) (by rw [St.n_push]; omega) fun k hk => St.get_push_ne (h.lt k hk).2
 unfold appendA
 rw [h1.sc,h1.len]
 dsimp only
 rw [if_neg (by rw [nasA_len,nasA_cell]; simp)]
 rw [St.get_push_eq]
 dsimp only
 rw [if_neg (by simp)]
 by_cases h0:B.length=0
 · rw [if_pos h0]
   have hB:B=[]:=List.length_eq_zero_iff.1 h0
   subst hB
   exact ⟨_,_,_,[σ.n],rfl,.inr ⟨σ.n,0,_,rfl,rfl,St.get_push_eq,rfl,rfl,hlo,by rw [St.n_push]; omega⟩,fun k hk => St.get_push_ne hk,by rw [St.n_push]; omega,(fun k hk => by cases hk),rfl,rfl⟩
 · rw [if_neg h0,if_pos (by omega)]
   refine ⟨_,_,_,[σ.n+1],rfl,.inr ⟨σ.n+1,0,_,rfl,?_,by rw [St.get_push_eq' (by simp only [St.n_set,St.n_push])],?_,?_,by omega,by simp only [St.n_push,St.n_set]; omega⟩,fun k hk => ?_,by simp only [St.n_push,St.n_set]; omega,(fun k hk => by simp at hk; omega),rfl,rfl⟩
   · simp only [St.n_push,List.length_cons]; rw [Nat.add_comm 1 B.length]
   · simp [nasA_len]; try omega
   · simp [nasA]
   · rw [St.get_push_ne (by simp only [St.n_set,St.n_push]; omega),St.get_set_ne (by omega),St.get_push_ne hk]
theorem BkP.tail {b:Nat} (h:BkP lo σ a (b :: B) ks):∃ k off cs,ks=[k]∧a=.row k off (B.length+1) 1∧σ.get k=.cells cs∧cs[off]?=some (.d (.int .i64 (b:Int)))∧off+1≤cs.length∧lo≤k∧k < σ.n∧BkP lo σ (.row k (off+1) B.length 1) B ks:=by
 rcases h with ⟨-,h,-⟩ | ⟨k,off,cs,rfl,rfl,hk,h3,h4,h5,h6⟩
 · cases h
 have h4':cs.drop off=A.d (.int .i64 (b:Int)) :: nasA B:=h4
 refine ⟨k,off,cs,rfl,rfl,hk,?_,by simp only [List.length_cons] at h3; omega,h5,h6,.inr ⟨k,off+1,cs,rfl,rfl,hk,by simp only [List.length_cons] at h3; omega,?_,h5,h6⟩⟩
 · have:(cs.drop off)[0]?=some (.d (.int .i64 (b:Int))):=by rw [h4']; rfl
   rw [List.getElem?_drop,Nat.add_zero] at this; exact this
 · rw [← List.drop_drop,h4']; rfl
theorem BkP.frz {l0 n:Nat} (h:BkP lo σ a B ks) (hl:l0≤lo) (hn:B.length+2≤n):∃ z,freeze σ l0 n a=some (.slc z (intsD (natsI B))):=by
 rcases h with ⟨rfl,rfl,-⟩ | ⟨k,off,cs,rfl,rfl,h2,h3,h4,h5,h6⟩
 · exact ⟨true,freeze_d⟩
 · refine ⟨false,?_⟩
   obtain ⟨q,rfl⟩:∃ q,n=q+1:=⟨n - 1,by omega⟩
   rw [freeze,if_neg (by omega),h2]
   dsimp only
   rw [if_pos (by omega),h4,List.take_of_length_le (by rw [nasA_len]; omega),nasA_D,freezeL_map (by rw [flat_len (es:=1) (fun x hx => intsD_one _ x hx),intsD_len,natsI_len]; omega)]
   have:B.length=(intsD (natsI B)).length:=by rw [intsD_len,natsI_len]
   rw [Option.map_some,this,chunks_flat fun x hx => intsD_one _ x hx]
end
theorem sliceT_25 {tm:Tm} {σ:St} {k off n sz bb:Nat} {cs:List A} {zz:Option (List A)} {zv:A} (hk:σ.get k=.cells cs) :
 sliceT (XX fz) tm σ 25 (some (.d (.int .i64 1))) none (.row k off (n+1) 1) (some ⟨.slc 3,sz,bb,zz,zv⟩)=.val (.row k (off+1) n 1) σ [] [k]:=by
 have h0:ev (FT.set (FT.set (FT.set FT.nil 0 (A.row k off (n+1) 1)) 1 (.d (.int .i64 1))) 2 .top) (.tmp 0)=A.row k off (n+1) 1:=by simp [ev,Tm.at_set]
 have h1:ev (FT.set (FT.set (FT.set FT.nil 0 (A.row k off (n+1) 1)) 1 (.d (.int .i64 1))) 2 .top) (.tmp 1)=.d (.int .i64 1):=by simp [ev,Tm.at_set]
 have h2:bnd (FT.set (FT.set (FT.set FT.nil 0 (A.row k off (n+1) 1)) 1 (.d (.int .i64 1))) 2 .top) (some (.tmp 1)) 0=some 1:=by unfold bnd; dsimp only; rw [h1]; rfl
 have h3:∀ tm:Tm,bnd tm none (n+1)=some (n+1):=fun _ => rfl
 unfold sliceT
 show evalOp _ _ _ _=_
 unfold evalOp
 simp only [Option.getD_some,Option.getD_none,Option.map_some,Option.map_none,ti25,ti3,h0,h2,h3,hk]
 rw [if_pos (by refine ⟨by omega,by omega,trivial⟩),Nat.add_sub_cancel,Nat.one_mul]
end Go.Am.Sm
namespace Go.Am.Sm
open Go Go.Am Go.Proofs
theorem simnew_L (g:Gr) (σ:St) (h:SmallG g):CallsTo (XX mdE) (.func 23 []) [g.a] σ (.tup [.d (simV g).1,.d (.int .i64 (simV g).2)]) σ [] :=
 simnew_c (fun g σ h => new_E g σ h) rfl rfl rfl rfl rfl rfl rfl g h σ
theorem net_L {g:Gr} (h:GOk g) (σ:St):CallsTo (XX mdE) (.func 34 []) [netP (newN g).N (newX g)] σ (.tup [netA (newN g).N (newX g),.d (.int .i64 0)]) σ []:=by
 have hN:=newN_G h
 have:=h.le
 exact net_c rfl rfl rfl rfl (newN_ne h) (newN_fits h) (by omega) (by have:=hN.enl; omega) (by have:=hN.lvl; omega) σ
theorem simV_ok {g:Gr} (h:checkP g=0):simV g=(.vptr (simC (newN g).N (newX g) (clD (newN g).N)) 0,0):=by unfold simV; rw [if_neg (by rw [h]; simp)]
theorem simV_no {g:Gr} (h:checkP g≠0):simV g=(.nptr,checkP g):=by unfold simV; rw [if_pos (by simpa using h)]
theorem newV_ok {g:Gr} (h:checkP g=0):newV g=(.vptr (netC (newN g).N (newX g)) 0,0):=by unfold newV; rw [if_neg (by rw [h]; simp)]
theorem newV_no {g:Gr} (h:checkP g≠0):newV g=(.nptr,checkP g):=by unfold newV; rw [if_pos (by simpa using h)]
theorem Ev.mid2 {X:X} {f nt lo:Nat} {ro:Option Nat} {c d:Item} {rest:List Item} {tm:Tm} {σ:St} {W:List Nat} {Q:Out→Prop} (I:Tm→St→List Nat→Prop) (h2:∀ rest,(∀ tm σ W,I tm σ W→Ev X f nt ro lo rest tm σ W Q)→Ev X f nt ro lo (c :: d :: rest) tm σ W Q) (h1:∀ tm σ W,I tm σ W→Ev X f nt ro lo rest tm σ W Q):Ev X f nt ro lo (c :: d :: rest) tm σ W Q:=h2 rest h1
theorem CallsTo.iceN {X:X} {f:Nat} {args:List A} {F:AFn} {σ:St} {P:A→Prop} (hz:X.fz f=.ice) (hF:X.fn f=some F) (hl:args.length≤F.nt)
 (e:Ev X f F.nt none σ.n [.code F.body] (initTm args 0 .nil) σ [] (RetQ X F.results fun a σ1 W1 => W1=[]∧∃ r,freezeV σ1 σ.n fzDepth a=some r∧P r)):∃ r,CallsTo X (.func f []) args σ r σ []∧P r:=by
 obtain ⟨n,o,hn,hq⟩:=e
 cases o with
 | leave _ _ _ => exact hq.elim
 | ret tm σ1 W1 =>
  unfold RetQ at hq
  dsimp only at hq
  split at hq
  · rename_i l hl'
    obtain ⟨rfl,r,hr,h6⟩:=hq
    exact ⟨r,CallsTo.ofQ hF (by simpa using hl) ⟨n,_,by rw [List.append_nil]; exact hn,by unfold RetQ; dsimp only; rw [hl']; simp [leaveCall,hz,hr,cutSt]⟩,h6⟩
  · exact hq.elim
theorem SpOk.tail {N:Nv} {s b:Nat} {B:List Nat} (h:SpOk N s (b :: B)):SpOk N b B :=
 ⟨h.bs b (by simp),fun c hc => h.bs c (by simp [hc]),h.ch.2,by have:=h.ln; simp only [List.length_cons] at this; omega⟩
theorem SpOk.move {N:Nv} {s t:Nat} {B:List Nat} (h:SpOk N s B) (ht:t < N.es.length) (hr:N.rule t=N.rule s):SpOk N t B:=⟨ht,h.bs,hr ▸ h.ch,h.ln⟩
theorem SpOk.call {N:Nv} {X:Nx} {R:Nat} (hN:NetG N X R) {s:Nat} {B:List Nat} {r:List Eg} {e:Eg} (h:SpOk N s B) (h1:N.es[s]?=some r) (h2:e ∈ r) (h3:e.kind=2) (hl:B.length < 8192):SpOk N (X.ent e.num.toNat) (e.to :: B):=by
 obtain ⟨k1,k2,k3,k4,k5,k6⟩:=hN.ed s r h1 e h2
 obtain ⟨q1,q2,q3⟩:=hN.en _ (k6 h3)
 refine ⟨q1,fun b hb => ?_,⟨?_,?_⟩,by simp only [List.length_cons]; omega⟩
 · rcases List.mem_cons.1 hb with rfl | hb
   · exact k4
   · exact h.bs b hb
 · rw [q3,Int.toNat_of_nonneg k3]; exact clX_mem h1 h2 h3
 · rw [k5]; exact h.ch
structure StP (n:Nat) (g:Gr) (s:Nat) (B:List Nat) (ks:List Nat) (τ:St):Prop where
 nn:n+5≤τ.n
 gg:τ.get n=.cells g.c
 gn:τ.get (n+3)=.cells [.d (newN g).N.esD,.d (slD (newX g).en),.d (slD (newX g).lv)]
 g1:τ.get (n+1)=.cells [.d (.slc true []),.d (.slc true []),.d (.slc true [])]
 g2:τ.get (n+2)=.cells [.d (.int .i64 0),.d (.slc true [])]
 ba:∃ ba,τ.get (n+4)=.cells [.d (.int .i64 (s:Int)),ba]∧BkP (n+5) τ ba B ks
 sp:SpOk (newN g).N s B
def stNo:A:=.tup [.agg [.d (.slc true []),.d (.slc true []),.d (.slc true [])],.agg [.d (.int .i64 0),.d (.slc true [])],.d (.bool false)]
def stAt (g:Gr) (s:Nat) (B:List Nat) (z:Bool):A:=.tup [netA (newN g).N (newX g),.agg [.d (.int .i64 (s:Int)),.d (.slc z (intsD (natsI B)))],.d (.bool true)]
set_option maxHeartbeats 16000000 in
theorem stand_c {g:Gr} (hg:SmallG g) {way:List Int} {zw:Bool} (hw:way.length < 1000000000) (hL:g.rules.length < 1000000000) (σ:St) :
 ∃ r,CallsTo (XX mdE) (.func 25 []) [g.a,.d (.slc zw (intsD way))] σ r σ []∧((checkP g≠0∧r=stNo)∨(checkP g=0∧∃ s B z,SpOk (newN g).N s B∧B.length≤30∧r=stAt g s B z)):=by
 refine CallsTo.iceN rfl fn25 (by simp) ?_
 simp only [Try.f25,Option.getD_some]
 simp only [go_sem,Gr.a]
 refine ⟨_,_,_,new_E g _ hg,?_⟩
 by_cases hc:checkP g=0
 · have h:=GOk.of hc
   have hN:=newN_G h
   have hel:=(newN_fits h).e
   have c0:((0:Int) != 0)=false:=rfl
   rw [newV_ok hc]
   simp only [go_sem,c0]
   refine ⟨_,_,_,net_L h _,?_⟩
   have len1:∀ ρ:St,sliceLen ρ (.d (slD (newX g).en))=some g.rules.length:=fun ρ => by rw [len_sl,hN.enl]
   have len2:∀ ρ:St,sliceLen ρ (.d (slD (newX g).lv))=some g.rules.length:=fun ρ => by rw [len_sl,hN.lvl]
   have cc:((g.rules.length:Int) != (g.rules.length:Int))=false:=by simp
   have n1:σ.n≠σ.n+3:=by omega
   have in1:=fun (ρ:St) => index_sl (σ:=ρ) (kd:=.i64) (l:=(newX g).en) (i:=0) (by rw [hN.enl]; exact h.pos)
   have hp0:=hN.en 0 h.pos
   rw [hp0.2.1] at in1
   have in1:∀ ρ:St,indexK ρ 1 (.d (slD (newX g).en)) (.d (.int .i64 0))=.val (.d (.vptr [.int .i64 ((newX g).ent 0:Int)] 0)) ρ [] []:=in1
   simp only [go_sem,c0,netA,netC3,len1,len2,cc,n1,in1]
   have hg0:∀ k,k < σ.n→True:=fun _ _ => trivial
   have hS0:StP σ.n g ((newX g).ent 0) [] [] (((((((σ.push (.cells g.c)).push (.cells [.d (.slc true []),.d (.slc true []),.d (.slc true [])])).push (.cells [.d (.int .i64 0),.d (.slc true [])])).push (.cells [.d (.slc true []),.d (.slc true []),.d (.slc true [])])).set (σ.n+3) (.cells [.d (newN g).N.esD,.d (slD (newX g).en),.d (slD (newX g).lv)])).push (.cells [.d (.int .i64 0),.d (.slc true [])])).set (σ.n+4) (.cells [.d (.int .i64 ((newX g).ent 0:Int)),.d (.slc true [])])):=by
    refine ⟨by simp only [St.n_set,St.n_push]; omega,?_,?_,?_,?_,⟨_,St.get_set_eq,.inl ⟨rfl,rfl,rfl⟩⟩,⟨hp0.1,(fun b hb => by cases hb),hp0.2.2,Nat.zero_le _⟩⟩
    · rw [St.get_set_ne (by omega),St.get_push_ne (by simp only [St.n_push,St.n_set]; omega),St.get_set_ne (by omega),St.get_push_ne (by simp only [St.n_push]; omega),St.get_push_ne (by simp only [St.n_push]; omega),St.get_push_ne (by simp only [St.n_push]; omega),St.get_push_eq]
    all_goals simp [St.get_set,St.get_push,St.n_set,St.n_push]
   generalize (((((((σ.push (.cells g.c)).push (.cells [.d (.slc true []),.d (.slc true []),.d (.slc true [])])).push (.cells [.d (.int .i64 0),.d (.slc true [])])).push (.cells [.d (.slc true []),.d (.slc true []),.d (.slc true [])])).set (σ.n+3) (.cells [.d (newN g).N.esD,.d (slD (newX g).en),.d (slD (newX g).lv)])).push (.cells [.d (.int .i64 0),.d (.slc true [])])).set (σ.n+4) (.cells [.d (.int .i64 ((newX g).ent 0:Int)),.d (.slc true [])]))=τ0 at hS0
   refine Ev.mid2 (fun tm' τ' W' => ∃ (s:Nat) (B ks:List Nat),W'=[]∧StP σ.n g s B ks τ'∧B.length≤30∧tm'.at 4=.ptr (σ.n+1) 0∧tm'.at 5=.ptr (σ.n+2) 0∧tm'.at 9=.ptr (σ.n+3) 0∧tm'.at 11=.ptr (σ.n+4) 0) ?_ ?_
   · intro rest hI
     refine Ev.loop_ind (fun k tm τ W => ∃ (i s:Nat) (B ks:List Nat),k=way.length - i∧i≤way.length∧W=[]∧StP σ.n g s B ks τ∧B.length≤i∧i≤30∧tm.at 1=.d (.slc zw (intsD way))∧tm.at 4=.ptr (σ.n+1) 0∧tm.at 5=.ptr (σ.n+2) 0∧tm.at 9=.ptr (σ.n+3) 0∧tm.at 11=.ptr (σ.n+4) 0∧tm.at 12=.d (.int .i64 (i:Int))) ?_ way.length _ _ _ ⟨0,_,[],[],rfl,Nat.zero_le _,rfl,hS0,Nat.le_refl _,by omega,?_,?_,?_,?_,?_,?_⟩
     · clear hS0
       rintro k tm τ W ⟨i,s,B,ks,rfl,hi,rfl,hS,hBi,hi30,t1,t4,t5,t9,t11,t12⟩ ih
       have hlen:∀ ρ:St,sliceLen ρ (.d (.slc zw (intsD way)))=some way.length:=fun ρ => len_ints
       by_cases hl:i < way.length
       · by_cases h30:i < 30
         · have d30:decide ((i:Int) < 30)=true:=by rw [decide_eq_true_iff]; omega
           obtain ⟨ba,hba,hbk⟩:=hS.ba
           have hn:=hS.nn
           have hsN:=hS.sp.st
           have e1:decide ((s:Int) < 0)=false:=by simp
           have e2:decide ((s:Int) ≥ ((newN g).N.es.length:Int))=false:=by simpa using hsN
           have hget:(newN g).N.es[s]?=some (newN g).N.es[s]:=by simp [hsN]
           have ies:=fun (ρ:St) => index_es (σ:=ρ) (kd:=.i64) hget
           have hsl:=hbk.len
           simp only [go_sem,t1,t11,t12,t9,hlen,dec_lt' hl,d30,hba,hS.gn,e1,e2,len_es,ies,len_rw]
           by_cases hrow:(newN g).N.es[s].length=0
           · have c1:(((newN g).N.es[s].length:Int) == 0)=true:=by rw [hrow]; rfl
             have hr0:(newN g).N.es[s]=[]:=List.length_eq_zero_iff.1 hrow
             cases B with
             | nil =>
              have c2:(((0:Nat):Int) == 0)=true:=rfl
              rw [List.length_nil] at hsl
              simp only [go_sem,c1,t11,hba,hsl,c2]
              refine hI _ _ _ ⟨s,[],ks,rfl,hS,by simp,?_,?_,?_,?_⟩
              all_goals (simp only [go_sem,t4,t5,t9,t11])
             | cons b B =>
              have c2:(((B.length+1:Nat):Int) == 0)=false:=by rw [beq_eq_false_iff_ne]; omega
              rw [List.length_cons] at hsl
              obtain ⟨kb,off,cs,rfl,rfl,p1,p2,p3,p4,p5,p6⟩:=hbk.tail
              have ix0:∀ ρ:St,indexR ρ 1 kb off (B.length+1) 1 0 (.cells cs)=.val (.ptr kb (off+0 * 1)) ρ [] [kb]:=fun ρ => indexR_nat (i:=0) (by omega)
              simp only [Nat.zero_mul,Nat.add_zero] at ix0
              have hoff:off < cs.length:=by omega
              have hsl1:=fun (tm:Tm) => sliceT_25 (fz:=mdE) (tm:=tm) (off:=off) (n:=B.length) (sz:=1) (bb:=24) (zz:=some [.d (.slc true [])]) (zv:=.d (.slc true [])) p1
              have hcs:σ.n+4≠kb:=by omega
              have lz:low σ.n [σ.n+4]=[]:=by rw [low_cons_ge (by omega)]; rfl
              simp only [go_sem,c1,t11,hba,hsl,c2,p1,ix0,p2,hsl1,hoff]
              refine ⟨drawOk_rel [8] [] rfl (by kernel_rfl) rfl (by simp),?_⟩
              have w1:=wrap_succ' hl hw
              simp only [go_sem,t12,w1,lz]
              have hgk:∀ k,k≠σ.n+4→(τ.set (σ.n+4) (.cells [.d (.int .i64 (b:Int)),.row kb (off+1) B.length 1])).get k=τ.get k:=fun k hk => St.get_set_ne hk
              refine ih _ _ _ _ (by omega) ⟨i+1,b,B,[kb],rfl,hl,rfl,⟨by rw [St.n_set]; exact hn,(hgk _ (by omega)).trans hS.gg,(hgk _ (by omega)).trans hS.gn,(hgk _ (by omega)).trans hS.g1,(hgk _ (by omega)).trans hS.g2,⟨_,St.get_set_eq,p6.stay (by rw [St.n_set]; exact Nat.le_refl _) fun k hk => hgk k (by have:=(p6.lt k hk).1; omega)⟩,hS.sp.tail⟩,by simp only [List.length_cons] at hBi; omega,by omega,?_,?_,?_,?_,?_,?_⟩
              all_goals first | (simp only [go_sem,t1,t4,t5,t9,t11]; done) | (simp only [go_sem]; rfl)
           · have c1:(((newN g).N.es[s].length:Int) == 0)=false:=by rw [beq_eq_false_iff_ne]; omega
             have hll:(newN g).N.es[s].length < 1000000000:=by have:=(newN_fits h).l _ (List.getElem_mem hsN); omega
             obtain ⟨b1,b2⟩:=bring_lt (i:=way[i]) (n:=((newN g).N.es[s].length:Int)) (by omega) (by omega)
             have ixw:=fun (ρ:St) => index_ints (σ:=ρ) (z:=zw) hl
             simp only [go_sem,c1,t1,t12,ixw,len_rw]
             refine ⟨_,_,_,bring_call rfl _ _ _,?_⟩
             obtain ⟨j,hj⟩:∃ j:Nat,bringP way[i] ((newN g).N.es[s].length:Int)=(j:Int):=⟨_,(Int.toNat_of_nonneg b1).symm⟩
             rw [hj] at b2 ⊢
             have hjl:j < (newN g).N.es[s].length:=by omega
             have hge:(newN g).N.es[s][j]?=some (newN g).N.es[s][j]:=by simp [hjl]
             have hem:=List.getElem_mem hjl
             generalize (newN g).N.es[s][j]=e at hge hem
             obtain ⟨k1,k2,k3,k4,k5,k6⟩:=hN.ed s _ hget _ hem
             have irw:=fun (ρ:St) => index_rw (σ:=ρ) (kd:=.i64) hge
             have lze:low σ.n [τ.n]=[]:=by rw [low_cons_ge (by omega)]; rfl
             have hgk:∀ k,k < τ.n→((τ.push (.cells [.d (.int .i64 0),.d (.int .i64 0),.d (.int .i64 0)])).set τ.n (.cells [.d (.int .i64 e.kind),.d (.int .i64 e.num),.d (.int .i64 (e.to:Int))])).get k=τ.get k:=fun k hk => by
              rw [St.get_set_ne (by omega),St.get_push_ne hk]
             have hec:((τ.push (.cells [.d (.int .i64 0),.d (.int .i64 0),.d (.int .i64 0)])).set τ.n (.cells [.d (.int .i64 e.kind),.d (.int .i64 e.num),.d (.int .i64 (e.to:Int))])).get τ.n=.cells [.d (.int .i64 e.kind),.d (.int .i64 e.num),.d (.int .i64 (e.to:Int))]:=St.get_set_eq
             have hn1:((τ.push (.cells [.d (.int .i64 0),.d (.int .i64 0),.d (.int .i64 0)])).set τ.n (.cells [.d (.int .i64 e.kind),.d (.int .i64 e.num),.d (.int .i64 (e.to:Int))])).n=τ.n+1:=by simp only [St.n_set,St.n_push]
             have w1:=wrap_succ' hl hw
             simp only [go_sem,irw,Eg.D_c,lze]
             generalize ((τ.push (.cells [.d (.int .i64 0),.d (.int .i64 0),.d (.int .i64 0)])).set τ.n (.cells [.d (.int .i64 e.kind),.d (.int .i64 e.num),.d (.int .i64 (e.to:Int))]))=τ1 at hgk hec hn1
             have q0:τ1.get σ.n=.cells g.c:=(hgk _ (by omega)).trans hS.gg
             have q1:τ1.get (σ.n+1)=_:=(hgk _ (by omega)).trans hS.g1
             have q2:τ1.get (σ.n+2)=_:=(hgk _ (by omega)).trans hS.g2
             have q3:τ1.get (σ.n+3)=_:=(hgk _ (by omega)).trans hS.gn
             have q4:τ1.get (σ.n+4)=_:=(hgk _ (by omega)).trans hba
             have qb:BkP (σ.n+5) τ1 ba B ks:=hbk.stay (by omega) fun k hk => hgk k (hbk.lt k hk).2
             have hne4:σ.n+4≠τ.n:=by omega
             by_cases hk:e.kind=2
             · have c2:(e.kind == 2)=true:=by rw [hk]; rfl
               have hR:=k6 hk
               have hnn:=Int.toNat_of_nonneg k3
               have d1:decide (e.num ≥ 0)=true:=by simpa using k3
               have d2:decide (e.num < (g.rules.length:Int))=true:=by rw [decide_eq_true_iff]; omega
               have in2:=fun (ρ:St) => index_sl (σ:=ρ) (kd:=.i64) (l:=(newX g).en) (i:=e.num.toNat) (by rw [hN.enl]; exact hR)
               rw [(hN.en _ hR).2.1,hnn] at in2
               obtain ⟨a',τ2,T,ks',happ,r1,r2,r3,r4,r5,r6⟩:=qb.cons (n:=e.to) (by omega) (by omega)
               have q42:τ2.get (σ.n+4)=_:=(r2 _ (by omega)).trans q4
               have hne5:σ.n+4≠τ1.n:=by omega
               have hlt5:σ.n+4 < τ1.n:=by omega
               have lT:low σ.n T=[]:=low_all fun k hk => by have:=r4 k hk; omega
               have lz:low σ.n [σ.n+4]=[]:=by rw [low_cons_ge (by omega)]; rfl
               have mT:∀ k ∈ T,k≠σ.n+3∧k≠τ.n:=fun k hk => by have:=r4 k hk; omega
               have mT1:σ.n+3 ∉ T:=fun hk => by have:=r4 _ hk; omega
               have mT2:τ.n ∉ T:=fun hk => by have:=r4 _ hk; omega
               simp only [go_sem,c2,d1,d2,t9,t11,hec,q3,q4,len1,in2,happ,r5,r6,q42,hne4,hne5,hlt5]
               refine ⟨drawOk_rel [11,13] [(11,0),(11,1),(11,2),(11,3),(11,4),(11,5)] rfl (by kernel_rfl) rfl (by simp [meets]; exact ⟨fun k hk => (mT k hk).1,fun k hk => (mT k hk).2⟩),?_⟩
               simp only [go_sem,t12,w1,lT,lz]
               have hgs:∀ k,k≠σ.n+4→(τ2.set (σ.n+4) (.cells [.d (.int .i64 ((newX g).ent e.num.toNat:Int)),a'])).get k=τ2.get k:=fun k hk => St.get_set_ne hk
               refine ih _ _ _ _ (by omega) ⟨i+1,(newX g).ent e.num.toNat,e.to :: B,ks',rfl,hl,rfl,⟨by rw [St.n_set]; omega,(hgs _ (by omega)).trans ((r2 _ (by omega)).trans q0),(hgs _ (by omega)).trans ((r2 _ (by omega)).trans q3),(hgs _ (by omega)).trans ((r2 _ (by omega)).trans q1),(hgs _ (by omega)).trans ((r2 _ (by omega)).trans q2),⟨_,St.get_set_eq,r1.stay (by rw [St.n_set]; exact Nat.le_refl _) fun k hk => hgs k (by have:=(r1.lt k hk).1; omega)⟩,hS.sp.call hN hget hem hk (by omega)⟩,by simp only [List.length_cons]; omega,by omega,?_,?_,?_,?_,?_,?_⟩
               all_goals first | (simp only [go_sem,t1,t4,t5,t9,t11]; done) | (simp only [go_sem]; rfl)
             · have c2:(e.kind == 2)=false:=by simpa using hk
               have lz:low σ.n [σ.n+4]=[]:=by rw [low_cons_ge (by omega)]; rfl
               simp only [go_sem,c2,t9,t11,hec,q4,t12,w1,lz,hne4]
               have hgs:∀ k,k≠σ.n+4→(τ1.set (σ.n+4) (.cells [.d (.int .i64 (e.to:Int)),ba])).get k=τ1.get k:=fun k hk => St.get_set_ne hk
               refine ih _ _ _ _ (by omega) ⟨i+1,e.to,B,ks,rfl,hl,rfl,⟨by rw [St.n_set]; omega,(hgs _ (by omega)).trans q0,(hgs _ (by omega)).trans q3,(hgs _ (by omega)).trans q1,(hgs _ (by omega)).trans q2,⟨_,St.get_set_eq,qb.stay (by rw [St.n_set]; exact Nat.le_refl _) fun k hk => hgs k (by have:=(qb.lt k hk).1; omega)⟩,hS.sp.move k4 k5⟩,by omega,by omega,?_,?_,?_,?_,?_,?_⟩
               all_goals first | (simp only [go_sem,t1,t4,t5,t9,t11]; done) | (simp only [go_sem]; rfl)
         · have d30:decide ((i:Int) < 30)=false:=by rw [decide_eq_false_iff_not]; omega
           simp only [go_sem,t1,t12,hlen,dec_lt' hl,d30]
           refine hI _ _ _ ⟨s,B,ks,rfl,hS,by omega,?_,?_,?_,?_⟩
           all_goals (simp only [go_sem,t4,t5,t9,t11])
       · simp only [go_sem,t1,t12,hlen,dec_ge' hl]
         refine hI _ _ _ ⟨s,B,ks,rfl,hS,by omega,?_,?_,?_,?_⟩
         all_goals (simp only [go_sem,t4,t5,t9,t11])
     all_goals first | rfl | (simp only [go_sem]; done) | (simp only [go_sem]; rfl)
   · rintro tm τ W ⟨s,B,ks,rfl,hS,hB,t4,t5,t9,t11⟩
     obtain ⟨ba,hba,hbk⟩:=hS.ba
     obtain ⟨b1,b2⟩:=hbk.cell
     have hn:=hS.nn
     have l1:low σ.n [σ.n+1]=[]:=by rw [low_cons_ge (by omega)]; rfl
     have l2:low σ.n [σ.n+2]=[]:=by rw [low_cons_ge (by omega)]; rfl
     have n1:σ.n+4≠σ.n+1:=by omega
     have n2:σ.n+2≠σ.n+1:=by omega
     have n3:σ.n+1≠σ.n+2:=by omega
     have e3:decide ((s:Int) ≥ 0)=true:=decide_eq_true (by omega)
     have e4:decide ((s:Int) < ((newN g).N.es.length:Int))=true:=decide_eq_true (by have:=hS.sp.st; omega)
     simp only [go_sem,t4,t5,t9,t11,hS.gn,hba,hS.g1,hS.g2,b1,b2,n1,n2,n3,l1,l2,e3,e4,len_es]
     have hfz:fzDepth=1000000000000:=rfl
     have hbk2:BkP (σ.n+5) ((τ.set (σ.n+1) (.cells [.d (newN g).N.esD,.d (slD (newX g).en),.d (slD (newX g).lv)])).set (σ.n+2) (.cells [.d (.int .i64 (s:Int)),ba])) ba B ks:=hbk.stay (by simp only [St.n_set]; exact Nat.le_refl _) fun k hk => by
      have:=(hbk.lt k hk).1
      rw [St.get_set_ne (by omega),St.get_set_ne (by omega)]
     obtain ⟨z,hz⟩:=hbk2.frz (l0:=σ.n) (n:=fzDepth - 1 - 1) (by omega) (by omega)
     refine ⟨drawOk_rel [13,14] [(13,1),(13,6),(13,7),(13,8),(13,9),(13,10),(13,11),(13,12),(14,6),(14,7),(14,8),(14,9),(14,10),(14,11),(14,12)] rfl (by kernel_rfl) rfl (by simp [meets]),?_⟩
     rw [hz]
     simp only [go_sem,fzD0,fzD1,fzD2]
     exact ⟨_,rfl,.inr ⟨hc,s,B,z,hS.sp,hB,rfl⟩⟩
 · have c1:(checkP g != 0)=true:=by simpa using hc
   rw [newV_no hc]
   simp only [go_sem,c1,fzD0,fzD1,fzD2]
   exact ⟨_,rfl,.inl ⟨hc,rfl⟩⟩
end Go.Am.Sm

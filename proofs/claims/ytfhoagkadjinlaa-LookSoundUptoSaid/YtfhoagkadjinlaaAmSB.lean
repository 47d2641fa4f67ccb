/- Part SB of a proof that runs a program's calls on a small machine whose values bear no addresses: no conditions. -/
import Derived.Test.YtfhoagkadjinlaaAmK3
import Derived.Test.YtfhoagkadjinlaaAmSA
set_option autoImplicit false
set_option linter.unusedSimpArgs false
set_option linter.unusedVariables false
set_option linter.unusedSectionVars false
namespace Go.Am.Sm
open Go Go.Am Go.Proofs
variable {fz:Nat→Md}
def PlA (kr kM:Nat) (σ:St) (pa:A) (ps:List Nat):Prop:=(∃ z,pa=.d (.slc z (intsD (natsI ps)))) ∨
 ∃ kp,pa=.row kp 0 ps.length 1∧σ.get kp=.cells (ps.map fun (n:Nat) => A.d (.int .i64 (n:Int)))∧kp≠kr∧kp≠kM∧kp < σ.n
theorem PlA.stay {kr kM:Nat} {σ τ:St} {pa:A} {ps:List Nat} (h:PlA kr kM σ pa ps) (hn:σ.n≤τ.n) (hg:∀ k,k < σ.n→k≠kr→k≠kM→τ.get k=σ.get k):PlA kr kM τ pa ps:=by
 rcases h with h | ⟨kp,h1,h2,h3,h4,h5⟩
 · exact .inl h
 · exact .inr ⟨kp,h1,(hg kp h5 h3 h4).trans h2,h3,h4,by omega⟩
theorem PlA.len {kr kM:Nat} {σ:St} {pa:A} {ps:List Nat} (h:PlA kr kM σ pa ps):sliceLen σ pa=some ps.length:=by
 rcases h with ⟨z,rfl⟩ | ⟨kp,rfl,h2,-⟩
 · rw [len_ints,natsI_len]
 · rw [sliceLen_row,h2]; rfl
theorem PlA.idx {kr kM:Nat} {σ:St} {pa:A} {ps:List Nat} (h:PlA kr kM σ pa ps) {i:Nat} (hi:i < ps.length):∃ Pp R R2,indexK σ 1 pa (.d (.int .i64 (i:Int)))=.val Pp σ [] R∧loadK σ (some { kind:=TK.int IntKind.i64,size:=1,bytes:=8,zero:=some [A.d (D.int IntKind.i64 0)],zval:=A.d (D.int IntKind.i64 0) }) Pp=.val (.d (.int .i64 (ps[i]:Int))) σ [] R2:=by
 rcases h with ⟨z,rfl⟩ | ⟨kp,rfl,h2,-⟩
 · have:=index_ints (σ:=σ) (z:=z) (l:=natsI ps) (i:=i) (by rw [natsI_len]; exact hi)
   rw [show (natsI ps)[i]'(by rw [natsI_len]; exact hi)=(ps[i]:Int) by simp [natsI]] at this
   exact ⟨_,_,_,this,rfl⟩
 · refine ⟨.ptr kp (0+i * 1),[kp],[kp],?_,?_⟩
   · rw [indexK_row,h2]; exact indexR_nat hi
   · rw [loadK_ptr,h2,loadB_cells,Nat.zero_add,Nat.mul_one]
     show loadV σ [kp] (partOf false 1 (ps.map fun (n:Nat) => A.d (.int .i64 (n:Int))) i)=_
     rw [partOf_f,List.getElem?_map,List.getElem?_eq_getElem hi]; rfl
section
variable (fz) (kr kM lo:Nat) (sim tok:D) (l:List Int) (N:Nv) (X:Nx)
def RuleSpec (n p:Nat):Prop:=∀ (σ:St) (f:Nat) (M:List ((Nat × Nat) × D)),RunM kr kM sim tok f M σ→lo≤σ.n→MemoOk l N X f M→f≤l.length →
 ∃ (js:List Nat) (f':Nat) (M':List ((Nat × Nat) × D)) (σ':St) (W:List Nat),CallsTo (XX fz) (.func 115 []) [.ptr kr 0,.d (.int .i64 (n:Int)),.d (.int .i64 (p:Int))] σ (.d (slD (natsI js))) σ' W∧Mod σ σ' W∧σ'.n=σ.n ∧
  RunM kr kM sim tok f' M' σ'∧(∀ k ∈ W,k=kr∨k=kM)∧f≤f'∧f'≤l.length∧MemoOk l N X f' M'∧(f'=f∨Pg l N X (X.ent n) p f')∧AOk l N X (X.ent n) [p] (X.lve n) js f'
def AlongSpec (a:Nat) (ps:List Nat) (b:Nat):Prop:=∀ (pa:A) (σ:St) (f:Nat) (M:List ((Nat × Nat) × D)),PlA kr kM σ pa ps→RunM kr kM sim tok f M σ→lo≤σ.n→MemoOk l N X f M→f≤l.length →
 ∃ (js:List Nat) (f':Nat) (M':List ((Nat × Nat) × D)) (σ':St) (W:List Nat),CallsTo (XX fz) (.func 90 []) [.ptr kr 0,.d (.int .i64 (a:Int)),pa] σ (.d (slD (natsI js))) σ' W∧Mod σ σ' W∧σ'.n=σ.n ∧
  RunM kr kM sim tok f' M' σ'∧(∀ k ∈ W,k=kr∨k=kM)∧f≤f'∧f'≤l.length∧MemoOk l N X f' M'∧(f'=f∨∃ p ∈ ps,Pg l N X a p f')∧AOk l N X a ps b js f'
def msr (S todo:List (Nat × Nat)):Nat:=todo.length+(N.es.length * (l.length+1) - S.length)
structure AF (a:Nat) (ps:List Nat) (b f0:Nat) (σ:St) (vs:List (Nat × List A)) (f:Nat) (M:List ((Nat × Nat) × D)) (S todo:List (Nat × Nat)) (ks:List Nat) (out:List Nat) (oa:A) (ob:List Nat) (τ:St) (W:List Nat):Prop where
 fr:FrM σ.n kr kM sim tok f M S todo ks τ
 mod:Mod σ τ W
 mine:∀ k ∈ W,k=kr∨k=kM
 mo:MemoOk l N X f M
 B:AlB l N X a ps b f0 f S todo out
 ro:RowN 1 τ oa (intsD (natsI out)) ob
 od:∀ k ∈ ob,σ.n+4≤k∧k ∉ ks
 vs:∀ v ∈ vs,σ.n+4≤v.1∧v.1 < τ.n∧v.1 ∉ ks∧v.1 ∉ ob∧τ.get v.1=.cells v.2
end
section
variable {kr kM lo:Nat} {sim tok:D} {l:List Int} {N:Nv} {X:Nx} {a:Nat} {ps:List Nat} {b f0:Nat} {σ:St} {vs:List (Nat × List A)} {f:Nat} {M:List ((Nat × Nat) × D)} {S todo:List (Nat × Nat)} {ks:List Nat} {out:List Nat} {oa:A} {ob:List Nat} {τ:St} {W:List Nat}
theorem AF.tdl (h:AF kr kM sim tok l N X a ps b f0 σ vs f M S todo ks out oa ob τ W):∀ k ∈ ks,σ.n+4≤k∧k < τ.n:=by
 obtain ⟨av,-,td⟩:=h.fr.gt
 exact td.lt
theorem AF.reach (h85:fz 114=.keep) (hP:Plc σ.n kr kM) (hC:N.es.length * (l.length+1) < 1000000000) (h:AF kr kM sim tok l N X a ps b f0 σ vs f M S todo ks out oa ob τ W) {s p:Nat} (hs:s < N.es.length) (hp:p≤l.length) (hr:∃ p0 ∈ ps,Rn l N X a p0 s p) :
 ∃ (τ':St) (T:List Nat) (f':Nat) (S' todo':List (Nat × Nat)) (ks':List Nat),CallsTo (XX fz) (.func 114 [.ptr (σ.n+2) 0,.ptr (σ.n+3) 0,.ptr σ.n 0]) [.d (.int .i64 (s:Int)),.d (.int .i64 (p:Int))] τ (.tup []) τ' T ∧
  AF kr kM sim tok l N X a ps b f0 σ vs f' M S' todo' ks' out oa ob τ' (W ++ low σ.n T)∧(s,p) ∈ S'∧(∀ x ∈ S,x ∈ S')∧(∀ x ∈ S',x ∈ S∨x ∈ todo')∧(∀ x ∈ todo,x ∈ todo')∧f≤f'∧msr l N S' todo'=msr l N S todo:=by
 have hl:todo.length < 1000000000:=by have:=h.B.on; have:=h.B.cap; omega
 obtain ⟨τ',T,c,f',S',todo',ks',h1,h2,h3,h4,h5,h6⟩:=reach_c h85 hP h.fr hl s p
 have hn:=h.fr.n
 have hks:=h.tdl
 have l1:=hP.r
 have l2:=hP.m
 have hlow:∀ k ∈ low σ.n T,k=kr:=fun k hk => by
  obtain ⟨q1,q2⟩:=mem_low.1 hk
  rcases h6 k q1 with q | q | q | q | q
  · exact q
  · omega
  · omega
  · have:=hks k q; omega
  · omega
 have hsame:∀ k,σ.n+4≤k→k < τ.n→k ∉ ks→τ'.get k=τ.get k:=fun k q1 q2 q3 => h5 k q2 (by omega) (by omega) (by omega) q3
 have hks':∀ k,k < τ.n→k ∉ ks→k ∉ ks':=fun k q1 q2 => by
  rcases h4 with rfl | ⟨j,rfl,hj⟩
  · exact q2
  · simp; omega
 have keep:AlB l N X a ps b f0 f' S' todo' out→AF kr kM sim tok l N X a ps b f0 σ vs f' M S' todo' ks' out oa ob τ' (W ++ low σ.n T):=fun hB => by
  have hfo:f≤f':=by
   rcases h2 with ⟨-,-,-,e⟩ | ⟨-,-,-,e⟩
   · rw [e]; exact Nat.le_refl _
   · rw [e]; exact Nat.le_max_left _ _
  refine ⟨h1,h.mod.call h3,fun k hk => ?_,h.mo.mono hfo,hB,h.ro.stay h3.n fun k hk => hsame k (h.od k hk).1 (h.ro.1.lt hk) (h.od k hk).2,fun k hk => ⟨(h.od k hk).1,hks' k (h.ro.1.lt hk) (h.od k hk).2⟩,fun v hv => ?_⟩
  · rcases List.mem_append.1 hk with hk | hk
    · exact h.mine k hk
    · exact .inl (hlow k hk)
  · obtain ⟨v1,v2,v3,v4,v5⟩:=h.vs v hv
    exact ⟨v1,Nat.lt_of_lt_of_le v2 h3.n,hks' _ v2 v3,v4,(hsame _ v1 v2 v3).trans v5⟩
 rcases h2 with ⟨e,rfl,rfl,rfl⟩ | ⟨e,rfl,rfl,rfl⟩
 · exact ⟨τ',T,f',S',todo',ks',c,keep h.B,e,fun _ hx => hx,fun _ hx => .inl hx,fun _ hx => hx,Nat.le_refl _,rfl⟩
 · have hB:=h.B.reach hs hp hr e
   refine ⟨τ',T,_,_,_,ks',c,keep hB,by simp,fun x hx => List.mem_append_left _ hx,fun x hx => ?_,fun x hx => List.mem_append_left _ hx,Nat.le_max_left _ _,?_⟩
   · rcases List.mem_append.1 hx with hx | hx
     · exact .inl hx
     · exact .inr (List.mem_append_right _ hx)
   · have:=hB.cap
     simp only [List.length_append,List.length_singleton] at this
     unfold msr
     simp only [List.length_append,List.length_singleton]; omega
theorem AF.rule (hP:Plc σ.n kr kM) (hlo:lo≤σ.n) {n p:Nat} (hs:RuleSpec fz kr kM lo sim tok l N X n p) (h:AF kr kM sim tok l N X a ps b f0 σ vs f M S todo ks out oa ob τ W)
 (hr:∀ k,Pg l N X (X.ent n) p k→∃ p0 ∈ ps,Pg l N X a p0 k) :
 ∃ (js:List Nat) (τ':St) (T:List Nat) (f':Nat) (M':List ((Nat × Nat) × D)),CallsTo (XX fz) (.func 115 []) [.ptr kr 0,.d (.int .i64 (n:Int)),.d (.int .i64 (p:Int))] τ (.d (slD (natsI js))) τ' T ∧
  AF kr kM sim tok l N X a ps b f0 σ vs f' M' S todo ks out oa ob τ' (W ++ low σ.n T)∧f≤f'∧AOk l N X (X.ent n) [p] (X.lve n) js f':=by
 have hn:=h.fr.n
 have l1:=hP.r
 have l2:=hP.m
 obtain ⟨js,f',M',τ',T,c,hm,hn',hM,hT,h1,h2,h3,h4,h5⟩:=hs τ f M h.fr.run (by omega) h.mo h.B.fl
 have hsame:∀ k,σ.n≤k→k < τ.n→τ'.get k=τ.get k:=fun k q1 q2 => hm.same k q2 fun q => by
  rcases hT k q with e | e <;> omega
 refine ⟨js,τ',T,f',M',c,⟨⟨hM,?_,?_,?_,?_,by omega⟩,h.mod.call hm,fun k hk => ?_,h3,h.B.called h1 h2 (h4.imp id (hr _)),h.ro.stay hm.n fun k hk => hsame k (by have:=(h.od k hk).1; omega) (h.ro.1.lt hk),h.od,fun v hv => ?_⟩,h1,h5⟩
 · rw [hsame _ (Nat.le_refl _) (by omega)]; exact h.fr.gc
 · rw [hsame _ (by omega) (by omega)]; exact h.fr.gS
 · rw [hsame _ (by omega) (by omega)]; exact h.fr.gs
 · obtain ⟨av,q1,q2⟩:=h.fr.gt
   exact ⟨av,by rw [hsame _ (by omega) (by omega)]; exact q1,q2.stay hm.n fun k hk => hsame k (by have:=(q2.lt k hk).1; omega) (q2.lt k hk).2⟩
 · rcases List.mem_append.1 hk with hk | hk
   · exact h.mine k hk
   · exact hT k (mem_low.1 hk).1
 · obtain ⟨v1,v2,v3,v4,v5⟩:=h.vs v hv
   exact ⟨v1,Nat.lt_of_lt_of_le v2 hm.n,v3,v4,(hsame _ (by omega) v2).trans v5⟩
theorem AF.push (hP:Plc σ.n kr kM) (h:AF kr kM sim tok l N X a ps b f0 σ vs f M S todo ks out oa ob τ W) (cs:List A):AF kr kM sim tok l N X a ps b f0 σ ((τ.n,cs) :: vs) f M S todo ks out oa ob (τ.push (.cells cs)) W:=by
 have hn:=h.fr.n
 have l1:=hP.r
 have l2:=hP.m
 have g:∀ k,k < τ.n→(τ.push (.cells cs)).get k=τ.get k:=fun k hk => St.get_push_ne hk
 refine ⟨⟨h.fr.run.stay (g _ (by omega)) (g _ (by omega)),(g _ (by omega)).trans h.fr.gc,(g _ (by omega)).trans h.fr.gS,(g _ (by omega)).trans h.fr.gs,?_,by rw [St.n_push]; omega⟩,h.mod.push,h.mine,h.mo,h.B,h.ro.stay (by rw [St.n_push]; omega) fun k hk => g k (h.ro.1.lt hk),h.od,fun v hv => ?_⟩
 · obtain ⟨av,q1,q2⟩:=h.fr.gt
   exact ⟨av,(g _ (by omega)).trans q1,q2.stay (by rw [St.n_push]; omega) fun k hk => g k (q2.lt k hk).2⟩
 · rcases List.mem_cons.1 hv with rfl | hv
   · exact ⟨by dsimp only; omega,by dsimp only; rw [St.n_push]; omega,fun q => by have:=(h.tdl _ q).2; dsimp only at this; omega,fun q => by have:=h.ro.1.lt q; dsimp only at this; omega,St.get_push_eq⟩
   · obtain ⟨v1,v2,v3,v4,v5⟩:=h.vs v hv
     exact ⟨v1,by rw [St.n_push]; omega,v3,v4,(g _ v2).trans v5⟩
theorem AF.set (hP:Plc σ.n kr kM) {k:Nat} {cs0:List A} (h:AF kr kM sim tok l N X a ps b f0 σ ((k,cs0) :: vs) f M S todo ks out oa ob τ W) (hv:∀ v ∈ vs,v.1≠k) (cs:List A):AF kr kM sim tok l N X a ps b f0 σ ((k,cs) :: vs) f M S todo ks out oa ob (τ.set k (.cells cs)) W:=by
 have hn:=h.fr.n
 have l1:=hP.r
 have l2:=hP.m
 obtain ⟨k1,k2,k3,k4,k5⟩:=h.vs (k,cs0) (by simp)
 dsimp only at k1 k2 k3 k4 k5
 have g:∀ j,j≠k→(τ.set k (.cells cs)).get j=τ.get j:=fun j hj => St.get_set_ne hj
 refine ⟨⟨h.fr.run.stay (g _ (by omega)) (g _ (by omega)),(g _ (by omega)).trans h.fr.gc,(g _ (by omega)).trans h.fr.gS,(g _ (by omega)).trans h.fr.gs,?_,by rw [St.n_set]; omega⟩,h.mod.set (by omega),h.mine,h.mo,h.B,h.ro.stay (by rw [St.n_set]; exact Nat.le_refl _) fun j hj => g j (fun e => k4 (e ▸ hj)),h.od,fun v hv' => ?_⟩
 · obtain ⟨av,q1,q2⟩:=h.fr.gt
   exact ⟨av,(g _ (by omega)).trans q1,q2.stay (by rw [St.n_set]; exact Nat.le_refl _) fun j hj => g j (fun e => k3 (e ▸ hj))⟩
 · rcases List.mem_cons.1 hv' with rfl | hv'
   · exact ⟨k1,by rw [St.n_set]; exact k2,k3,k4,St.get_set_eq⟩
   · obtain ⟨v1,v2,v3,v4,v5⟩:=h.vs v (by simp [hv'])
     exact ⟨v1,by rw [St.n_set]; exact v2,v3,v4,(g _ (hv v hv')).trans v5⟩
theorem AF.less {vs':List (Nat × List A)} (h:AF kr kM sim tok l N X a ps b f0 σ vs f M S todo ks out oa ob τ W) (hv:∀ v ∈ vs',v ∈ vs):AF kr kM sim tok l N X a ps b f0 σ vs' f M S todo ks out oa ob τ W :=
 { h with vs:=fun v q => h.vs v (hv v q) }
end
end Go.Am.Sm
namespace Go.Am.Sm
open Go Go.Am Go.Proofs
variable {fz:Nat→Md}
theorem CallsTo.iceP {X:X} {f:Nat} {args:List A} {F:AFn} {σ:St} {P:A→St→List Nat→Prop} (hz:X.fz f=.ice) (hF:X.fn f=some F) (hl:args.length≤F.nt)
 (e:Ev X f F.nt none σ.n [.code F.body] (initTm args 0 .nil) σ [] (RetQ X F.results fun a σ1 W1 => ∃ r,freezeV σ1 σ.n fzDepth a=some r∧Mod σ σ1 W1∧(∀ k,k ∈ W1→(σ1.get k).under σ.n=true)∧P r σ1 W1)) :
 ∃ r σ' W' σ1,CallsTo X (.func f []) args σ r σ' W'∧Mod σ σ' W'∧σ'.n=σ.n∧(∀ k,k < σ.n→σ'.get k=σ1.get k)∧P r σ1 W':=by
 obtain ⟨n,o,hn,hq⟩:=e
 cases o with
 | leave _ _ _ => exact hq.elim
 | ret tm σ1 W1 =>
  unfold RetQ at hq
  dsimp only at hq
  split at hq
  · rename_i l hl'
    obtain ⟨r,hr,h4,h5,h6⟩:=hq
    refine ⟨r,cutSt σ σ1 W1,W1,σ1,CallsTo.ofQ hF (by simpa using hl) ⟨n,_,by rw [List.append_nil]; exact hn,?_⟩,⟨by rw [n_cutSt]; exact Nat.le_refl _,fun k _ hk => by rw [get_cutSt,if_neg hk],h4.lt⟩,n_cutSt _ _ _,fun k hk => ?_,h6⟩
    · unfold RetQ; dsimp only; rw [hl']
      simp [leaveCall,hz,hr]
      first | exact h5 | exact fun k hk => h5 k hk | exact fun k hk e => absurd (h5 k hk) (by rw [e]; simp)
    · rw [get_cutSt]; split
      · rfl
      · rename_i h; exact (h4.same k hk h).symm
  · exact hq.elim
theorem Ev.mid {X:X} {f nt lo:Nat} {ro:Option Nat} {c:Item} {rest:List Item} {tm:Tm} {σ:St} {W:List Nat} {Q:Out→Prop} (I:Tm→St→List Nat→Prop) (h2:∀ rest,(∀ tm σ W,I tm σ W→Ev X f nt ro lo rest tm σ W Q)→Ev X f nt ro lo (c :: rest) tm σ W Q) (h1:∀ tm σ W,I tm σ W→Ev X f nt ro lo rest tm σ W Q):Ev X f nt ro lo (c :: rest) tm σ W Q:=h2 rest h1
section
variable {kr kM lo:Nat} {sim tok:D} {l:List Int} {N:Nv} {X:Nx} {a:Nat} {ps:List Nat} {b f0:Nat} {σ:St} {vs:List (Nat × List A)} {f:Nat} {M:List ((Nat × Nat) × D)} {S todo:List (Nat × Nat)} {ks:List Nat} {out:List Nat} {oa:A} {ob:List Nat} {τ:St} {W:List Nat}
theorem AF.pop (hP:Plc σ.n kr kM) {s p:Nat} (h:AF kr kM sim tok l N X a ps b f0 σ vs f M S ((s,p) :: todo) ks out oa ob τ W) :
 ∃ kq off cs,τ.get (σ.n+3)=.cells [.row kq off (todo.length+1) 2]∧τ.get kq=.cells cs∧cs[off]?=some (.d (.int .i64 (s:Int)))∧cs[off+1]?=some (.d (.int .i64 (p:Int)))∧off+2≤cs.length∧σ.n+4≤kq∧kq < τ.n∧kq ∈ ks ∧
  AF kr kM sim tok l N X a ps b f0 σ vs f M S todo ks out oa ob (τ.set (σ.n+3) (.cells [.row kq (off+2) todo.length 2])) W:=by
 have hn:=h.fr.n
 have l1:=hP.r
 have l2:=hP.m
 obtain ⟨av,q1,q2⟩:=h.fr.gt
 obtain ⟨kq,off,cs,rfl,rfl,h2,h3,h4,h5,h6,h7,h8⟩:=q2.tail
 have g:∀ j,j≠σ.n+3→(τ.set (σ.n+3) (.cells [.row kq (off+2) todo.length 2])).get j=τ.get j:=fun j hj => St.get_set_ne hj
 refine ⟨kq,off,cs,q1,h2,h3,h4,h5,h6,h7,by simp,⟨⟨h.fr.run.stay (g _ (by omega)) (g _ (by omega)),(g _ (by omega)).trans h.fr.gc,(g _ (by omega)).trans h.fr.gS,(g _ (by omega)).trans h.fr.gs,⟨_,St.get_set_eq,h8.stay (by rw [St.n_set]; exact Nat.le_refl _) fun j hj => g j (by have:=(h8.lt j hj).1; omega)⟩,by rw [St.n_set]; exact hn⟩,h.mod.set (by omega),h.mine,h.mo,h.B.pop,
  h.ro.stay (by rw [St.n_set]; exact Nat.le_refl _) fun j hj => g j (by have:=(h.od j hj).1; omega),h.od,fun v hv => ?_⟩⟩
 obtain ⟨v1,v2,v3,v4,v5⟩:=h.vs v hv
 exact ⟨v1,by rw [St.n_set]; exact v2,v3,v4,(g _ (by omega)).trans v5⟩
theorem AF.outA (hP:Plc σ.n kr kM) (h:AF kr kM sim tok l N X a ps b f0 σ vs f M S todo ks out oa ob τ W) {p:Nat} (hB:AlB l N X a ps b f0 f S todo (out ++ [p])) (hC:N.es.length * (l.length+1) < 1000000000) :
 ∃ a' τ' T ob',appendA 1 8 (τ.push (.cells [.d (.int .i64 (p:Int))])) oa (.row τ.n 0 1 1)=.val a' τ' T []∧AF kr kM sim tok l N X a ps b f0 σ vs f M S todo ks (out ++ [p]) a' ob' τ' W∧a'.cells=some [a']∧a'.isCell=true∧low σ.n T=[]:=by
 have hn:=h.fr.n
 have l1:=hP.r
 have l2:=hP.m
 have hl:out.length < 1000000000:=by have:=h.B.on; have:=h.B.cap; omega
 have h1:=h.push hP [.d (.int .i64 (p:Int))]
 obtain ⟨a',τ',T,ob',happ,hR,hK⟩:=h1.ro.app (b:=8) (x:=.row τ.n 0 1 1) (ys:=[[.int .i64 (p:Int)]]) (by rw [sliceCells_row St.get_push_eq (by simp)]; rfl) (by rw [sliceLen_row,St.get_push_eq]; rfl) (by simp) (by rw [intsD_len,natsI_len]; simp; omega) (by rw [intsD_len,natsI_len]; simp; omega)
 have hx:intsD (natsI out) ++ [[D.int .i64 (p:Int)]]=intsD (natsI (out ++ [p])):=by simp [intsD,natsI]
 rw [hx] at hR
 have hpn:τ.n < (τ.push (Blk.cells [A.d (D.int IntKind.i64 (p:Int))])).n:=by rw [St.n_push]; omega
 have g:∀ k,k < τ.n→k ∉ ob→τ'.get k=τ.get k:=fun k q1 q2 => by rw [hK.same k (by omega) q2,St.get_push_ne q1]
 have hnn:τ.n≤τ'.n:=Nat.le_trans (by omega) hK.n
 have nob:∀ k,k < σ.n+4→k ∉ ob:=fun k q1 q2 => by have:=(h.od k q2).1; omega
 refine ⟨a',τ',T,ob',happ,⟨⟨h.fr.run.stay (g _ (by omega) (nob _ (by omega))) (g _ (by omega) (nob _ (by omega))),(g _ (by omega) (nob _ (by omega))).trans h.fr.gc,(g _ (by omega) (nob _ (by omega))).trans h.fr.gS,(g _ (by omega) (nob _ (by omega))).trans h.fr.gs,?_,by omega⟩,⟨Nat.le_trans h.mod.n hnn,fun k q1 q2 => by rw [g k (by omega) (nob _ (by omega))]; exact h.mod.same k q1 q2,h.mod.lt⟩,h.mine,h.mo,hB,hR,fun k hk => ?_,fun v hv => ?_⟩,hR.1.cells,hR.1.cell,low_all fun k hk => ?_⟩
 · obtain ⟨av,q1,q2⟩:=h.fr.gt
   exact ⟨av,(g _ (by omega) (nob _ (by omega))).trans q1,q2.stay hnn fun k hk => g k (q2.lt k hk).2 fun q => (h.od k q).2 hk⟩
 · rcases hK.o k hk with q | q
   · exact h.od k q
   · exact ⟨by omega,fun e => by have:=(h.tdl k e).2; omega⟩
 · obtain ⟨v1,v2,v3,v4,v5⟩:=h.vs v hv
   exact ⟨v1,by omega,v3,fun e => by rcases hK.o _ e with q | q; exact v4 q; omega,(g _ v2 v4).trans v5⟩
 · rcases hK.w k hk with q | q
   · have:=(h.od k q).1; omega
   · omega
theorem AF.frz (h:AF kr kM sim tok l N X a ps b f0 σ vs f M S todo ks out oa ob τ W) (hC:N.es.length * (l.length+1) < 1000000000):freeze τ σ.n fzDepth oa=some (slD (natsI out)):=by
 have hl:out.length < 1000000000:=by have:=h.B.on; have:=h.B.cap; omega
 have:=h.ro.freeze (lo:=σ.n) (n:=fzDepth) (fun k hk => by have:=(h.od k hk).1; omega) (by rw [intsD_len,natsI_len]; unfold fzDepth; omega)
 rw [this,isE]; rfl
theorem AF.undr (h:AF kr kM sim tok l N X a ps b f0 σ vs f M S todo ks out oa ob τ W) (hkM:kM < σ.n):∀ k ∈ W,(τ.get k).under σ.n=true:=fun k hk => by
 rcases h.mine k hk with rfl | rfl
 · rw [h.fr.run.cell]
   simp [Blk.under,A.underL,A.under,hkM]
 · rw [h.fr.run.gm]; exact PM_under _ _
end
end Go.Am.Sm

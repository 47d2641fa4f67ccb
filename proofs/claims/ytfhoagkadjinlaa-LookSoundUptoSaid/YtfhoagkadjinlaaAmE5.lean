/- Part E5 of a proof that runs a program's calls on a small machine whose values bear no addresses: no conditions. -/
import Derived.Test.YtfhoagkadjinlaaAmK3
import Derived.Test.YtfhoagkadjinlaaAmL1
set_option autoImplicit false
set_option linter.unusedSimpArgs false
set_option linter.unusedVariables false
set_option linter.unusedSectionVars false
namespace Go.Am
open Go Go.Proofs
variable {fz:Nat→Md}
theorem RowN.idxI {σ:St} {a:A} {js bs:List Nat} (h:RowN 1 σ a (intsD (natsI js)) bs) {i:Nat} (hi:i < js.length) :
 ∃ p R,indexK σ 1 a (.d (.int .i64 (i:Int)))=.val p σ [] R∧∃ R',loadK σ (some { kind:=TK.int IntKind.i64,size:=1,bytes:=8,zero:=some [A.d (D.int IntKind.i64 0)],zval:=A.d (D.int IntKind.i64 0) }) p=.val (.d (.int .i64 (js[i]:Int))) σ [] R':=by
 have hx:(intsD (natsI js))[i]?=some [.int .i64 (js[i]:Int)]:=by simp [intsD,natsI,hi]
 obtain ⟨p,R,h1,h2⟩:=(h.1.sl (by omega)).idx .i64 i _ hx
 obtain ⟨R',h3⟩:=h2 (TK.int IntKind.i64) 8 (some [A.d (D.int IntKind.i64 0)]) (A.d (D.int IntKind.i64 0))
 exact ⟨p,R,h1,R',h3⟩
structure TokA (tb:List Nat) (σ:St) (tok:A) (l:List Int):Prop where
 sl:∀ τ:St,σ.n≤τ.n→(∀ k ∈ tb,τ.get k=σ.get k)→SlV 1 τ tok (intsD l)
 cell:tok.isCell=true
 cells:tok.cells=some [tok]
theorem TokA.stay {tb:List Nat} {σ τ:St} {tok:A} {l:List Int} (h:TokA tb σ tok l) (hn:σ.n≤τ.n) (hg:∀ k ∈ tb,τ.get k=σ.get k):TokA tb τ tok l:=⟨fun ρ hn' hρ => h.sl ρ (Nat.le_trans hn hn') fun k hk => (hρ k hk).trans (hg k hk),h.cell,h.cells⟩
theorem TokA.more {tb:List Nat} {σ:St} {tok:A} {l:List Int} (h:TokA tb σ tok l) (k:Nat):TokA (k :: tb) σ tok l:=⟨fun ρ hn hρ => h.sl ρ hn fun k hk => hρ k (List.mem_cons_of_mem _ hk),h.cell,h.cells⟩
theorem TokA.data {tb:List Nat} {σ:St} {z:Bool} {l:List Int}:TokA tb σ (.d (.slc z (intsD l))) l:=⟨fun _ _ _ => SlV.data (fun x hx => by obtain ⟨n,-,rfl⟩:=List.mem_map.1 hx; rfl),rfl,rfl⟩
theorem TokA.row {tb:List Nat} {σ:St} {tok:A} {l:List Int} {bs:List Nat} (h:RowAt 1 σ tok (intsD l) bs) (hb:∀ k ∈ bs,k ∈ tb):TokA tb σ tok l:=by
 refine ⟨fun ρ hn hρ => (h.stay hn fun k hk => hρ k (hb k hk)).sl (by omega),h.cell,h.cells⟩
theorem TokA.len {tb:List Nat} {σ:St} {tok:A} {l:List Int} (h:TokA tb σ tok l):sliceLen σ tok=some l.length:=by rw [(h.sl σ (Nat.le_refl _) fun _ _ => rfl).len,intsD_len]
theorem TokA.idx {tb:List Nat} {σ:St} {tok:A} {l:List Int} (h:TokA tb σ tok l) {i:Nat} (hi:i < l.length) :
 ∃ p R,indexK σ 1 tok (.d (.int .i64 (i:Int)))=.val p σ [] R∧∃ R',loadK σ (some { kind:=TK.int IntKind.i64,size:=1,bytes:=8,zero:=some [A.d (D.int IntKind.i64 0)],zval:=A.d (D.int IntKind.i64 0) }) p=.val (.d (.int .i64 l[i])) σ [] R':=by
 have hx:(intsD l)[i]?=some [.int .i64 l[i]]:=by simp [intsD,hi]
 obtain ⟨p,R,h1,h2⟩:=(h.sl σ (Nat.le_refl _) fun _ _ => rfl).idx .i64 i _ hx
 obtain ⟨R',h3⟩:=h2 (TK.int IntKind.i64) 8 (some [A.d (D.int IntKind.i64 0)]) (A.d (D.int IntKind.i64 0))
 exact ⟨p,R,h1,R',h3⟩
structure RunL (kr kM kt:Nat) (tok:A) (all:Bool) (M:MpA) (σ:St):Prop where
 cell:σ.get kr=.cells [.ptr kt 0,tok,.d (.bool all),.map kM]
 gm:σ.get kM=.map (PM M)
theorem RunL.stay {kr kM kt:Nat} {tok:A} {all:Bool} {M:MpA} {σ τ:St} (h:RunL kr kM kt tok all M σ) (h1:τ.get kr=σ.get kr) (h2:τ.get kM=σ.get kM):RunL kr kM kt tok all M τ:=⟨h1.trans h.cell,h2.trans h.gm⟩
structure CallOk (l:List Int) (N:Nv) (X:Nx) (n p:Nat) (js:List Nat) (all:Bool):Prop where
 mem:∀ j,j ∈ js ↔ Rn l N X (X.ent n) p (X.lve n) j
 len:js.length≤N.es.length * (l.length+1)
 all:Pg l N X (X.ent n) p l.length→all=true
theorem CallOk.mono {l:List Int} {N:Nv} {X:Nx} {n p:Nat} {js:List Nat} {a b:Bool} (h:CallOk l N X n p js a) (hab:a=true→b=true):CallOk l N X n p js b:=⟨h.mem,h.len,fun q => hab (h.all q)⟩
def MemoL (R:Nat) (l:List Int) (N:Nv) (X:Nx) (M:MpA) (all:Bool) (mb:List Nat) (σ:St):Prop :=
 ∀ x v,(x,v) ∈ M→∃ n js bs,n < R∧x.1=X.ent n∧RowN 1 σ v (intsD (natsI js)) bs∧(∀ k ∈ bs,k ∈ mb)∧CallOk l N X n x.2 js all
theorem MemoL.stay {R:Nat} {l:List Int} {N:Nv} {X:Nx} {M:MpA} {all all':Bool} {mb mb':List Nat} {σ τ:St} (h:MemoL R l N X M all mb σ) (hn:σ.n≤τ.n) (hg:∀ k ∈ mb,τ.get k=σ.get k) (hm:∀ k ∈ mb,k ∈ mb') (ha:all=true→all'=true):MemoL R l N X M all' mb' τ:=fun x v hx => by
 obtain ⟨n,js,bs,h1,h2,h3,h4,h5⟩:=h x v hx
 exact ⟨n,js,bs,h1,h2,h3.stay hn fun k hk => hg k (h4 k hk),fun k hk => hm k (h4 k hk),h5.mono ha⟩
structure TabS (kt km:Nat) (ra ba rea:A) (tb:List Nat) (R:Nat) (N:Nv) (X:Nx) (bh:Nat→List Nat) (rch:Nat→Bool) (σ:St):Prop where
 cell:σ.get kt=.cells [.d N.esD,.d (slD X.en),.d (slD X.lv),ra,ba,rea,.map km]
 rules:∃ bs,RowAt 1 σ ra (intsD N.rs) bs∧∀ k ∈ bs,k ∈ tb
 behind:∃ kb cs,ba=.row kb 0 R 1∧kb ∈ tb∧σ.get kb=.cells cs∧cs.length=R∧∀ n,n < R→∃ v bs,cs[n]?=some v∧RowN 1 σ v (intsD (natsI (bh n))) bs∧∀ k ∈ bs,k ∈ tb
 reached:∃ kc,rea=.row kc 0 R 1∧kc ∈ tb∧σ.get kc=.cells ((List.range R).map fun n => A.d (.bool (rch n)))
 kt:kt ∈ tb
 lt:∀ k ∈ tb,k < σ.n
theorem TabS.stay {kt km:Nat} {ra ba rea:A} {tb:List Nat} {R:Nat} {N:Nv} {X:Nx} {bh:Nat→List Nat} {rch:Nat→Bool} {σ τ:St} (h:TabS kt km ra ba rea tb R N X bh rch σ) (hn:σ.n≤τ.n) (hg:∀ k ∈ tb,τ.get k=σ.get k):TabS kt km ra ba rea tb R N X bh rch τ:=by
 obtain ⟨h1,⟨bs,h2,h3⟩,⟨kb,cs,h4,h5,h6,h7,h8⟩,⟨kc,h9,h10,h11⟩,h12,h13⟩:=h
 refine ⟨(hg _ h12).trans h1,⟨bs,h2.stay hn fun k hk => hg k (h3 k hk),h3⟩,⟨kb,cs,h4,h5,(hg _ h5).trans h6,h7,fun n hn' => ?_⟩,⟨kc,h9,h10,(hg _ h10).trans h11⟩,h12,fun k hk => by have:=h13 k hk; omega⟩
 obtain ⟨v,bs,q1,q2,q3⟩:=h8 n hn'
 exact ⟨v,bs,q1,q2.stay hn fun k hk => hg k (q3 k hk),q3⟩
structure LvOk (fz:Nat→Md) (fl:Nat) (cap:List A) (lv:Nat→Nat→List (Nat × Nat)) (R L n:Nat) (tb:List Nat) (I:List Nat→List Nat→St→Prop):Prop where
 run:∀ (σ:St) (outs lks:List Nat) (r p:Nat),I outs lks σ→r < R→p≤L→outs.length < 1000000000→∃ a σ' W lks',CallsTo (XX fz) (.func fl cap) [.d (.int .i64 (r:Int)),.d (.int .i64 (p:Int))] σ a σ' W∧I (outs ++ [p]) lks' σ' ∧
  StA lks' σ' a (lv r p)∧σ.n≤σ'.n∧(∀ k,k < σ.n→k ∉ lks→σ'.get k=σ.get k)∧(∀ k ∈ W,k ∈ lks∨σ.n≤k)∧(∀ k ∈ lks',k ∈ lks∨σ.n≤k)∧∀ k off len es,a=.row k off len es→σ.n≤k
 stay:∀ (σ τ:St) (outs lks:List Nat),I outs lks σ→σ.n≤τ.n→(∀ k,k ∈ lks∨k ∈ tb→τ.get k=σ.get k)→I outs lks τ
 lt:∀ (σ:St) (outs lks:List Nat),I outs lks σ→∀ k ∈ lks,k < σ.n
 at_:∀ r p x,x ∈ lv r p→x.2=p∧x.1 < n
 sz:∀ r p,(lv r p).length < 100000000
section
variable (kr kM kt km:Nat) (ra ba rea:A) (tb:List Nat) (R:Nat) (tok:A) (l:List Int) (N:Nv) (X:Nx) (bh:Nat→List Nat) (rch:Nat→Bool) (lv:Nat→Nat→List (Nat × Nat)) (I:List Nat→List Nat→St→Prop) (F:List (Nat × Nat))
structure AL (all0:Bool) (mb0 lk0:List Nat) (σ:St) (vs:List (Nat × List A)) (all:Bool) (M:MpA) (mb:List Nat) (S:List (Nat × Nat)) (ks outs lks:List Nat) (τ:St) (W:List Nat):Prop where
 fr:FrL σ.n S ks τ
 run:RunL kr kM kt tok all M τ
 memo:MemoL R l N X M all mb τ
 tab:TabS kt km ra ba rea tb R N X bh rch τ
 lvi:I outs lks τ
 same:∀ k,k < σ.n→k≠kr→k≠kM→k ∉ lk0→τ.get k=σ.get k
 w:∀ k ∈ W,k=kr∨k=kM∨k ∈ lk0
 mbn:∀ k ∈ mb,k < τ.n∧k≠kr∧k≠kM∧k ∉ ks∧k ∉ lks∧k≠σ.n∧k≠σ.n+1∧k≠σ.n+2
 mbo:∀ k ∈ mb,k ∈ mb0∨σ.n≤k
 lko:∀ k ∈ lks,k ∈ lk0∨σ.n+3≤k
 lkn:∀ k ∈ lks,k≠kr∧k≠kM∧k ∉ ks∧k ∉ tb
 ksn:∀ k ∈ ks,σ.n+3≤k∧k < τ.n
 nd:S.Nodup
 snd:∀ x ∈ S,x.1 < N.es.length∧x.2≤l.length∧Lk l N X lv F x.1 x.2
 allo:all=true→all0=true∨LkP l N X lv F l.length
 allm:all0=true→all=true
 vs:∀ v ∈ vs,σ.n+3≤v.1∧v.1 < τ.n∧v.1 ∉ ks∧v.1 ∉ lks∧v.1 ∉ mb∧τ.get v.1=.cells v.2
structure PlL (b:Nat) (lk0:List Nat):Prop where
 r:kr < b
 m:kM < b
 ne:kr≠kM
 tbl:∀ k ∈ tb,k < b∧k≠kr∧k≠kM
 lk:∀ k ∈ lk0,k < b∧k≠kr∧k≠kM∧k ∉ tb
def CallSpecL (fz:Nat→Md) (n p:Nat):Prop:=∀ (σ:St) (all:Bool) (M:MpA) (mb:List Nat),RunL kr kM kt tok all M σ→MemoL R l N X M all mb σ→TabS kt km ra ba rea tb R N X bh rch σ→TokA tb σ tok l→PlL kr kM tb σ.n []→(∀ k ∈ mb,k < σ.n∧k≠kr∧k≠kM) →
 ∃ (js:List Nat) (v:A) (bs:List Nat) (all':Bool) (M':MpA) (mb':List Nat) (σ':St) (W:List Nat),CallsTo (XX fz) (.func 106 []) [.ptr kr 0,.d (.int .i64 (n:Int)),.d (.int .i64 (p:Int))] σ v σ' W ∧
  RunL kr kM kt tok all' M' σ'∧MemoL R l N X M' all' mb' σ'∧RowN 1 σ' v (intsD (natsI js)) bs∧(∀ k ∈ bs,k ∈ mb')∧CallOk l N X n p js all'∧(all=true→all'=true)∧(all'=true→all=true∨Pg l N X (X.ent n) p l.length) ∧
  σ.n≤σ'.n∧(∀ k,k < σ.n→k≠kr→k≠kM→σ'.get k=σ.get k)∧(∀ k ∈ W,k=kr∨k=kM∨σ.n≤k)∧(∀ k ∈ mb',k ∈ mb∨σ.n≤k)∧∀ k ∈ mb',k < σ'.n∧k≠kr∧k≠kM
end
section
variable {kr kM kt km:Nat} {ra ba rea:A} {tb:List Nat} {R:Nat} {tok:A} {l:List Int} {N:Nv} {X:Nx} {bh:Nat→List Nat} {rch:Nat→Bool} {lv:Nat→Nat→List (Nat × Nat)} {I:List Nat→List Nat→St→Prop} {F:List (Nat × Nat)}
variable {all0:Bool} {mb0 lk0:List Nat} {σ:St} {vs:List (Nat × List A)} {all:Bool} {M:MpA} {mb:List Nat} {S:List (Nat × Nat)} {ks outs lks:List Nat} {τ:St} {W:List Nat} {fl:Nat} {cap:List A}
theorem AL.push (hP:PlL kr kM tb σ.n lk0) (hI:LvOk fz fl cap lv R l.length N.es.length tb I) (h:AL kr kM kt km ra ba rea tb R tok l N X bh rch lv I F all0 mb0 lk0 σ vs all M mb S ks outs lks τ W) (cs:List A) :
 AL kr kM kt km ra ba rea tb R tok l N X bh rch lv I F all0 mb0 lk0 σ ((τ.n,cs) :: vs) all M mb S ks outs lks (τ.push (.cells cs)) W:=by
 have hn:=h.fr.n
 have l1:=hP.r
 have l2:=hP.m
 have g:∀ k,k < τ.n→(τ.push (.cells cs)).get k=τ.get k:=fun k hk => St.get_push_ne hk
 have pn:(τ.push (.cells cs)).n=τ.n+1:=St.n_push _ _
 obtain ⟨gm,gs,⟨fa,gf,hrow⟩,fn,ko⟩:=h.fr
 refine ⟨⟨(g _ (by omega)).trans gm,(g _ (by omega)).trans gs,⟨fa,(g _ (by omega)).trans gf,hrow.stay (by omega) fun k hk => g k (hrow.1.lt hk)⟩,by omega,ko⟩,h.run.stay (g _ (by omega)) (g _ (by omega)),h.memo.stay (by omega) (fun k hk => g k (h.mbn k hk).1) (fun _ h => h) id,
  h.tab.stay (by omega) (fun k hk => g k (h.tab.lt k hk)),hI.stay _ _ _ _ h.lvi (by omega) (fun k hk => g k (hk.elim (hI.lt _ _ _ h.lvi k) (h.tab.lt k))),fun k q1 q2 q3 q4 => (g k (by omega)).trans (h.same k q1 q2 q3 q4),h.w,fun k hk => ?_,h.mbo,h.lko,h.lkn,fun k hk => ?_,h.nd,h.snd,h.allo,h.allm,fun v hv => ?_⟩
 · obtain ⟨q1,q2⟩:=h.mbn k hk
   exact ⟨by omega,q2⟩
 · have:=h.ksn k hk; exact ⟨this.1,by omega⟩
 · rcases List.mem_cons.1 hv with rfl | hv
   · exact ⟨by dsimp only; omega,by dsimp only; omega,fun q => by have:=(h.ksn _ q).2; dsimp only at this; omega,fun q => by have:=hI.lt _ _ _ h.lvi _ q; dsimp only at this; omega,fun q => by have:=(h.mbn _ q).1; dsimp only at this; omega,St.get_push_eq⟩
   · obtain ⟨v1,v2,v3,v4,v5,v6⟩:=h.vs v hv
     exact ⟨v1,by omega,v3,v4,v5,(g _ v2).trans v6⟩
theorem AL.set (hP:PlL kr kM tb σ.n lk0) (hI:LvOk fz fl cap lv R l.length N.es.length tb I) {k:Nat} {cs0:List A} (h:AL kr kM kt km ra ba rea tb R tok l N X bh rch lv I F all0 mb0 lk0 σ ((k,cs0) :: vs) all M mb S ks outs lks τ W) (hv:∀ v ∈ vs,v.1≠k) (cs:List A) :
 AL kr kM kt km ra ba rea tb R tok l N X bh rch lv I F all0 mb0 lk0 σ ((k,cs) :: vs) all M mb S ks outs lks (τ.set k (.cells cs)) W:=by
 have hn:=h.fr.n
 have l1:=hP.r
 have l2:=hP.m
 obtain ⟨k1,k2,k3,k4,k5,k6⟩:=h.vs (k,cs0) (by simp)
 dsimp only at k1 k2 k3 k4 k5 k6
 have g:∀ j,j≠k→(τ.set k (.cells cs)).get j=τ.get j:=fun j hj => St.get_set_ne hj
 have pn:(τ.set k (.cells cs)).n=τ.n:=St.n_set _ _ _
 obtain ⟨gm,gs,⟨fa,gf,hrow⟩,fn,ko⟩:=h.fr
 refine ⟨⟨(g _ (by omega)).trans gm,(g _ (by omega)).trans gs,⟨fa,(g _ (by omega)).trans gf,hrow.stay (by omega) fun j hj => g j (fun e => k3 (e ▸ hj))⟩,by omega,ko⟩,h.run.stay (g _ (by omega)) (g _ (by omega)),h.memo.stay (by omega) (fun j hj => g j (fun e => k5 (e ▸ hj))) (fun _ h => h) id,
  h.tab.stay (by omega) (fun j hj => g j (by have:=(hP.tbl j hj).1; omega)),hI.stay _ _ _ _ h.lvi (by omega) (fun j hj => g j (fun e => by
   rcases hj with hj | hj
   · exact k4 (e ▸ hj)
   · have:=(hP.tbl j hj).1; omega)),fun j q1 q2 q3 q4 => (g j (by omega)).trans (h.same j q1 q2 q3 q4),h.w,fun j hj => ?_,h.mbo,h.lko,h.lkn,fun j hj => ?_,h.nd,h.snd,h.allo,h.allm,fun v hv' => ?_⟩
 · have:=h.mbn j hj; rw [pn]; exact this
 · have:=h.ksn j hj; rw [pn]; exact this
 · rcases List.mem_cons.1 hv' with rfl | hv'
   · exact ⟨k1,by dsimp only; omega,k3,k4,k5,St.get_set_eq⟩
   · obtain ⟨v1,v2,v3,v4,v5,v6⟩:=h.vs v (by simp [hv'])
     exact ⟨v1,by omega,v3,v4,v5,(g _ (hv v hv')).trans v6⟩
theorem AL.less {vs':List (Nat × List A)} (h:AL kr kM kt km ra ba rea tb R tok l N X bh rch lv I F all0 mb0 lk0 σ vs all M mb S ks outs lks τ W) (hv:∀ v ∈ vs',v ∈ vs):AL kr kM kt km ra ba rea tb R tok l N X bh rch lv I F all0 mb0 lk0 σ vs' all M mb S ks outs lks τ W :=
 { h with vs:=fun v q => h.vs v (hv v q) }
theorem AL.flag (hP:PlL kr kM tb σ.n lk0) (hI:LvOk fz fl cap lv R l.length N.es.length tb I) (h:AL kr kM kt km ra ba rea tb R tok l N X bh rch lv I F all0 mb0 lk0 σ vs all M mb S ks outs lks τ W) {all':Bool} (h1:all=true→all'=true) (h2:all'=true→all=true∨LkP l N X lv F l.length) :
 AL kr kM kt km ra ba rea tb R tok l N X bh rch lv I F all0 mb0 lk0 σ vs all' M mb S ks outs lks (τ.set kr (.cells [.ptr kt 0,tok,.d (.bool all'),.map kM])) (W ++ low σ.n [kr]):=by
 have hn:=h.fr.n
 have l1:=hP.r
 have l2:=hP.m
 have l3:=hP.ne
 have g:∀ j,j≠kr→(τ.set kr (.cells [.ptr kt 0,tok,.d (.bool all'),.map kM])).get j=τ.get j:=fun j hj => St.get_set_ne hj
 have pn:(τ.set kr (.cells [.ptr kt 0,tok,.d (.bool all'),.map kM])).n=τ.n:=St.n_set _ _ _
 obtain ⟨gm,gs,⟨fa,gf,hrow⟩,fn,ko⟩:=h.fr
 refine ⟨⟨(g _ (by omega)).trans gm,(g _ (by omega)).trans gs,⟨fa,(g _ (by omega)).trans gf,hrow.stay (by omega) fun j hj => g j (by have:=(h.ksn j hj).1; omega)⟩,by omega,ko⟩,⟨St.get_set_eq,(g _ (by omega)).trans h.run.gm⟩,h.memo.stay (by omega) (fun j hj => g j (h.mbn j hj).2.1) (fun _ h => h) h1,
  h.tab.stay (by omega) (fun j hj => g j (hP.tbl j hj).2.1),hI.stay _ _ _ _ h.lvi (by omega) (fun j hj => g j (by
   rcases hj with hj | hj
   · exact (h.lkn j hj).1
   · exact (hP.tbl j hj).2.1)),fun j q1 q2 q3 q4 => (g j q2).trans (h.same j q1 q2 q3 q4),fun k hk => ?_,fun j hj => ?_,h.mbo,h.lko,h.lkn,fun j hj => ?_,h.nd,h.snd,fun q => ?_,fun q => h1 (h.allm q),fun v hv' => ?_⟩
 · rcases List.mem_append.1 hk with hk | hk
   · exact h.w k hk
   · have:=(mem_low.1 hk).1; simp at this; exact .inl this
 · have:=h.mbn j hj; rw [pn]; exact this
 · have:=h.ksn j hj; rw [pn]; exact this
 · rcases h2 q with q | q
   · exact h.allo q
   · exact .inr q
 · obtain ⟨v1,v2,v3,v4,v5,v6⟩:=h.vs v hv'
   exact ⟨v1,by omega,v3,v4,v5,(g _ (by omega)).trans v6⟩
theorem AL.reach (h120:fz 120=.keep) (hP:PlL kr kM tb σ.n lk0) (hI:LvOk fz fl cap lv R l.length N.es.length tb I) (hC:N.es.length * (l.length+1) < 800000000) (h:AL kr kM kt km ra ba rea tb R tok l N X bh rch lv I F all0 mb0 lk0 σ vs all M mb S ks outs lks τ W)
 {a:A} {xs:List (Nat × Nat)} (ha:StA (σ.n :: (σ.n+1) :: ks) τ a xs) (hx:∀ x ∈ xs,x.1 < N.es.length∧x.2≤l.length∧Lk l N X lv F x.1 x.2) (hxl:xs.length < 100000000) :
 ∃ (τ':St) (T:List Nat) (S':List (Nat × Nat)) (ks':List Nat),CallsTo (XX fz) (.func 120 [.ptr (σ.n+2) 0,.ptr σ.n 0]) [a] τ (.tup []) τ' T ∧
  AL kr kM kt km ra ba rea tb R tok l N X bh rch lv I F all0 mb0 lk0 σ vs all M mb S' ks' outs lks τ' (W ++ low σ.n T)∧(∃ e,S'=S ++ e)∧(∀ x ∈ xs,x ∈ S')∧τ.n≤τ'.n∧∀ k ∈ mb,τ'.get k=τ.get k:=by
 have hn:=h.fr.n
 have l1:=hP.r
 have l2:=hP.m
 have l3:=hP.ne
 have hcap:S.length≤N.es.length * (l.length+1):=by
  rw [← stops_len]
  exact h.nd.length_le_of_subset fun x hx => stops_mem (h.snd x hx).1 (h.snd x hx).2.1
 obtain ⟨τ',T,c,S',ks',r1,⟨e,rfl,r2⟩,r3,r4,r5,r6,r7,r8⟩:=reachL_c h120 h.fr h.nd ha (by omega)
 have g:∀ k,k < τ.n→k≠σ.n→k≠σ.n+1→k ∉ ks→τ'.get k=τ.get k:=r6
 have hks:∀ k,k < τ.n→k ∉ ks→k ∉ ks':=fun k q1 q2 q3 => by
  rcases r8 k q3 with q | q
  · exact q2 q
  · omega
 have ksl:∀ k,k < σ.n+3→k ∉ ks:=fun k q1 q2 => by have:=(h.ksn k q2).1; omega
 have lkg:∀ k ∈ lks,k < τ.n∧k≠σ.n∧k≠σ.n+1:=fun k hk => by
  have q1:=hI.lt _ _ _ h.lvi k hk
  rcases h.lko k hk with q | q
  · have:=(hP.lk k q).1; omega
  · omega
 refine ⟨τ',T,S ++ e,ks',c,⟨r1,h.run.stay (g _ (by omega) (by omega) (by omega) (ksl _ (by omega))) (g _ (by omega) (by omega) (by omega) (ksl _ (by omega))),h.memo.stay r5 (fun k hk => ?_) (fun _ h => h) id,h.tab.stay r5 fun k hk => ?_,hI.stay _ _ _ _ h.lvi r5 fun k hk => ?_,fun k q1 q2 q3 q4 => ?_,fun k hk => ?_,fun k hk => ?_,h.mbo,h.lko,fun k hk => ?_,fun k hk => ?_,r4,fun x hx' => ?_,h.allo,h.allm,fun v hv => ?_⟩,⟨e,rfl⟩,r3,r5,fun k hk => by obtain ⟨q1,q2,q3,q4,q5,q6,q7,q8⟩:=h.mbn k hk; exact g k q1 q6 q7 q4⟩
 · obtain ⟨q1,q2,q3,q4,q5,q6,q7,q8⟩:=h.mbn k hk
   exact g k q1 q6 q7 q4
 · have:=(hP.tbl k hk).1
   exact g k (by omega) (by omega) (by omega) (ksl _ (by omega))
 · rcases hk with hk | hk
   · obtain ⟨q1,q2,q3⟩:=lkg k hk
     exact g k q1 q2 q3 (h.lkn k hk).2.2.1
   · have:=(hP.tbl k hk).1
     exact g k (by omega) (by omega) (by omega) (ksl _ (by omega))
 · rw [g k (by omega) (by omega) (by omega) (ksl _ (by omega))]; exact h.same k q1 q2 q3 q4
 · rcases List.mem_append.1 hk with hk | hk
   · exact h.w k hk
   · obtain ⟨q1,q2⟩:=mem_low.1 hk
     rcases r7 k q1 with q | q | q | q
     · omega
     · omega
     · have:=(h.ksn k q).1; omega
     · omega
 · obtain ⟨q1,q2,q3,q4,q5,q6⟩:=h.mbn k hk
   exact ⟨by omega,q2,q3,hks k q1 q4,q5,q6⟩
 · obtain ⟨q1,q2,q3,q4⟩:=h.lkn k hk
   exact ⟨q1,q2,hks k (lkg k hk).1 q3,q4⟩
 · obtain ⟨fa,-,hrow⟩:=r1.gf
   exact ⟨r1.ko k hk,hrow.1.lt hk⟩
 · rcases List.mem_append.1 hx' with q | q
   · exact h.snd x q
   · exact hx x (r2 x q)
 · obtain ⟨v1,v2,v3,v4,v5,v6⟩:=h.vs v hv
   exact ⟨v1,by omega,hks _ v2 v3,v4,v5,(g _ v2 (by omega) (by omega) v3).trans v6⟩
theorem AL.tkn (h:AL kr kM kt km ra ba rea tb R tok l N X bh rch lv I F all0 mb0 lk0 σ vs all M mb S ks outs lks τ W) (hP:PlL kr kM tb σ.n lk0) (ht:TokA tb σ tok l):TokA tb τ tok l:=ht.stay (by have:=h.fr.n; omega) fun k hk => by
 obtain ⟨q1,q2,q3⟩:=hP.tbl k hk
 exact h.same k q1 q2 q3 fun hl => (hP.lk k hl).2.2.2 hk
theorem AL.call (hP:PlL kr kM tb σ.n lk0) (hI:LvOk fz fl cap lv R l.length N.es.length tb I) {n p:Nat} (hs:CallSpecL kr kM kt km ra ba rea tb R tok l N X bh rch fz n p) (h:AL kr kM kt km ra ba rea tb R tok l N X bh rch lv I F all0 mb0 lk0 σ vs all M mb S ks outs lks τ W)
 (ht:TokA tb σ tok l) (hr:Pg l N X (X.ent n) p l.length→LkP l N X lv F l.length) :
 ∃ (js:List Nat) (v:A) (bs:List Nat) (all':Bool) (M':MpA) (mb':List Nat) (τ':St) (T:List Nat),CallsTo (XX fz) (.func 106 []) [.ptr kr 0,.d (.int .i64 (n:Int)),.d (.int .i64 (p:Int))] τ v τ' T ∧
  AL kr kM kt km ra ba rea tb R tok l N X bh rch lv I F all0 mb0 lk0 σ vs all' M' mb' S ks outs lks τ' (W ++ low σ.n T)∧RowN 1 τ' v (intsD (natsI js)) bs∧(∀ k ∈ bs,k ∈ mb')∧CallOk l N X n p js all'∧(all=true→all'=true):=by
 have hn:=h.fr.n
 have l1:=hP.r
 have l2:=hP.m
 have l3:=hP.ne
 obtain ⟨js,v,bs,all',M',mb',τ',T,c,m1,m2,m3,m4,m5,m6,m7,m8,m9,m10,m11,m12⟩:=hs τ all M mb h.run h.memo h.tab (h.tkn hP ht) ⟨by omega,by omega,l3,fun k hk => by have:=hP.tbl k hk; exact ⟨by omega,this.2⟩,fun k hk => by cases hk⟩ (fun k hk => by obtain ⟨q1,q2,q3,-⟩:=h.mbn k hk; exact ⟨q1,q2,q3⟩)
 have g:∀ k,k < τ.n→k≠kr→k≠kM→τ'.get k=τ.get k:=m9
 obtain ⟨gm,gs,⟨fa,gf,hrow⟩,fn,ko⟩:=h.fr
 have lkg:∀ k ∈ lks,k < τ.n∧k≠σ.n∧k≠σ.n+1∧k≠σ.n+2:=fun k hk => by
  have q1:=hI.lt _ _ _ h.lvi k hk
  rcases h.lko k hk with q | q
  · have:=(hP.lk k q).1; omega
  · omega
 refine ⟨js,v,bs,all',M',mb',τ',T,c,⟨⟨(g _ (by omega) (by omega) (by omega)).trans gm,(g _ (by omega) (by omega) (by omega)).trans gs,⟨fa,(g _ (by omega) (by omega) (by omega)).trans gf,hrow.stay m8 fun k hk => by have:=h.ksn k hk; exact g k this.2 (by omega) (by omega)⟩,by omega,ko⟩,m1,m2,h.tab.stay m8 fun k hk => by have:=hP.tbl k hk; exact g k (by omega) this.2.1 this.2.2,
  hI.stay _ _ _ _ h.lvi m8 fun k hk => ?_,fun k q1 q2 q3 q4 => (g k (by omega) q2 q3).trans (h.same k q1 q2 q3 q4),fun k hk => ?_,fun k hk => ?_,fun k hk => ?_,h.lko,h.lkn,fun k hk => ?_,h.nd,h.snd,fun q => ?_,fun q => m6 (h.allm q),fun w hw => ?_⟩,m3,m4,m5,m6⟩
 · rcases hk with hk | hk
   · obtain ⟨q1,q2,q3,q4⟩:=h.lkn k hk
     exact g k (lkg k hk).1 q1 q2
   · have:=hP.tbl k hk; exact g k (by omega) this.2.1 this.2.2
 · rcases List.mem_append.1 hk with hk | hk
   · exact h.w k hk
   · obtain ⟨q1,q2⟩:=mem_low.1 hk
     rcases m10 k q1 with q | q | q
     · exact .inl q
     · exact .inr (.inl q)
     · omega
 · obtain ⟨u1,u2,u3⟩:=m12 k hk
   rcases m11 k hk with q | q
   · obtain ⟨q1,q2,q3,q4,q5,q6⟩:=h.mbn k q
     exact ⟨u1,u2,u3,q4,q5,q6⟩
   · exact ⟨u1,u2,u3,fun e => by have:=(h.ksn k e).2; omega,fun e => by have:=(lkg k e).1; omega,by omega,by omega,by omega⟩
 · rcases m11 k hk with q | q
   · exact h.mbo k q
   · exact .inr (by omega)
 · have:=h.ksn k hk; exact ⟨this.1,by omega⟩
 · rcases m7 q with q | q
   · exact h.allo q
   · exact .inr (hr q)
 · obtain ⟨v1,v2,v3,v4,v5,v6⟩:=h.vs w hw
   refine ⟨v1,by omega,v3,v4,fun e => ?_,(g _ v2 (by omega) (by omega)).trans v6⟩
   rcases m11 _ e with q | q
   · exact v5 q
   · omega
theorem AL.leave (hP:PlL kr kM tb σ.n lk0) (hI:LvOk fz fl cap lv R l.length N.es.length tb I) {n p:Nat} (hn:n < R) (hp:p≤l.length) (ho:outs.length < 1000000000) (h:AL kr kM kt km ra ba rea tb R tok l N X bh rch lv I F all0 mb0 lk0 σ vs all M mb S ks outs lks τ W) :
 ∃ (a:A) (lks':List Nat) (τ':St) (T:List Nat),CallsTo (XX fz) (.func fl cap) [.d (.int .i64 (n:Int)),.d (.int .i64 (p:Int))] τ a τ' T ∧
  AL kr kM kt km ra ba rea tb R tok l N X bh rch lv I F all0 mb0 lk0 σ vs all M mb S ks (outs ++ [p]) lks' τ' (W ++ low σ.n T)∧StA (σ.n :: (σ.n+1) :: ks) τ' a (lv n p):=by
 have hfn:=h.fr.n
 have l1:=hP.r
 have l2:=hP.m
 have l3:=hP.ne
 obtain ⟨a,τ',T,lks',c,m1,m2,m3,m4,m5,m6,m7⟩:=hI.run τ outs lks n p h.lvi hn hp ho
 have g:∀ k,k < τ.n→k ∉ lks→τ'.get k=τ.get k:=m4
 obtain ⟨gm,gs,⟨fa,gf,hrow⟩,fn,ko⟩:=h.fr
 have nl:∀ k,σ.n≤k→k < σ.n+3→k ∉ lks:=fun k q1 q2 q3 => by
  rcases h.lko k q3 with q | q
  · have:=(hP.lk k q).1; omega
  · omega
 have nkr:kr ∉ lks:=fun q => (h.lkn _ q).1 rfl
 have nkM:kM ∉ lks:=fun q => (h.lkn _ q).2.1 rfl
 have nks:∀ k ∈ ks,k ∉ lks:=fun k hk q => (h.lkn _ q).2.2.1 hk
 have ntb:∀ k ∈ tb,k ∉ lks:=fun k hk q => (h.lkn _ q).2.2.2 hk
 refine ⟨a,lks',τ',T,c,⟨⟨(g _ (by omega) (nl _ (by omega) (by omega))).trans gm,(g _ (by omega) (nl _ (by omega) (by omega))).trans gs,⟨fa,(g _ (by omega) (nl _ (by omega) (by omega))).trans gf,hrow.stay m3 fun k hk => g k (h.ksn k hk).2 (nks k hk)⟩,by omega,ko⟩,h.run.stay (g _ (by omega) nkr) (g _ (by omega) nkM),h.memo.stay m3 (fun k hk => by obtain ⟨q1,q2,q3,q4,q5,q6⟩:=h.mbn k hk; exact g k q1 q5) (fun _ h => h) id,
  h.tab.stay m3 fun k hk => g k (h.tab.lt k hk) (ntb k hk),m1,fun k q1 q2 q3 q4 => ?_,fun k hk => ?_,fun k hk => ?_,h.mbo,fun k hk => ?_,fun k hk => ?_,fun k hk => ?_,h.nd,h.snd,h.allo,h.allm,fun w hw => ?_⟩,?_⟩
 · rw [g k (by omega) (fun e => by rcases h.lko k e with e | e; exact q4 e; omega)]; exact h.same k q1 q2 q3 q4
 · rcases List.mem_append.1 hk with hk | hk
   · exact h.w k hk
   · obtain ⟨q1,q2⟩:=mem_low.1 hk
     rcases m5 k q1 with q | q
     · rcases h.lko k q with q | q
       · exact .inr (.inr q)
       · omega
     · omega
 · obtain ⟨q1,q2,q3,q4,q5,q6⟩:=h.mbn k hk
   refine ⟨by omega,q2,q3,q4,fun e => ?_,q6⟩
   rcases m6 k e with e | e
   · exact q5 e
   · omega
 · rcases m6 k hk with e | e
   · exact h.lko k e
   · exact .inr (by omega)
 · rcases m6 k hk with e | e
   · exact h.lkn k e
   · exact ⟨by omega,by omega,fun q => by have:=(h.ksn k q).2; omega,fun q => by have:=(hP.tbl k q).1; omega⟩
 · have:=h.ksn k hk; exact ⟨this.1,by omega⟩
 · obtain ⟨v1,v2,v3,v4,v5,v6⟩:=h.vs w hw
   refine ⟨v1,by omega,v3,fun e => ?_,v5,(g _ v2 v4).trans v6⟩
   rcases m6 _ e with e | e
   · exact v4 e
   · omega
 · rcases m2 with q | ⟨k,rfl,q2,q3,q4⟩
   · exact .inl q
   · have:=m7 k 0 _ 2 rfl
     refine .inr ⟨k,rfl,q2,q3,fun e => ?_⟩
     rcases List.mem_cons.1 e with e | e
     · omega
     rcases List.mem_cons.1 e with e | e
     · omega
     · have:=(h.ksn k e).2; omega
end
end Go.Am

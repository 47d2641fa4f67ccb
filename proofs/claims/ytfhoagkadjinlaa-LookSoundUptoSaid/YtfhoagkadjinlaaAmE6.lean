/- Part E6 of a proof that runs a program's calls on a small machine whose values bear no addresses: no conditions. -/
import Derived.Test.YtfhoagkadjinlaaAmE5
set_option autoImplicit false
set_option linter.unusedSimpArgs false
set_option linter.unusedVariables false
set_option linter.unusedSectionVars false
namespace Go.Am
open Go Go.Proofs
variable {fz:Nat→Md}
theorem RowAt.idxI {σ:St} {a:A} {js:List Int} {bs:List Nat} (h:RowAt 1 σ a (intsD js) bs) {i:Nat} (hi:i < js.length) :
 ∃ p R,indexK σ 1 a (.d (.int .i64 (i:Int)))=.val p σ [] R∧∃ R',loadK σ (some { kind:=TK.int IntKind.i64,size:=1,bytes:=8,zero:=some [A.d (D.int IntKind.i64 0)],zval:=A.d (D.int IntKind.i64 0) }) p=.val (.d (.int .i64 js[i])) σ [] R':=by
 have hx:(intsD js)[i]?=some [.int .i64 js[i]]:=by simp [intsD,hi]
 obtain ⟨p,R,h1,h2⟩:=(h.sl (by omega)).idx .i64 i _ hx
 obtain ⟨R',h3⟩:=h2 (TK.int IntKind.i64) 8 (some [A.d (D.int IntKind.i64 0)]) (A.d (D.int IntKind.i64 0))
 exact ⟨p,R,h1,R',h3⟩
theorem RowN.stA {σ:St} {a:A} {S:List (Nat × Nat)} {ks:List Nat} (h:RowN 2 σ a (stD S) ks):StA [] σ a S:=by
 rcases h.1.2 with ⟨q,rfl,-⟩ | ⟨k,rfl,h2,h3,-⟩
 · rw [show S=[] by cases S with | nil => rfl | cons _ _ => simp [stD] at q]
   exact .inl ⟨true,rfl⟩
 · rw [stD_len]; exact .inr ⟨k,rfl,h2,h3,by simp⟩
theorem Ev.mid {X:X} {f nt lo:Nat} {ro:Option Nat} {c:Item} {rest:List Item} {tm:Tm} {σ:St} {W:List Nat} {Q:Out→Prop} (I:Tm→St→List Nat→Prop) (h2:∀ rest,(∀ tm σ W,I tm σ W→Ev X f nt ro lo rest tm σ W Q)→Ev X f nt ro lo (c :: rest) tm σ W Q) (h1:∀ tm σ W,I tm σ W→Ev X f nt ro lo rest tm σ W Q):Ev X f nt ro lo (c :: rest) tm σ W Q:=h2 rest h1
theorem OpK.mid {X:X} {ops:Array Oper} {draw:Bool} {os:List Oper} {i:Nat} {log:List Log} {fn nt:Nat} {ro:Option Nat} {lo:Nat} {k:List Item} {tm:Tm} {W:List Nat} {Q:Out→Prop} {dst:Option Nat} {r:OpR} (I:Tm→St→List Nat→Prop)
 (h2:∀ k,(∀ tm σ W,I tm σ W→Ev X fn nt ro lo k tm σ W Q)→OpK X ops draw os i log fn nt ro lo k tm W Q dst r) (h1:∀ tm σ W,I tm σ W→Ev X fn nt ro lo k tm σ W Q):OpK X ops draw os i log fn nt ro lo k tm W Q dst r:=h2 k h1
def EdD (l:List Int) (N:Nv) (X:Nx) (S:List (Nat × Nat)) (all:Bool) (e:Eg) (p:Nat):Prop :=
 (e.kind=0→(e.to,p) ∈ S)∧(e.kind=1→l[p]?=some e.num→(e.to,p+1) ∈ S) ∧
 (e.kind=2→(∀ k,Rn l N X (X.ent e.num.toNat) p (X.lve e.num.toNat) k→(e.to,k) ∈ S)∧(Pg l N X (X.ent e.num.toNat) p l.length→all=true))
theorem EdD.mono {l:List Int} {N:Nv} {X:Nx} {S S':List (Nat × Nat)} {all all':Bool} {e:Eg} {p:Nat} (h:EdD l N X S all e p) (hS:∀ x ∈ S,x ∈ S') (ha:all=true→all'=true):EdD l N X S' all' e p :=
 ⟨fun q => hS _ (h.1 q),fun q1 q2 => hS _ (h.2.1 q1 q2),fun q => ⟨fun k hk => hS _ ((h.2.2 q).1 k hk),fun hk => ha ((h.2.2 q).2 hk)⟩⟩
def FnD (l:List Int) (N:Nv) (X:Nx) (lv:Nat→Nat→List (Nat × Nat)) (S:List (Nat × Nat)) (all:Bool) (x:Nat × Nat):Prop :=
 (x.2=l.length→all=true)∧(x.1=lvS N X x.1→∀ y ∈ lv (N.rule x.1).toNat x.2,y ∈ S)∧∀ r,N.es[x.1]?=some r→∀ e ∈ r,EdD l N X S all e x.2
theorem FnD.mono {l:List Int} {N:Nv} {X:Nx} {lv:Nat→Nat→List (Nat × Nat)} {S S':List (Nat × Nat)} {all all':Bool} {x:Nat × Nat} (h:FnD l N X lv S all x) (hS:∀ x ∈ S,x ∈ S') (ha:all=true→all'=true):FnD l N X lv S' all' x :=
 ⟨fun q => ha (h.1 q),fun q y hy => hS _ (h.2.1 q y hy),fun r hr e he => (h.2.2 r hr e he).mono hS ha⟩
theorem fnD_all {l:List Int} {N:Nv} {X:Nx} {lv:Nat→Nat→List (Nat × Nat)} {F S:List (Nat × Nat)} {all:Bool} (hF:∀ x ∈ F,x ∈ S) (hS:∀ x ∈ S,FnD l N X lv S all x):(∀ s p,Lk l N X lv F s p→(s,p) ∈ S)∧(LkP l N X lv F l.length→all=true):=by
 have key:∀ {s p:Nat},Lk l N X lv F s p→(s,p) ∈ S:=fun {s p} h => by
  induction h with
  | start h => exact hF _ h
  | free _ h1 h2 h3 ih => exact ((hS _ ih).2.2 _ h1 _ h2).1 h3
  | tok _ h1 h2 h3 h4 ih => exact ((hS _ ih).2.2 _ h1 _ h2).2.1 h3 h4
  | call _ h1 h2 h3 h4 ih => exact (((hS _ ih).2.2 _ h1 _ h2).2.2 h3).1 _ h4
  | leave _ h1 h2 ih => exact (hS _ ih).2.1 h1 _ h2
 refine ⟨fun s p h => key h,?_⟩
 rintro ⟨s,p,h1,h2⟩
 have h3:=hS _ (key h1)
 rcases h2 with rfl | ⟨r,e,g1,g2,g3,g4⟩
 · exact h3.1 rfl
 · exact ((h3.2.2 r g1 e g2).2.2 g3).2 g4
def endsL (N:Nv) (X:Nx) (S:List (Nat × Nat)):List Nat:=(S.filter fun x => decide (x.1=lvS N X x.1)).map (·.2)
theorem endsL_app (N:Nv) (X:Nx) (S T:List (Nat × Nat)):endsL N X (S ++ T)=endsL N X S ++ endsL N X T:=by simp [endsL]
theorem endsL_mem {N:Nv} {X:Nx} {S:List (Nat × Nat)} {j:Nat}:j ∈ endsL N X S ↔ ∃ s,(s,j) ∈ S∧s=lvS N X s:=by
 unfold endsL
 rw [List.mem_map]
 constructor
 · rintro ⟨⟨s,p⟩,h1,rfl⟩
   rw [List.mem_filter,decide_eq_true_eq] at h1
   exact ⟨s,h1⟩
 · rintro ⟨s,h1,h2⟩
   exact ⟨(s,j),by rw [List.mem_filter,decide_eq_true_eq]; exact ⟨h1,h2⟩,rfl⟩
theorem endsL_len (N:Nv) (X:Nx) (S:List (Nat × Nat)):(endsL N X S).length≤S.length:=by
 unfold endsL; rw [List.length_map]; exact List.length_filter_le _ _
theorem endsL_one {N:Nv} {X:Nx} {s p:Nat}:endsL N X [(s,p)]=if s=lvS N X s then [p] else []:=by
 unfold endsL
 by_cases h:s=lvS N X s
 · rw [if_pos h,List.filter_cons_of_pos (by simpa using h)]; rfl
 · rw [if_neg h,List.filter_cons_of_neg (by simpa using h)]; rfl
set_option maxHeartbeats 64000000 in
theorem alongL_c (h107:fz 107=.keep) (h120:fz 120=.keep) {kr kM kt km:Nat} {ra ba rea:A} {tb:List Nat} {R:Nat} {tok:A} {l:List Int} {N:Nv} {X:Nx} {bh:Nat→List Nat} {rch:Nat→Bool} {lv:Nat→Nat→List (Nat × Nat)} {I:List Nat→List Nat→St→Prop} {fl:Nat} {cap:List A}
 (hN:NetG N X R) (hF:N.Fits 10000) (hL:l.length≤1000) {σ:St} {all0:Bool} {M0:MpA} {mb0 lk0 outs0:List Nat} (hP:PlL kr kM tb σ.n lk0) (hI:LvOk fz fl cap lv R l.length N.es.length tb I) {fa:A} {xs:List (Nat × Nat)} (hfa:StA [] σ fa xs) (hxs:∀ x ∈ xs,x.1 < N.es.length∧x.2≤l.length) (hxl:xs.length < 100000000)
 (hrun:RunL kr kM kt tok all0 M0 σ) (hmemo:MemoL R l N X M0 all0 mb0 σ) (htab:TabS kt km ra ba rea tb R N X bh rch σ) (htok:TokA tb σ tok l) (hlv:I outs0 lk0 σ) (houts:outs0.length < 100000000) (hmb:∀ k ∈ mb0,k < σ.n∧k≠kr∧k≠kM∧k ∉ lk0)
 (hcall:∀ (s p:Nat) (r:List Eg),Lk l N X lv xs s p→p≤l.length→N.es[s]?=some r→∀ e ∈ r,e.kind=2→CallSpecL kr kM kt km ra ba rea tb R tok l N X bh rch fz e.num.toNat p) :
 ∃ (σ':St) (W:List Nat),CallsTo (XX fz) (.func 107 []) [.ptr kr 0,fa,.func fl cap] σ (.tup []) σ' W∧∃ (S:List (Nat × Nat)) (all:Bool) (M:MpA) (mb ks lks:List Nat),AL kr kM kt km ra ba rea tb R tok l N X bh rch lv I xs all0 mb0 lk0 σ [] all M mb S ks (outs0 ++ endsL N X S) lks σ' W ∧
  (∀ x ∈ xs,x ∈ S)∧(∀ x ∈ S,FnD l N X lv S all x):=by
 refine CallsTo.keepE h107 fn107 (by simp) ?_
 simp only [Try.f107,Option.getD_some]
 have hel:=hF.e
 have hC:N.es.length * (l.length+1) < 800000000:=by
  have:=Nat.mul_le_mul hel (show l.length+1≤1001 by omega); omega
 have l1:=hP.r
 have l2:=hP.m
 have hcc:fa.cells=some [fa]∧fa.isCell=true:=by
  rcases hfa with ⟨z,rfl⟩ | ⟨k,rfl,-⟩ <;> exact ⟨rfl,rfl⟩
 obtain ⟨cc1,cc2⟩:=hcc
 simp only [go_sem,cc1,cc2]
 have hτn:(((((σ.push (.cells [fa])).push (.map [])).push (.cells [.d .nmap])).set (σ.n+2) (.cells [.map (σ.n+1)])).set σ.n (.cells [.d (.slc true [])])).n=σ.n+3:=by simp only [St.n_set,St.n_push]
 have hg0:∀ k,k < σ.n→(((((σ.push (.cells [fa])).push (.map [])).push (.cells [.d .nmap])).set (σ.n+2) (.cells [.map (σ.n+1)])).set σ.n (.cells [.d (.slc true [])])).get k=σ.get k:=fun k hk => by
  rw [St.get_set_ne (by omega),St.get_set_ne (by omega),St.get_push_ne (by simp only [St.n_push]; omega),St.get_push_ne (by simp only [St.n_push]; omega),St.get_push_ne hk]
 have hg1:(((((σ.push (.cells [fa])).push (.map [])).push (.cells [.d .nmap])).set (σ.n+2) (.cells [.map (σ.n+1)])).set σ.n (.cells [.d (.slc true [])])).get (σ.n+1)=.map (PM (SSa [])):=by
  rw [St.get_set_ne (by omega),St.get_set_ne (by omega),St.get_push_ne (by simp only [St.n_push]; omega),St.get_push_eq' (by simp only [St.n_push])]; rfl
 have hg2:(((((σ.push (.cells [fa])).push (.map [])).push (.cells [.d .nmap])).set (σ.n+2) (.cells [.map (σ.n+1)])).set σ.n (.cells [.d (.slc true [])])).get (σ.n+2)=.cells [.map (σ.n+1)]:=by
  rw [St.get_set_ne (by omega),St.get_set_eq]
 have hg3:(((((σ.push (.cells [fa])).push (.map [])).push (.cells [.d .nmap])).set (σ.n+2) (.cells [.map (σ.n+1)])).set σ.n (.cells [.d (.slc true [])])).get σ.n=.cells [.d (.slc true [])]:=St.get_set_eq
 generalize (((((σ.push (.cells [fa])).push (.map [])).push (.cells [.d .nmap])).set (σ.n+2) (.cells [.map (σ.n+1)])).set σ.n (.cells [.d (.slc true [])]))=τ0 at hτn hg0 hg1 hg2 hg3
 have h0:AL kr kM kt km ra ba rea tb R tok l N X bh rch lv I xs all0 mb0 lk0 σ [] all0 M0 mb0 [] [] outs0 lk0 τ0 [] :=
  ⟨⟨hg1,hg2,⟨_,hg3,RowN.nil⟩,by omega,fun k hk => by cases hk⟩,hrun.stay (hg0 _ l1) (hg0 _ l2),hmemo.stay (by omega) (fun k hk => hg0 k (hmb k hk).1) (fun _ h => h) id,htab.stay (by omega) (fun k hk => hg0 k (htab.lt k hk)),hI.stay _ _ _ _ hlv (by omega) (fun k hk => hg0 k (hk.elim (hI.lt _ _ _ hlv k) (htab.lt k))),
   fun k q1 q2 q3 q4 => hg0 k q1,(fun k hk => by cases hk),fun k hk => by obtain ⟨q1,q2,q3,q4⟩:=hmb k hk; exact ⟨by omega,q2,q3,by simp,q4,by omega,by omega,by omega⟩,fun k hk => .inl hk,fun k hk => .inl hk,fun k hk => by obtain ⟨q1,q2,q3,q4⟩:=hP.lk k hk; exact ⟨q2,q3,by simp,q4⟩,(fun k hk => by cases hk),List.nodup_nil,(fun x hx => by cases hx),fun h => .inl h,id,fun v hv => by cases hv⟩
 have hfa0:StA [σ.n,σ.n+1] τ0 fa xs:=by
  rcases hfa with q | ⟨k,q1,q2,q3,q4⟩
  · exact .inl q
  · exact .inr ⟨k,q1,(hg0 k q3).trans q2,by omega,by simp; omega⟩
 obtain ⟨τ1,T1,S1,ks1,hc1,hA1,-,hx1,-,-⟩:=h0.reach h120 hP hI hC hfa0 (fun x hx => ⟨(hxs x hx).1,(hxs x hx).2,.start hx⟩) hxl
 refine ⟨_,_,_,hc1,?_⟩
 rw [List.nil_append] at hA1
 refine Ev.loop_ind (fun m tm τ W => ∃ (i:Nat) (all:Bool) (M:MpA) (mb:List Nat) (S:List (Nat × Nat)) (ks lks:List Nat),m=N.es.length * (l.length+1) - i∧i≤S.length ∧
  AL kr kM kt km ra ba rea tb R tok l N X bh rch lv I xs all0 mb0 lk0 σ [] all M mb S ks (outs0 ++ endsL N X (S.take i)) lks τ W∧(∀ x ∈ xs,x ∈ S)∧(∀ x ∈ S.take i,FnD l N X lv S all x) ∧
  tm.at 0=.ptr kr 0∧tm.at 2=.func fl cap∧tm.at 4=.ptr σ.n 0∧tm.at 7=.func 120 [.ptr (σ.n+2) 0,.ptr σ.n 0]∧tm.at 9=.d (.int .i64 (i:Int))) ?_ (N.es.length * (l.length+1)) _ _ _ ⟨0,all0,M0,mb0,S1,ks1,lk0,rfl,Nat.zero_le _,by simpa [endsL] using hA1,hx1,(fun x hx => by simp at hx),?_,?_,?_,?_,?_⟩
 · clear hA1 hc1 h0 hfa0 hx1 hg0 hg1 hg2 hg3 hτn
   rintro m tm τ W ⟨i,all,M,mb,S,ks,lks,rfl,hi,hA,hxS,hfin,t0,t2,t4,t7,t9⟩ ih
   obtain ⟨gm,gs,⟨fa',gf,hrow⟩,fn,ko⟩:=hA.fr
   have hsl:=hrow.1.len
   rw [stD_len] at hsl
   have hcap:S.length≤N.es.length * (l.length+1):=by
    rw [← stops_len]
    exact hA.nd.length_le_of_subset fun x hx => stops_mem (hA.snd x hx).1 (hA.snd x hx).2.1
   by_cases hlt:i < S.length
   · obtain ⟨px,Rx,hix,Rx',hld⟩:=hrow.stA.idx hlt
     have htake:S.take (i+1)=S.take i ++ [S[i]]:=by simp
     have hmS:=List.getElem_mem hlt
     generalize hSi:S[i]=x at hld htake hmS
     obtain ⟨s,p⟩:=x
     dsimp only at hld
     have lz:low σ.n [τ.n]=[]:=by rw [low_cons_ge (by omega)]; rfl
     obtain ⟨hsN,hpL,hsR⟩:=hA.snd _ hmS
     dsimp only at hsN hpL hsR
     have hAx:=(hA.push hP hI [.d (.int .i64 0),.d (.int .i64 0)]).set hP hI (fun v hv => by cases hv) [.d (.int .i64 (s:Int)),.d (.int .i64 (p:Int))]
     simp only [go_sem,t0,t2,t4,t7,t9,gf,hsl,dec_lt' hlt,hix,hld,lz]
     have hkn:kr≠τ.n:=by omega
     have hxn:σ.n+3≤τ.n:=by omega
     generalize ((τ.push (.cells [.d (.int .i64 0),.d (.int .i64 0)])).set τ.n (.cells [.d (.int .i64 (s:Int)),.d (.int .i64 (p:Int))]))=τx at hAx
     obtain ⟨-,-,-,-,-,hxc⟩:=hAx.vs _ (List.mem_singleton.2 rfl)
     dsimp only at hxc
     have hcell:=hAx.run.cell
     have hlen:=(hAx.tkn hP htok).len
     have hcell0:=hA.run.cell
     clear hA gm gs gf hrow fn ko hsl hix hld
     generalize τ.n=kx at *
     refine OpK.mid (fun tm' τ' W' => ∃ (all1:Bool),AL kr kM kt km ra ba rea tb R tok l N X bh rch lv I xs all0 mb0 lk0 σ [(kx,[.d (.int .i64 (s:Int)),.d (.int .i64 (p:Int))])] all1 M mb S ks (outs0 ++ endsL N X (S.take i)) lks τ' W'∧(all=true→all1=true)∧(p=l.length→all1=true) ∧
      tm'.at 0=.ptr kr 0∧tm'.at 2=.func fl cap∧tm'.at 4=.ptr σ.n 0∧tm'.at 7=.func 120 [.ptr (σ.n+2) 0,.ptr σ.n 0]∧tm'.at 9=.d (.int .i64 (i:Int))∧tm'.at 10=.ptr kx 0) ?_ ?_
     · intro K hK
       cases all with
       | true =>
        have hA2:=hAx.flag hP hI (all':=true) (fun _ => rfl) (fun _ => .inl rfl)
        simp only [go_sem,hkn,hxc,hcell,hcell0,hlen,t0]
        refine ⟨drawOk_rel [17] [] rfl (by kernel_rfl) rfl (by simp),hK _ _ _ ⟨true,hA2,fun _ => rfl,fun _ => rfl,?_,?_,?_,?_,?_,?_⟩⟩
        all_goals (simp only [go_sem,t0,t2,t4,t7,t9])
       | false =>
        have hA2:=hAx.flag hP hI (all':=decide (p=l.length)) (fun q => by cases q) (fun q => .inr ⟨s,p,hsR,.inl (by simpa using q)⟩)
        have ceq:((p:Int) == (l.length:Int))=decide (p=l.length):=by rw [Bool.eq_iff_iff]; simp; omega
        simp only [go_sem,hkn,hxc,hcell,hcell0,hlen,t0,ceq]
        refine ⟨drawOk_rel [17] [] rfl (by kernel_rfl) rfl (by simp),hK _ _ _ ⟨decide (p=l.length),hA2,(fun q => by cases q),(fun q => by simpa using q),?_,?_,?_,?_,?_,?_⟩⟩
        all_goals (simp only [go_sem,t0,t2,t4,t7,t9])
     · clear hAx hxc hcell hcell0 t0 t2 t4 t7 t9 hkn lz
       rintro tm τ W ⟨all1,hA,ha1,ha2,t0,t2,t4,t7,t9,t10⟩
       obtain ⟨-,-,-,-,-,hxc⟩:=hA.vs _ (List.mem_singleton.2 rfl)
       dsimp only at hxc
       have hcell:=hA.run.cell
       have htc:=hA.tab.cell
       obtain ⟨bsr,hrw,-⟩:=hA.tab.rules
       obtain ⟨pr,Rr,hixr,Rr',hldr⟩:=hrw.idxI (i:=s) (by rw [hN.rl]; exact hsN)
       have hrs:N.rs[s]'(by rw [hN.rl]; exact hsN)=(((N.rule s).toNat:Nat):Int):=by
        have h1:N.rule s=N.rs[s]'(by rw [hN.rl]; exact hsN):=by unfold Nv.rule; rw [List.getD_eq_getElem?_getD,List.getElem?_eq_getElem (by rw [hN.rl]; exact hsN)]; rfl
        rw [← h1]; exact (Int.toNat_of_nonneg (hN.rr s hsN).1).symm
       rw [hrs] at hldr
       have hrlR:=(hN.rr s hsN).2
       have in2:=fun (ρ:St) => index_sl (σ:=ρ) (kd:=.i64) (l:=X.lv) (i:=(N.rule s).toNat) (by rw [hN.lvl]; exact hrlR)
       rw [(hN.lv _ hrlR).2.1,show X.lve (N.rule s).toNat=lvS N X s from rfl] at in2
       simp only [go_sem,t0,t10,hcell,htc,hxc,hixr,hldr,in2]
       refine ⟨drawOk_rel [] [] rfl (by kernel_rfl) rfl (by simp),drawOk_rel [] [] rfl (by kernel_rfl) rfl (by simp),?_⟩
       refine Ev.mid (fun tm' τ' W' => ∃ (S1:List (Nat × Nat)) (ks1 lks1:List Nat),AL kr kM kt km ra ba rea tb R tok l N X bh rch lv I xs all0 mb0 lk0 σ [(kx,[.d (.int .i64 (s:Int)),.d (.int .i64 (p:Int))])] all1 M mb S1 ks1 (outs0 ++ endsL N X (S.take (i+1))) lks1 τ' W'∧(∃ e,S1=S ++ e)∧(s=lvS N X s→∀ y ∈ lv (N.rule s).toNat p,y ∈ S1) ∧
        tm'.at 0=.ptr kr 0∧tm'.at 2=.func fl cap∧tm'.at 4=.ptr σ.n 0∧tm'.at 7=.func 120 [.ptr (σ.n+2) 0,.ptr σ.n 0]∧tm'.at 9=.d (.int .i64 (i:Int))∧tm'.at 10=.ptr kx 0) ?_ ?_
       · intro K hK
         by_cases hsl:s=lvS N X s
         · have c1:((s:Int) == ((lvS N X s:Nat):Int))=true:=by rw [beq_iff_eq]; omega
           have hol:(outs0 ++ endsL N X (S.take i)).length < 1000000000:=by
            have:=endsL_len N X (S.take i)
            rw [List.length_take] at this
            rw [List.length_append]; omega
           obtain ⟨a,lks1,τ1,T1,hc1,hA1,hst⟩:=hA.leave hP hI hrlR hpL hol
           obtain ⟨τ2,T2,S1,ks1,hc2,hA2,he,hx2,-,-⟩:=hA1.reach h120 hP hI hC hst (fun x hx => by
            obtain ⟨q1,q2⟩:=hI.at_ _ _ _ hx
            exact ⟨q2,by omega,.leave hsR hsl hx⟩) (hI.sz _ _)
           have hends:(outs0 ++ endsL N X (S.take i)) ++ [p]=outs0 ++ endsL N X (S.take (i+1)):=by
            rw [htake,endsL_app,endsL_one,if_pos hsl,List.append_assoc]
           rw [hends] at hA2
           simp only [go_sem,c1,t2,t7,t10,hxc]
           refine ⟨_,_,_,hc1,?_⟩
           refine ⟨_,_,_,hc2,?_⟩
           refine hK _ _ _ ⟨S1,ks1,lks1,hA2,he,fun _ => hx2,?_,?_,?_,?_,?_,?_⟩
           all_goals (simp only [go_sem,t0,t2,t4,t7,t9,t10])
         · have c1:((s:Int) == ((lvS N X s:Nat):Int))=false:=by rw [beq_eq_false_iff_ne]; omega
           have hends:outs0 ++ endsL N X (S.take i)=outs0 ++ endsL N X (S.take (i+1)):=by
            rw [htake,endsL_app,endsL_one,if_neg hsl,List.append_nil]
           rw [hends] at hA
           simp only [go_sem,c1]
           refine hK _ _ _ ⟨S,ks,lks,hA,⟨[],by simp⟩,fun e => absurd e hsl,?_,?_,?_,?_,?_,?_⟩
           all_goals (simp only [go_sem,t0,t2,t4,t7,t9,t10])
       · clear hA hxc hcell htc hrw hixr hldr t0 t2 t4 t7 t9 t10
         rintro tm τ W ⟨S1,ks1,lks1,hA,⟨e1,he1⟩,hlv1,t0,t2,t4,t7,t9,t10⟩
         obtain ⟨-,-,-,-,-,hxc⟩:=hA.vs _ (List.mem_singleton.2 rfl)
         dsimp only at hxc
         have hcell:=hA.run.cell
         have htc:=hA.tab.cell
         have hget:N.es[s]?=some N.es[s]:=by simp [hsN]
         have hrl:=hF.l _ (List.getElem_mem hsN)
         have ies:=fun (ρ:St) => index_es (σ:=ρ) (kd:=.i64) hget
         simp only [go_sem,t0,t10,hcell,htc,hxc,ies,len_rw]
         refine ⟨drawOk_rel [] [] rfl (by kernel_rfl) rfl (by simp),?_⟩
         refine Ev.loop_ind (fun m2 tm τ W => ∃ (j:Nat) (all2:Bool) (M2:MpA) (mb2:List Nat) (S2:List (Nat × Nat)) (ks2 lks2:List Nat),m2=N.es[s].length - j∧j≤N.es[s].length ∧
          AL kr kM kt km ra ba rea tb R tok l N X bh rch lv I xs all0 mb0 lk0 σ [(kx,[.d (.int .i64 (s:Int)),.d (.int .i64 (p:Int))])] all2 M2 mb2 S2 ks2 (outs0 ++ endsL N X (S.take (i+1))) lks2 τ W∧(∃ e,S2=S1 ++ e)∧(all1=true→all2=true)∧(∀ e ∈ N.es[s].take j,EdD l N X S2 all2 e p) ∧
          tm.at 0=.ptr kr 0∧tm.at 2=.func fl cap∧tm.at 4=.ptr σ.n 0∧tm.at 7=.func 120 [.ptr (σ.n+2) 0,.ptr σ.n 0]∧tm.at 9=.d (.int .i64 (i:Int))∧tm.at 10=.ptr kx 0∧tm.at 92=.d (rowD N.es[s])∧tm.at 93=.d (.int .i64 (N.es[s].length:Int))∧tm.at 94=.d (.int .i64 (j:Int))) ?_ N.es[s].length _ _ _ ⟨0,all1,M,mb,S1,ks1,lks1,rfl,Nat.zero_le _,hA,⟨[],by simp⟩,id,(fun e he => by simp at he),?_,?_,?_,?_,?_,?_,?_,?_,?_⟩
         · clear hA hxc hcell htc t0 t2 t4 t7 t9 t10 tm τ W
           rintro m2 tm τ W ⟨j,all2,M2,mb2,S2,ks2,lks2,rfl,hj,hA,⟨e2,he2⟩,ha12,hdn,t0,t2,t4,t7,t9,t10,t92,t93,t94⟩ ih2
           by_cases hlj:j < N.es[s].length
           · have hge:N.es[s][j]?=some N.es[s][j]:=by simp [hlj]
             have hem:=List.getElem_mem hlj
             obtain ⟨k1,k2,k3,k4,k5,k6⟩:=hN.ed s _ hget _ hem
             have hcl:=hcall s p _ hsR hpL hget _ hem
             have htk:N.es[s].take (j+1)=N.es[s].take j ++ [N.es[s][j]]:=by simp
             generalize N.es[s][j]=e at hge hem k1 k2 k3 k4 k5 k6 hcl htk
             have irw:=fun (ρ:St) => index_rw (σ:=ρ) (kd:=.i64) hge
             obtain ⟨x1,x2,-,-,-,hxc0⟩:=hA.vs _ (List.mem_singleton.2 rfl)
             dsimp only at x1 x2 hxc0
             have hA1:=(hA.push hP hI [.d (.int .i64 0),.d (.int .i64 0),.d (.int .i64 0)]).set hP hI (fun v hv => by simp at hv; rw [hv]; dsimp only; omega) [.d (.int .i64 e.kind),.d (.int .i64 e.num),.d (.int .i64 (e.to:Int))]
             have lz:low σ.n [τ.n]=[]:=by have:=hA.fr.n; rw [low_cons_ge (by omega)]; rfl
             simp only [go_sem,t0,t2,t4,t7,t9,t10,t92,t93,t94,dec_lt' hlj,irw,Eg.D_c,lz]
             generalize ((τ.push (.cells [.d (.int .i64 0),.d (.int .i64 0),.d (.int .i64 0)])).set τ.n (.cells [.d (.int .i64 e.kind),.d (.int .i64 e.num),.d (.int .i64 (e.to:Int))]))=τ3 at hA1
             have hxk:τ.n≠kx:=by omega
             obtain ⟨y1,y2,y3,y4,y5,hec⟩:=hA1.vs _ (List.mem_cons_self ..)
             obtain ⟨-,-,-,-,-,hxc⟩:=hA1.vs (kx,_) (List.mem_cons_of_mem _ (List.mem_singleton.2 rfl))
             dsimp only at y1 y2 y3 y4 y5 hec hxc
             have hcell:=hA1.run.cell
             clear hA hxc0
             generalize τ.n=ke at hA1 y1 y2 y3 y4 y5 hec hxk
             have hlit:∀ (q:Nat) (av:List Nat),(∀ k ∈ av,k < τ3.n)→StA av (τ3.push (.cells [.d (.int .i64 (e.to:Int)),.d (.int .i64 (q:Int))])) (.row τ3.n 0 1 2) [(e.to,q)]:=fun q av hav => .inr ⟨τ3.n,rfl,St.get_push_eq,by rw [St.n_push]; omega,fun h => by have:=hav _ h; omega⟩
             have hav:∀ k ∈ σ.n :: (σ.n+1) :: ks2,k < τ3.n:=fun k hk => by
              have:=hA1.fr.n
              rcases List.mem_cons.1 hk with q | q
              · omega
              rcases List.mem_cons.1 q with q | q
              · omega
              · exact (hA1.ksn k q).2
             refine Ev.mid (fun tm' τ' W' => ∃ (all3:Bool) (M3:MpA) (mb3:List Nat) (S3:List (Nat × Nat)) (ks3 lks3:List Nat),
              AL kr kM kt km ra ba rea tb R tok l N X bh rch lv I xs all0 mb0 lk0 σ [(kx,[.d (.int .i64 (s:Int)),.d (.int .i64 (p:Int))])] all3 M3 mb3 S3 ks3 (outs0 ++ endsL N X (S.take (i+1))) lks3 τ' W'∧(∃ e,S3=S2 ++ e)∧(all2=true→all3=true)∧EdD l N X S3 all3 e p ∧
              tm'.at 0=.ptr kr 0∧tm'.at 2=.func fl cap∧tm'.at 4=.ptr σ.n 0∧tm'.at 7=.func 120 [.ptr (σ.n+2) 0,.ptr σ.n 0]∧tm'.at 9=.d (.int .i64 (i:Int))∧tm'.at 10=.ptr kx 0∧tm'.at 92=.d (rowD N.es[s])∧tm'.at 93=.d (.int .i64 (N.es[s].length:Int))∧tm'.at 94=.d (.int .i64 (j:Int))) ?_ ?_
             · intro K hK
               rcases (show e.kind=0∨e.kind=1∨e.kind=2 by omega) with h | h | h
               · have c1:(e.kind == 0)=true:=by rw [h]; rfl
                 obtain ⟨τ',T,S3,ks3,hc,h',r1,r2,-,-⟩:=(hA1.push hP hI [.d (.int .i64 (e.to:Int)),.d (.int .i64 (p:Int))]).reach h120 hP hI hC (hlit p _ hav) (fun x hx => by simp at hx; subst hx; exact ⟨k4,hpL,.free hsR hget hem h⟩) (by simp)
                 simp only [go_sem,c1,t7,t10,hec,hxc]
                 refine ⟨_,_,_,hc,?_⟩
                 refine hK _ _ _ ⟨all2,M2,mb2,S3,ks3,lks2,h'.less (fun v hv => List.mem_cons_of_mem _ (List.mem_cons_of_mem _ hv)),r1,id,⟨fun _ => r2 _ (by simp),(fun q => by omega),(fun q => by omega)⟩,?_,?_,?_,?_,?_,?_,?_,?_,?_⟩
                 all_goals (simp only [go_sem,t0,t2,t4,t7,t9,t10,t92,t93,t94])
               · have c1:(e.kind == 0)=false:=by rw [h]; rfl
                 have c2:(e.kind == 1)=true:=by rw [h]; rfl
                 have hlen3:=(hA1.tkn hP htok).len
                 by_cases hpl2:p < l.length
                 · have hlp:l[p]?=some l[p]:=by simp [hpl2]
                   obtain ⟨pt,Rt,ixt,Rt',ldt⟩:=(hA1.tkn hP htok).idx hpl2
                   by_cases he:l[p]=e.num
                   · have c3:(l[p] == e.num)=true:=by simpa using he
                     obtain ⟨τ',T,S3,ks3,hc,h',r1,r2,-,-⟩:=(hA1.push hP hI [.d (.int .i64 (e.to:Int)),.d (.int .i64 ((p+1:Nat):Int))]).reach h120 hP hI hC (hlit (p+1) _ hav) (fun x hx => by simp at hx; subst hx; exact ⟨k4,hpl2,.tok hsR hget hem h (by rw [hlp,he])⟩) (by simp)
                     simp only [go_sem,c1,c2,t0,t7,t10,hec,hxc,hcell,hlen3,dec_lt' hpl2,ixt,ldt,c3]
                     refine ⟨drawOk_rel [] [] rfl (by kernel_rfl) rfl (by simp),?_⟩
                     simp only [go_sem,t7,t10,hec,hxc,wrap_succ' hpl2 (show l.length < 1000000000 by omega)]
                     refine ⟨_,_,_,hc,?_⟩
                     refine hK _ _ _ ⟨all2,M2,mb2,S3,ks3,lks2,h'.less (fun v hv => List.mem_cons_of_mem _ (List.mem_cons_of_mem _ hv)),r1,id,⟨(fun q => by omega),fun _ _ => r2 _ (by simp),(fun q => by omega)⟩,?_,?_,?_,?_,?_,?_,?_,?_,?_⟩
                     all_goals (simp only [go_sem,t0,t2,t4,t7,t9,t10,t92,t93,t94])
                   · have c3:(l[p] == e.num)=false:=by simpa using he
                     simp only [go_sem,c1,c2,t0,t7,t10,hec,hxc,hcell,hlen3,dec_lt' hpl2,ixt,ldt,c3]
                     refine ⟨drawOk_rel [] [] rfl (by kernel_rfl) rfl (by simp),?_⟩
                     refine hK _ _ _ ⟨all2,M2,mb2,S2,ks2,lks2,hA1.less (fun v hv => List.mem_cons_of_mem _ hv),⟨[],by simp⟩,id,⟨(fun q => by omega),fun _ q => absurd (by rw [hlp] at q; simpa using q) he,(fun q => by omega)⟩,?_,?_,?_,?_,?_,?_,?_,?_,?_⟩
                     all_goals (simp only [go_sem,t0,t2,t4,t7,t9,t10,t92,t93,t94])
                 · have hlp:l[p]?=none:=by simp; omega
                   simp only [go_sem,c1,c2,t0,t7,t10,hec,hxc,hcell,hlen3,dec_ge' hpl2]
                   refine ⟨drawOk_rel [] [] rfl (by kernel_rfl) rfl (by simp),?_⟩
                   refine hK _ _ _ ⟨all2,M2,mb2,S2,ks2,lks2,hA1.less (fun v hv => List.mem_cons_of_mem _ hv),⟨[],by simp⟩,id,⟨(fun q => by omega),(fun _ q => by rw [hlp] at q; cases q),(fun q => by omega)⟩,?_,?_,?_,?_,?_,?_,?_,?_,?_⟩
                   all_goals (simp only [go_sem,t0,t2,t4,t7,t9,t10,t92,t93,t94])
               · have c1:(e.kind == 0)=false:=by rw [h]; rfl
                 have c2:(e.kind == 1)=false:=by rw [h]; rfl
                 have c3:(e.kind == 2)=true:=by rw [h]; rfl
                 obtain ⟨js,v,bs,all3,M3,mb3,τ4,T4,hc,hA4,hrv,hbs,hok,ha23⟩:=hA1.call hP hI (hcl h) htok (fun q => ⟨s,p,hsR,.inr ⟨_,e,hget,hem,h,q⟩⟩)
                 have hnn:((e.num.toNat:Nat):Int)=e.num:=Int.toNat_of_nonneg k3
                 rw [hnn] at hc
                 have hvl:=hrv.1.len
                 rw [intsD_len,natsI_len] at hvl
                 have hjl:js.length < 1000000000:=by have:=hok.len; omega
                 simp only [go_sem,c1,c2,c3,t0,t7,t10,hec,hxc]
                 refine ⟨_,_,_,hc,?_⟩
                 simp only [go_sem,hvl]
                 refine Ev.loop_ind (fun m3 tm τ W => ∃ (u:Nat) (S3:List (Nat × Nat)) (ks3:List Nat),m3=js.length - u∧u≤js.length ∧
                  AL kr kM kt km ra ba rea tb R tok l N X bh rch lv I xs all0 mb0 lk0 σ [(ke,[.d (.int .i64 e.kind),.d (.int .i64 e.num),.d (.int .i64 (e.to:Int))]),(kx,[.d (.int .i64 (s:Int)),.d (.int .i64 (p:Int))])] all3 M3 mb3 S3 ks3 (outs0 ++ endsL N X (S.take (i+1))) lks2 τ W∧(∃ e,S3=S2 ++ e)∧RowN 1 τ v (intsD (natsI js)) bs∧(∀ k ∈ js.take u,(e.to,k) ∈ S3) ∧
                  tm.at 0=.ptr kr 0∧tm.at 2=.func fl cap∧tm.at 4=.ptr σ.n 0∧tm.at 7=.func 120 [.ptr (σ.n+2) 0,.ptr σ.n 0]∧tm.at 9=.d (.int .i64 (i:Int))∧tm.at 10=.ptr kx 0∧tm.at 13=.ptr ke 0∧tm.at 92=.d (rowD N.es[s])∧tm.at 93=.d (.int .i64 (N.es[s].length:Int))∧tm.at 94=.d (.int .i64 (j:Int)) ∧
                  tm.at 149=v∧tm.at 150=.d (.int .i64 (js.length:Int))∧tm.at 151=.d (.int .i64 (u:Int))) ?_ js.length _ _ _ ⟨0,S2,ks2,rfl,Nat.zero_le _,hA4,⟨[],by simp⟩,hrv,(fun k hk => by simp at hk),?_,?_,?_,?_,?_,?_,?_,?_,?_,?_,?_,?_,?_⟩
                 · clear hA4 hrv hc
                   rintro m3 tm τ5 W5 ⟨u,S3,ks3,rfl,hu,hA5,⟨e3,he3⟩,hrv,hmem,t0,t2,t4,t7,t9,t10,t13,t92,t93,t94,t149,t150,t151⟩ ih3
                   by_cases hul:u < js.length
                   · obtain ⟨pv,Rv,hiv,Rv',hlv⟩:=hrv.idxI hul
                     obtain ⟨-,-,-,-,-,hec5⟩:=hA5.vs _ (List.mem_cons_self ..)
                     dsimp only at hec5
                     have hRj:=(hok.mem js[u]).1 (List.getElem_mem hul)
                     have hav5:∀ k ∈ σ.n :: (σ.n+1) :: ks3,k < τ5.n:=fun k hk => by
                      have:=hA5.fr.n
                      rcases List.mem_cons.1 hk with q | q
                      · omega
                      rcases List.mem_cons.1 q with q | q
                      · omega
                      · exact (hA5.ksn k q).2
                     have hlit5:StA (σ.n :: (σ.n+1) :: ks3) (τ5.push (.cells [.d (.int .i64 (e.to:Int)),.d (.int .i64 (js[u]:Int))])) (.row τ5.n 0 1 2) [(e.to,js[u])]:=.inr ⟨τ5.n,rfl,St.get_push_eq,by rw [St.n_push]; omega,fun h => by have:=hav5 _ h; omega⟩
                     obtain ⟨τ6,T6,S4,ks4,hc6,h6,⟨e4,he4⟩,r2,r3,r4⟩:=(hA5.push hP hI [.d (.int .i64 (e.to:Int)),.d (.int .i64 (js[u]:Int))]).reach h120 hP hI hC hlit5 (fun x hx => by simp at hx; subst hx; exact ⟨k4,hRj.len hpL,.call hsR hget hem h hRj⟩) (by simp)
                     have hrv6:RowN 1 τ6 v (intsD (natsI js)) bs:=hrv.stay (by rw [St.n_push] at r3; omega) fun k hk => by
                      rw [r4 k (hbs k hk),St.get_push_ne (hrv.1.lt hk)]
                     simp only [go_sem,t7,t13,t149,t150,t151,dec_lt' hul,hiv,hlv,hec5]
                     refine ⟨_,_,_,hc6,?_⟩
                     simp only [go_sem,t151,wrap_succ' hul hjl]
                     refine ih3 _ _ _ _ (by omega) ⟨u+1,S4,ks4,rfl,hul,h6.less (fun v hv => List.mem_cons_of_mem _ hv),⟨e3 ++ e4,by rw [he4,he3,List.append_assoc]⟩,hrv6,fun k hk => ?_,?_,?_,?_,?_,?_,?_,?_,?_,?_,?_,?_,?_,?_⟩
                     · rw [List.take_succ_eq_append_getElem hul,List.mem_append] at hk
                       rcases hk with hk | hk
                       · rw [he4]; exact List.mem_append_left _ (hmem k hk)
                       · simp at hk; subst hk; exact r2 _ (by simp)
                     all_goals (simp only [go_sem,t0,t2,t4,t7,t9,t10,t13,t92,t93,t94,t149,t150])
                   · have hul2:u=js.length:=by omega
                     subst hul2
                     rw [List.take_length] at hmem
                     simp only [go_sem,t149,t150,t151,dec_ge' hul]
                     refine hK _ _ _ ⟨all3,M3,mb3,S3,ks3,lks2,hA5.less (fun v hv => List.mem_cons_of_mem _ hv),⟨e3,he3⟩,ha23,⟨(fun q => by omega),(fun q => by omega),fun _ => ⟨fun k hk => hmem k ((hok.mem k).2 hk),hok.all⟩⟩,?_,?_,?_,?_,?_,?_,?_,?_,?_⟩
                     all_goals (simp only [go_sem,t0,t2,t4,t7,t9,t10,t92,t93,t94])
                 all_goals first | (simp only [go_sem,t0,t2,t4,t7,t9,t10,t92,t93,t94]; done) | (simp only [go_sem]; rfl)
             · clear hA1 hec hxc hcell t0 t2 t4 t7 t9 t10 t92 t93 t94
               rintro tm τ4 W4 ⟨all3,M3,mb3,S3,ks3,lks3,hA3,⟨e3,he3⟩,ha23,hed,t0,t2,t4,t7,t9,t10,t92,t93,t94⟩
               simp only [go_sem,t94,wrap_succ' hlj (show N.es[s].length < 1000000000 by omega)]
               refine ih2 _ _ _ _ (by omega) ⟨j+1,all3,M3,mb3,S3,ks3,lks3,rfl,hlj,hA3,⟨e2 ++ e3,by rw [he3,he2,List.append_assoc]⟩,fun q => ha23 (ha12 q),fun e' he' => ?_,?_,?_,?_,?_,?_,?_,?_,?_,?_⟩
               · rw [htk] at he'
                 rcases List.mem_append.1 he' with q | q
                 · exact (hdn e' q).mono (fun x hx => by rw [he3]; exact List.mem_append_left _ hx) ha23
                 · simp at q; subst q; exact hed
               all_goals (simp only [go_sem,t0,t2,t4,t7,t9,t10,t92,t93])
           · have hjl:j=N.es[s].length:=by omega
             subst hjl
             rw [List.take_length] at hdn
             simp only [go_sem,t92,t93,t94,dec_ge' hlj,t9,wrap_succ' hlt (show S.length < 1000000000 by omega)]
             have hS2:∀ x ∈ S,x ∈ S2:=fun x hx => by rw [he2,he1]; simp [hx]
             have htk2:S2.take (i+1)=S.take (i+1):=by
              rw [he2,he1,List.append_assoc,List.take_append_of_le_length (by omega)]
             refine ih _ _ _ _ (by omega) ⟨i+1,all2,M2,mb2,S2,ks2,lks2,rfl,by rw [he2,he1]; simp; omega,by rw [htk2]; exact hA.less (fun v hv => by cases hv),fun x hx => hS2 x (hxS x hx),fun x hx => ?_,?_,?_,?_,?_,?_⟩
             · rw [htk2,htake] at hx
               rcases List.mem_append.1 hx with q | q
               · exact (hfin x q).mono hS2 fun q => ha12 (ha1 q)
               · simp at q
                 subst q
                 exact ⟨fun q => ha12 (ha2 q),fun q y hy => by rw [he2]; exact List.mem_append_left _ (hlv1 q y hy),fun r hr e he => by dsimp only at hr; rw [hget] at hr; cases hr; exact hdn e he⟩
             all_goals (simp only [go_sem,t0,t2,t4,t7])
         all_goals first | (simp only [go_sem,t0,t2,t4,t7,t9,t10]; done) | (simp only [go_sem]; rfl)
   · obtain rfl:i=S.length:=by omega
     rw [List.take_length] at hA hfin
     simp only [go_sem,t4,t9,gf,hsl,dec_ge' hlt]
     exact ⟨S,all,M,mb,ks,lks,hA,hxS,hfin⟩
 all_goals first | (simp only [go_sem]; done) | (simp only [go_sem]; rfl)
end Go.Am

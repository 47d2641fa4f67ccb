/- Part A3 of a proof that runs a program's calls on a small machine whose values bear no addresses: no conditions. -/
import Derived.Test.YtfhoagkadjinlaaAmA2
set_option autoImplicit false
set_option linter.unusedSimpArgs false
set_option linter.unusedVariables false
set_option linter.unusedSectionVars false
namespace Go.Am
open Go
variable {P:Program} {fz:Nat→Md} {w w':World} {M M':Mem} {β β':Bt} {σ σ':St} {hF:Nat→Option Obj} {tm:Tm} {ρ:Operand→Value} {o:Oper} {a:A} {T R:List Nat}
theorem op_makeSlice (hs:Sat w M β σ hF) (hev:∀ x,VR M β (ev tm x) (ρ x)) {t:Nat} {l c:Operand} (ho:o.op=.makeSlice t l c) (he:evalOp (mkX P fz) tm σ o=.val a σ' T R):OpOk P ρ o w M β σ hF a σ' T:=by
 simp only [evalOp,ho] at he
 have hl:=hev l
 have hc:=hev c
 split at he
 · rename_i e sz by_ zz zvv n m hti h1l h1c
   rw [h1l] at hl; rw [h1c] at hc
   obtain ⟨inf,d,h1,h2,h3,h4,h5,h6,h7⟩:=ti_info hti
   have hu:=kind_slc h3
   split at he
   · rename_i ke es be z zvv hte
     obtain ⟨inf',d',g1,g2,g3,g4,g5,g6,g7⟩:=ti_info hte
     obtain ⟨zv,hz,hzr⟩:=zero_rel g6.symm
     simp only at g4 g5
     split at he
     · rename_i hcond
       obtain ⟨c1,c2,c3,c4,c5,c6⟩:=hcond
       simp only [OpR.val.injEq] at he; obtain ⟨rfl,rfl,rfl,_⟩:=he
       have hab:=hs.lt _ (Nat.le_refl σ.n)
       have hr:=run_make (P:=P) w t e inf' zv hu g1 hz .i64 .i64 n m c3 c4 (by rw [← g5]; omega) (by omega)
       have hv:VRL M β (rep m.toNat z) (madeCells zv.cells (m.toNat * inf'.size)).toList:=rep_rel (hzr M β) m.toNat _ (by rw [c1,g4])
       have hsz:(madeCells zv.cells (m.toNat * inf'.size)).size=m.toNat * inf'.size:=by simp [madeCells]
       refine ⟨.value (.slice (some ⟨w.heap.size,0,none⟩) n.toNat m.toNat),w.alloc (.cells (madeCells zv.cells (m.toNat * inf'.size)) e),M,β.new σ.n ⟨w.heap.size,0,(madeCells zv.cells (m.toNat * inf'.size)).size⟩,by simp [execOp,ho,vr_int hl,vr_int hc,hr],⟨_,.inl rfl,?_⟩,hs.alloc _ _ _ ?_,Grow.alloc hs _ _ _⟩
       · have:=VR.row (M:=M) (β:=β.new σ.n ⟨w.heap.size,0,(madeCells zv.cells (m.toNat * inf'.size)).size⟩) (k:=σ.n) (off:=0) (len:=n.toNat) (es:=es) (cap:=m.toNat) (i:=⟨w.heap.size,0,(madeCells zv.cells (m.toNat * inf'.size)).size⟩) (a:=⟨w.heap.size,0,none⟩)
          (Bt.new_same _ _ _) (by omega) (by simp only [hsz]; rw [g4]; omega) (.inr rfl)
         exact this
       · have hle:n.toNat * inf'.size≤m.toNat * inf'.size:=Nat.mul_le_mul_right _ (by omega)
         refine cells_br (heap_alloc_new w _) rfl rfl (by rw [rep_length,hsz,c1,g4]; exact hle) fun j q v hj hvv => ?_
         have hjl:j < n.toNat * z.length:=by have:=(List.getElem?_eq_some_iff.1 hj).1; rwa [rep_length] at this
         rw [rep_get _ _ _ hjl] at hj
         have hj':(rep m.toNat z)[j]?=some q:=by rw [rep_get _ _ _ (by rw [c1,g4] at hjl ⊢; omega)]; exact hj
         obtain ⟨u,hu',hr'⟩:=hv.get hj'
         have:u=v:=by simpa [hvv] using hu'.symm
         subst this
         exact hr'.mono (Mem.le_refl M) (Bt.le_new _ hab)
     · cases he
   · cases he
 · cases he
theorem keyFs_run (w:World) {f:Nat→A→Bool} {d:Nat} {em:Bool} (hf:∀ t x v,f t x=true→VR M β x v→(Instr.checkKey em d t v).run P w=.ok () w) {cs:List A} {vs:List Value} (hv:VRL M β cs vs) :
 ∀ (F:List Field),(∀ q ∈ F,q.name ≠ "_")→keyFs (mkX P fz) f cs (F.map fun q => (q.offset,((P.info? q.type).map (·.size)).getD 0,q.type))=true →
 (forIn (m:=Sem) F PUnit.unit fun q _ => if q.name ≠ "_" then do Instr.checkKey em d q.type (← part q.type vs.toArray q.offset); pure (ForInStep.yield PUnit.unit) else pure (ForInStep.yield PUnit.unit)).run P w=.ok PUnit.unit w
 | [],_,_ => rfl
 | q :: F,hn,h => by
  have ih:=keyFs_run w hf hv F (fun q hq => hn q (by simp [hq]))
  simp only [List.map_cons,keyFs] at h
  split at h
  · rename_i x hx
    obtain ⟨v,hv1,hv2⟩:=run_part (P:=P) hv hx w
    simp only [Bool.and_eq_true] at h
    rw [List.forIn_cons]
    have:=ih h.2
    rw [if_pos (hn q (by simp))]
    simp only [Sem.run_bind,hv1,hf _ _ _ h.1 hv2,Result.andThen_ok,Sem.run_pure]
    exact this
  · cases h
theorem keyArr_run (w:World) {f:Nat→A→Bool} {d:Nat} {em:Bool} (hf:∀ t x v,f t x=true→VR M β x v→(Instr.checkKey em d t v).run P w=.ok () w) {cs:List A} {vs:List Value} (hv:VRL M β cs vs) (e:Nat) {inf:TypeInfo} (hi:P.info? e=some inf) :
 ∀ (n i:Nat),keyArr (mkX P fz) f cs inf.size e n i=true →
 (forIn (m:=Sem) (List.range' i n) PUnit.unit fun i _ => do Instr.checkKey em d e (← part e vs.toArray (i * (← sizeOf e))); pure (ForInStep.yield PUnit.unit)).run P w=.ok PUnit.unit w
 | 0,_,_ => rfl
 | n+1,i,h => by
  have ih:=keyArr_run w hf hv e hi n (i+1)
  simp only [keyArr] at h
  split at h
  · rename_i x hx
    obtain ⟨v,hv1,hv2⟩:=run_part (P:=P) hv hx w
    simp only [Bool.and_eq_true] at h
    rw [List.range'_succ,List.forIn_cons]
    have:=ih h.2
    simp only [Sem.run_bind,run_sizeOf hi,hv1,hf _ _ _ h.1 hv2,Result.andThen_ok,Sem.run_pure]
    exact this
  · cases h
theorem keyT_run {em:Bool} (w:World):∀ (n t:Nat) (x:A) (v:Value),keyT (mkX P fz) n t x=true→VR M β x v→∀ d,n≤d→(Instr.checkKey em d t v).run P w=.ok () w
 | 0,_,_,_,h,_,_,_ => by simp [keyT] at h
 | n+1,t,x,v,h,hx,d,hd => by
  obtain ⟨d,rfl⟩:∃ e,d=e+1:=⟨d - 1,by omega⟩
  have ih:=fun t x v h hx => keyT_run (em:=em) w n t x v h hx d (by omega)
  simp only [keyT] at h
  split at h
  · rename_i i hti
    obtain ⟨inf,dd,h1,h2,h3,h4,h5,h6,h7⟩:=ti_info hti
    split at h
    · rename_i fs cs hkind
      rw [hkind] at h3
      obtain ⟨F,hu,hnam,rfl⟩:=kind_struct h3
      obtain ⟨vs,rfl,hv⟩:=vr_agg hx
      simp only [Bool.and_eq_true] at h
      have:=keyFs_run (P:=P) (fz:=fz) w ih hv F.toList (fun q hq => (hnam q (by simpa using hq)).1) h.2
      simp only [Instr.checkKey,Sem.run_bind,run_underlying hu,Result.andThen_ok]
      rw [← Array.forIn_toList,this]
      rfl
    · rename_i len es e cs hkind
      rw [hkind] at h3
      obtain ⟨hu,hes⟩:=kind_arr h3
      obtain ⟨vs,rfl,hv⟩:=vr_agg hx
      split at h
      · cases h
      · rename_i hnz
        cases hi':P.info? e with
        | none => simp [hi'] at hes; omega
        | some inf' =>
         simp only [hi',Option.map_some,Option.getD_some] at hes
         subst hes
         have:=keyArr_run (P:=P) (fz:=fz) w ih hv e hi' len 0 h
         simp only [Instr.checkKey,Sem.run_bind,run_underlying hu,Result.andThen_ok]
         rw [Std.Legacy.Range.forIn_eq_forIn_range']
         simp only [Std.Legacy.Range.size,Nat.sub_zero,Nat.add_sub_cancel,Nat.div_one]
         rw [this]
         rfl
    · rename_i k q p hkind
      rw [hkind] at h3
      simp [Instr.checkKey,run_underlying (kind_int h3)]
    · rename_i p hkind
      rw [hkind] at h3
      simp [Instr.checkKey,run_underlying (kind_str h3)]
    · rename_i p hkind
      rw [hkind] at h3
      simp [Instr.checkKey,run_underlying (kind_bool h3)]
    · rename_i p q r hkind
      rw [hkind] at h3
      simp [Instr.checkKey,run_underlying (kind_ptr h3)]
    · rename_i p hkind
      rw [hkind] at h3
      simp [Instr.checkKey,run_underlying (kind_ptr h3)]
    · cases h
  · cases h
theorem findNow_asking {kt:Nat} {d:TypeDesc} (hd:P.underlying kt=some d) (kv:Value) (w:World):∀ (ents:List MapEntry) (i:Nat) r,Instr.findNow d kv ents i=some r→(Instr.findAsking kt kv ents i).run P w=.ok r w
 | [],i,r,h => by simp only [Instr.findNow,Option.some.injEq] at h; subst h; rfl
 | e :: ents,i,r,h => by
  have ih:=findNow_asking hd kv w ents (i+1)
  have key:∀ b,Instr.sameNow d kv e.key=some b→(Op.equal kt kv e.key).run P w=.ok b w:=by
   intro b hb
   unfold Instr.sameNow at hb
   split at hb
   · split at hb
     · rename_i h1 h2 he; subst he; injection hb with hb; subst hb; rw [h2]; exact run_equalIn_int w 9999 kt _ _ _ _ hd
     · cases hb
   · rename_i h2; injection hb with hb; subst hb; rw [h2]; exact (run_equalIn_string w 9999 kt _ _ hd).trans (by rw [beq_toListBytes])
   · rename_i h2; injection hb with hb; subst hb; rw [h2]; exact run_equalIn_bool w 9999 kt _ _ hd
   · cases hb
  simp only [Instr.findNow] at h
  split at h
  · rename_i hb
    injection h with h; subst h
    simp [Instr.findAsking,key _ hb]
  · rename_i hb
    simp [Instr.findAsking,key _ hb,ih r h]
  · cases h
theorem mapFind_run (hs:Sat w M β σ hF) {kt:Nat} {key:A} {kv:Value} (hk:VR M β key kv):∀ (es:List (A × A)) (ents:List MapEntry) (i:Nat) r,es.length=ents.length →
 (∀ (j:Nat) (a b:A),es[j]?=some (a,b)→∃ e:MapEntry,ents[j]?=some e∧VR M β a e.key∧VR M β b e.val)→mapFind (mkX P fz) σ kt key es i=some r →
 ∃ q,(Instr.findAsking kt kv ents i).run P w=.ok q w∧(match r,q with
  | none,none => True
  | some (p,a),some (p',v) => p=p'∧VR M β a v∧i≤p∧∃ k0,es[p - i]?=some (k0,a)∧eqT (mkX P fz) σ 8 kt key k0=some true
  | _,_ => False)
 | [],ents,i,r,hl,_,h => by
  simp only [mapFind,Option.some.injEq] at h; subst h
  cases ents with
  | nil => exact ⟨none,rfl,trivial⟩
  | cons _ _ => simp at hl
 | (a,b) :: es,ents,i,r,hl,he,h => by
  cases ents with
  | nil => simp at hl
  | cons e ents =>
   obtain ⟨e',he',ha,hb⟩:=he 0 a b rfl
   simp only [List.getElem?_cons_zero,Option.some.injEq] at he'; subst he'
   simp only [mapFind] at h
   split at h
   · rename_i hq
     injection h with h; subst h
     have hh:(Op.equal kt kv e.key).run P w=.ok true w:=eqT_run hs 8 kt _ _ _ _ _ hq hk ha 10000 (by omega)
     exact ⟨some (i,e.val),by simp [Instr.findAsking,hh],rfl,hb,Nat.le_refl _,a,by simp,hq⟩
   · rename_i hq
     obtain ⟨q,h1,h2⟩:=mapFind_run hs hk es ents (i+1) r (by simpa using hl) (fun j a b hj => by simpa using he (j+1) a b (by simpa using hj)) h
     have hh:(Op.equal kt kv e.key).run P w=.ok false w:=eqT_run hs 8 kt _ _ _ _ _ hq hk ha 10000 (by omega)
     refine ⟨q,by simp [Instr.findAsking,hh,h1],?_⟩
     cases r with
     | none => cases q with | none => trivial | some _ => exact h2.elim
     | some r =>
      obtain ⟨p,x⟩:=r
      cases q with
      | none => exact h2.elim
      | some q =>
       obtain ⟨p',v⟩:=q
       obtain ⟨c1,c2,c3,k0,c4,c5⟩:=h2
       refine ⟨c1,c2,by omega,k0,?_,c5⟩
       rw [show p - i=(p - (i+1))+1 by omega]; simpa using c4
   · cases h
theorem run_findKey {kt:Nat} {d:TypeDesc} (hd:P.underlying kt=some d) {kv:Value} {ents:List MapEntry} {q:Option (Nat × Value)} (h:(Instr.findAsking kt kv ents 0).run P w=.ok q w) :
 (Instr.findKey kt kv ents).run P w=.ok q w:=by
 unfold Instr.findKey
 simp only [Sem.run_bind,run_underlying hd,Result.andThen_ok]
 split
 · rename_i r hr
   have:=findNow_asking hd kv w ents 0 r hr
   rw [h] at this
   injection this with this; subst this; rfl
 · exact h
theorem vr_pair {a b:A} {u v:Value} (h1:VR M β a u) (h2:VR M β b v):VR M β (.tup [a,b]) (.tuple #[u,v]):=.tup (.cons h1 (.cons h2 .nil))
theorem op_lookup (hs:Sat w M β σ hF) (hev:∀ x,VR M β (ev tm x) (ρ x)) {t:Nat} {x y:Operand} {ok:Bool} (ho:o.op=.lookup t x y ok) (he:evalOp (mkX P fz) tm σ o=.val a σ' T R):OpOk P ρ o w M β σ hF a σ' T:=by
 simp only [evalOp,ho] at he
 have hx:=hev x
 have hy:=hev y
 split at he
 · rename_i kt e sz by_ zz zvv hti
   obtain ⟨inf,d,h1,h2,h3,h4,h5,h6,h7⟩:=ti_info hti
   have hu:=kind_map h3
   split at he
   · rename_i ke es be z zvv hte
     obtain ⟨inf',d',g1,g2,g3,g4,g5,g6,g7⟩:=ti_info hte
     obtain ⟨zv,hz,hzr⟩:=zero_rel g6.symm
     have hzv:VR M β zvv zv:=by
      simp only [hz,Option.map_some,Option.getD_some] at g7
      rw [g7]; exact ofV_rel zv
     split at he
     · cases he
     · rename_i hkey
       have hkey':keyT (mkX P fz) 8 kt (ev tm y)=true:=by simpa using hkey
       have hck:∀ em,(Instr.checkKey em 10000 kt (ρ y)).run P w=.ok () w:=fun em => keyT_run w 8 kt _ _ hkey' hy 10000 (by omega)
       have hkt:∃ dk,P.underlying kt=some dk:=by
        cases hd:P.underlying kt with
        | some dk => exact ⟨dk,rfl⟩
        | none =>
         simp only [keyT] at hkey'
         split at hkey'
         · rename_i i hi
           obtain ⟨_,dd,_,hdd,_⟩:=ti_info hi
           rw [hd] at hdd; cases hdd
         · cases hkey'
       obtain ⟨dk,hdk⟩:=hkt
       split at he
       · rename_i hxe
         rw [hxe] at hx
         simp only [OpR.val.injEq] at he; obtain ⟨rfl,rfl,rfl,_⟩:=he
         refine .same hs (v:=if ok then .tuple #[zv,.bool false] else zv) ?_ ?_
         · have hfk:(Instr.findKey kt (ρ y) []).run P w=.ok none w:=run_findKey hdk rfl
           cases ok <;> simp [execOp,ho,Instr.lookup,run_underlying hu,vr_nmap hx,hck,hfk,run_zeroValue g1 hz]
         · cases ok
           · exact hzv
           · exact vr_pair hzv (.d (.bool _))
       · rename_i m hxe
         rw [hxe] at hx
         split at he
         · rename_i es' hg
           obtain ⟨bi,hl,hv,hbr⟩:=vr_map hs hx hg
           obtain ⟨ents,clock,q1,⟨q2,-,-⟩,q3⟩:=hbr
           have hobj:(getObj bi.block).run P w=.ok (.map ents clock) w:=by simp [getObj,Sem.run,q1]
           split at he
           · rename_i p v hm
             simp only [OpR.val.injEq] at he; obtain ⟨rfl,rfl,rfl,_⟩:=he
             obtain ⟨q,r1,r2⟩:=mapFind_run hs hy es' ents.toList 0 _ (by simp [q2]) (by simpa using q3) hm
             cases q with
             | none => exact r2.elim
             | some q =>
              obtain ⟨p',u⟩:=q
              obtain ⟨rfl,hvu,_⟩:=r2
              have hfk:=run_findKey hdk r1
              refine .same hs (v:=if ok then .tuple #[u,.bool true] else u) ?_ ?_
              · cases ok <;> simp [execOp,ho,Instr.lookup,run_underlying hu,hv,hobj,hck,hfk]
              · cases ok
                · exact hvu
                · exact vr_pair hvu (.d (.bool _))
           · rename_i hm
             simp only [OpR.val.injEq] at he; obtain ⟨rfl,rfl,rfl,_⟩:=he
             obtain ⟨q,r1,r2⟩:=mapFind_run hs hy es' ents.toList 0 _ (by simp [q2]) (by simpa using q3) hm
             cases q with
             | some q => exact r2.elim
             | none =>
              have hfk:=run_findKey hdk r1
              refine .same hs (v:=if ok then .tuple #[zv,.bool false] else zv) ?_ ?_
              · cases ok <;> simp [execOp,ho,Instr.lookup,run_underlying hu,hv,hobj,hck,hfk,run_zeroValue g1 hz]
              · cases ok
                · exact hzv
                · exact vr_pair hzv (.d (.bool _))
           · cases he
         · cases he
       · cases he
   · cases he
 · cases he
end Go.Am
namespace Go.Am
open Go
variable {P:Program} {fz:Nat→Md} {w w':World} {M M':Mem} {β β':Bt} {σ σ':St} {hF:Nat→Option Obj} {tm:Tm} {ρ:Operand→Value} {o:Oper} {a:A} {T R:List Nat}
theorem sameK1_bits (hs:Sat w M β σ hF) {x y:A} {v u:Value} (h:sameK1 σ x y=true) (hx:VR M β x v) (hy:VR M β y u) (d:Nat):Instr.sameBits d v u=true:=by
 unfold sameK1 at h
 split at h
 · rw [vr_int hx,vr_int hy]; cases d <;> simpa [Instr.sameBits] using h
 · rw [vr_str hx,vr_str hy]; cases d <;> simpa [Instr.sameBits] using h
 · rw [vr_bool hx,vr_bool hy]; cases d <;> simpa [Instr.sameBits] using h
 · rename_i k o k' o'
   simp only [Bool.and_eq_true,beq_iff_eq] at h
   obtain ⟨⟨ha,rfl⟩,rfl⟩:=h
   cases hx with
   | ptrX h _ => exact (alive_ne ha (hs.dead k h)).elim
   | ptr h =>
    cases hy with
    | ptrX h' _ => exact (alive_ne ha (hs.dead k h')).elim
    | ptr h' =>
     rw [h] at h'; injection h' with h'; subst h'
     cases d <;> simp [Instr.sameBits]
 · cases h
theorem sameKs_bits (hs:Sat w M β σ hF) (d:Nat):∀ {x y:List A} {v u:List Value},sameKs σ x y=true→VRL M β x v→VRL M β y u→v.length=u.length∧((v.zip u).all fun (a,b) => Instr.sameBits d a b)=true
 | [],[],_,_,_,.nil,.nil => ⟨rfl,rfl⟩
 | a :: r,b :: s,_,_,h,.cons ha hr,.cons hb hs' => by
  simp only [sameKs,Bool.and_eq_true] at h
  have:=sameKs_bits hs d h.2 hr hs'
  exact ⟨by simp [this.1],by simp [sameK1_bits hs h.1 ha hb d]; simpa using this.2⟩
theorem sameK_bits (hs:Sat w M β σ hF) {x y:A} {v u:Value} (h:sameK σ x y=true) (hx:VR M β x v) (hy:VR M β y u) (d:Nat):Instr.sameBits (d+1) v u=true:=by
 unfold sameK at h
 split at h
 · obtain ⟨vs,rfl,hv⟩:=vr_agg hx
   obtain ⟨us,rfl,hu⟩:=vr_agg hy
   have:=sameKs_bits hs d h hv hu
   simp only [Instr.sameBits,List.size_toArray,Bool.and_eq_true,beq_iff_eq]
   exact this
 · exact sameK1_bits hs h hx hy _
theorem op_mapUpd (hs:Sat w M β σ hF) (hev:∀ x,VR M β (ev tm x) (ρ x)) {t:Nat} {m k x:Operand} (hd:(evalOp (mkX P fz) tm σ o=.val a σ' T R→evalOp (mkX P fz) tm σ { o with op:=.mapUpdate t m k x }=.val a σ' T R)∧execOp ρ o=execOp ρ { o with op:=.mapUpdate t m k x }) (he:evalOp (mkX P fz) tm σ o=.val a σ' T R):OpOk P ρ o w M β σ hF a σ' T:=by
 have he:=hd.1 he
 have ho:=hd.2
 simp only [evalOp] at he
 have hm:=hev m
 have hk:=hev k
 have hx:=hev x
 split at he
 · rename_i kt e sz by_ zz zvv r hti hme
   rw [hme] at hm
   obtain ⟨inf,d,h1,h2,h3,h4,h5,h6,h7⟩:=ti_info hti
   have hu:=kind_map h3
   split at he
   · rename_i es hg
     obtain ⟨bi,hl,hv,hbr⟩:=vr_map hs hm hg
     split at he
     · cases he
     · rename_i hkey
       have hkey':keyT (mkX P fz) 8 kt (ev tm k)=true:=by simpa using hkey
       have hck:∀ em,(Instr.checkKey em 10000 kt (ρ k)).run P w=.ok () w:=fun em => keyT_run w 8 kt _ _ hkey' hk 10000 (by omega)
       have hkt:∃ dk,P.underlying kt=some dk:=by
        cases hd:P.underlying kt with
        | some dk => exact ⟨dk,rfl⟩
        | none =>
         simp only [keyT] at hkey'
         split at hkey'
         · rename_i i hi
           obtain ⟨_,dd,_,hdd,_⟩:=ti_info hi
           rw [hd] at hdd; cases hdd
         · cases hkey'
       obtain ⟨dk,hdk⟩:=hkt
       obtain ⟨ents,clock,q1,⟨q2,qc,qb⟩,q3⟩:=hbr
       have hobj:(getObj bi.block).run P w=.ok (.map ents clock) w:=by simp [getObj,Sem.run,q1]
       have hset:∀ o,(setObj bi.block o).run P w=.ok () { w with heap:=w.heap.setIfInBounds bi.block o }:=by intro o; simp [setObj,Sem.run,q1]
       have hblt:bi.block < w.heap.size:=(Array.getElem?_eq_some_iff.1 q1).1
       have hother:∀ (o:Obj) (j:Nat),j≠bi.block→({ w with heap:=w.heap.setIfInBounds bi.block o }:World).heap[j]?=w.heap[j]?:=fun o j hj => by
        simp only; rw [Array.getElem?_setIfInBounds_ne (Ne.symm hj)]
       have hself:∀ (o:Obj),({ w with heap:=w.heap.setIfInBounds bi.block o }:World).heap[bi.block]?=some o:=fun o => by
        simp only; rw [Array.getElem?_setIfInBounds_self_of_lt hblt]
       have hsame:∀ (es':Array MapEntry) (c':Nat),Same w { w with heap:=w.heap.setIfInBounds bi.block (.map es' c') }:=fun es' c' => .turn (b:=bi.block) rfl rfl rfl (by simp) (fun j hj => hother _ j hj) fun n => by
        rw [hself,q1]; rfl
       have hna:β r≠.absent:=by rw [hl]; intro h; cases h
       split at he
       · rename_i p v hmf
         split at he <;> try (cases he; done)
         rename_i ek hek
         split at he <;> try (cases he; done)
         rename_i hsk
         simp only [OpR.val.injEq] at he; obtain ⟨rfl,rfl,rfl,_⟩:=he
         obtain ⟨q,r1,r2⟩:=mapFind_run hs hk es ents.toList 0 _ (by simp [q2]) (by simpa using q3) hmf
         cases q with
         | none => exact r2.elim
         | some q =>
          obtain ⟨p',u⟩:=q
          obtain ⟨rfl,hvu,_,k0,hk0,heq⟩:=r2
          have hfk:=run_findKey hdk r1
          simp only [Nat.sub_zero] at hk0
          obtain ⟨e0,he0,hka,_⟩:=q3 p k0 v hk0
          rw [hk0] at hek; injection hek with hek; subst hek
          have hbits:Instr.sameBits 10000 e0.key (ρ k)=true:=sameK_bits hs hsk hka hk 9999
          have hkt':(Instr.keyThatStays e0.key (ρ k)).run P w=.ok (ρ k) w:=by simp [Instr.keyThatStays,hbits]
          have hrun:(execOp ρ o).run P w=.ok .skip { w with heap:=w.heap.setIfInBounds bi.block (.map (ents.modify p fun e => { e with key:=ρ k,val:=ρ x }) clock) }:=by
           rw [ho]; simp [execOp,Instr.mapUpdate,run_underlying hu,hv,hobj,hck,hfk,he0,hkt',hset]
          refine ⟨_,_,M,β,hrun,⟨undef,.inr ⟨rfl,rfl⟩,.top⟩,hs.write hl _ (hother _) ?_,Grow.write hs (hsame _ _) hl _ (hother _)⟩
          refine ⟨_,clock,hself _,⟨by simp [q2],by simp [qc],fun j e hj => ?_⟩,fun j c1 c2 hj => ?_⟩
          · rw [Array.getElem?_modify] at hj
            split at hj
            · rename_i e1; subst e1
              rw [he0] at hj; simp only [Option.map_some,Option.some.injEq] at hj; subst hj
              exact (qb _ e0 he0 :)
            · exact qb _ _ hj
          rw [Array.getElem?_modify]
          have hplt:p < es.length:=(List.getElem?_eq_some_iff.1 hk0).1
          by_cases e:p=j
          · subst e
            rw [List.getElem?_set_self hplt] at hj
            simp only [Option.some.injEq,Prod.mk.injEq] at hj
            obtain ⟨rfl,rfl⟩:=hj
            exact ⟨{ e0 with key:=ρ k,val:=ρ x },by simp [he0],hk,hx⟩
          · rw [List.getElem?_set_ne e] at hj
            rw [if_neg e]
            exact q3 j c1 c2 hj
       · rename_i hmf
         simp only [OpR.val.injEq] at he; obtain ⟨rfl,rfl,rfl,_⟩:=he
         obtain ⟨q,r1,r2⟩:=mapFind_run hs hk es ents.toList 0 _ (by simp [q2]) (by simpa using q3) hmf
         cases q with
         | some q => exact r2.elim
         | none =>
          have hfk:=run_findKey hdk r1
          have hrun:(execOp ρ o).run P w=.ok .skip { w with heap:=w.heap.setIfInBounds bi.block (.map (ents.push { key:=ρ k,val:=ρ x,born:=clock }) (clock+1)) }:=by
           rw [ho]; simp [execOp,Instr.mapUpdate,run_underlying hu,hv,hobj,hck,hfk,hset]
          refine ⟨_,_,M,β,hrun,⟨undef,.inr ⟨rfl,rfl⟩,.top⟩,hs.write hl _ (hother _) ?_,Grow.write hs (hsame _ _) hl _ (hother _)⟩
          refine ⟨_,clock+1,hself _,⟨by simp [q2],by simp [qc],fun j e hj => ?_⟩,fun j c1 c2 hj => ?_⟩
          · rw [Array.getElem?_push] at hj
            split at hj
            · rename_i e1; cases hj; subst e1; simp only; omega
            · exact qb _ _ hj
          rw [Array.getElem?_push]
          by_cases e:j < es.length
          · rw [List.getElem?_append_left e] at hj
            rw [if_neg (by omega)]
            exact q3 j c1 c2 hj
          · rw [List.getElem?_append_right (by omega)] at hj
            have e0:j=es.length:=by
             have:=(List.getElem?_eq_some_iff.1 hj).1; simp at this; omega
            subst e0
            simp only [Nat.sub_self,List.getElem?_cons_zero,Option.some.injEq,Prod.mk.injEq] at hj
            obtain ⟨rfl,rfl⟩:=hj
            rw [if_pos q2.symm]
            exact ⟨_,rfl,hk,hx⟩
       · cases he
   · cases he
 · cases he
theorem op_mapUpdate (hs:Sat w M β σ hF) (hev:∀ x,VR M β (ev tm x) (ρ x)) {t:Nat} {m k x:Operand} (ho:o.op=.mapUpdate t m k x) (he:evalOp (mkX P fz) tm σ o=.val a σ' T R):OpOk P ρ o w M β σ hF a σ' T :=
 op_mapUpd hs hev ⟨fun h => by simpa only [evalOp,ho] using h,by simp only [execOp,ho]⟩ he
theorem op_insert (hs:Sat w M β σ hF) (hev:∀ x,VR M β (ev tm x) (ρ x)) {t:Nat} {m k x:Operand} (ho:o.op=.insert t m k x) (he:evalOp (mkX P fz) tm σ o=.val a σ' T R):OpOk P ρ o w M β σ hF a σ' T :=
 op_mapUpd hs hev ⟨fun h => by simpa only [evalOp,ho] using h,by simp only [execOp,ho]⟩ he
theorem sliceLen_rel {n:Nat} {x:A} {v:Value} (hs:Sat w M β σ hF) (h:sliceLen σ x=some n) (hx:VR M β x v):∃ a c,v=.slice a n c:=by
 unfold sliceLen at h
 split at h
 · injection h with h; subst h
   cases hx with
   | d hx => cases hx with
    | slcNil => exact ⟨none,0,rfl⟩
    | slc => exact ⟨_,_,rfl⟩
 · rename_i k o l e
   split at h
   · rename_i hal
     injection h with h; subst h
     cases hx with
     | row h => exact ⟨_,_,rfl⟩
     | rowX h _ => exact (alive_ne hal (hs.dead k h)).elim
   · cases h
 · cases h
theorem flat_rel (hs:Sat w M β σ hF) (b:Addr) (es:Nat) (q:Nat→Nat→Value):∀ (k:Nat) (xs:List (List D)),(∀ (i:Nat) (x:List D),xs[i]?=some x→x.length=es) →
 (∀ (i:Nat) (x:List D) (j:Nat) (d:D),xs[i]?=some x→x[j]?=some d→M (b.add (i * es+j))=some (q i j)) →
 (∀ (i:Nat) (x:List D) (j:Nat) (d:D),xs[i]?=some x→x[j]?=some d→DR M d (q i j)) →
 ∃ us,VRL M β ((xs.flatMap id).map A.d) us∧(∀ j v,us[j]?=some v→w.cell? (b.add j)=some v)∧True:=by
 intro _ xs hes hm hd
 refine ⟨(List.range (xs.length * es)).map fun j => q (j / es) (j % es),?_⟩
 have hflen:∀ (ys:List (List D)),(∀ y ∈ ys,y.length=es)→(ys.flatMap id).length=ys.length * es:=by
  intro ys
  induction ys with
  | nil => intro _; simp
  | cons y ys ih => intro h; rw [List.flatMap_cons,List.length_append,ih (fun z hz => h z (by simp [hz])),List.length_cons,Nat.add_mul,Nat.one_mul,id_eq,h y (by simp)]; omega
 have hmem:∀ y ∈ xs,y.length=es:=fun y hy => by
  obtain ⟨i,hi⟩:=List.mem_iff_getElem?.1 hy
  exact hes i y hi
 have hfget:∀ (ys:List (List D)),(∀ y ∈ ys,y.length=es)→∀ j d,(ys.flatMap id)[j]?=some d→∃ y,ys[j / es]?=some y∧y[j % es]?=some d:=by
  intro ys
  induction ys with
  | nil => intro _ j d h; simp at h
  | cons y ys ih =>
   intro h j d hj
   have hy:=h y (by simp)
   rw [List.flatMap_cons,id_eq] at hj
   by_cases hlt:j < y.length
   · rw [List.getElem?_append_left hlt] at hj
     rw [hy] at hlt
     rw [Nat.div_eq_of_lt hlt,Nat.mod_eq_of_lt hlt]
     exact ⟨y,rfl,hj⟩
   · rw [List.getElem?_append_right (by omega)] at hj
     obtain ⟨z,h1,h2⟩:=ih (fun z hz => h z (by simp [hz])) (j - y.length) d hj
     rw [hy] at h1 h2 hlt
     have hes0:0 < es:=by
      rcases Nat.eq_zero_or_pos es with h0 | h0
      · have:=h z (by simp [List.mem_of_getElem? h1])
        have h3:=(List.getElem?_eq_some_iff.1 h2).1
        omega
      · exact h0
     have e1:j / es=(j - es) / es+1:=by
      have:j=(j - es)+es:=by omega
      conv => lhs; rw [this]
      rw [Nat.add_div_right _ hes0]
     have e2:j % es=(j - es) % es:=by
      have:j=(j - es)+es:=by omega
      conv => lhs; rw [this]
      rw [Nat.add_mod_right]
     rw [e1,e2]
     exact ⟨z,by simpa using h1,h2⟩
 have hall:∀ j,j < xs.length * es→∃ d,(xs.flatMap id)[j]?=some d:=fun j hj => by
  rw [← hflen xs hmem] at hj
  exact ⟨_,List.getElem?_eq_getElem hj⟩
 refine ⟨VRL.of_get (by rw [List.length_map,hflen xs hmem,List.length_map,List.length_range]) fun j a v ha hv => ?_,fun j v hv => ?_,trivial⟩
 · rw [List.getElem?_map] at ha hv
   cases hj:(xs.flatMap id)[j]? with
   | none => rw [hj] at ha; cases ha
   | some d =>
    rw [hj] at ha; simp only [Option.map_some,Option.some.injEq] at ha; subst ha
    have hlt:j < xs.length * es:=by have:=(List.getElem?_eq_some_iff.1 hj).1; rwa [hflen xs hmem] at this
    simp only [List.getElem?_range hlt,Option.map_some,Option.some.injEq] at hv; subst hv
    obtain ⟨y,h1,h2⟩:=hfget xs hmem j d hj
    exact .d (hd _ _ _ _ h1 h2)
 · rw [List.getElem?_map] at hv
   by_cases hlt:j < xs.length * es
   · simp only [List.getElem?_range hlt,Option.map_some,Option.some.injEq] at hv; subst hv
     obtain ⟨d,hd'⟩:=hall j hlt
     obtain ⟨y,h1,h2⟩:=hfget xs hmem j d hd'
     have:=hs.mem _ _ (hm _ _ _ _ h1 h2)
     rw [show j / es * es+j % es=j by rw [Nat.mul_comm]; exact Nat.div_add_mod j es] at this
     exact this
   · rw [List.getElem?_eq_none (by simpa using hlt)] at hv; cases hv
theorem sliceCells_rel {n:Nat} {x:A} {v:Value} {cs:List A} (hs:Sat w M β σ hF) (h:sliceCells σ x=some cs) (hn:sliceLen σ x=some n) (hx:VR M β x v) {es:Nat} (he:cs.length=n * es) :
 ∃ us,VRL M β cs us∧∀ m,m≤n→∀ w',(∀ b,w'.cell? b=w.cell? b)→(Builtin.firstCells es m v).run P w'=.ok (us.take (m * es)).toArray w':=by
 unfold sliceCells at h
 split at h
 · rename_i nl xs
   injection h with h; subst h
   simp only [sliceLen,Option.some.injEq] at hn; subst hn
   cases hx with
   | d hx =>
    cases hx with
    | slcNil => exact ⟨[],.nil,fun m _ w' _ => by simp [Builtin.firstCells]⟩
    | slc xs b cap es' q hcap hes hm hd =>
     have key:=flat_rel hs b es' q 0 xs hes hm hd
     obtain ⟨us,h1,h2,h3⟩:=key
     refine ⟨us,h1,fun m hm' w' hw' => ?_⟩
     have hl:=h1.length
     rw [he] at hl
     have hmul:m * es≤xs.length * es:=Nat.mul_le_mul_right _ hm'
     refine run_firstCells_some w' es m b xs.length cap (us.take (m * es)) (by simp; omega) fun j v hj => ?_
     rw [hw']
     rw [List.getElem?_take] at hj
     split at hj
     · exact h2 j v hj
     · cases hj
 · rename_i k off len es'
   split at h
   · rename_i cs' hg
     split at h
     · rename_i hl
       injection h with h; subst h
       simp only [sliceLen] at hn
       split at hn
       · injection hn with hn; subst hn
         obtain ⟨i,ad,cap,hk,rfl,hlc,hz,ha,hb⟩:=vr_row hs hx hg
         obtain ⟨us,h1,h2⟩:=(hb.at_.drop off).take (len * es')
         refine ⟨us,h1,fun m hm' w' hw' => ?_⟩
         have hlen:=h1.length
         have hmul:m * es≤len * es:=Nat.mul_le_mul_right _ hm'
         refine run_firstCells_some w' es m ad len cap (us.take (m * es)) (by rw [List.length_take,← hlen,he]; omega) fun j v hj => ?_
         rw [hw']
         rw [List.getElem?_take] at hj
         split at hj
         case isFalse => cases hj
         rcases ha with ha | ha
         · exfalso
           have hl0:len=0:=by omega
           have:us.length=0:=by rw [← hlen,hl0]; simp
           have:=(List.getElem?_eq_some_iff.1 hj).1; omega
         · have:=h2 j v hj
           rw [add_mk] at this
           rw [ha]; exact this
       · cases hn
     · cases h
   · cases h
 · cases h
end Go.Am
namespace Go.Am
open Go
variable {P:Program} {fz:Nat→Md} {w w':World} {M M':Mem} {β β':Bt} {σ σ':St} {hF:Nat→Option Obj} {tm:Tm} {ρ:Operand→Value} {o:Oper} {a:A} {T R:List Nat}
theorem op_entryStore (hs:Sat w M β σ hF) (hev:∀ x,VR M β (ev tm x) (ρ x)) {t:Nat} {m k x:Operand} (ho:o.op=.entryStore t m k x) (he:evalOp (mkX P fz) tm σ o=.val a σ' T R):OpOk P ρ o w M β σ hF a σ' T:=by
 simp only [evalOp,ho] at he
 have hm:=hev m
 have hk:=hev k
 have hx:=hev x
 split at he
 · rename_i r n hme hke
   rw [hme] at hm
   rw [hke] at hk
   have hkv:=vr_int hk
   split at he
   · rename_i es hg
     obtain ⟨bi,hl,hv,hbr⟩:=vr_map hs hm hg
     obtain ⟨ents,clock,q1,⟨q2,qc,qb⟩,q3⟩:=hbr
     split at he
     · rename_i ek hek
       simp only [OpR.val.injEq] at he; obtain ⟨rfl,rfl,rfl,_⟩:=he
       have hobj:(getObj bi.block).run P w=.ok (.map ents clock) w:=by simp [getObj,Sem.run,q1]
       have hset:∀ o,(setObj bi.block o).run P w=.ok () { w with heap:=w.heap.setIfInBounds bi.block o }:=by intro o; simp [setObj,Sem.run,q1]
       have hblt:bi.block < w.heap.size:=(Array.getElem?_eq_some_iff.1 q1).1
       have hother:∀ (o:Obj) (j:Nat),j≠bi.block→({ w with heap:=w.heap.setIfInBounds bi.block o }:World).heap[j]?=w.heap[j]?:=fun o j hj => by
        simp only; rw [Array.getElem?_setIfInBounds_ne (Ne.symm hj)]
       have hself:∀ (o:Obj),({ w with heap:=w.heap.setIfInBounds bi.block o }:World).heap[bi.block]?=some o:=fun o => by
        simp only; rw [Array.getElem?_setIfInBounds_self_of_lt hblt]
       have hsame:∀ (es':Array MapEntry) (c':Nat),Same w { w with heap:=w.heap.setIfInBounds bi.block (.map es' c') }:=fun es' c' => .turn (b:=bi.block) rfl rfl rfl (by simp) (fun j hj => hother _ j hj) fun n => by
        rw [hself,q1]; rfl
       obtain ⟨e0,he0,hka,hva⟩:=q3 n ek.1 ek.2 hek
       have hn:n < ents.size:=(Array.getElem?_eq_some_iff.1 he0).1
       have hfi:ents.findIdx? (fun e => (e.born:Int) == (Int.ofNat n))=some n:=by
        rw [Array.findIdx?_eq_some_iff_getElem]
        refine ⟨hn,?_,fun j hj => ?_⟩
        · have:=qb n _ he0
          have he0':ents[n]=e0:=by rw [Array.getElem?_eq_getElem hn] at he0; exact Option.some.inj he0
          rw [he0',this]; simp
        · have hjl:j < ents.size:=by omega
          have:=qb j ents[j] (Array.getElem?_eq_getElem hjl)
          rw [this]; simp; omega
       have hrun:(execOp ρ o).run P w=.ok .skip { w with heap:=w.heap.setIfInBounds bi.block (.map (ents.modify n fun e => { e with val:=ρ x }) clock) }:=by
        simp only [Int.ofNat_eq_natCast] at hfi
        have hai:(Go.asInt (.int .i64 (n:Int))).run P w=.ok (n:Int) w:=rfl
        simp [execOp,ho,Instr.entryStore,hv,hobj,hkv,hai,hfi,hset]
       refine ⟨_,_,M,β,hrun,⟨undef,.inr ⟨rfl,rfl⟩,.top⟩,hs.write hl _ (hother _) ?_,Grow.write hs (hsame _ _) hl _ (hother _)⟩
       have hnl:n < es.length:=(List.getElem?_eq_some_iff.1 hek).1
       refine ⟨_,clock,hself _,⟨by simp [q2],by simp [qc],fun j e hj => ?_⟩,fun j c1 c2 hj => ?_⟩
       · rw [Array.getElem?_modify] at hj
         split at hj
         · rename_i e1; subst e1
           rw [he0] at hj; simp only [Option.map_some,Option.some.injEq] at hj; subst hj
           exact (qb _ e0 he0 :)
         · exact qb _ _ hj
       · rw [Array.getElem?_modify]
         by_cases e:n=j
         · subst e
           rw [List.getElem?_set_self hnl] at hj
           simp only [Option.some.injEq,Prod.mk.injEq] at hj
           obtain ⟨rfl,rfl⟩:=hj
           exact ⟨{ e0 with val:=ρ x },by simp [he0],hka,hx⟩
         · rw [List.getElem?_set_ne e] at hj
           rw [if_neg e]
           exact q3 j c1 c2 hj
     · cases he
   · cases he
 · cases he
theorem op_mapEntry (hs:Sat w M β σ hF) (hev:∀ x,VR M β (ev tm x) (ρ x)) {t:Nat} {m k:Operand} (ho:o.op=.mapEntry t m k) (he:evalOp (mkX P fz) tm σ o=.val a σ' T R):OpOk P ρ o w M β σ hF a σ' T:=by
 simp only [evalOp,ho] at he
 have hm:=hev m
 have hk:=hev k
 split at he
 · rename_i kt e sz by_ zz zvv0 r hti hme
   rw [hme] at hm
   obtain ⟨inf,d,h1,h2,h3,h4,h5,h6,h7⟩:=ti_info hti
   have hu:=kind_map h3
   split at he
   · rename_i zk zs zb zz0 zvv hte
     obtain ⟨inf',d',g1,g2,g3,g4,g5,g6,g7⟩:=ti_info hte
     obtain ⟨zv,hz,hzr⟩:=zero_rel g6.symm
     have hzv:VR M β zvv zv:=by
      simp only [hz,Option.map_some,Option.getD_some] at g7
      rw [g7]; exact ofV_rel zv
     split at he
     · rename_i es hg
       obtain ⟨bi,hl,hv,hbr⟩:=vr_map hs hm hg
       split at he
       · cases he
       · rename_i hkey
         have hkey':keyT (mkX P fz) 8 kt (ev tm k)=true:=by simpa using hkey
         have hck:∀ em,(Instr.checkKey em 10000 kt (ρ k)).run P w=.ok () w:=fun em => keyT_run w 8 kt _ _ hkey' hk 10000 (by omega)
         have hkt:∃ dk,P.underlying kt=some dk:=by
          cases hd:P.underlying kt with
          | some dk => exact ⟨dk,rfl⟩
          | none =>
           simp only [keyT] at hkey'
           split at hkey'
           · rename_i i hi
             obtain ⟨_,dd,_,hdd,_⟩:=ti_info hi
             rw [hd] at hdd; cases hdd
           · cases hkey'
         obtain ⟨dk,hdk⟩:=hkt
         obtain ⟨ents,clock,q1,⟨q2,qc,qb⟩,q3⟩:=hbr
         have hobj:(getObj bi.block).run P w=.ok (.map ents clock) w:=by simp [getObj,Sem.run,q1]
         have hset:∀ o,(setObj bi.block o).run P w=.ok () { w with heap:=w.heap.setIfInBounds bi.block o }:=by intro o; simp [setObj,Sem.run,q1]
         have hblt:bi.block < w.heap.size:=(Array.getElem?_eq_some_iff.1 q1).1
         have hother:∀ (o:Obj) (j:Nat),j≠bi.block→({ w with heap:=w.heap.setIfInBounds bi.block o }:World).heap[j]?=w.heap[j]?:=fun o j hj => by
          simp only; rw [Array.getElem?_setIfInBounds_ne (Ne.symm hj)]
         have hself:∀ (o:Obj),({ w with heap:=w.heap.setIfInBounds bi.block o }:World).heap[bi.block]?=some o:=fun o => by
          simp only; rw [Array.getElem?_setIfInBounds_self_of_lt hblt]
         have hsame:∀ (es':Array MapEntry) (c':Nat),Same w { w with heap:=w.heap.setIfInBounds bi.block (.map es' c') }:=fun es' c' => .turn (b:=bi.block) rfl rfl rfl (by simp) (fun j hj => hother _ j hj) fun n => by
          rw [hself,q1]; rfl
         split at he
         · rename_i p v hmf
           split at he <;> try (cases he; done)
           rename_i ek hek
           split at he <;> try (cases he; done)
           rename_i hsk
           simp only [OpR.val.injEq] at he; obtain ⟨rfl,rfl,rfl,_⟩:=he
           obtain ⟨q,r1,r2⟩:=mapFind_run hs hk es ents.toList 0 _ (by simp [q2]) (by simpa using q3) hmf
           cases q with
           | none => exact r2.elim
           | some q =>
            obtain ⟨p',u⟩:=q
            obtain ⟨rfl,hvu,_,k0,hk0,heq⟩:=r2
            have hfk:=run_findKey hdk r1
            simp only [Nat.sub_zero] at hk0
            obtain ⟨e0,he0,hka,hva⟩:=q3 p k0 v hk0
            rw [hk0] at hek; injection hek with hek; subst hek
            have hbits:Instr.sameBits 10000 e0.key (ρ k)=true:=sameK_bits hs hsk hka hk 9999
            have hkt':(Instr.keyThatStays e0.key (ρ k)).run P w=.ok (ρ k) w:=by simp [Instr.keyThatStays,hbits]
            have hborn:=qb p e0 he0
            have hrun:(execOp ρ o).run P w=.ok (.value (.tuple #[u,.int .i64 (p:Int)])) { w with heap:=w.heap.setIfInBounds bi.block (.map (ents.modify p fun e => { e with key:=ρ k }) clock) }:=by
             simp [execOp,ho,Instr.mapEntry,run_underlying hu,hv,hobj,hck,hfk,he0,hkt',hset,goInt,hborn]
            refine ⟨_,_,M,β,hrun,⟨_,.inl rfl,vr_pair hvu (.d (.int _ _))⟩,hs.write hl _ (hother _) ?_,Grow.write hs (hsame _ _) hl _ (hother _)⟩
            have hplt:p < es.length:=(List.getElem?_eq_some_iff.1 hk0).1
            refine ⟨_,clock,hself _,⟨by simp [q2],by simp [qc],fun j e hj => ?_⟩,fun j c1 c2 hj => ?_⟩
            · rw [Array.getElem?_modify] at hj
              split at hj
              · rename_i e1; subst e1
                rw [he0] at hj; simp only [Option.map_some,Option.some.injEq] at hj; subst hj
                exact hborn
              · exact qb _ _ hj
            · rw [Array.getElem?_modify]
              by_cases e:p=j
              · subst e
                rw [List.getElem?_set_self hplt] at hj
                simp only [Option.some.injEq,Prod.mk.injEq] at hj
                obtain ⟨rfl,rfl⟩:=hj
                exact ⟨{ e0 with key:=ρ k },by simp [he0],hk,hva⟩
              · rw [List.getElem?_set_ne e] at hj
                rw [if_neg e]
                exact q3 j c1 c2 hj
         · rename_i hmf
           simp only [OpR.val.injEq] at he; obtain ⟨rfl,rfl,rfl,_⟩:=he
           obtain ⟨q,r1,r2⟩:=mapFind_run hs hk es ents.toList 0 _ (by simp [q2]) (by simpa using q3) hmf
           cases q with
           | some q => exact r2.elim
           | none =>
            have hfk:=run_findKey hdk r1
            have hrun:(execOp ρ o).run P w=.ok (.value (.tuple #[zv,.int .i64 (es.length:Int)])) { w with heap:=w.heap.setIfInBounds bi.block (.map (ents.push { key:=ρ k,val:=zv,born:=clock }) (clock+1)) }:=by
             simp [execOp,ho,Instr.mapEntry,run_underlying hu,hv,hobj,hck,hfk,hset,run_zeroValue g1 hz,goInt,qc]
            refine ⟨_,_,M,β,hrun,⟨_,.inl rfl,vr_pair hzv (.d (.int _ _))⟩,hs.write hl _ (hother _) ?_,Grow.write hs (hsame _ _) hl _ (hother _)⟩
            refine ⟨_,clock+1,hself _,⟨by simp [q2],by simp [qc],fun j e hj => ?_⟩,fun j c1 c2 hj => ?_⟩
            · rw [Array.getElem?_push] at hj
              split at hj
              · rename_i e1; cases hj; subst e1; simp only; omega
              · exact qb _ _ hj
            · rw [Array.getElem?_push]
              by_cases e:j < es.length
              · rw [List.getElem?_append_left e] at hj
                rw [if_neg (by omega)]
                exact q3 j c1 c2 hj
              · rw [List.getElem?_append_right (by omega)] at hj
                have e0:j=es.length:=by
                 have:=(List.getElem?_eq_some_iff.1 hj).1; simp at this; omega
                subst e0
                simp only [Nat.sub_self,List.getElem?_cons_zero,Option.some.injEq,Prod.mk.injEq] at hj
                obtain ⟨rfl,rfl⟩:=hj
                rw [if_pos q2.symm]
                exact ⟨_,rfl,hk,hzv⟩
         · cases he
     · cases he
   · cases he
 · cases he
end Go.Am
namespace Go.Am
open Go
variable {P:Program} {fz:Nat→Md} {w w':World} {M M':Mem} {β β':Bt} {σ σ':St} {hF:Nat→Option Obj} {tm:Tm} {ρ:Operand→Value} {o:Oper} {a:A} {T R:List Nat}
theorem execOp_bi {c:Call} {b:Builtin} (ho:o.op=.call c) (hc:c.callee=.builtin b):execOp ρ o=builtin b c.argTypes o.type (c.args.map fun | .const _ => true | _ => false) (c.args.map ρ):=by
 simp only [execOp,ho,resolve,hc]
 rfl
theorem args_toList (c:Call):(c.args.map ρ).toList=c.args.toList.map ρ:=by simp
theorem op_len (hs:Sat w M β σ hF) (hev:∀ x,VR M β (ev tm x) (ρ x)) {c:Call} (ho:o.op=.call c) (hc:c.callee=.builtin .len) (he:evalOp (mkX P fz) tm σ o=.val a σ' T R):OpOk P ρ o w M β σ hF a σ' T:=by
 simp only [evalOp,ho,hc] at he
 have hx:=execOp_bi (ρ:=ρ) ho hc
 have hargs:VRL M β (c.args.toList.map (ev tm)) (c.args.toList.map ρ):=VRL.of_map _ _ _ fun x _ => hev x
 have key:∀ (u:Value) (vs:List Value),c.args.toList.map ρ=vs→(Builtin.len_ c.argTypes o.type vs.toArray).run P w=.ok u w→(execOp ρ o).run P w=.ok (.value u) w:=by
  intro u vs hvs h
  have e:c.args.map ρ=vs.toArray:=by apply Array.ext'; rw [args_toList,hvs]
  rw [hx,e]
  simp only [builtin,Sem.run_bind,h,Result.andThen_ok,Sem.run_pure]
 split at he
 · rename_i x e sz by_ zz zvv hal hty
   rw [hal] at hargs
   obtain ⟨t,ht1,ht2⟩:=Option.bind_eq_some_iff.1 hty
   obtain ⟨inf,d,h1,h2,h3,h4,h5,h6,h7⟩:=ti_info ht2
   have hu:=kind_slc h3
   cases hn:sliceLen σ x with
   | none => simp [hn,OpR.of] at he
   | some n =>
    simp only [hn,Option.map_some,OpR.of,OpR.val.injEq] at he; obtain ⟨rfl,rfl,rfl,_⟩:=he
    generalize hvs:c.args.toList.map ρ=vs at hargs
    cases hargs with
    | cons hv ht =>
     cases ht
     obtain ⟨b,cc,rfl⟩:=sliceLen_rel hs hn hv
     exact .same hs (v:=.int .i64 n) (key _ _ hvs (by simp [Builtin.len_,ht1,run_underlying hu,goInt])) (.d (.int _ _))
 · rename_i s sz by_ zz zvv hal hty
   rw [hal] at hargs
   obtain ⟨t,ht1,ht2⟩:=Option.bind_eq_some_iff.1 hty
   obtain ⟨inf,d,h1,h2,h3,h4,h5,h6,h7⟩:=ti_info ht2
   have hu:=kind_str h3
   simp only [OpR.val.injEq] at he; obtain ⟨rfl,rfl,rfl,_⟩:=he
   generalize hvs:c.args.toList.map ρ=vs at hargs
   cases hargs with
   | cons hv ht =>
    cases ht
    rw [vr_str hv] at hvs
    exact .same hs (v:=.int .i64 s.size) (key _ _ hvs (by simp [Builtin.len_,ht1,run_underlying hu,goInt])) (.d (.int _ _))
 · rename_i x n es e sz by_ zz zvv hal hty
   rw [hal] at hargs
   obtain ⟨t,ht1,ht2⟩:=Option.bind_eq_some_iff.1 hty
   obtain ⟨inf,d,h1,h2,h3,h4,h5,h6,h7⟩:=ti_info ht2
   obtain ⟨hu,hes⟩:=kind_arr h3
   simp only [OpR.val.injEq] at he; obtain ⟨rfl,rfl,rfl,_⟩:=he
   generalize hvs:c.args.toList.map ρ=vs at hargs
   cases hargs with
   | cons hv ht =>
    cases ht
    exact .same hs (v:=.int .i64 n) (key _ _ hvs (by simp [Builtin.len_,ht1,run_underlying hu,goInt])) (.d (.int _ _))
 · rename_i k e sz by_ zz zvv hal hty
   rw [hal] at hargs
   obtain ⟨t,ht1,ht2⟩:=Option.bind_eq_some_iff.1 hty
   obtain ⟨inf,d,h1,h2,h3,h4,h5,h6,h7⟩:=ti_info ht2
   have hu:=kind_map h3
   simp only [OpR.val.injEq] at he; obtain ⟨rfl,rfl,rfl,_⟩:=he
   generalize hvs:c.args.toList.map ρ=vs at hargs
   cases hargs with
   | cons hv ht =>
    cases ht
    rw [vr_nmap hv] at hvs
    exact .same hs (v:=.int .i64 0) (key _ _ hvs (by simp [Builtin.len_,ht1,run_underlying hu,goInt])) (.d (.int _ _))
 · rename_i m k e sz by_ zz zvv hal hty
   rw [hal] at hargs
   obtain ⟨t,ht1,ht2⟩:=Option.bind_eq_some_iff.1 hty
   obtain ⟨inf,d,h1,h2,h3,h4,h5,h6,h7⟩:=ti_info ht2
   have hu:=kind_map h3
   split at he
   · rename_i es hg
     simp only [OpR.val.injEq] at he; obtain ⟨rfl,rfl,rfl,_⟩:=he
     generalize hvs:c.args.toList.map ρ=vs at hargs
     cases hargs with
     | cons hv ht =>
      cases ht
      obtain ⟨bi,hl,rfl,hbr⟩:=vr_map hs hv hg
      obtain ⟨ents,clock,q1,⟨q2,-,-⟩,q3⟩:=hbr
      have hobj:(getObj bi.block).run P w=.ok (.map ents clock) w:=by simp [getObj,Sem.run,q1]
      exact .same hs (v:=.int .i64 es.length) (key _ _ hvs (by simp [Builtin.len_,ht1,run_underlying hu,goInt,hobj,q2])) (.d (.int _ _))
   · cases he
 · cases he
theorem minmax_fold (gt:Bool) {f:Value→Value→Sem Value} (hf:∀ k x y,(f (.int k x) (.int k y)).run P w=.ok (.int k (if gt then (if y > x then y else x) else (if y < x then y else x))) w) :
 ∀ (l:List A) (vs:List Value) (k:IntKind) (x:Int) (r:A),VRL M β l vs→l.foldl (mmStep gt) (some (.d (.int k x)))=some r→∃ v,(vs.foldlM f (.int k x)).run P w=.ok v w∧VR M β r v
 | [],vs,k,x,r,hv,h => by
  cases hv
  simp only [List.foldl_nil,Option.some.injEq] at h; subst h
  exact ⟨_,rfl,.d (.int _ _)⟩
 | y :: l,vs,k,x,r,hv,h => by
  have hnone:∀ (l:List A),l.foldl (mmStep gt) (none:Option A)=none:=by
   intro l; induction l with
   | nil => rfl
   | cons z l ih => rw [List.foldl_cons]; exact ih
  cases hv with
  | cons hy ht =>
   simp only [List.foldl_cons] at h
   generalize hq:mmStep gt (some (.d (.int k x))) y=q at h
   unfold mmStep at hq
   split at hq
   · rename_i k1 x1 k2 y2 e1
     injection e1 with e1; injection e1 with e1; injection e1 with e1 e2; subst e1; subst e2
     split at hq
     · rename_i e; subst e; subst hq
       obtain ⟨v,h1,h2⟩:=minmax_fold gt hf l _ k _ r ht h
       refine ⟨v,?_,h2⟩
       rw [vr_int hy]
       simp only [List.foldlM_cons,Sem.run_bind,hf,Result.andThen_ok]
       exact h1
     · subst hq; rw [hnone] at h; cases h
   · subst hq; rw [hnone] at h; cases h
theorem op_min (hs:Sat w M β σ hF) (hev:∀ x,VR M β (ev tm x) (ρ x)) {c:Call} (ho:o.op=.call c) (hc:c.callee=.builtin .min) (he:evalOp (mkX P fz) tm σ o=.val a σ' T R):OpOk P ρ o w M β σ hF a σ' T:=by
 simp only [evalOp,ho,hc] at he
 have hx:=execOp_bi (ρ:=ρ) ho hc
 have hargs:VRL M β (c.args.toList.map (ev tm)) (c.args.toList.map ρ):=VRL.of_map _ _ _ fun x _ => hev x
 cases hm:minmax false (c.args.toList.map (ev tm)) with
 | none => simp [hm,OpR.of] at he
 | some r =>
  simp only [hm,OpR.of,OpR.val.injEq] at he; obtain ⟨rfl,rfl,rfl,_⟩:=he
  unfold minmax at hm
  split at hm
  · rename_i k x rest hl
    rw [hl] at hargs
    generalize hvs:c.args.toList.map ρ=vs at hargs
    cases hargs with
    | cons hv ht =>
     rename_i v0 vr
     rw [vr_int hv] at hvs
     obtain ⟨v,h1,h2⟩:=minmax_fold (P:=P) (w:=w) false (f:=Builtin.min2) (fun k x y => by simp [Builtin.min2]) rest _ k x r ht hm
     refine .same hs (v:=v) ?_ h2
     have e:(c.args.map ρ).toList=.int k x :: vr:=by rw [args_toList,hvs]
     rw [hx]
     simp only [builtin,Builtin.min_,e,Sem.run_bind,h1,Result.andThen_ok,Sem.run_pure]
  · cases hm
theorem op_max (hs:Sat w M β σ hF) (hev:∀ x,VR M β (ev tm x) (ρ x)) {c:Call} (ho:o.op=.call c) (hc:c.callee=.builtin .max) (he:evalOp (mkX P fz) tm σ o=.val a σ' T R):OpOk P ρ o w M β σ hF a σ' T:=by
 simp only [evalOp,ho,hc] at he
 have hx:=execOp_bi (ρ:=ρ) ho hc
 have hargs:VRL M β (c.args.toList.map (ev tm)) (c.args.toList.map ρ):=VRL.of_map _ _ _ fun x _ => hev x
 cases hm:minmax true (c.args.toList.map (ev tm)) with
 | none => simp [hm,OpR.of] at he
 | some r =>
  simp only [hm,OpR.of,OpR.val.injEq] at he; obtain ⟨rfl,rfl,rfl,_⟩:=he
  unfold minmax at hm
  split at hm
  · rename_i k x rest hl
    rw [hl] at hargs
    generalize hvs:c.args.toList.map ρ=vs at hargs
    cases hargs with
    | cons hv ht =>
     rename_i v0 vr
     rw [vr_int hv] at hvs
     obtain ⟨v,h1,h2⟩:=minmax_fold (P:=P) (w:=w) true (f:=Builtin.max2) (fun k x y => by simp [Builtin.max2]) rest _ k x r ht hm
     refine .same hs (v:=v) ?_ h2
     have e:(c.args.map ρ).toList=.int k x :: vr:=by rw [args_toList,hvs]
     rw [hx]
     simp only [builtin,Builtin.max_,e,Sem.run_bind,h1,Result.andThen_ok,Sem.run_pure]
  · cases hm
end Go.Am
namespace Go.Am
open Go
variable {P:Program} {fz:Nat→Md} {w w':World} {M M':Mem} {β β':Bt} {σ σ':St} {hF:Nat→Option Obj} {tm:Tm} {ρ:Operand→Value} {o:Oper} {a:A} {T R:List Nat}
theorem run_append_in {ats:Array Nat} {t t1 e e1 ty:Nat} {inf:TypeInfo} (h0:ats[0]?=some t) (h1:ats[1]?=some t1) (hu:P.underlying t=some (.slice e)) (hu1:P.underlying t1=some (.slice e1)) (hi:P.info? e=some inf)
 {base:Addr} {sLen sCap n xc:Nat} {xb:Option Addr} {us:List Value} (hf:(Builtin.firstCells inf.size n (.slice xb n xc)).run P w=.ok us.toArray w) (hle:sLen+n≤sCap) :
 (Builtin.append_ ats ty #[.slice (some base) sLen sCap,.slice xb n xc]).run P w=((storeCells (base.add (sLen * inf.size)) us).run P w).andThen fun _ w' => .ok (.slice (some base) (sLen+n) sCap) w':=by
 simp [Builtin.append_,h0,h1,run_underlying hu,run_underlying hu1,run_sizeOf hi,Builtin.lenOf,hle,hf]
theorem run_append_out {ats:Array Nat} {t t1 e e1 ty:Nat} {inf:TypeInfo} {z:Value} (h0:ats[0]?=some t) (h1:ats[1]?=some t1) (hu:P.underlying t=some (.slice e)) (hu1:P.underlying t1=some (.slice e1)) (hi:P.info? e=some inf) (hz:inf.zero=some z)
 {base xb:Option Addr} {sLen sCap n xc:Nat} {us olds:List Value} (hf:(Builtin.firstCells inf.size n (.slice xb n xc)).run P w.drew=.ok us.toArray w.drew)
 (hfo:(Builtin.firstCells inf.size sLen (.slice base sLen sCap)).run P w.drew=.ok olds.toArray w.drew) (hgt:sCap < sLen+n) (h63:sLen+n < 2 ^ 62) (hb:(sLen+n) * inf.bytes≤2 ^ 47) :
 ∃ cap rest,sLen+n≤cap∧rest.size=(cap - (sLen+n)) * z.cells.size∧(Builtin.append_ ats ty #[.slice base sLen sCap,.slice xb n xc]).run P w=.ok (.slice (some ⟨w.heap.size,0,none⟩) (sLen+n) cap) (w.drew.alloc (.cells ((olds ++ us).toArray ++ rest) e)):=by
 refine ⟨grownCap w (sLen+n) sCap e,Builtin.zeroCells z.cells (grownCap w (sLen+n) sCap e - (sLen+n)),?_,?_,?_⟩
 · simp only [grownCap,Question.cut]; omega
 · simp [Builtin.zeroCells]
 · have hn:¬ (sLen+n≤sCap):=by omega
   have h63':¬ (9223372036854775807 < ((sLen:Int)+(n:Int))):=by omega
   have hfit:=growslice_fits (old:=sCap) (need:=sLen+n) (bytes:=inf.bytes) hgt (by simpa using hb)
   have h48':¬ (281474976710656 < Builtin.nextslicecap (sLen+n) sCap * inf.bytes):=by omega
   simp [Builtin.append_,h0,h1,run_underlying hu,run_underlying hu1,run_sizeOf hi,run_typeInfo hi,run_zeroValue hi hz,Builtin.lenOf,hn,h63',h48',Question.forced,hf,hfo,newRow,grownCap]
   congr 2
   apply Array.ext'
   simp [List.append_assoc]
theorem cells_lt {us:List Value} {rest:Array Value} {j:Nat} {v:Value} (h:us[j]?=some v):(us.toArray ++ rest)[j]?=some v:=by
 have hlt:=(List.getElem?_eq_some_iff.1 h).1
 rw [Array.getElem?_append_left (by simpa using hlt)]
 simpa using h
theorem run_append_make {ats:Array Nat} {t t1 e ty:Nat} {ki:IntKind} {inf:TypeInfo} {z:Value} (h0:ats[0]?=some t) (h1:ats[1]?=some t1) (hu:P.underlying t=some (.slice e)) (hu1:P.underlying t1=some (.int ki)) (hi:P.info? e=some inf) (hz:inf.zero=some z)
 {n:Nat} (hn:0 < n) (hs:0 < inf.size) (h63:n < 2 ^ 62) (hb:n * inf.bytes≤2 ^ 47) :
 ∃ cap rest,n≤cap∧rest.size=(cap - n) * z.cells.size∧(Builtin.append_ ats ty #[.slice none 0 0,.int .i64 (n:Int)]).run P w=.ok (.slice (some ⟨w.heap.size,0,none⟩) n cap) (w.drew.alloc (.cells (Builtin.zeroCells z.cells n ++ rest) e)):=by
 refine ⟨grownCap w n 0 e,Builtin.zeroCells z.cells (grownCap w n 0 e - n),?_,?_,?_⟩
 · simp only [grownCap,Question.cut]; omega
 · simp [Builtin.zeroCells]
 · have h0':¬ (n=0):=by omega
   have h63':¬ (9223372036854775807 < (n:Int)):=by omega
   have hwr:IntKind.i64.wrap (n:Int)=(n:Int):=by unfold IntKind.wrap; simp [IntKind.signed,IntKind.bits]; omega
   have hfit:=growslice_fits (old:=0) (need:=n) (bytes:=inf.bytes) hn (by simpa using hb)
   have h48':¬ (281474976710656 < Builtin.nextslicecap n 0 * inf.bytes):=by omega
   have hai:(Go.asInt (.int .i64 (n:Int))).run P w=.ok (n:Int) w:=rfl
   have hsz:¬ (n=0∨inf.size=0):=by omega
   have hl0:¬ ((n:Int) < 0):=by omega
   have hl1:¬ (281474976710656 < (n:Int) * (inf.bytes:Int)):=by
    have:((n * inf.bytes:Nat):Int)=(n:Int) * (inf.bytes:Int):=by simp
    omega
   have hf0:∀ w':World,(Builtin.firstCells inf.size 0 (.slice none 0 0)).run P w'=.ok #[] w':=fun w' => by simp [Builtin.firstCells]
   simp [Builtin.append_,h0,h1,run_underlying hu,run_underlying hu1,run_sizeOf hi,run_typeInfo hi,run_zeroValue hi hz,hai,hwr,h0',hl0,hl1,hsz,h63',h48',Question.forced,hf0,newRow,grownCap]
   try (intro hh; exact absurd hh (Nat.ne_of_gt (Nat.mul_pos hn hs)))
theorem op_grow (hs:Sat w M β σ hF) {c:Call} (ho:o.op=.call c) (hc:c.callee=.builtin .append) (hev:∀ x,VR M β (ev tm x) (ρ x)) {n e s1 b1 s2 b2:Nat} {k2:IntKind} {z1 z2:Option (List A)} {v1 v2:A}
 (hal:c.args.toList.map (ev tm)=[.d (.slc true []),.d (.int .i64 (.ofNat n))]) (hty:(c.argTypes[0]?).bind (mkX P fz).ti=some ⟨.slc e,s1,b1,z1,v1⟩) (hty1:(c.argTypes[1]?).bind (mkX P fz).ti=some ⟨.int k2,s2,b2,z2,v2⟩)
 (he:growA σ n ((mkX P fz).ti e)=.val a σ' T R):OpOk P ρ o w M β σ hF a σ' T:=by
 have hx:=execOp_bi (ρ:=ρ) ho hc
 have hargs:VRL M β (c.args.toList.map (ev tm)) (c.args.toList.map ρ):=VRL.of_map _ _ _ fun x _ => hev x
 rw [hal] at hargs
 obtain ⟨t,ht1,ht2⟩:=Option.bind_eq_some_iff.1 hty
 obtain ⟨inf,d,h1,h2,h3,h4,h5,h6,h7⟩:=ti_info ht2
 have hu:=kind_slc h3
 obtain ⟨t1,ht11,ht12⟩:=Option.bind_eq_some_iff.1 hty1
 obtain ⟨inf1,d1,k1,k2',k3,k4,k5,k6,k7⟩:=ti_info ht12
 have hu1:=kind_int k3
 unfold growA at he
 split at he
 · rename_i ke es be z zvv2 hte
   obtain ⟨inf',d',g1,g2,g3,g4,g5,g6,g7⟩:=ti_info hte
   obtain ⟨zv,hz,hzr⟩:=zero_rel g6.symm
   simp only at g4 g5
   split at he
   · rename_i hcd
     obtain ⟨c1,c2,c3,c4,c5⟩:=hcd
     simp only [OpR.val.injEq] at he; obtain ⟨rfl,rfl,rfl,_⟩:=he
     generalize hvs:c.args.toList.map ρ=vs at hargs
     cases hargs with
     | cons hsv ht =>
      rename_i sv vr
      cases ht with
      | cons hxv ht =>
       rename_i xv _
       cases ht
       have e0:c.args.map ρ=#[sv,xv]:=by apply Array.ext'; rw [args_toList,hvs]
       have hsv':sv=.slice none 0 0:=by
        cases hsv with
        | d h => cases h; rfl
       subst hsv'
       have hxv':=vr_int hxv
       subst hxv'
       obtain ⟨cap,rest,r1,r2,r3⟩:=run_append_make (P:=P) (w:=w) (ty:=o.type) ht1 ht11 hu hu1 g1 hz c3 (by omega) c5 (by rw [← g5]; exact c4)
       have key:(execOp ρ o).run P w=.ok (.value (.slice (some ⟨w.heap.size,0,none⟩) n cap)) (w.drew.alloc (.cells (Builtin.zeroCells zv.cells n ++ rest) e)):=by
        rw [hx,e0]
        have r3':(Builtin.append_ c.argTypes o.type #[.slice none 0 0,.int .i64 (Int.ofNat n)]).run P w=_:=r3
        simp only [builtin,Sem.run_bind,r3',Result.andThen_ok,Sem.run_pure]
       have hab:=hs.lt _ (Nat.le_refl σ.n)
       have hsd:=hs.drew
       have hzl:zv.cells.size=es:=by have:=(hzr M β).length; simp at this; omega
       have hzc:(Builtin.zeroCells zv.cells n).size=n * es:=by simp [Builtin.zeroCells,hzl]
       have hv:VRL M β (rep n z) (Builtin.zeroCells zv.cells n).toList:=rep_rel (hzr M β) n _ (by rw [c2,hzl])
       refine ⟨_,_,M,β.new σ.n ⟨w.heap.size,0,(Builtin.zeroCells zv.cells n ++ rest).size⟩,key,⟨_,.inl rfl,?_⟩,hsd.alloc _ _ _ ?_,(Grow.drew w M β σ hF).trans (Grow.alloc hsd _ _ _)⟩
       · have:=VR.row (M:=M) (β:=β.new σ.n ⟨w.heap.size,0,(Builtin.zeroCells zv.cells n ++ rest).size⟩) (k:=σ.n) (off:=0) (len:=n) (es:=es) (cap:=cap) (i:=⟨w.heap.size,0,(Builtin.zeroCells zv.cells n ++ rest).size⟩) (a:=⟨w.heap.size,0,none⟩)
          (Bt.new_same _ _ _) r1 (by
           simp only [Array.size_append,hzc,r2,hzl]
           have:n * es+(cap - n) * es=cap * es:=by rw [← Nat.add_mul]; congr 1; omega
           omega) (.inr rfl)
         exact this
       · refine cells_br (arr:=Builtin.zeroCells zv.cells n ++ rest) (ty:=e) (heap_alloc_new w.drew _) rfl rfl (by rw [rep_length,c2]; simp [hzc]) fun j q v hj hvv => ?_
         obtain ⟨u,hu',hr'⟩:=hv.get hj
         rw [Array.getElem?_append_left (by have:=(List.getElem?_eq_some_iff.1 hu').1; simpa using this)] at hvv
         have:u=v:=by simpa [hvv] using hu'.symm
         subst this
         exact hr'.mono (Mem.le_refl M) (Bt.le_new _ hab)
   · cases he
 · cases he
theorem op_cap (hs:Sat w M β σ hF) (hev:∀ x,VR M β (ev tm x) (ρ x)) {c:Call} (ho:o.op=.call c) (hc:c.callee=.builtin .cap) (he:evalOp (mkX P fz) tm σ o=.val a σ' T R):OpOk P ρ o w M β σ hF a σ' T:=by
 simp only [evalOp,ho,hc] at he
 have hx:=execOp_bi (ρ:=ρ) ho hc
 have hargs:VRL M β (c.args.toList.map (ev tm)) (c.args.toList.map ρ):=VRL.of_map _ _ _ fun x _ => hev x
 split at he
 · rename_i e sz by_ zz zvv hal hty
   rw [hal] at hargs
   obtain ⟨t,ht1,ht2⟩:=Option.bind_eq_some_iff.1 hty
   obtain ⟨inf,d,h1,h2,h3,h4,h5,h6,h7⟩:=ti_info ht2
   have hu:=kind_slc h3
   simp only [OpR.val.injEq] at he; obtain ⟨rfl,rfl,rfl,_⟩:=he
   generalize hvs:c.args.toList.map ρ=vs at hargs
   cases hargs with
   | cons hsv ht =>
    rename_i sv vr
    cases ht
    have e0:c.args.map ρ=#[sv]:=by apply Array.ext'; rw [args_toList,hvs]
    have hsv':sv=.slice none 0 0:=by
     cases hsv with
     | d h => cases h; rfl
    subst hsv'
    refine .same hs (v:=.int .i64 0) ?_ (.d (.int _ _))
    rw [hx,e0]
    simp [builtin,Builtin.cap_,ht1,run_underlying hu,goInt]
 · cases he
theorem op_append (hs:Sat w M β σ hF) (hev:∀ x,VR M β (ev tm x) (ρ x)) {c:Call} (ho:o.op=.call c) (hc:c.callee=.builtin .append) (he:evalOp (mkX P fz) tm σ o=.val a σ' T R):OpOk P ρ o w M β σ hF a σ' T:=by
 simp only [evalOp,ho,hc] at he
 have hx:=execOp_bi (ρ:=ρ) ho hc
 have hargs:VRL M β (c.args.toList.map (ev tm)) (c.args.toList.map ρ):=VRL.of_map _ _ _ fun x _ => hev x
 split at he
 · rename_i s x e sz by_ zz zvv e1 sz1 by1 zz1 zvv1 hal hty hty1
   rw [hal] at hargs
   obtain ⟨t,ht1,ht2⟩:=Option.bind_eq_some_iff.1 hty
   obtain ⟨inf,d,h1,h2,h3,h4,h5,h6,h7⟩:=ti_info ht2
   have hu:=kind_slc h3
   obtain ⟨t1,ht11,ht12⟩:=Option.bind_eq_some_iff.1 hty1
   obtain ⟨inf1,d1,k1,k2,k3,k4,k5,k6,k7⟩:=ti_info ht12
   have hu1:=kind_slc k3
   split at he
   · rename_i ke es be z zvv2 hte
     obtain ⟨inf',d',g1,g2,g3,g4,g5,g6,g7⟩:=ti_info hte
     obtain ⟨zv,hz,hzr⟩:=zero_rel g6.symm
     simp only at g4 g5
     split at he
     · rename_i hes0
       obtain ⟨hes,hzl0⟩:=hes0
       generalize hvs:c.args.toList.map ρ=vs at hargs
       cases hargs with
       | cons hsv ht =>
        rename_i sv vr
        cases ht with
        | cons hxv ht =>
         rename_i xv _
         cases ht
         have e0:c.args.map ρ=#[sv,xv]:=by apply Array.ext'; rw [args_toList,hvs]
         have key:∀ (u:Value) (w2:World),(Builtin.append_ c.argTypes o.type #[sv,xv]).run P w=.ok u w2→(execOp ρ o).run P w=.ok (.value u) w2:=by
          intro u w2 h
          rw [hx,e0]
          simp only [builtin,Sem.run_bind,h,Result.andThen_ok,Sem.run_pure]
         unfold appendA at he
         split at he
         · rename_i new n hnew hlen
           split at he
           · cases he
           · rename_i hcond
             have hnl:new.length=n * es:=by
              rcases Nat.decEq new.length (n * es) with h | h
              · exact absurd (.inl h) hcond
              · exact h
             have hcell:new.all A.isCell=true:=by
              cases hq:new.all A.isCell with
              | true => rfl
              | false => exact absurd (.inr hq) hcond
             obtain ⟨us,hus,hfc⟩:=sliceCells_rel (P:=P) hs hnew hlen hxv hnl
             have husl:us.length=n * es:=by rw [← hus.length,hnl]
             have htake:us.take (n * es)=us:=by rw [← husl]; exact List.take_length
             have hfw:=hfc n (Nat.le_refl _) w (fun _ => rfl)
             have hfd:=hfc n (Nat.le_refl _) w.drew (fun _ => rfl)
             rw [htake,g4] at hfw hfd
             obtain ⟨xb,xc,rfl⟩:=sliceLen_rel hs hlen hxv
             have hab:=hs.lt _ (Nat.le_refl σ.n)
             split at he
             · -- onto nil
               have hsv':sv=.slice none 0 0:=by
                cases hsv with
                | d h => cases h; rfl
               subst hsv'
               split at he
               · rename_i hn0
                 simp only [OpR.val.injEq] at he; obtain ⟨rfl,rfl,rfl,_⟩:=he
                 subst hn0
                 refine .same hs (v:=.slice none 0 0) (key _ _ ?_) (.d .slcNil)
                 simp [Builtin.append_,ht1,ht11,run_underlying hu,run_underlying hu1,run_sizeOf g1,Builtin.lenOf,hfw]
               · rename_i hn0
                 split at he
                 · rename_i hb
                   simp only [OpR.val.injEq] at he; obtain ⟨rfl,rfl,rfl,_⟩:=he
                   obtain ⟨cap,rest,r1,r2,r3⟩:=run_append_out (P:=P) (w:=w) (ty:=o.type) ht1 ht11 hu hu1 g1 hz (base:=none) (sLen:=0) (sCap:=0) (olds:=[]) hfd (by simp [Builtin.firstCells]) (by omega) (by omega) (by rw [← g5]; simpa using hb.1)
                   simp only [Nat.zero_add,List.nil_append] at r1 r2 r3
                   have hsd:=hs.drew
                   have hzl:zv.cells.size=es:=by have:=(hzr M β).length; simp at this; omega
                   refine ⟨_,_,M,β.new σ.n ⟨w.heap.size,0,(us.toArray ++ rest).size⟩,key _ _ r3,⟨_,.inl rfl,?_⟩,hsd.alloc _ _ _ ?_,(Grow.drew w M β σ hF).trans (Grow.alloc hsd _ _ _)⟩
                   · have:=VR.row (M:=M) (β:=β.new σ.n ⟨w.heap.size,0,(us.toArray ++ rest).size⟩) (k:=σ.n) (off:=0) (len:=n) (es:=es) (cap:=cap) (i:=⟨w.heap.size,0,(us.toArray ++ rest).size⟩) (a:=⟨w.heap.size,0,none⟩)
                      (Bt.new_same _ _ _) r1 (by
                       simp only [Array.size_append,List.size_toArray,husl,r2,hzl]
                       have:n * es+(cap - n) * es=cap * es:=by rw [← Nat.add_mul]; congr 1; omega
                       omega) (.inr rfl)
                     exact this
                   · refine cells_br (arr:=us.toArray ++ rest) (ty:=e) (heap_alloc_new w.drew _) rfl rfl (by rw [hnl]; simp [husl]) fun j q v hj hvv => ?_
                     obtain ⟨u,hu',hr'⟩:=hus.get hj
                     rw [cells_lt (rest:=rest) hu'] at hvv
                     injection hvv with hvv; subst hvv
                     exact hr'.mono (Mem.le_refl M) (Bt.le_new _ hab)
                 · cases he
             · rename_i k off len es'
               split at he
               · rename_i cs hg
                 split at he
                 · cases he
                 · rename_i hc1
                   have hes':es'=es:=by
                    rcases Nat.decEq es' es with h | h
                    · exact absurd (.inl h) hc1
                    · exact h
                   subst hes'
                   have hfit:off+len * es'≤cs.length:=by
                    rcases Nat.lt_or_ge cs.length (off+len * es') with h | h
                    · exact absurd (.inr (by omega)) hc1
                    · exact h
                   obtain ⟨bi,ad,cap,hlive,rfl,hlc,hzz,had,hbr⟩:=vr_row hs hsv hg
                   split at he
                   · rename_i hn0
                     simp only [OpR.val.injEq] at he; obtain ⟨rfl,rfl,rfl,_⟩:=he
                     subst hn0
                     refine .same hs (v:=.slice (some ad) len cap) (key _ _ ?_) (.row hlive hlc hzz had)
                     have:=run_append_in (P:=P) (w:=w) (ty:=o.type) ht1 ht11 hu hu1 g1 (base:=ad) (sLen:=len) (sCap:=cap) hfw (by omega)
                     rw [this]
                     have husnil:us=[]:=List.eq_nil_of_length_eq_zero (by rw [husl]; simp)
                     subst husnil
                     simp [storeCells]
                   · rename_i hn0
                     split at he
                     · rename_i hb
                       obtain ⟨hb1,hb2⟩:=hb
                       simp only [OpR.val.injEq] at he; obtain ⟨rfl,rfl,rfl,_⟩:=he
                       have hna:β k≠.absent:=by rw [hlive]; intro h; cases h
                       have hkn:=hs.known hlive
                       have holds:∃ olds,VRL M β ((cs.drop off).take (len * es')) olds∧olds.length=len * es'∧(∀ (hcap:cap≠0) j v,olds[j]?=some v→w.cell? (ad.add j)=some v) ∧
                        (Builtin.firstCells es' len (.slice (some ad) len cap)).run P w.drew=.ok olds.toArray w.drew:=by
                        obtain ⟨olds,q1,q2⟩:=(hbr.at_.drop off).take (len * es')
                        have hol:olds.length=len * es':=by rw [← q1.length]; simp; omega
                        have hc2:∀ (hcap:cap≠0) j v,olds[j]?=some v→w.cell? (ad.add j)=some v:=fun hcap j v hj => by
                         have:=q2 j v hj
                         rw [add_mk] at this
                         rcases had with had | had
                         · exact absurd had hcap
                         · rw [had]; exact this
                        refine ⟨olds,q1,hol,hc2,run_firstCells_some w.drew es' len ad len cap olds hol fun j v hj => ?_⟩
                        by_cases hcap:cap=0
                        · have:len=0:=by omega
                          rw [this] at hol; have:=(List.getElem?_eq_some_iff.1 hj).1; omega
                        · exact hc2 hcap j v hj
                       obtain ⟨olds,q1,hol,q2,hfo⟩:=holds
                       by_cases hin:len+n≤cap
                       · -- in place
                         have hcap:cap≠0:=by omega
                         have had':ad=⟨bi.block,bi.base+off,none⟩:=had.resolve_left hcap
                         subst had'
                         have hr:=run_append_in (P:=P) (w:=w) (ty:=o.type) ht1 ht11 hu hu1 g1 (base:=⟨bi.block,bi.base+off,none⟩) (sLen:=len) (sCap:=cap) hfw hin
                         obtain ⟨arr,ty,b1,b2,b3,b4⟩:=hbr
                         have hcm:(len+n) * es'≤cap * es':=Nat.mul_le_mul_right _ hin
                         rw [Nat.add_mul] at hcm
                         have hsz:bi.base+off+len * es'+us.length≤arr.size:=by omega
                         have hst:=run_storeCells_at (P:=P) bi.block (bi.base+off+len * es') ty us 0 arr w b1 (by omega) (hus.ones hcell)
                         simp only [Nat.add_zero] at hst
                         rw [← g4,add_mk,hst] at hr
                         have hr':=key _ _ hr
                         have hst':(w.setRow bi.block (laid arr (bi.base+off+len * es') us)).heap[bi.block]?=some (.cells (laid arr (bi.base+off+len * es') us) ty (0,0)):=setRow_heap w bi.block arr _ ty _ b1
                         refine ⟨_,w.setRow bi.block (laid arr (bi.base+off+len * es') us),M,(β.kill k).new σ.n ⟨bi.block,bi.base+off,bi.size⟩,hr',⟨_,.inl rfl,?_⟩,
                          hs.move hlive ⟨bi.block,bi.base+off,bi.size⟩ rfl _ (fun j hj => setRow_other _ _ _ hj) ?_,Grow.move hs hlive (Same.setRow _ _ _) _ _ (fun j hj => setRow_other _ _ _ hj)⟩
                         · have:=VR.row (M:=M) (β:=(β.kill k).new σ.n ⟨bi.block,bi.base+off,bi.size⟩) (k:=σ.n) (off:=0) (len:=len+n) (es:=es') (cap:=cap) (i:=⟨bi.block,bi.base+off,bi.size⟩) (a:=⟨bi.block,bi.base+off,none⟩)
                            (Bt.new_same _ _ _) hin (by simp only [Nat.add_zero]; exact hzz) (.inr rfl)
                           exact this
                         · have hle:β.le ((β.kill k).new σ.n ⟨bi.block,bi.base+off,bi.size⟩):=Bt.le_trans (Bt.le_kill β k) (Bt.le_new _ (by rw [Bt.kill_other _ (by omega)]; exact hab))
                           refine ⟨_,ty,hst',by rw [size_laid hsz]; exact b2,by simp [hnl]; omega,fun j q hj => ?_⟩
                           rw [get_laid hsz]
                           by_cases hj1:j < len * es'
                           · rw [List.getElem?_append_left (by simp; omega),List.getElem?_take,if_pos hj1,List.getElem?_drop] at hj
                             obtain ⟨u,hu1',hu2⟩:=b4 _ _ hj
                             rw [if_neg (by simp only; omega)]
                             refine ⟨u,?_,hu2.mono (Mem.le_refl M) hle⟩
                             show arr[bi.base+off+j]?=some u
                             rw [Nat.add_assoc]; exact hu1'
                           · have hlen2:((cs.drop off).take (len * es')).length=len * es':=by simp; omega
                             rw [List.getElem?_append_right (by omega),hlen2] at hj
                             obtain ⟨u,hu1',hu2⟩:=hus.get hj
                             have:=(List.getElem?_eq_some_iff.1 hu1').1
                             rw [if_pos (by simp only; omega)]
                             refine ⟨u,?_,hu2.mono (Mem.le_refl M) hle⟩
                             show us[bi.base+off+j - (bi.base+off+len * es')]?=some u
                             rw [show bi.base+off+j - (bi.base+off+len * es')=j - len * es' by omega]; exact hu1'
                       · -- a new array
                         obtain ⟨cap',rest,r1,r2,r3⟩:=run_append_out (P:=P) (w:=w) (ty:=o.type) ht1 ht11 hu hu1 g1 hz (base:=some ad) (sLen:=len) (sCap:=cap) (olds:=olds) hfd (by rw [← g4]; exact hfo) (by omega) hb2 (by rw [← g5]; exact hb1)
                         have hzl:zv.cells.size=es':=by have:=(hzr M β).length; simp at this; omega
                         have hsk:=(hs.drew).kill k hkn
                         have hlen3:(olds ++ us).length=(len+n) * es':=by rw [List.length_append,hol,husl,Nat.add_mul]
                         refine ⟨_,_,M,(β.kill k).new σ.n ⟨w.heap.size,0,((olds ++ us).toArray ++ rest).size⟩,key _ _ r3,⟨_,.inl rfl,?_⟩,hsk.alloc _ _ _ ?_,
                          ((Grow.drew w M β σ hF).trans (Grow.kill w.drew M hF hna)).trans (Grow.alloc hsk _ _ _)⟩
                         · have:=VR.row (M:=M) (β:=(β.kill k).new σ.n ⟨w.heap.size,0,((olds ++ us).toArray ++ rest).size⟩) (k:=σ.n) (off:=0) (len:=len+n) (es:=es') (cap:=cap') (i:=⟨w.heap.size,0,((olds ++ us).toArray ++ rest).size⟩) (a:=⟨w.heap.size,0,none⟩)
                            (Bt.new_same _ _ _) r1 (by
                             simp only [Array.size_append,List.size_toArray,hlen3,r2,hzl]
                             have:(len+n) * es'+(cap' - (len+n)) * es'=cap' * es':=by rw [← Nat.add_mul]; congr 1; omega
                             omega) (.inr rfl)
                           exact this
                         · have hle:β.le ((β.kill k).new σ.n ⟨w.heap.size,0,((olds ++ us).toArray ++ rest).size⟩):=Bt.le_trans (Bt.le_kill β k) (Bt.le_new _ (by rw [Bt.kill_other _ (by omega)]; exact hab))
                           refine cells_br (arr:=(olds ++ us).toArray ++ rest) (ty:=e) (heap_alloc_new w.drew _) rfl rfl (by have:=(q1.append hus).length; rw [this]; simp) fun j q v hj hvv => ?_
                           obtain ⟨u,hu',hr'⟩:=(q1.append hus).get hj
                           rw [cells_lt (rest:=rest) hu'] at hvv
                           injection hvv with hvv; subst hvv
                           exact hr'.mono (Mem.le_refl M) hle
                     · cases he
               · cases he
             · cases he
         · cases he
     · cases he
   · cases he
 · exact op_grow hs ho hc hev ‹_› ‹_› ‹_› he
 · cases he
end Go.Am
namespace Go.Am
open Go
variable {P:Program} {fz:Nat→Md} {w w':World} {M M':Mem} {β β':Bt} {σ σ':St} {hF:Nat→Option Obj} {tm:Tm} {ρ:Operand→Value} {o:Oper} {a:A} {T R:List Nat}
theorem op_copy (hs:Sat w M β σ hF) (hev:∀ x,VR M β (ev tm x) (ρ x)) {c:Call} (ho:o.op=.call c) (hc:c.callee=.builtin .copy) (he:evalOp (mkX P fz) tm σ o=.val a σ' T R):OpOk P ρ o w M β σ hF a σ' T:=by
 simp only [evalOp,ho,hc] at he
 have hx:=execOp_bi (ρ:=ρ) ho hc
 have hargs:VRL M β (c.args.toList.map (ev tm)) (c.args.toList.map ρ):=VRL.of_map _ _ _ fun x _ => hev x
 split at he
 · rename_i s x e sz by_ zz zvv hal hty
   rw [hal] at hargs
   obtain ⟨t,ht1,ht2⟩:=Option.bind_eq_some_iff.1 hty
   obtain ⟨inf,d,h1,h2,h3,h4,h5,h6,h7⟩:=ti_info ht2
   have hu:=kind_slc h3
   split at he
   · rename_i ke es be z zvv2 hte
     obtain ⟨inf',d',g1,g2,g3,g4,g5,g6,g7⟩:=ti_info hte
     simp only at g4 g5
     split at he
     · rename_i hes
       generalize hvs:c.args.toList.map ρ=vs at hargs
       cases hargs with
       | cons hsv ht =>
        rename_i sv vr
        cases ht with
        | cons hxv ht =>
         rename_i xv _
         cases ht
         have e0:c.args.map ρ=#[sv,xv]:=by apply Array.ext'; rw [args_toList,hvs]
         have key:∀ (u:Value) (w2:World),(Builtin.copy_ c.argTypes o.type #[sv,xv]).run P w=.ok u w2→(execOp ρ o).run P w=.ok (.value u) w2:=by
          intro u w2 h
          rw [hx,e0]
          simp only [builtin,Sem.run_bind,h,Result.andThen_ok,Sem.run_pure]
         unfold copyA at he
         split at he
         · rename_i k off len es' new n hnew hlen
           split at he
           · rename_i cs hg
             split at he
             · cases he
             · rename_i hcond
               simp only [OpR.val.injEq] at he; obtain ⟨rfl,rfl,rfl,_⟩:=he
               have hes':es'=es:=by
                rcases Nat.decEq es' es with h | h
                · exact absurd (.inl h) hcond
                · exact h
               subst hes'
               have hnl:new.length=n * es':=by
                rcases Nat.decEq new.length (n * es') with h | h
                · exact absurd (.inr (.inl h)) hcond
                · exact h
               have hcell:new.all A.isCell=true:=by
                cases hq:new.all A.isCell with
                | true => rfl
                | false => exact absurd (.inr (.inr (.inl hq))) hcond
               have hfit:off+len * es'≤cs.length:=by
                rcases Nat.lt_or_ge cs.length (off+len * es') with h | h
                · exact absurd (.inr (.inr (.inr (by omega)))) hcond
                · exact h
               obtain ⟨us,hus,hfc⟩:=sliceCells_rel (P:=P) hs hnew hlen hxv hnl
               obtain ⟨xb,xc,rfl⟩:=sliceLen_rel hs hlen hxv
               obtain ⟨bi,ad,cap,hlive,rfl,hlc,hzz,had,hbr⟩:=vr_row hs hsv hg
               have hfw:=hfc (min n len) (Nat.min_le_left _ _) w (fun _ => rfl)
               have hmul:min n len * es'≤len * es':=Nat.mul_le_mul_right _ (Nat.min_le_right _ _)
               have hvl:=hus.take (min n len * es')
               have hca:(new.take (min n len * es')).all A.isCell=true:=List.all_eq_true.2 fun q hq => List.all_eq_true.1 hcell q (List.mem_of_mem_take hq)
               obtain ⟨w2,hr,hsame,hother,hbr'⟩:=lay P hs hlive hg (off:=off) hvl hca (by rw [List.length_take]; omega)
               have hst:(storeCells ad (us.take (min n len * es'))).run P w=.ok () w2:=by
                rcases had with h0 | h0
                · have hl0:len=0:=by omega
                  subst hl0
                  simp only [Nat.min_zero,Nat.zero_mul,List.take_zero] at hr ⊢
                  simpa [storeCells] using hr
                · rw [h0]; exact hr
               have hrun:(Builtin.copy_ c.argTypes o.type #[.slice (some ad) len cap,.slice xb n xc]).run P w=.ok (.int .i64 ((min n len:Nat):Int)) w2:=by
                rw [g4] at hfw hst
                simp only [Nat.min_def] at hfw hst ⊢
                simp [Builtin.copy_,ht1,run_underlying hu,run_sizeOf g1,Builtin.lenOf,Nat.min_def,hfw,goInt,hst]
               exact ⟨_,w2,M,β,key _ _ hrun,⟨_,.inl rfl,.d (.int _ _)⟩,hs.write hlive _ hother hbr',Grow.write hs hsame hlive _ hother⟩
           · cases he
         · cases he
     · cases he
   · cases he
 · cases he
theorem op_sound (hs:Sat w M β σ hF) (hev:∀ x,VR M β (ev tm x) (ρ x)) (he:evalOp (mkX P fz) tm σ o=.val a σ' T R):OpOk P ρ o w M β σ hF a σ' T:=by
 cases ho:o.op with
 | move x => exact op_move hs hev ho he
 | assign x => exact op_assign hs hev ho he
 | pick c x y => exact op_pick hs hev ho he
 | alloc t => exact op_alloc hs ho he
 | box t x => exact op_box hs hev ho he
 | build t p => exact op_build hs hev ho he
 | buildSlice t l p => exact op_buildSlice hs hev ho he
 | load t x => exact op_load hs hev ho he
 | store t x y => exact op_store hs hev ho he
 | nilCheck x => exact op_nilCheck hs hev ho he
 | binOp b t x y t' => exact op_binOp hs hev ho he
 | unOp u t x => exact op_unOp hs hev ho he
 | convert s t x => exact op_convert hs hev ho he
 | makeFunc f fi ca => exact op_makeFunc hs hev ho he
 | makeMap t r => exact op_makeMap hs ho he
 | makeSlice t l c => exact op_makeSlice hs hev ho he
 | slice t x lo hi mx => exact op_slice hs hev ho he
 | fieldAddr t x f => exact op_fieldAddr hs hev ho he
 | indexAddr t x y => exact op_indexAddr hs hev ho he
 | lookup t x y ok => exact op_lookup hs hev ho he
 | mapUpdate t m k x => exact op_mapUpdate hs hev ho he
 | extract x i => exact op_extract hs hev ho he
 | insert t m k x => exact op_insert hs hev ho he
 | mapEntry t m k => exact op_mapEntry hs hev ho he
 | entryStore t m k x => exact op_entryStore hs hev ho he
 | call c =>
  cases hc:c.callee with
  | value f => simp [evalOp,ho,hc] at he
  | invoke r m => simp [evalOp,ho,hc] at he
  | builtin b =>
   cases b with
   | len => exact op_len hs hev ho hc he
   | append => exact op_append hs hev ho hc he
   | cap => exact op_cap hs hev ho hc he
   | copy => exact op_copy hs hev ho hc he
   | min => exact op_min hs hev ho hc he
   | max => exact op_max hs hev ho hc he
   | _ => simp [evalOp,ho,hc] at he
 | _ => simp [evalOp,ho] at he
end Go.Am
namespace Go.Am
open Go
variable {P:Program} {fz:Nat→Md} {w w':World} {M M':Mem} {β β':Bt} {σ σ':St} {hF:Nat→Option Obj} {tm:Tm}
def fat (f:Nat) (ro:Option Nat) (ds:List Deferred) (tmps:Array Value) (todo:List Item):Frame :=
 { fn:=f,tmps,todo,defers:=ds,mode:=.run,kind:=.normal,roundOf:=ro }
def rho (tmps:Array Value):Operand→Value
 | .tmp t => tmps.getD t undef
 | .const v => v
 | .global g => .pointer (some ⟨g,0,none⟩)
 | .func f => .func (.func f) #[] #[]
section
variable {f:Nat} {ro:Option Nat} {ds:List Deferred} {tmps:Array Value} {k:List Item} {cs:List Frame}
theorem fat_eval (todo:List Item):(fat f ro ds tmps todo).eval=rho tmps:=by funext x; cases x <;> rfl
theorem st_skip:step P (lone (fat f ro ds tmps (.code .skip :: k)) cs w)=.next (lone (fat f ro ds tmps k) cs w):=step_lone_go (by simp [stepG,stepG.exec,fat])
theorem st_label {l:Nat}:step P (lone (fat f ro ds tmps (.code (.label l) :: k)) cs w)=.next (lone (fat f ro ds tmps k) cs w):=step_lone_go (by simp [stepG,stepG.exec,fat])
theorem st_inBlock {l:Nat}:step P (lone (fat f ro ds tmps (.inBlock l :: k)) cs w)=.next (lone (fat f ro ds tmps k) cs w):=step_lone_go (by simp [stepG,stepG.exec,fat])
theorem st_inScope {c:Code}:step P (lone (fat f ro ds tmps (.inScope c :: k)) cs w)=.next (lone (fat f ro ds tmps k) cs w):=step_lone_go (by simp [stepG,stepG.exec,fat])
theorem st_seq {a b:Code}:step P (lone (fat f ro ds tmps (.code (.seq a b) :: k)) cs w)=.next (lone (fat f ro ds tmps (.code a :: .code b :: k)) cs w):=step_lone_go (by simp [stepG,stepG.exec,fat])
theorem st_cond {c:Operand} {a b:Code} {t:Bool} (h:rho tmps c=.bool t):step P (lone (fat f ro ds tmps (.code (.cond c a b) :: k)) cs w)=.next (lone (fat f ro ds tmps (.code (if t then a else b) :: k)) cs w) :=
 step_lone_go (by
  have:=congrFun (fat_eval (f:=f) (ro:=ro) (ds:=ds) (tmps:=tmps) (.code (.cond c a b) :: k)) c
  simp only [fat] at this
  simp [stepG,stepG.exec,fat,this,h])
theorem st_block {id:Nat} {b:Code}:step P (lone (fat f ro ds tmps (.code (.block id b) :: k)) cs w)=.next (lone (fat f ro ds tmps (.code b :: .inBlock id :: k)) cs w):=step_lone_go (by simp [stepG,stepG.exec,fat])
theorem st_loop {b:Code}:step P (lone (fat f ro ds tmps (.code (.loop b) :: k)) cs w)=.next (lone (fat f ro ds tmps (.code b :: .inLoop b :: k)) cs w):=step_lone_go (by simp [stepG,stepG.exec,fat])
theorem st_inLoop {b:Code}:step P (lone (fat f ro ds tmps (.inLoop b :: k)) cs w)=.next (lone (fat f ro ds tmps (.code b :: .inLoop b :: k)) cs w):=step_lone_go (by simp [stepG,stepG.exec,fat])
theorem st_scope {b:Code}:step P (lone (fat f ro ds tmps (.code (.scope b) :: k)) cs w)=.next (lone (fat f ro ds tmps (.code b :: .inScope b :: k)) cs w):=step_lone_go (by simp [stepG,stepG.exec,fat])
theorem st_exit {id:Nat} {k':List Item} (h:exitTo id k=some k'):step P (lone (fat f ro ds tmps (.code (.exit id) :: k)) cs w)=.next (lone (fat f ro ds tmps k') cs w):=step_lone_go (by simp [stepG,stepG.exec,fat,h])
theorem st_ret:step P (lone (fat f none ds tmps (.code .ret :: k)) cs w)=.next (lone { fat f none ds tmps (.code .ret :: k) with mode:=.returning } cs w):=step_lone_go (by simp [stepG,stepG.exec,fat])
theorem st_fin:step P (lone (fat f none ds tmps []) cs w)=.next (lone { fat f none ds tmps [] with mode:=.returning } cs w):=step_lone_go (by simp [stepG,stepG.exec,fat])
theorem st_region {id:Nat} {ops:Array Oper}:step P (lone (fat f ro ds tmps (.code (.region id ops false) :: k)) cs w)=.next (lone (fat f ro ds tmps (.inRegion ops (List.range ops.size) :: k)) cs w):=step_lone_go (by simp [stepG,stepG.exec,fat])
theorem st_region_draw0 {id:Nat} {ops:Array Oper}:step P (lone (fat f ro ds tmps (.code (.region id ops true) :: k)) cs w) =
 .next (lone (fat f ro ds tmps (.inRegion ops (Region.schedule (P.follows .mixedOrders) ops (w.tape w.drawn (.order f id))) :: k)) cs { w with drawn:=w.drawn+1 }) :=
 step_lone_go (by simp [stepG,stepG.exec,fat,choose,Sem.run,Question.forced,Question.cut])
theorem st_region_draw {id:Nat} {ops:Array Oper} (hm:P.follows .mixedOrders=true):step P (lone (fat f ro ds tmps (.code (.region id ops true) :: k)) cs w) =
 .next (lone (fat f ro ds tmps (.inRegion ops (Region.linearise .any ops (w.tape w.drawn (.order f id))) :: k)) cs w.drew):=by
 rw [st_region_draw0]
 simp only [Region.schedule,hm,Bool.true_or,if_true]
 rfl
theorem st_region_end {ops:Array Oper}:step P (lone (fat f ro ds tmps (.inRegion ops [] :: k)) cs w)=.next (lone (fat f ro ds tmps k) cs w):=step_lone_go (by simp [stepG,stepG.exec,fat])
def putV (tmps:Array Value) (dst:Option Nat) (v:Value):Array Value:=match dst with | some d => tmps.setIfInBounds d v | none => tmps
theorem fat_finish {ops:Array Oper} {i:Nat} {rest:List Nat} {o:Oper} (ho:ops[i]?=some o) (v:Value) :
 (fat f ro ds tmps (.inRegion ops (i :: rest) :: k)).finish v=fat f ro ds (putV tmps o.dst v) (.inRegion ops rest :: k):=by
 cases h:o.dst <;> simp [Frame.finish,fat,putV,ho,h]
theorem st_pass {ops:Array Oper} {i:Nat} {rest:List Nat} {o:Oper} (ho:ops[i]?=some o) (hw:Region.wanted o (yielded ops tmps)=false) :
 step P (lone (fat f ro ds tmps (.inRegion ops (i :: rest) :: k)) cs w)=.next (lone (fat f ro ds (putV tmps o.dst undef) (.inRegion ops rest :: k)) cs w):=by
 rw [← fat_finish ho]
 exact step_lone_go (by simp [stepG,stepG.exec,fat,ho,hw])
theorem stepG_oper {ops:Array Oper} {i:Nat} {rest:List Nat} {o:Oper} (ho:ops[i]?=some o) (hw:Region.wanted o (yielded ops tmps)=true) (hd:∀ c,o.op≠.defer c) :
 stepG P true { frame:=fat f ro ds tmps (.inRegion ops (i :: rest) :: k),callers:=cs,status:=.running,dying:=none } w =
  stepG.apply P true (fat f ro ds tmps (.inRegion ops (i :: rest) :: k)) cs none (execOp (rho tmps) o) w:=by
 have he:=fat_eval (f:=f) (ro:=ro) (ds:=ds) (tmps:=tmps) (.inRegion ops (i :: rest) :: k)
 simp only [fat] at he
 simp only [stepG,stepG.exec,fat,ho,hw,Option.map_some,Option.getD_some,if_true,stepG.oper,Frame.oper?,he]
 split
 · rename_i h1 h2; exact absurd h2 (hd _)
 · rfl
theorem st_value {ops:Array Oper} {i:Nat} {rest:List Nat} {o:Oper} {n:Next} {v:Value} (ho:ops[i]?=some o) (hw:Region.wanted o (yielded ops tmps)=true) (hd:∀ c,o.op≠.defer c)
 (hr:(execOp (rho tmps) o).run P w=.ok n w') (hn:n=.value v∨(n=.skip∧v=undef)) :
 step P (lone (fat f ro ds tmps (.inRegion ops (i :: rest) :: k)) cs w)=.next (lone (fat f ro ds (putV tmps o.dst v) (.inRegion ops rest :: k)) cs w'):=by
 refine step_lone_go ?_
 rw [stepG_oper ho hw hd,← fat_finish ho]
 rcases hn with rfl | ⟨rfl,rfl⟩ <;> simp [stepG.apply,hr]
theorem st_enter {ops:Array Oper} {i:Nat} {rest:List Nat} {o:Oper} {g:Nat} {as:Array Value} (ho:ops[i]?=some o) (hw:Region.wanted o (yielded ops tmps)=true) (hd:∀ c,o.op≠.defer c)
 (hr:(execOp (rho tmps) o).run P w=.ok (.enter g as) w') :
 step P (lone (fat f ro ds tmps (.inRegion ops (i :: rest) :: k)) cs w)=.next (lone (Frame.enter P g as .normal) (fat f ro ds tmps (.inRegion ops (i :: rest) :: k) :: cs) w'):=by
 refine step_lone_go ?_
 rw [stepG_oper ho hw hd]
 simp [stepG.apply,hr,fat]
theorem st_round {ops:Array Oper} {i:Nat} {rest:List Nat} {o:Oper} {l g:Nat} {tt:Array Value} {as bd:Code} (ho:ops[i]?=some o) (hw:Region.wanted o (yielded ops tmps)=true) (hd:∀ c,o.op≠.defer c)
 (hr:(execOp (rho tmps) o).run P w=.ok (.round l g tt as bd) w') :
 step P (lone (fat f ro ds tmps (.inRegion ops (i :: rest) :: k)) cs w)=.next (lone (Frame.round l g tt as bd .normal) (fat f ro ds tmps (.inRegion ops (i :: rest) :: k) :: cs) w'):=by
 refine step_lone_go ?_
 rw [stepG_oper ho hw hd]
 simp [stepG.apply,hr,fat]
end
def Enters (P:Program) (fv:Value) (args:Array Value) (w:World) (R:Value→World→Prop):Prop :=
 ∃ next w1,(do let d ← Deferred.ofValue fv args; invoke d.target d.args:Sem Next).run P w=.ok next w1 ∧
  ((∃ f as,next=.enter f as∧∀ fr cs,∃ v w2,R v w2∧Steps P (lone (Frame.enter P f as .normal) (fr :: cs) w1) (lone (fr.finish v) cs w2)) ∨
   (∃ l f tm as b,next=.round l f tm as b∧∀ fr cs,∃ v w2,R v w2∧Steps P (lone (Frame.round l f tm as b .normal) (fr :: cs) w1) (lone (fr.finish v) cs w2)))
theorem rho_rel {nt:Nat} {tmps:Array Value} (h:TR M β nt tm tmps) (x:Operand):VR M β (ev tm x) (rho tmps x):=by
 cases x with
 | tmp t => exact h.2 t
 | const v => exact ofV_rel v
 | global g => exact .top
 | func f => exact .func .nil
theorem TR.put {nt:Nat} {tmps:Array Value} (h:TR M β nt tm tmps) {dst:Option Nat} {a:A} {v:Value} {tm':Tm} (ha:VR M β a v) (hp:putTm nt tm dst a=some tm'):TR M β nt tm' (putV tmps dst v):=by
 unfold putTm at hp
 split at hp
 · injection hp with hp; subst hp; exact h
 · rename_i d
   split at hp
   · rename_i hd
     injection hp with hp; subst hp
     refine ⟨by simp [putV,h.1],fun t => ?_⟩
     rw [Tm.at_set]
     simp only [putV]
     by_cases e:t=d
     · subst e
       rw [if_pos rfl]
       have:(tmps.setIfInBounds t v).getD t undef=v:=by simp [h.1,hd]
       rw [this]; exact ha
     · rw [if_neg e]
       have:(tmps.setIfInBounds d v).getD t undef=tmps.getD t undef:=by
        simp only [Array.getD_eq_getD_getElem?]
        rw [Array.getElem?_setIfInBounds_ne (Ne.symm e)]
       rw [this]; exact h.2 t
   · cases hp
theorem vr_tup0 {v:Value} (h:VR M β (.tup []) v):v=.tuple #[]:=by cases h with | tup h => cases h; rfl
theorem wanted_rel {nt:Nat} {tmps:Array Value} (h:TR M β nt tm tmps) {ops:Array Oper} {o:Oper} (hg:guardOk ops tm o=true):Region.wanted o (yielded ops tmps)=wantedA ops tm o:=by
 unfold guardOk at hg
 unfold Region.wanted wantedA
 cases hgd:o.guard with
 | none => rfl
 | some p =>
  obtain ⟨j,want⟩:=p
  simp only [hgd] at hg ⊢
  cases hd:(ops[j]?).bind (·.dst) with
  | none => simp [hd] at hg
  | some t =>
   simp only [hd] at hg ⊢
   split at hg
   · rename_i b hb
     have:=h.2 t
     rw [hb] at this
     have hv:=vr_bool this
     have ht:tmps[t]?=some (.bool b):=by
      rw [Array.getD_eq_getD_getElem?] at hv
      cases hq:tmps[t]? with
      | none => rw [hq] at hv; simp [undef] at hv
      | some u => rw [hq] at hv; simpa using hv
     simp [yielded,hd,ht,hb]
   · rename_i hb
     have:=h.2 t
     rw [hb] at this
     have hv:tmps.getD t undef=.tuple #[]:=vr_tup0 this
     have:yielded ops tmps j=none:=by
      unfold yielded
      rw [hd]
      rw [Array.getD_eq_getD_getElem?] at hv
      cases hq:tmps[t]? with
      | none => simp [hq]
      | some u => rw [hq] at hv; simp at hv; simp [hq,hv]
     rw [this,hb]; rfl
   · cases hg
end Go.Am

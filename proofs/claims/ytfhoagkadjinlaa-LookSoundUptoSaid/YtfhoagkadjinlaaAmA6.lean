/- Part A6 of a proof that runs a program's calls on a small machine whose values bear no addresses: no conditions. -/
import Derived.Test.YtfhoagkadjinlaaAmA5
import Derived.Test.YtfhoagkadjinlaaAmA4
import Derived.RowKit3
set_option autoImplicit false
set_option linter.unusedSimpArgs false
set_option linter.unusedVariables false
set_option linter.unusedSectionVars false
namespace Go.Am
open Go
variable {P:Program} {fz:Nat→Md} {n nt:Nat} {ops:Array Oper} {r:Nat→Rec} {hF:Nat→Option Obj} {w₀ w:World} {M₀ M:Mem} {β₀ β:Bt} {D:Nat→Prop} {X:X} {tmps:Array Value} {cur:St} {i:Nat} {o:Oper}
section
variable (h:DC X n ops nt r) (v:Inv X n ops nt r hF w₀ M₀ β₀ D tmps w M β cur) (ho:ops[i]?=some o) (hni:¬ D i) (hpre:∀ e ∈ o.after,sure e=true→D e.on)
include h v ho hpre in
theorem bef_D {j:Nat} (hb:bef ops j i):D j:=by
 obtain ⟨e,he,hs,hb⟩:=bef_spec ho hb
 rcases hb with rfl | ⟨_,hb⟩
 · exact hpre e he hs
 · exact bef_closed h.ok v.closed (v.lt _ (hpre e he hs)) (hpre e he hs) hb
include h v hni in
theorem bef_not {j:Nat} (hj:j < ops.size) (hb:bef ops i j):¬ D j:=fun hd => hni (bef_closed h.ok v.closed hj hd hb)
include h v ho hni hpre in
theorem cut_tmp {t:Nat} (ht:t ∈ o.looksAt ops∨o.dst=some t):CutAt D (writes ops t) i:=by
 refine ⟨fun j hj ⟨oj,hoj,hd⟩ => ?_,fun j hj ⟨oj,hoj,hd⟩ => ?_⟩
 · rcases (region_at h.ok ho).2 j oj hoj hj with ha | hb
   · obtain ⟨a1,a2,a3⟩:=Oper.apart_spec ha
     rcases ht with ht | ht
     · exact absurd ht (a1 t hd)
     · exact absurd ht (a2 t hd)
   · exact bef_D h v ho hpre hb
 · rcases Nat.eq_or_lt_of_le hj with rfl | hlt
   · exact hni
   · rcases (region_at h.ok hoj).2 i o ho hlt with ha | hb
     · obtain ⟨a1,a2,a3⟩:=Oper.apart_spec ha
       rcases ht with ht | ht
       · exact absurd ht (a3 t hd)
       · exact absurd hd (a2 t ht)
     · exact bef_not h v hni (Array.getElem?_eq_some_iff.1 hoj).1 hb
include h v ho hni hpre in
theorem cut_blk {k:Nat} (hk:β k≠.absent) (hkn:k < (r i).st.n) (hq:(k ∈ (r i).R∨k ∈ (r i).T)∨¬ (light o=true∨wantedA ops (r i).tm o=false)):CutAt D (touches ops r k) i:=by
 have hi:=(Array.getElem?_eq_some_iff.1 ho).1
 have key:∀ j,j < ops.size→j≠i→k ∈ Tn r j→bef ops j i∨bef ops i j:=fun j hj hne ht => by
  have hT:k ∈ (r j).T:=(mem_Tn.1 ht).1
  rcases h.ord j i o hj ho hne (fun e => by rw [e] at hT; cases hT) with hb | hb | ⟨h1,h2⟩
  · exact .inl hb
  · exact .inr hb
  · rcases hq with (hq | hq) | hq
    · exact absurd hq (h2 k hT).1
    · exact absurd hq (h2 k hT).2
    · exact absurd h1 hq
 refine ⟨fun j hj ⟨hjs,ht⟩ => ?_,fun j hj ⟨hjs,ht⟩ => ?_⟩
 · rcases ht with ht | ⟨h1,h2⟩
   · rcases key j hjs (by omega) ht with hb | hb
     · exact bef_D h v ho hpre hb
     · have:=bef_lt h.ok hb hjs; omega
   · exact Classical.byContradiction fun hd => hk (v.new j hjs hd k h1 h2)
 · rcases Nat.eq_or_lt_of_le hj with rfl | hlt
   · exact hni
   · rcases ht with ht | ⟨h1,h2⟩
     · rcases key j hjs (by omega) ht with hb | hb
       · have:=bef_lt h.ok hb hi; omega
       · exact bef_not h v hni hjs hb
     · have:=h.n_le (Nat.le_of_lt hlt) (Nat.le_of_lt hjs); omega
include h v ho hni hpre in
theorem blk_at {k:Nat} (hk:β k≠.absent) (hkn:k < (r i).st.n) (hq:(k ∈ (r i).R∨k ∈ (r i).T)∨¬ (light o=true∨wantedA ops (r i).tm o=false)):(r i).st.get k=cur.get k∧(cur.get k).under (r i).st.n=true:=by
 have hi:=(Array.getElem?_eq_some_iff.1 ho).1
 have hc:=cut_blk h v ho hni hpre hk hkn hq
 obtain ⟨p,hp,hkp,hcp,e,u⟩:=v.blk k hk
 have hpi:p≤i:=by
  rcases hp with rfl | ⟨q,rfl,hq,ht⟩
  · exact Nat.zero_le _
  · rcases Nat.lt_or_ge q i with h1 | h1
    · exact h1
    · exact absurd hq (hc.2 q h1 ht)
 refine ⟨?_,Blk.under_mono (h.n_le hpi (Nat.le_of_lt hi)) u⟩
 rw [e]
 exact (cut_agree h (Nat.le_trans hpi (Nat.le_of_lt hi)) (Nat.le_of_lt hi) hkp hkn hcp hc).symm
include h v ho hni hpre in
theorem tmp_at:TR M (β.upto (r i).st.n) nt (only (o.looksAt ops) (r i).tm) tmps:=by
 have hi:=(Array.getElem?_eq_some_iff.1 ho).1
 refine ⟨v.tsize,fun t => ?_⟩
 rw [only_at]
 split
 · rename_i ht
   have hc:=cut_tmp h v ho hni hpre (.inl ht)
   obtain ⟨p,hp,hcp,hv⟩:=v.tmp t
   have hpi:p≤i:=by
    rcases hp with rfl | ⟨q,rfl,hq,ht⟩
    · exact Nat.zero_le _
    · rcases Nat.lt_or_ge q i with h1 | h1
      · exact h1
      · exact absurd hq (hc.2 q h1 ht)
   rw [h.chain_tm hpi (Nat.le_of_lt hi) fun q h1 h2 hw => hcp.2 q h1 hw (hc.1 q h2 hw)]
   refine hv.mono (Mem.le_refl M) (fun k => ?_)
   have:=h.n_le hpi (Nat.le_of_lt hi)
   unfold Bt.upto
   by_cases h1:k < (r p).st.n
   · rw [if_pos h1,if_pos (by omega)]; exact .inr (.inl rfl)
   · rw [if_neg h1]; exact .inl rfl
 · exact .top
include h v ho hni hpre in
theorem pick_store:∃ σ σ₁ tm₃,OpStep X n ops nt o (only (o.looksAt ops) (r i).tm) σ (r i).val tm₃ σ₁ (r i).T (r i).R∧σ.n=(r i).st.n∧σ₁.n=(r (i+1)).st.n∧LoopsOk σ ∧
 (∀ k,k < (r i).st.n→β k≠.absent→(σ.get k=cur.get k∧(cur.get k).under (r i).st.n=true)∨σ.get k=.dead) ∧
 (∀ k,Tch (r i).T (r i).st.n (r (i+1)).st.n k→σ₁.get k=(r (i+1)).st.get k):=by
 have hi:=(Array.getElem?_eq_some_iff.1 ho).1
 have hst:=h.step i o ho
 have hlook:∀ t ∈ o.looksAt ops,(only (o.looksAt ops) (r i).tm).at t=(r i).tm.at t:=fun t ht => by rw [only_at,if_pos ht]
 by_cases hq:light o=true∨wantedA ops (r i).tm o=false
 · obtain ⟨σ₃,hst',hn3,hg3⟩:=hst.light hq (σ₂:=onlySt (r i).st ((r i).R ++ (r i).T)) (onlySt_n _ _) (fun k hk => by rw [onlySt_get,if_pos hk])
   obtain ⟨tm₃,hs⟩:=hst'.on hlook
   refine ⟨_,_,tm₃,hs,onlySt_n _ _,hn3,fun k L hk => ?_,fun k hkn hk => ?_,fun k hk => hg3 k hk⟩
   · rw [onlySt_get] at hk
     split at hk
     · exact h.loops i (Nat.le_of_lt hi) k L hk
     · cases hk
   · rw [onlySt_get]
     split
     · rename_i hR
       obtain ⟨e,u⟩:=blk_at h v ho hni hpre hk hkn (.inl (List.mem_append.1 hR))
       exact .inl ⟨e,u⟩
     · exact .inr rfl
 · obtain ⟨tm₃,hs⟩:=hst.on hlook
   exact ⟨_,_,tm₃,hs,rfl,rfl,h.loops i (Nat.le_of_lt hi),fun k hkn hk => .inl (blk_at h v ho hni hpre hk hkn (.inr hq)),fun _ _ => rfl⟩
end
end Go.Am
namespace Go.Am
open Go
variable {P:Program} {fz:Nat→Md} {n nt:Nat} {ops:Array Oper} {r:Nat→Rec} {hF:Nat→Option Obj} {w₀ w:World} {M₀ M:Mem} {β₀ β:Bt} {D:Nat→Prop} {tmps:Array Value} {cur:St} {i:Nat} {o:Oper}
def nextSt (cur σ₁:St) (T:List Nat) (a b:Nat):St:=cutSt cur σ₁ (T.filter (· < a) ++ (List.range b).filter (a≤·))
theorem nextSt_get (cur σ₁:St) (T:List Nat) (a b k:Nat):(Tch T a b k→(nextSt cur σ₁ T a b).get k=σ₁.get k)∧(¬ Tch T a b k→(nextSt cur σ₁ T a b).get k=cur.get k):=by
 have:k ∈ (T.filter (· < a) ++ (List.range b).filter (a≤·)) ↔ Tch T a b k:=by
  simp only [List.mem_append,List.mem_filter,List.mem_range,decide_eq_true_eq,Tch]
  constructor
  · rintro (h | h)
    · exact .inl h
    · exact .inr ⟨h.2,h.1⟩
  · rintro (h | h)
    · exact .inl h
    · exact .inr ⟨h.2,h.1⟩
 unfold nextSt
 rw [get_cutSt]
 exact ⟨fun h => if_pos (this.2 h),fun h => if_neg (fun e => h (this.1 e))⟩
theorem Inv.step (h:DC (mkX P fz) n ops nt r) (hn:CallS P fz n) (v:Inv (mkX P fz) n ops nt r hF w₀ M₀ β₀ D tmps w M β cur) (ho:ops[i]?=some o) (hni:¬ D i) (hpre:∀ e ∈ o.after,sure e=true→D e.on)
 (f:Nat) (ro:Option Nat) (ds:List Deferred) (k:List Item) (cs:List Frame) (rest:List Nat) :
 ∃ w₁ M₁ β₁ v₁ cur₁,Steps P (lone (fat f ro ds tmps (.inRegion ops (i :: rest) :: k)) cs w) (lone (fat f ro ds (putV tmps o.dst v₁) (.inRegion ops rest :: k)) cs w₁) ∧
  Inv (mkX P fz) n ops nt r hF w₀ M₀ β₀ (fun j => D j∨j=i) (putV tmps o.dst v₁) w₁ M₁ β₁ cur₁:=by
 have hi:=(Array.getElem?_eq_some_iff.1 ho).1
 obtain ⟨σ,σ₁,tm₃,hst,hσn,hσn₁,hlo,hget,htch⟩:=pick_store h v ho hni hpre
 have htr:=tmp_at h v ho hni hpre
 have hs:=v.sat.hold (n:=(r i).st.n) hσn hget
 obtain ⟨w₁,M₁,β₁,v₁,st,hvr,s,g⟩:=op_step (f:=f) (ro:=ro) (ds:=ds) (k:=k) (cs:=cs) (rest:=rest) hn ho hst hlo htr hs
 have hnew:=v.new i hi hni
 have nn:=mrg_n hσn hσn₁ g
 have le0:=mrg_le hσn hσn₁ g hnew
 have le1:=mrg_le₁ (β:=β) s hσn₁
 have hup:=mrg_upto (β:=β) s hσn₁
 have keep:∀ {k},k < (r i).st.n→k ∉ (r i).T→mrg β β₁ (r (i+1)).st.n k=β k:=fun h1 h2 => mrg_keep hσn hσn₁ g h1 h2
 have hc1:∀ k,Tch (r i).T (r i).st.n (r (i+1)).st.n k→(nextSt cur σ₁ (r i).T (r i).st.n (r (i+1)).st.n).get k=σ₁.get k:=fun k => (nextSt_get _ _ _ _ _ k).1
 have hc2:∀ k,¬ Tch (r i).T (r i).st.n (r (i+1)).st.n k→(nextSt cur σ₁ (r i).T (r i).st.n (r (i+1)).st.n).get k=cur.get k:=fun k => (nextSt_get _ _ _ _ _ k).2
 have hm:=merge v.sat s hσn hσn₁ g hnew (by rw [v.curn]; exact h.n_le (by omega) (Nat.le_refl _)) (cur':=nextSt cur σ₁ (r i).T (r i).st.n (r (i+1)).st.n) (n_cutSt _ _ _) hc1 hc2
 have hdomT:∀ k,k ∈ Tn r i→β k≠.absent:=fun k hk => by
  have:=g.dom k (mem_Tn.1 hk).1 (by rw [hσn]; exact (mem_Tn.1 hk).2)
  unfold Bt.upto at this; rw [if_pos (mem_Tn.1 hk).2] at this; exact this
 have hne0:∀ {k},β k≠.absent→mrg β β₁ (r (i+1)).st.n k≠.absent:=fun {k} hk e => by
  rcases le0 k with h1 | h1 | h1
  · exact hk h1
  · rw [h1] at e; exact hk e
  · rw [h1] at e; cases e
 have tchT:∀ {k},Tch (r i).T (r i).st.n (r (i+1)).st.n k ↔ touches ops r k i:=fun {k} => by
  unfold Tch touches; rw [mem_Tn]; exact ⟨fun h => ⟨hi,h⟩,fun h => h.2⟩
 refine ⟨w₁,M₁,mrg β β₁ (r (i+1)).st.n,v₁,nextSt cur σ₁ (r i).T (r i).st.n (r (i+1)).st.n,st,⟨fun j hj => ?_,fun j oj hj hoj e he hsu => ?_,?_,fun t => ?_,hm,?_,fun k hk => ?_,fun j hj hnj k h1 h2 => ?_,fun j hj k hk => ?_,?_⟩⟩
 · rcases hj with hj | rfl
   · exact v.lt j hj
   · exact hi
 · rcases hj with hj | rfl
   · exact .inl (v.closed j oj hj hoj e he hsu)
   · rw [ho] at hoj; cases hoj; exact .inl (hpre e he hsu)
 · cases hd:o.dst with
   | none => exact v.tsize
   | some d => simp [putV,v.tsize]
 · -- temporaries
   by_cases hd:o.dst=some t
   · have hc:=cut_tmp h v ho hni hpre (.inr hd)
     refine ⟨i+1,.inr ⟨i,rfl,.inr rfl,o,ho,hd⟩,⟨fun j hj hw => ?_,fun j hj hw => ?_⟩,?_⟩
     · rcases Nat.eq_or_lt_of_le (Nat.le_of_lt_succ hj) with rfl | hj
       · exact .inr rfl
       · exact .inl (hc.1 j hj hw)
     · rintro (hd' | rfl)
       · exact hc.2 j (by omega) hw hd'
       · omega
     · have hp:=putTm_at (h.step i o ho).2.1 t
       rw [hup,hp.1,if_pos hd]
       have:(putV tmps o.dst v₁).getD t undef=v₁:=by simp [putV,hd,v.tsize,hp.2 hd]
       rw [this]; exact hvr
   · obtain ⟨p,hp,hcp,hv⟩:=v.tmp t
     refine ⟨p,hp.imp id (fun ⟨q,h1,h2,h3⟩ => ⟨q,h1,.inl h2,h3⟩),⟨fun j hj hw => .inl (hcp.1 j hj hw),fun j hj hw => ?_⟩,?_⟩
     · rintro (hd' | rfl)
       · exact hcp.2 j hj hw hd'
       · obtain ⟨o',ho',hd'⟩:=hw; rw [ho] at ho'; cases ho'; exact hd hd'
     · have:(putV tmps o.dst v₁).getD t undef=tmps.getD t undef:=by
        cases hq:o.dst with
        | none => rfl
        | some d =>
         have:d≠t:=fun e => hd (by rw [hq,e])
         simp only [putV,Array.getD_eq_getD_getElem?]
         rw [Array.getElem?_setIfInBounds_ne this]
       rw [this]; exact hv.mono g.mem (Bt.upto_mono le0 _)
 · unfold nextSt; rw [n_cutSt]; exact v.curn
 · -- blocks
   by_cases ht:touches ops r k i
   · have hkn:k < (r (i+1)).st.n:=by
      rcases ht.2 with h1 | h1
      · have:=(mem_Tn.1 h1).2; omega
      · exact h1.2
     refine ⟨i+1,.inr ⟨i,rfl,.inr rfl,ht⟩,hkn,⟨fun j hj hw => ?_,fun j hj hw => ?_⟩,?_,?_⟩
     · rcases Nat.eq_or_lt_of_le (Nat.le_of_lt_succ hj) with rfl | hj
       · exact .inr rfl
       · refine .inl ?_
         have hji:j≠i:=by omega
         rcases hw.2 with h1 | ⟨h1,h2⟩
         · rcases ht.2 with h3 | ⟨h3,h4⟩
           · have hTi:(r i).T≠[]:=fun e => by have:=(mem_Tn.1 h3).1; rw [e] at this; cases this
             have hTj:(r j).T≠[]:=fun e => by have:=(mem_Tn.1 h1).1; rw [e] at this; cases this
             rcases h.ord j i o hw.1 ho hji hTj with hb | hb | ⟨_,hq⟩
             · exact bef_D h v ho hpre hb
             · have:=bef_lt h.ok hb hw.1; omega
             · exact absurd (mem_Tn.1 h3).1 (hq k (mem_Tn.1 h1).1).2
           · have:=(mem_Tn.1 h1).2
             have:=h.n_le (Nat.le_of_lt hj) (Nat.le_of_lt hi); omega
         · rcases ht.2 with h3 | ⟨h3,h4⟩
           · exact Classical.byContradiction fun hd => hdomT k h3 (v.new j hw.1 hd k h1 h2)
           · have:=h.n_le (show j+1≤i by omega) (Nat.le_of_lt hi); omega
     · rintro (hd | rfl)
       · have hji:j≠i:=fun e => hni (e ▸ hd)
         rcases hw.2 with h1 | ⟨h1,h2⟩
         · rcases ht.2 with h3 | ⟨h3,h4⟩
           · have hTi:(r i).T≠[]:=fun e => by have:=(mem_Tn.1 h3).1; rw [e] at this; cases this
             have hTj:(r j).T≠[]:=fun e => by have:=(mem_Tn.1 h1).1; rw [e] at this; cases this
             rcases h.ord j i o hw.1 ho hji hTj with hb | hb | ⟨_,hq⟩
             · have:=bef_lt h.ok hb hi; omega
             · exact bef_not h v hni hw.1 hb hd
             · exact absurd (mem_Tn.1 h3).1 (hq k (mem_Tn.1 h1).1).2
           · exact v.dom j hd k h1 (hnew k h3 h4)
         · have:=h.n_le hj (Nat.le_of_lt hw.1); omega
       · omega
     · rw [hc1 k (tchT.2 ht),htch k (tchT.2 ht)]
     · rw [hc1 k (tchT.2 ht),← hσn₁]
       have hb1:β₁ k≠.absent:=by rw [mrg_lt hkn] at hk; exact hk
       cases e:β₁ k with
       | absent => exact absurd e hb1
       | dead => rw [s.dead k e]; rfl
       | live x => exact (s.own k x e).under_of s.lt
   · have hb:β k≠.absent:=fun e => by
      rcases Nat.lt_or_ge k (r i).st.n with h1 | h1
      · rw [keep h1 (fun e => ht ⟨hi,.inl (mem_Tn.2 ⟨e,h1⟩)⟩)] at hk; exact hk e
      · rcases Nat.lt_or_ge k (r (i+1)).st.n with h2 | h2
        · exact ht ⟨hi,.inr ⟨h1,h2⟩⟩
        · rw [mrg_ge h2] at hk; exact hk e
     obtain ⟨p,hp,hkp,hcp,e,u⟩:=v.blk k hb
     refine ⟨p,hp.imp id (fun ⟨q,h1,h2,h3⟩ => ⟨q,h1,.inl h2,h3⟩),hkp,⟨fun j hj hw => .inl (hcp.1 j hj hw),fun j hj hw => ?_⟩,?_,?_⟩
     · rintro (hd' | rfl)
       · exact hcp.2 j hj hw hd'
       · exact ht hw
     · rw [hc2 k (fun e => ht (tchT.1 e))]; exact e
     · rw [hc2 k (fun e => ht (tchT.1 e))]; exact u
 · -- not yet made
   have hd:¬ D j:=fun e => hnj (.inl e)
   have hji:j≠i:=fun e => hnj (.inr e)
   have hb:=v.new j hj hd k h1 h2
   rcases Nat.lt_or_ge j i with hlt | hge
   · have h3:=h.n_le (show j+1≤i by omega) (Nat.le_of_lt hi)
     rw [keep (by omega) (fun e => hdomT k (mem_Tn.2 ⟨e,by omega⟩) hb)]; exact hb
   · have h3:=h.n_le (show i+1≤j by omega) (Nat.le_of_lt hj)
     rw [mrg_ge (by omega)]; exact hb
 · rcases hj with hj | rfl
   · exact hne0 (v.dom j hj k hk)
   · exact hne0 (hdomT k hk)
 · obtain ⟨T,hT,gr⟩:=v.grow
   refine ⟨T ++ Tn r i,fun k => ?_,⟨gr.same.trans g.same,Mem.le_trans gr.mem g.mem,fun a x e => ?_,Bt.le_trans gr.le le0,?_,fun k hk hn' => ?_,fun k hk hk0 => ?_,fun k x hk hn' hl => ?_⟩⟩
   · rw [List.mem_append,hT k]
     constructor
     · rintro (⟨j,h1,h2⟩ | h1)
       · exact ⟨j,.inl h1,h2⟩
       · exact ⟨i,.inr rfl,h1⟩
     · rintro ⟨j,h1 | rfl,h2⟩
       · exact .inl ⟨j,h1,h2⟩
       · exact .inr h2
   · rcases mrg_out v.sat g a x e with e | e
     · exact gr.out a x e
     · exact .inr e
   · unfold nextSt; rw [n_cutSt]; exact gr.n
   · simp only [List.mem_append,not_or] at hn'
     have h0:=h.n_le (Nat.zero_le i) (Nat.le_of_lt hi)
     have hr:=gr.rest k hk hn'.1
     have hT':k ∉ (r i).T:=fun e => hn'.2 (mem_Tn.2 ⟨e,by omega⟩)
     rw [keep (by omega) hT',hc2 k (fun e => by rcases e with e | e; exact hT' e.1; omega)]
     exact hr
   · rcases List.mem_append.1 hk with hk | hk
     · exact gr.dom k hk hk0
     · by_cases hkT:k ∈ T
       · exact gr.dom k hkT hk0
       · have:=hdomT k hk
         rw [(gr.rest k hk0 hkT).1] at this; exact this
   · simp only [List.mem_append,not_or] at hn'
     have h0:=h.n_le (Nat.zero_le i) (Nat.le_of_lt hi)
     have hr:=gr.rest k hk hn'.1
     have hT':k ∉ (r i).T:=fun e => hn'.2 (mem_Tn.2 ⟨e,by omega⟩)
     rw [g.heap k x (by omega) hT' (by unfold Bt.upto; rw [if_pos (by omega)]; exact hr.1.trans hl)]
     exact gr.heap k x hk hn'.1 hl
end Go.Am
namespace Go.Am
open Go
variable {P:Program} {fz:Nat→Md} {n nt:Nat} {ops:Array Oper} {r:Nat→Rec} {hF:Nat→Option Obj} {w₀ w:World} {M₀ M:Mem} {β₀ β:Bt}
theorem count_le {p q:Nat→Bool} (h:∀ x,q x=true→p x=true):∀ l:List Nat,l.countP q≤l.countP p
 | [] => Nat.le_refl _
 | x :: l => by
  have:=count_le h l
  rw [List.countP_cons,List.countP_cons]
  by_cases hq:q x=true
  · rw [if_pos hq,if_pos (h x hq)]; omega
  · rw [if_neg hq]; split <;> omega
theorem count_lt {p q:Nat→Bool} (h:∀ x,q x=true→p x=true) {a:Nat} (hp:p a=true) (hq:q a=false):∀ l:List Nat,a ∈ l→l.countP q < l.countP p
 | [],h => by cases h
 | x :: l,hm => by
  rw [List.countP_cons,List.countP_cons]
  rcases List.mem_cons.1 hm with rfl | hm
  · have:=count_le h l
    rw [if_pos hp,if_neg (by simp [hq])]; omega
  · have:=count_lt h hp hq l hm
    by_cases hq:q x=true
    · rw [if_pos hq,if_pos (h x hq)]; omega
    · rw [if_neg hq]; split <;> omega
def lacks (ops:Array Oper) (listed:Array Bool):Nat:=(List.range ops.size).countP fun i => !listed.getD i false
theorem ready_nil (hok:regionOk ops=true) {listed:Array Bool} (hsz:listed.size=ops.size) (h:Region.ready .any ops listed=[]):∀ j,j < ops.size→listed.getD j false=true:=by
 intro j
 induction j using Nat.strongRecOn with
 | _ j ih =>
  intro hj
  cases e:listed.getD j false with
  | true => rfl
  | false =>
   have ho:=Array.getElem?_eq_getElem hj
   have:j ∈ Region.ready .any ops listed:=by
    rw [mem_ready]
    refine ⟨?_,_,ho,fun e' he hb => ?_⟩
    · rw [Array.getD_eq_getD_getElem?] at e ⊢
      rw [Array.getElem?_eq_getElem (by omega)] at e ⊢; exact e
    · rw [← sure_eq] at hb
      have:=(region_at hok ho).1 e' he hb
      exact ih e'.on this (by omega)
   rw [h] at this; cases this
theorem draw_go (h:DC (mkX P fz) n ops nt r) (hn:CallS P fz n) (f:Nat) (ro:Option Nat) (ds:List Deferred) (k:List Item) (cs:List Frame):∀ (fuel t:Nat) (listed:Array Bool) (tmps:Array Value) (w:World) (M:Mem) (β:Bt) (cur:St),
 listed.size=ops.size→lacks ops listed≤fuel→Inv (mkX P fz) n ops nt r hF w₀ M₀ β₀ (fun j => listed.getD j false=true) tmps w M β cur →
 ∃ w' M' β' tmps' cur' D,Steps P (lone (fat f ro ds tmps (.inRegion ops (Region.linearise.go .any ops fuel t listed []) :: k)) cs w) (lone (fat f ro ds tmps' (.inRegion ops [] :: k)) cs w') ∧
  Inv (mkX P fz) n ops nt r hF w₀ M₀ β₀ D tmps' w' M' β' cur'∧∀ j,j < ops.size→D j:=by
 intro fuel
 induction fuel with
 | zero =>
  intro t listed tmps w M β cur hsz hl v
  refine ⟨w,M,β,tmps,cur,_,by simpa [Region.linearise.go] using Steps.refl P _,v,fun j hj => ?_⟩
  have h0:lacks ops listed=0:=by omega
  unfold lacks at h0
  rw [List.countP_eq_zero] at h0
  simpa using h0 j (List.mem_range.2 hj)
 | succ fuel ih =>
  intro t listed tmps w M β cur hsz hl v
  simp only [Region.linearise.go]
  change ∃ w' M' β' tmps' cur' D,Steps P (lone (fat f ro ds tmps (.inRegion ops (match (Region.ready .any ops listed)[t % (Region.ready .any ops listed).length]? with
   | some i => Region.linearise.go .any ops fuel (t / (Region.ready .any ops listed).length) (listed.setIfInBounds i true) [i]
   | none => [].reverse) :: k)) cs w) (lone (fat f ro ds tmps' (.inRegion ops [] :: k)) cs w')∧_
  cases hi:(Region.ready .any ops listed)[t % (Region.ready .any ops listed).length]? with
  | none =>
   have hnil:Region.ready .any ops listed=[]:=by
    cases hr:Region.ready .any ops listed with
    | nil => rfl
    | cons x xs =>
     rw [hr] at hi
     have hlt:t % (x :: xs).length < (x :: xs).length:=Nat.mod_lt _ (by simp)
     simp at hi
     simp at hlt
     omega
   exact ⟨w,M,β,tmps,cur,_,Steps.refl P _,v,ready_nil h.ok hsz hnil⟩
  | some i =>
   simp only []
   rw [linearise_go_acc,List.reverse_singleton,List.singleton_append]
   obtain ⟨hun,o,ho,hpre⟩:=mem_ready.1 (List.mem_of_getElem? hi)
   have his:=(Array.getElem?_eq_some_iff.1 ho).1
   have hni:¬ listed.getD i false=true:=by
    rw [Array.getD_eq_getD_getElem?] at hun ⊢
    rw [Array.getElem?_eq_getElem (by omega)] at hun ⊢
    simp at hun ⊢; exact hun
   obtain ⟨w₁,M₁,β₁,v₁,cur₁,st,v'⟩:=v.step h hn ho hni (fun e he hs => hpre e he (by rw [← sure_eq]; exact hs)) f ro ds k cs (Region.linearise.go .any ops fuel (t / (Region.ready .any ops listed).length) (listed.setIfInBounds i true) [])
   have hD:(fun j => (listed.setIfInBounds i true).getD j false=true)=(fun j => listed.getD j false=true∨j=i):=by
    funext j
    apply propext
    by_cases e:j=i
    · subst e; simp [hsz,his]
    · rw [getD_set_ne false (Ne.symm e)]; simp [e]
   obtain ⟨w',M',β',tmps',cur',D',st',v'',hall⟩:=ih (t / (Region.ready .any ops listed).length) (listed.setIfInBounds i true) _ w₁ M₁ β₁ cur₁ (by simp [hsz]) (by
    have:lacks ops (listed.setIfInBounds i true) < lacks ops listed:=by
     refine count_lt (a:=i) (fun x hx => ?_) (by simpa using hni) (by simp [hsz,his]) _ (List.mem_range.2 his)
     by_cases e:x=i
     · subst e; simp [hsz,his] at hx
     · rw [getD_set_ne false (Ne.symm e)] at hx; exact hx
    omega) (by rw [hD]; exact v')
   exact ⟨w',M',β',tmps',cur',D',st.trans st',v'',hall⟩
theorem draw_sound (hn:CallS P fz n):DrawS P fz n:=by
 intro nt lo f ro ds k cs ops W W' tm tm' σ σ' log' w M β hF tmps t hok hops hd hl hlo ht hs
 obtain ⟨r,h,e1,e2,e3,e4,e5⟩:=DC.of fn_codeOk hok hops hd hl
 subst e1 e2 e3 e4
 have v:=Inv.start h ht hs
 have hD:(fun _:Nat => False)=(fun j => (Array.replicate ops.size false).getD j false=true):=by
  funext j; apply propext
  simp only [Array.getD_eq_getD_getElem?,Array.getElem?_replicate]
  split <;> simp
 rw [hD] at v
 obtain ⟨w',M',β',tmps',cur',D,st,v',hall⟩:=draw_go h hn f ro ds k cs ops.size t (Array.replicate ops.size false) tmps w M β _ (by simp) (by unfold lacks; exact Nat.le_trans List.countP_le_length (by simp)) v
 obtain ⟨a,b,T,hT,g⟩:=v'.done h hall
 refine ⟨w',M',β',tmps',T,st,a,b,g,fun q => ?_⟩
 rw [e5 q]
 constructor
 · rintro (h1 | ⟨j,h1,h2,h3⟩)
   · exact .inl h1
   · exact .inr ⟨(hT q).2 ⟨j,h1,mem_Tn.2 ⟨h2,by have:=h.n_le (Nat.zero_le j) (Nat.le_of_lt h1); omega⟩⟩,h3⟩
 · rintro (h1 | ⟨h1,h3⟩)
   · exact .inl h1
   · obtain ⟨j,h4,h5⟩:=(hT q).1 h1
     exact .inr ⟨j,h4,(mem_Tn.1 h5).1,h3⟩
end Go.Am
namespace Go.Am
open Go
variable {w w':World} {M M' M₂:Mem} {β β':Bt} {σ σ':St} {hF:Nat→Option Obj}
open Classical in
noncomputable def iced (w:World) (M:Mem) (β:Bt) (lo:Nat):Mem:=fun a => match M a with
 | some v => some v
 | none => if ∃ k i,lo≤k∧β k=.live i∧i.block=a.block then w.cell? a else none
theorem iced_le (lo:Nat):M.le (iced w M β lo):=fun a v h => by unfold iced; rw [h]
theorem iced_some {lo:Nat} {a:Addr} {v:Value} (h:iced w M β lo a=some v):M a=some v∨(M a=none∧(∃ k i,lo≤k∧β k=.live i∧i.block=a.block)∧w.cell? a=some v):=by
 unfold iced at h
 split at h
 · rename_i u hu; left; rw [hu]; exact h
 · rename_i hu
   split at h
   · rename_i hx; exact .inr ⟨hu,hx,h⟩
   · cases h
theorem iced_live (hs:Sat w M β σ hF) {lo k:Nat} {i:BI} (hk:lo≤k) (hl:β k=.live i) {a:Addr} (ha:a.block=i.block):iced w M β lo a=w.cell? a:=by
 unfold iced
 rw [hs.apM k i a hl ha]
 dsimp only
 rw [if_pos ⟨k,i,hk,hl,ha.symm⟩]
theorem chunks_len (es:Nat):∀ (n:Nat) (l:List D),(chunks es n l).length=n
 | 0,_ => rfl
 | n+1,l => by rw [chunks,List.length_cons,chunks_len es n]
theorem chunks_get (es:Nat):∀ (n:Nat) (l:List D) (i:Nat) (x:List D),(chunks es n l)[i]?=some x→i < n∧x=(l.drop (i * es)).take es
 | 0,l,i,x,h => by simp [chunks] at h
 | n+1,l,0,x,h => by simp [chunks] at h; exact ⟨by omega,by simp [h]⟩
 | n+1,l,i+1,x,h => by
  rw [chunks,List.getElem?_cons_succ] at h
  obtain ⟨h1,h2⟩:=chunks_get es n _ i x h
  refine ⟨by omega,?_⟩
  rw [h2,List.drop_drop]
  congr 2
  rw [Nat.add_mul]; omega
theorem freezeL_len {lo:Nat}:∀ (n:Nat) (l:List A) (ds:List D),freezeL σ lo n l=some ds→ds.length=l.length
 | n,[],ds,h => by cases n <;> simp only [freezeL,Option.some.injEq] at h <;> subst h <;> rfl
 | 0,a :: l,ds,h => by simp [freezeL] at h
 | n+1,a :: l,ds,h => by
  simp only [freezeL] at h
  split at h
  · cases hf:freezeL σ lo n l with
    | none => simp [hf] at h
    | some dl =>
     simp only [hf,Option.map_some,Option.some.injEq] at h; subst h
     simp [freezeL_len n l dl hf]
  · cases h
mutual
theorem freeze_sound (hs:Sat w M β σ hF) {lo:Nat}:∀ (n:Nat) (a:A) (d:D) (v:Value),freeze σ lo n a=some d→VR M β a v→DR (iced w M β lo) d v
 | 0,a,d,v,h,hv => by
  cases a <;> simp only [freeze] at h <;> cases h
  cases hv with | d hv => exact hv.mono (iced_le lo)
 | n+1,.d x,d,v,h,hv => by
  simp only [freeze,Option.some.injEq] at h; subst h
  cases hv with | d hv => exact hv.mono (iced_le lo)
 | n+1,.ptr k off,d,v,h,hv => by
  simp only [freeze] at h
  split at h
  · cases h
  · rename_i hk
    split at h
    · rename_i cs hg
      cases hf:freezeL σ lo n cs with
      | none => simp [hf] at h
      | some ds =>
       simp only [hf,Option.map_some,Option.some.injEq] at h; subst h
       obtain ⟨i,hl,rfl,hb⟩:=ptr_at hs hv hg
       obtain ⟨vs,hvs,hc⟩:=hb.at_
       have hL:=freezeL_sound hs n cs ds vs hf hvs
       have:=DR.vptr (M:=iced w M β lo) ds off ⟨i.block,i.base,none⟩ (fun j => vs.getD j undef) (fun j d hj => ?_) (fun j d hj => ?_)
       · rw [add_mk] at this; exact this
       · obtain ⟨u,hu,_⟩:=hL j d hj
         rw [iced_live hs (by omega) hl (by rw [add_mk]),hc j u hu]
         simp [List.getD_eq_getElem?_getD,hu]
       · obtain ⟨u,hu,hd⟩:=hL j d hj
         simpa [List.getD_eq_getElem?_getD,hu] using hd
    · cases h
 | n+1,.row k off len es,d,v,h,hv => by
  simp only [freeze] at h
  split at h
  · cases h
  · rename_i hk
    split at h
    · rename_i cs hg
      split at h
      · rename_i hle
        cases hf:freezeL σ lo n ((cs.drop off).take (len * es)) with
        | none => simp [hf] at h
        | some ds =>
         simp only [hf,Option.map_some,Option.some.injEq] at h; subst h
         obtain ⟨i,a,cap,hl,rfl,hcap,_,ha,hb⟩:=vr_row hs hv hg
         obtain ⟨vs,hvs,hc⟩:=(hb.at_.drop off).take (len * es)
         have hL:=freezeL_sound hs n _ ds vs hf hvs
         have hlen:=freezeL_len n _ ds hf
         have hlen':ds.length=len * es:=by rw [hlen]; simp; omega
         have key:∀ (p:Nat) (x:List D) (j:Nat) (d:D),(chunks es len ds)[p]?=some x→x[j]?=some d→ds[p * es+j]?=some d∧p < len:=fun p x j d h1 h2 => by
          obtain ⟨hp,rfl⟩:=chunks_get es len ds p x h1
          rw [List.getElem?_take] at h2
          split at h2
          · rw [List.getElem?_drop] at h2; exact ⟨h2,hp⟩
          · cases h2
         have:=DR.slc (M:=iced w M β lo) (chunks es len ds) a cap es (fun p j => vs.getD (p * es+j) undef) (by rw [chunks_len]; exact hcap) (fun p x hx => ?_) (fun p x j d h1 h2 => ?_) (fun p x j d h1 h2 => ?_)
         · rw [chunks_len] at this; exact this
         · obtain ⟨hp,rfl⟩:=chunks_get es len ds p x hx
           rw [List.length_take,List.length_drop,hlen']
           have:(p+1) * es≤len * es:=Nat.mul_le_mul_right es hp
           rw [Nat.add_mul] at this
           omega
         · obtain ⟨h3,hp⟩:=key p x j d h1 h2
           obtain ⟨u,hu,_⟩:=hL _ d h3
           rcases ha with ha | rfl
           · omega
           · have hcu:=hc _ u hu
             rw [add_mk] at hcu
             rw [iced_live hs (by omega) hl (by rw [add_mk]),hcu]
             simp [List.getD_eq_getElem?_getD,hu]
         · obtain ⟨h3,hp⟩:=key p x j d h1 h2
           obtain ⟨u,hu,hd⟩:=hL _ d h3
           simpa [List.getD_eq_getElem?_getD,hu] using hd
      · cases h
    · cases h
 | n+1,.map _,d,v,h,hv => by simp [freeze] at h
 | n+1,.func _ _,d,v,h,hv => by simp [freeze] at h
 | n+1,.yld _,d,v,h,hv => by simp [freeze] at h
 | n+1,.agg _,d,v,h,hv => by simp [freeze] at h
 | n+1,.tup _,d,v,h,hv => by simp [freeze] at h
 | n+1,.top,d,v,h,hv => by simp [freeze] at h
theorem freezeL_sound (hs:Sat w M β σ hF) {lo:Nat}:∀ (n:Nat) (l:List A) (ds:List D) (vs:List Value),freezeL σ lo n l=some ds→VRL M β l vs→∀ (j:Nat) (d:D),ds[j]?=some d→∃ u,vs[j]?=some u∧DR (iced w M β lo) d u
 | n,[],ds,vs,h,hv => by
  cases n <;> simp only [freezeL,Option.some.injEq] at h <;> subst h <;> intro j d hj <;> simp at hj
 | 0,a :: l,ds,vs,h,hv => by simp [freezeL] at h
 | n+1,a :: l,ds,vs,h,hv => by
  simp only [freezeL] at h
  cases hv with
  | cons hv ht =>
   split at h
   · rename_i d0 hd0
     cases hf:freezeL σ lo n l with
     | none => simp [hf] at h
     | some dl =>
      simp only [hf,Option.map_some,Option.some.injEq] at h; subst h
      intro j d hj
      cases j with
      | zero =>
       simp only [List.getElem?_cons_zero,Option.some.injEq] at hj; subst hj
       exact ⟨_,rfl,freeze_sound hs n a _ _ hd0 hv⟩
      | succ j =>
       simp only [List.getElem?_cons_succ] at hj ⊢
       exact freezeL_sound hs n l dl _ hf ht j d hj
   · cases h
end
theorem freezeL_vrl (hs:Sat w M β σ hF) {lo n:Nat} {l:List A} {ds:List D} {vs:List Value} (h:freezeL σ lo n l=some ds) (hv:VRL M β l vs) (β₂:Bt):VRL (iced w M β lo) β₂ (ds.map A.d) vs:=by
 refine VRL.of_get (by rw [List.length_map,freezeL_len n l ds h,hv.length]) fun i a v h1 h2 => ?_
 rw [List.getElem?_map] at h1
 cases hd:ds[i]? with
 | none => simp [hd] at h1
 | some d =>
  simp only [hd,Option.map_some,Option.some.injEq] at h1; subst h1
  obtain ⟨u,hu,hr⟩:=freezeL_sound hs n l ds vs h hv i d hd
  rw [h2] at hu; cases hu
  exact .d hr
theorem freezeW_sound (hs:Sat w M β σ hF) {lo n:Nat} {a r:A} {v:Value} (h:freezeW σ lo n a=some r) (hv:VR M β a v) (β₂:Bt):VR (iced w M β lo) β₂ r v:=by
 unfold freezeW at h
 split at h
 · split at h
   · rename_i l hl
     cases h
     obtain ⟨vs,rfl,hvs⟩:=vr_agg hv
     exact .agg (freezeL_vrl hs hl hvs β₂)
   · cases h
 · split at h
   · rename_i x hx; cases h; exact .d (freeze_sound hs n _ x v hx hv)
   · cases h
theorem freezeWs_sound (hs:Sat w M β σ hF) {lo n:Nat} (β₂:Bt):∀ {l rs:List A} {vs:List Value},freezeWs σ lo n l=some rs→VRL M β l vs→VRL (iced w M β lo) β₂ rs vs
 | [],rs,vs,h,hv => by simp only [freezeWs,Option.some.injEq] at h; subst h; cases hv; exact .nil
 | a :: l,rs,vs,h,hv => by
  simp only [freezeWs] at h
  cases hv with
  | cons hv ht =>
   split at h
   · rename_i b bs h1 h2
     cases h; exact .cons (freezeW_sound hs h1 hv β₂) (freezeWs_sound hs β₂ h2 ht)
   · cases h
theorem freezeV_sound (hs:Sat w M β σ hF) {lo n:Nat} {a r:A} {v:Value} (h:freezeV σ lo n a=some r) (hv:VR M β a v) (β₂:Bt):VR (iced w M β lo) β₂ r v:=by
 unfold freezeV at h
 split at h
 · split at h
   · rename_i l hl
     cases h
     obtain ⟨vs,rfl,hvs⟩:=vr_tup hv
     exact .tup (freezeWs_sound hs β₂ hl hvs)
   · cases h
 · exact freezeW_sound hs h hv β₂
theorem fzS:FzS:=by
 intro w w' M M' β β' σ σ' σ'' hF r a W T T0 v z h hv h0 hs g hW1 hW2
 cases z with
 | keep => exact leaveCall_sound (by simp) h hv h0 hs g hW1 hW2
 | cut => exact leaveCall_sound (by simp) h hv h0 hs g hW1 hW2
 | ora F => simp [leaveCall] at h
 | ice =>
  unfold leaveCall at h
  dsimp only at h
  split at h
  · rename_i r' hr
    split at h
    · rename_i hu
      simp only [Option.some.injEq,Prod.mk.injEq] at h
      obtain ⟨rfl,rfl,rfl⟩:=h
      obtain ⟨s1,g1⟩:=h0.cut hs g hW1 hW2 (List.all_eq_true.1 hu)
      have hle:M'.le (iced w' M' β' σ.n):=iced_le _
      refine ⟨iced w' M' β' σ.n,β'.upto σ.n,freezeV_sound hs hr hv _,⟨s1.frame,fun x u e => ?_,fun k i hk => (s1.own k i hk).mono hle (Bt.le_refl _),s1.apF,fun k i x hk hx => ?_,s1.inj,s1.lt,s1.dead⟩,
       { g1 with mem:=Mem.le_trans g1.mem hle,out:=fun x u e => ?_ }⟩
      · rcases iced_some e with e | ⟨_,_,e⟩
        · exact s1.mem x u e
        · exact e
      · cases e:iced w' M' β' σ.n x with
        | none => rfl
        | some u =>
         rcases iced_some e with e | ⟨_,⟨k',i',h1,h2,h3⟩,_⟩
         · rw [s1.apM k i x hk hx] at e; cases e
         · have hkn:k < σ.n∧β' k=.live i:=by
            unfold Bt.upto at hk
            split at hk
            · exact ⟨‹_›,hk⟩
            · cases hk
           have:=hs.inj k k' i i' hkn.2 h2 (by rw [h3,hx])
           omega
      · rcases iced_some e with e | ⟨_,⟨k',i',h1,h2,h3⟩,_⟩
        · exact g1.out x u e
        · exact .inr (by rw [← h3]; exact hs.apF k' i' h2)
    · cases h
  · cases h
structure OraG (w:World) (M:Mem) (w':World) (M':Mem):Prop where
 same:Same w w'
 mem:M.le M'
 out:∀ a v,M' a=some v→M a=some v∨w.heap[a.block]?=none
 cell:∀ a v,M' a=some v→w'.cell? a=some v
 old:∀ (b:Nat) (o:Obj),w.heap[b]?=some o→w'.heap[b]?=some o
def OraS (P:Program) (f:Nat) (F:List A→Option A):Prop :=
 ∀ (w:World) (M:Mem) (args:List A) (vs:List Value) (r:A),F args=some r→(∀ a v,M a=some v→w.cell? a=some v)→VRL M (fun _ => .absent) args vs →
  Calls P f vs.toArray w fun e w' => ∃ v M',e=.returned v∧VR M' (fun _ => .absent) r v∧OraG w M w' M'
theorem vrl_pure {β₂:Bt}:∀ {cs:List A} {vs:List Value},(cs.all fun c => match c with | .d _ => true | _ => false)=true→VRL M β cs vs→VRL M β₂ cs vs
 | [],_,_,h => by cases h; exact .nil
 | c :: cs,_,hp,h => by
  cases h with
  | cons h t =>
   rw [List.all_cons,Bool.and_eq_true] at hp
   cases h with
   | d h => exact .cons (.d h) (vrl_pure hp.2 t)
   | _ => simp at hp
theorem vr_pure {β₂:Bt} {a:A} {v:Value} (hp:a.pure=true) (h:VR M β a v):VR M β₂ a v:=by
 cases h with
 | d h => exact .d h
 | agg h => exact .agg (vrl_pure hp h)
 | _ => simp [A.pure] at hp
theorem vrl_pureA {β₂:Bt}:∀ {l:List A} {vs:List Value},l.all A.pure=true→VRL M β l vs→VRL M β₂ l vs
 | [],_,_,h => by cases h; exact .nil
 | c :: cs,_,hp,h => by
  cases h with
  | cons h t =>
   rw [List.all_cons,Bool.and_eq_true] at hp
   exact .cons (vr_pure hp.1 h) (vrl_pureA hp.2 t)
theorem vr_pureT {β₂:Bt} {a:A} {v:Value} (hp:a.pureT=true) (h:VR M β a v):VR M β₂ a v:=by
 cases h with
 | tup h => exact .tup (vrl_pureA hp h)
 | d h => exact .d h
 | agg h => exact vr_pure hp (.agg h)
 | _ => simp [A.pureT,A.pure] at hp
theorem dr_scalar {x:D} {v:Value} (hp:x.scalar=true) (h:DR M x v):DR M₂ x v:=by
 cases h with
 | bool b => exact .bool b
 | int k n => exact .int k n
 | str s => exact .str s
 | slcNil => exact .slcNil
 | slc => simp [D.scalar] at hp
 | vptr => simp [D.scalar] at hp
 | nptr => exact .nptr
 | nmap => exact .nmap
 | nfunc => exact .nfunc
theorem vrl_scalarC {β₂:Bt}:∀ {cs:List A} {vs:List Value},(cs.all fun c => match c with | .d x => x.scalar | _ => false)=true→VRL M β cs vs→VRL M₂ β₂ cs vs
 | [],_,_,h => by cases h; exact .nil
 | c :: cs,_,hp,h => by
  cases h with
  | cons h t =>
   rw [List.all_cons,Bool.and_eq_true] at hp
   cases h with
   | d h => exact .cons (.d (dr_scalar hp.1 h)) (vrl_scalarC hp.2 t)
   | _ => simp at hp
theorem vr_scalar {β₂:Bt} {a:A} {v:Value} (hp:a.scalar=true) (h:VR M β a v):VR M₂ β₂ a v:=by
 cases h with
 | d h => exact .d (dr_scalar hp h)
 | agg h => exact .agg (vrl_scalarC hp h)
 | _ => simp [A.scalar] at hp
theorem vrl_scalar {β₂:Bt}:∀ {l:List A} {vs:List Value},l.all A.scalar=true→VRL M β l vs→VRL M₂ β₂ l vs
 | [],_,_,h => by cases h; exact .nil
 | c :: cs,_,hp,h => by
  cases h with
  | cons h t =>
   rw [List.all_cons,Bool.and_eq_true] at hp
   exact .cons (vr_scalar hp.1 h) (vrl_scalar hp.2 t)
theorem vr_scalarT {β₂:Bt} {a:A} {v:Value} (hp:a.scalarT=true) (h:VR M β a v):VR M₂ β₂ a v:=by
 cases h with
 | tup h => exact .tup (vrl_scalar hp h)
 | d h => exact .d (dr_scalar hp h)
 | agg h => exact vr_scalar hp (.agg h)
 | _ => simp [A.scalarT,A.scalar] at hp
theorem BR.world2 {k:Nat} {i:BI} {b:Blk} (h:BR M β w k i b) (ho:∀ (b:Nat) (o:Obj),w.heap[b]?=some o→w'.heap[b]?=some o):BR M β w' k i b:=by
 cases b with
 | cells cs => obtain ⟨arr,ty,h1,h2⟩:=h; exact ⟨arr,ty,ho _ _ h1,h2⟩
 | map es => obtain ⟨a,b,h1,h2⟩:=h; exact ⟨a,b,ho _ _ h1,h2⟩
 | loop L => obtain ⟨l,h1,h2⟩:=h; exact ⟨l,ho _ _ h1,h2⟩
 | dead => obtain ⟨o,h1⟩:=h; exact ⟨o,ho _ _ h1⟩
theorem BR.there {k:Nat} {i:BI} {b:Blk} (h:BR M β w k i b):∃ o,w.heap[i.block]?=some o:=by
 cases b with
 | cells cs => obtain ⟨arr,ty,h1,h2⟩:=h; exact ⟨_,h1⟩
 | map es => obtain ⟨a,b,h1,h2⟩:=h; exact ⟨_,h1⟩
 | loop L => obtain ⟨l,h1,h2⟩:=h; exact ⟨_,h1⟩
 | dead => exact h
theorem OraG.sat (g:OraG w M w' M') (hs:Sat w M β σ hF):Sat w' M' β σ hF∧Grow w M β σ hF [] w' M' β σ:=by
 refine ⟨⟨fun b o h => g.old _ _ (hs.frame b o h),g.cell,fun k i hk => ((hs.own k i hk).mono g.mem (Bt.le_refl _)).world2 g.old,hs.apF,fun k i a hk ha => ?_,hs.inj,hs.lt,hs.dead⟩,
  ⟨g.same,g.mem,fun a v h => (g.out a v h).imp id fun h => ?_,Bt.le_refl _,Nat.le_refl _,fun _ _ _ => ⟨rfl,rfl⟩,(fun _ h => by cases h),fun k i _ _ hk => ?_⟩⟩
 · cases e:M' a with
   | none => rfl
   | some u =>
    rcases g.out a u e with e | e
    · rw [hs.apM k i a hk ha] at e; cases e
    · obtain ⟨o,ho⟩:=(hs.own k i hk).there
      rw [ha,ho] at e; cases e
 · cases e:hF a.block with
   | none => rfl
   | some o => rw [hs.frame _ _ e] at h; cases h
 · obtain ⟨o,ho⟩:=(hs.own k i hk).there
   rw [ho,g.old _ _ ho]
theorem cell_old {a:Addr} {u:Value} (h:w.cell? a=some u) (ho:∀ (b:Nat) (o:Obj),w.heap[b]?=some o→w'.heap[b]?=some o):w'.cell? a=some u:=by
 cases e:w.heap[a.block]? with
 | none => simp [World.cell?,e] at h
 | some o => rw [World.cell?_of_block (w:=w) (by rw [e]; exact ho _ _ e)]; exact h
mutual
theorem visit_live (hs:Sat w M β σ hF):∀ (n:Nat) (a:A) (v:Value),VR M β a v→∀ k ∈ visit σ n a,∃ i,β k=.live i
 | 0,a,v,_,k,hk => by cases a <;> simp [visit] at hk
 | n+1,.ptr k off,v,hv,j,hj => by
  simp only [visit] at hj
  split at hj
  · rename_i cs hg
    obtain ⟨i,hl,rfl,hb⟩:=ptr_at hs hv hg
    rcases List.mem_cons.1 hj with rfl | hj
    · exact ⟨i,hl⟩
    · obtain ⟨vs,hvs,-⟩:=hb.at_
      exact visitL_live hs n cs vs hvs j hj
  · cases hj
 | n+1,.row k off len es,v,hv,j,hj => by
  simp only [visit] at hj
  split at hj
  · rename_i cs hg
    obtain ⟨i,a,cap,hl,rfl,hcap,_,ha,hb⟩:=vr_row hs hv hg
    rcases List.mem_cons.1 hj with rfl | hj
    · exact ⟨i,hl⟩
    · obtain ⟨vs,hvs,-⟩:=(hb.at_.drop off).take (len * es)
      exact visitL_live hs n _ vs hvs j hj
  · cases hj
 | n+1,.d _,v,_,j,hj => by simp [visit] at hj
 | n+1,.map _,v,_,j,hj => by simp [visit] at hj
 | n+1,.func _ _,v,_,j,hj => by simp [visit] at hj
 | n+1,.yld _,v,_,j,hj => by simp [visit] at hj
 | n+1,.agg _,v,_,j,hj => by simp [visit] at hj
 | n+1,.tup _,v,_,j,hj => by simp [visit] at hj
 | n+1,.top,v,_,j,hj => by simp [visit] at hj
theorem visitL_live (hs:Sat w M β σ hF):∀ (n:Nat) (l:List A) (vs:List Value),VRL M β l vs→∀ k ∈ visitL σ n l,∃ i,β k=.live i
 | n,[],vs,_,k,hk => by cases n <;> simp [visitL] at hk
 | 0,a :: l,vs,_,k,hk => by simp [visitL] at hk
 | n+1,a :: l,vs,hv,k,hk => by
  cases hv with
  | cons hv ht =>
   simp only [visitL,List.mem_append] at hk
   rcases hk with hk | hk
   · exact visit_live hs n a _ hv k hk
   · exact visitL_live hs n l _ ht k hk
end
theorem visitW_live (hs:Sat w M β σ hF) {n:Nat} {a:A} {v:Value} (hv:VR M β a v):∀ k ∈ visitW σ n a,∃ i,β k=.live i:=by
 intro k hk
 unfold visitW at hk
 split at hk
 · obtain ⟨vs,rfl,hvs⟩:=vr_agg hv
   exact visitL_live hs n _ vs hvs k hk
 · exact visit_live hs n a v hv k hk
theorem visitWs_live (hs:Sat w M β σ hF) {n:Nat}:∀ {l:List A} {vs:List Value},VRL M β l vs→∀ k ∈ visitWs σ n l,∃ i,β k=.live i
 | [],_,_,k,hk => by cases hk
 | a :: l,vs,hv,k,hk => by
  cases hv with
  | cons hv ht =>
   simp only [visitWs,List.mem_append] at hk
   rcases hk with hk | hk
   · exact visitW_live hs hv k hk
   · exact visitWs_live hs ht k hk
def onlyB (β:Bt) (S:List Nat):Bt:=fun k => if S.contains k then β k else match β k with
 | .absent => .absent
 | _ => .dead
def lessB (β:Bt) (S:List Nat):Bt:=fun k => if S.contains k then .dead else β k
theorem onlyB_le (β:Bt) (S:List Nat):β.le (onlyB β S):=fun k => by
 unfold onlyB
 by_cases h:S.contains k=true
 · rw [if_pos h]; exact .inr (.inl rfl)
 · rw [if_neg h]
   cases e:β k with
   | absent => exact .inl rfl
   | dead => exact .inr (.inr rfl)
   | live i => exact .inr (.inr rfl)
theorem lessB_le (β:Bt) (S:List Nat):β.le (lessB β S):=fun k => by
 unfold lessB
 split
 · exact .inr (.inr rfl)
 · exact .inr (.inl rfl)
theorem onlyB_live {S:List Nat} {k:Nat} {i:BI} (h:onlyB β S k=.live i):β k=.live i∧k ∈ S:=by
 unfold onlyB at h
 split at h
 · rename_i hc; exact ⟨h,by simpa using hc⟩
 · split at h <;> cases h
theorem Sat.only (hs:Sat w M β σ hF) (S:List Nat):Sat w M (onlyB β S) (partSt σ S) hF where
 frame:=hs.frame
 mem:=hs.mem
 own k i hk:=by
  obtain ⟨h1,h2⟩:=onlyB_live hk
  have:(partSt σ S).get k=σ.get k:=if_pos (by simpa using h2)
  rw [this]
  exact (hs.own k i h1).mono (Mem.le_refl _) (onlyB_le β S)
 apF k i hk:=hs.apF k i (onlyB_live hk).1
 apM k i a hk:=hs.apM k i a (onlyB_live hk).1
 inj k k' i i' hk hk':=hs.inj k k' i i' (onlyB_live hk).1 (onlyB_live hk').1
 lt k hk:=by
  unfold onlyB
  rw [hs.lt k hk]; split <;> rfl
 dead k hk:=by
  unfold onlyB at hk
  show (if S.contains k then σ.get k else Blk.dead)=.dead
  split at hk
  · rename_i h; rw [if_pos h]; exact hs.dead k hk
  · rename_i h; rw [if_neg h]
theorem OraG.give {S:List Nat} (hs:Sat w M β σ hF) (hl:∀ k ∈ S,∃ i,β k=.live i) (g:OraG w (iced w M (onlyB β S) 0) w' M'):Sat w' M' (lessB β S) (lessSt σ S) hF∧Grow w M β σ hF S w' M' (lessB β S) (lessSt σ S):=by
 have hM:M.le M':=Mem.le_trans (iced_le _) g.mem
 have live:∀ {k:Nat} {i:BI},lessB β S k=.live i→β k=.live i∧k ∉ S:=fun {k i} h => by
  unfold lessB at h
  split at h
  · cases h
  · rename_i hc; exact ⟨h,by simpa using hc⟩
 have get:∀ k,k ∉ S→(lessSt σ S).get k=σ.get k:=fun k hk => if_neg (by simpa using hk)
 refine ⟨⟨fun b o h => g.old _ _ (hs.frame b o h),g.cell,fun k i hk => ?_,fun k i hk => hs.apF k i (live hk).1,fun k i a hk ha => ?_,fun k k' i i' hk hk' => hs.inj k k' i i' (live hk).1 (live hk').1,fun k hk => ?_,fun k hk => ?_⟩,
  ⟨g.same,hM,fun a v h => ?_,lessB_le β S,Nat.le_refl _,fun k _ hk => ⟨if_neg (by simpa using hk),get k hk⟩,fun k hk _ => ?_,fun k i _ _ hk => ?_⟩⟩
 · obtain ⟨h1,h2⟩:=live hk
   rw [get k h2]
   exact ((hs.own k i h1).mono hM (lessB_le β S)).world2 g.old
 · obtain ⟨h1,h2⟩:=live hk
   cases e:M' a with
   | none => rfl
   | some u =>
    rcases g.out a u e with e | e
    · rcases iced_some e with e | ⟨_,⟨k',i',_,q1,q2⟩,_⟩
      · rw [hs.apM k i a h1 ha] at e; cases e
      · obtain ⟨q3,q4⟩:=onlyB_live q1
        have:=hs.inj k k' i i' h1 q3 (by rw [q2,ha])
        subst this; exact absurd q4 h2
    · obtain ⟨o,ho⟩:=(hs.own k i h1).there
      rw [ha,ho] at e; cases e
 · have h1:k ∉ S:=fun h => by obtain ⟨i,hi⟩:=hl k h; rw [hs.lt k hk] at hi; cases hi
   show (if S.contains k then BS.dead else β k)=.absent
   rw [if_neg (by simpa using h1)]; exact hs.lt k hk
 · by_cases h1:k ∈ S
   · exact if_pos (by simpa using h1)
   · rw [get k h1]
     refine hs.dead k ?_
     have:(if S.contains k then BS.dead else β k)=.dead:=hk
     rwa [if_neg (by simpa using h1)] at this
 · rcases g.out a v h with h | h
   · rcases iced_some h with h | ⟨_,⟨k',i',_,q1,q2⟩,_⟩
     · exact .inl h
     · right; rw [← q2]; exact hs.apF k' i' (onlyB_live q1).1
   · right
     cases e:hF a.block with
     | none => rfl
     | some o => rw [hs.frame _ _ e] at h; cases h
 · obtain ⟨i,hi⟩:=hl k hk
   rw [hi]; exact fun h => by cases h
 · obtain ⟨o,ho⟩:=(hs.own k i hk).there
   rw [ho,g.old _ _ ho]
theorem oraCallS {P:Program} {fz:Nat→Md} (hO:∀ f F,oraOf (fz f)=some F→OraS P f F):OraCallS P fz:=by
 intro f F args σ a σ' T ho h w M β hF vs hvs hs
 unfold oraCall at h
 split at h
 · rename_i hp
   split at h
   · rename_i r hr
     split at h
     · rename_i hrp
       cases h
       refine (hO f F ho w M args vs a hr hs.mem (vrl_pureA hp hvs)).mono fun e w' ⟨v,M',he,hv,g⟩ => ⟨v,he,M',β,vr_pureT hrp hv,g.sat hs⟩
     · cases h
   · cases h
 · split at h
   · rename_i as ha
     split at h
     · rename_i r hr
       split at h
       · rename_i hrp
         cases h
         refine (hO f F ho w (iced w M β 0) as vs a hr (fun x u e => ?_) (freezeWs_sound hs _ ha hvs)).mono fun e w' ⟨v,M',he,hv,g⟩ => ⟨v,he,M,β,vr_scalarT hrp hv,?_⟩
         · rcases iced_some e with e | ⟨_,_,e⟩
           · exact hs.mem x u e
           · exact e
         · exact (⟨g.same,Mem.le_refl _,fun _ _ h => .inl h,fun a u h => cell_old (hs.mem a u h) g.old,g.old⟩:OraG w M w' M).sat hs
       · split at h
         · rename_i as' ha'
           split at h
           · rename_i r' hr'
             split at h
             · rename_i hrp
               cases h
               have hlv:=visitWs_live (n:=fzDepth) hs hvs
               have hs2:=hs.only (visitWs σ fzDepth args)
               refine (hO f F ho w (iced w M (onlyB β (visitWs σ fzDepth args)) 0) as' vs a hr' (fun x u e => ?_) (freezeWs_sound hs2 _ ha' (hvs.mono (Mem.le_refl _) (onlyB_le _ _)))).mono fun e w' ⟨v,M',he,hv,g⟩ => ⟨v,he,M',lessB β (visitWs σ fzDepth args),vr_pureT hrp hv,g.give hs hlv⟩
               rcases iced_some e with e | ⟨_,_,e⟩
               · exact hs.mem x u e
               · exact e
             · cases h
           · cases h
         · cases h
     · cases h
   · cases h
end Go.Am
namespace Go.Am
open Go
end Go.Am
namespace Go.Am
open Go Go.RowKit
variable {P:Program} {fz:Nat→Md} {w w':World} {M M':Mem} {β β':Bt} {σ σ':St} {hF:Nat→Option Obj}
theorem execs (hO:∀ f F,oraOf (fz f)=some F→OraS P f F) (hm:P.follows .mixedOrders=true) (n:Nat):ExecS P fz n:=(sound_all fzS (oraCallS hO) hm (fun _ h => draw_sound h) n).2
theorem calls_bridge (hO:∀ f F,oraOf (fz f)=some F→OraS P f F) (hm:P.follows .mixedOrders=true) {f:Nat} {args:List A} {vs:List Value} {a:A} {T:List Nat} (h:CallsTo (mkX P fz) (.func f []) args σ a σ' T) (hl:LoopsOk σ)
 (hvs:VRL M β args vs) (hs:Sat w M β σ hF):Calls P f vs.toArray w fun e w' => ∃ v,e=.returned v∧CallR a w M β σ hF T σ' v w':=by
 obtain ⟨n,h⟩:=h
 cases n with
 | zero => simp [callA] at h
 | succ n =>
  rw [callA] at h
  cases ho:oraOf ((mkX P fz).fz f) with
  | some F =>
   simp only [ho] at h
   split at h
   · intro cs
     obtain ⟨e,w',fr,⟨v,he,hR⟩,st⟩:=oraCallS hO f F args σ a σ' T ho h w M β hF vs hvs hs cs
     exact ⟨e,w',fr,⟨v,he,hR⟩,st⟩
   · cases h
  | none =>
  simp only [ho] at h
  split at h
  · rename_i F hFn
    split at h
    · rename_i hnt
      split at h
      · rename_i tm1 σ1 W1 he
        split at h
        · rename_i l hres
          obtain ⟨fn,b,h1,h2,h3,h4,rfl⟩:=mkFn_some hFn
          have htr:TR M β fn.ntmps (initTm (args ++ []) 0 .nil) ((vs ++ []).toArray ++ Array.replicate (fn.ntmps - (vs ++ []).toArray.size) undef) :=
           init_tr (hvs.append .nil) (by simpa using hnt)
          intro cs
          have r:=execs (fz:=fz) hO hm n _ _ _ _ _ _ _ _ _ he (all_cons.2 ⟨h3,rfl⟩) hl (Nat.le_refl _) w M β hF _ [] cs none trivial (fun _ => rfl) .nil (by intro r h; cases h) htr (withMarks_nil hF ▸ hs)
          obtain ⟨w',M',β',T0,hs',g,wr,hret,-⟩:=r
          obtain ⟨-,tmps',todo',st,tr⟩:=hret _ _ _ rfl
          obtain ⟨v,hv,hvr⟩:=results_sound (P:=P) hs' tr hres
          have hR:=fzS w w' M M' β β' σ σ1 σ' hF _ a W1 T T0 v _ h hvr hs hs' g (fun k h1 h2 => (wr k).2 (.inr ⟨h1,h2⟩)) (fun k hk => by
           rcases (wr k).1 hk with h | ⟨h1,h2⟩
           · cases h
           · exact ⟨h2,g.dom k h1 h2⟩)
          refine ⟨.returned v,w',{ fat f none [] tmps' todo' with mode:=.returning },⟨v,rfl,hR⟩,?_,rfl,rfl,rfl,rfl,fn,h1,hv⟩
          have henter:Frame.enter P f vs.toArray .normal=fat f none (marks []) ((vs ++ []).toArray ++ Array.replicate (fn.ntmps - (vs ++ []).toArray.size) undef) [.code b]:=by
           simp [Frame.enter,fat,h1,h2,marks]
          rw [henter]
          exact st
        · cases h
      · cases h
    · cases h
  · cases h
def allM (w:World):Mem:=w.cell?
theorem sat_start (w:World):Sat w (allM w) (fun _ => .absent) St.empty (fun b => w.heap[b]?) :=
 { frame:=fun _ _ h => h
   mem:=fun _ _ h => h
   own:=fun _ _ h => (BS.noConfusion h)
   apF:=fun _ _ h => (BS.noConfusion h)
   apM:=fun _ _ _ h => (BS.noConfusion h)
   inj:=fun _ _ _ _ h => (BS.noConfusion h)
   lt:=fun _ _ => rfl
   dead:=fun _ h => (BS.noConfusion h) }
theorem loops_start:LoopsOk St.empty:=fun k L h => by simp [St.get,St.empty] at h
theorem grown_of {T:List Nat} {v:Value} {a:A} (h:CallR a w (allM w) (fun _ => .absent) St.empty (fun b => w.heap[b]?) T σ' v w'):Grown w w':=by
 obtain ⟨M',β',hv,hs,g⟩:=h
 refine ⟨⟨g.same.os,g.same.output,fun i hi => ?_⟩,g.same.frozen,g.same.size⟩
 have e:=hs.frame i _ (Array.getElem?_eq_getElem hi)
 rw [e,Array.getElem?_eq_getElem hi]
 cases w.heap[i] with
 | cells c t fr => exact ⟨rfl,rfl,rfl,fun _ _ => rfl⟩
 | map es clock => exact .inr ⟨rfl,rfl⟩
 | _ => rfl
theorem old_of {T:List Nat} {v:Value} {a:A} (h:CallR a w (allM w) (fun _ => .absent) St.empty (fun b => w.heap[b]?) T σ' v w'):∀ b,b < w.heap.size→w'.heap[b]?=w.heap[b]?:=by
 obtain ⟨M',β',hv,hs,g⟩:=h
 intro b hb
 rw [hs.frame b _ (Array.getElem?_eq_getElem hb),Array.getElem?_eq_getElem hb]
theorem calls_top (hO:∀ f F,oraOf (fz f)=some F→OraS P f F) (hm:P.follows .mixedOrders=true) {f:Nat} {args:List A} {vs:List Value} {a:A} {T:List Nat} (h:CallsTo (mkX P fz) (.func f []) args St.empty a σ' T)
 (hvs:VRL (allM w) (fun _ => .absent) args vs):Calls P f vs.toArray w fun e w' => ∃ v,e=.returned v∧(∃ M' β',VR M' β' a v)∧Grown w w'∧∀ b,b < w.heap.size→w'.heap[b]?=w.heap[b]? :=
 (calls_bridge hO hm h loops_start hvs (sat_start w)).mono fun e w' ⟨v,he,hr⟩ => ⟨v,he,(by obtain ⟨M',β',hv,_⟩:=hr; exact ⟨M',β',hv⟩),grown_of hr,old_of hr⟩
theorem oraS_of (hO:∀ f F,oraOf (fz f)=some F→OraS P f F) (hm:P.follows .mixedOrders=true) {f:Nat} {F:List A→Option A}
 (h:∀ args r,F args=some r→r.pureT=true∧∃ σ' T,CallsTo (mkX P fz) (.func f []) args St.empty r σ' T):OraS P f F:=by
 intro w M args vs r hr hM hvs
 obtain ⟨hp,σ',T,hc⟩:=h args r hr
 have hs:Sat w M (fun _ => .absent) St.empty (fun b => w.heap[b]?) :=
  { frame:=fun _ _ h => h
    mem:=hM
    own:=fun _ _ h => (BS.noConfusion h)
    apF:=fun _ _ h => (BS.noConfusion h)
    apM:=fun _ _ _ h => (BS.noConfusion h)
    inj:=fun _ _ _ _ h => (BS.noConfusion h)
    lt:=fun _ _ => rfl
    dead:=fun _ h => (BS.noConfusion h) }
 refine (calls_bridge hO hm hc loops_start hvs hs).mono fun e w' ⟨v,he,M',β',hv,hs',g⟩ => ⟨v,M',he,vr_pureT hp hv,⟨g.same,g.mem,g.out,hs'.mem,fun b o h => hs'.frame b o h⟩⟩
end Go.Am

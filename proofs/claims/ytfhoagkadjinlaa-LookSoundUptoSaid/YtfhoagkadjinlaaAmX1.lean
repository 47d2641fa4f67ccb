/- Part X1 of a proof that runs a program's calls on a small machine whose values bear no addresses: no conditions. -/
import Derived.Test.YtfhoagkadjinlaaAmQ4
set_option autoImplicit false
set_option linter.unusedSimpArgs false
set_option linter.unusedVariables false
set_option linter.unusedSectionVars false
namespace Go.Am
open Go Go.Proofs
section
variable {bs:List Ex} {l:List Int}
theorem Dx.take_of {w:Ex ⊕ List Ex} {i j k:Nat} (h:Dx bs (l.take k) w i j):Dx bs l w i j:=by
 induction h with
 | tok h1 h2 =>
  rw [List.getElem?_take] at h2
  split at h2
  · exact .tok h1 h2
  · cases h2
 | call h1 h2 _ ih => exact .call h1 h2 ih
 | alt h1 h2 _ ih => exact .alt h1 h2 ih
 | opt0 h1 => exact .opt0 h1
 | opt1 h1 h2 _ ih => exact .opt1 h1 h2 ih
 | star0 h1 => exact .star0 h1
 | star1 h1 h2 _ _ ih1 ih2 => exact .star1 h1 h2 ih1 ih2
 | seq h1 _ ih => exact .seq h1 ih
 | nil => exact .nil
 | cons _ _ ih1 ih2 => exact .cons ih1 ih2
theorem Dx.drop_of {w:Ex ⊕ List Ex} {i j k:Nat} (h:Dx bs (l.drop k) w i j):Dx bs l w (i+k) (j+k):=by
 induction h with
 | tok h1 h2 => rw [List.getElem?_drop,Nat.add_comm] at h2; have:=Dx.tok (bs:=bs) h1 h2; rwa [Nat.add_right_comm] at this
 | call h1 h2 _ ih => exact .call h1 h2 ih
 | alt h1 h2 _ ih => exact .alt h1 h2 ih
 | opt0 h1 => exact .opt0 h1
 | opt1 h1 h2 _ ih => exact .opt1 h1 h2 ih
 | star0 h1 => exact .star0 h1
 | star1 h1 h2 _ _ ih1 ih2 => exact .star1 h1 h2 ih1 ih2
 | seq h1 _ ih => exact .seq h1 ih
 | nil => exact .nil
 | cons _ _ ih1 ih2 => exact .cons ih1 ih2
end
end Go.Am
namespace Go.Am
open Go
def lexLt:List Int→List Int→Bool
 | x :: a,y :: b => if x < y then true else if y < x then false else lexLt a b
 | _,_ => false
def lessP (a b:List Int):Bool:=if a.length=b.length then lexLt a b else decide (a.length < b.length)
theorem lexLt_irrefl:∀ a:List Int,lexLt a a=false
 | [] => rfl
 | x :: a => by rw [lexLt,if_neg (by omega),if_neg (by omega)]; exact lexLt_irrefl a
theorem lexLt_trans:∀ {a b c:List Int},a.length=b.length→b.length=c.length→lexLt a b=false→lexLt b c=false→lexLt a c=false
 | [],[],c,_,hc,_,_ => by cases c with | nil => rfl | cons _ _ => cases hc
 | x :: a,y :: b,z :: c,h1,h2,h3,h4 => by
  rw [lexLt] at h3 h4 ⊢
  split at h3
  · cases h3
  split at h4
  · cases h4
  rw [if_neg (by omega)]
  split
  · rfl
  · rename_i n1 n2 n3
    rw [if_neg (by omega)] at h3 h4
    exact lexLt_trans (by simpa using h1) (by simpa using h2) h3 h4
 | [],_ :: _,_,h,_,_,_ => by cases h
 | _ :: _,[],_,h,_,_,_ => by cases h
 | _ :: _,_ :: _,[],_,h,_,_ => by cases h
def Ge (a b:List Int):Prop:=lessP a b=false
theorem Ge.refl (a:List Int):Ge a a:=by unfold Ge lessP; rw [if_pos rfl]; exact lexLt_irrefl a
theorem Ge.len {a b:List Int} (h:Ge a b):b.length≤a.length:=by
 unfold Ge lessP at h
 split at h
 · omega
 · simp at h; omega
theorem Ge.trans {a b c:List Int} (h:Ge a b) (k:Ge b c):Ge a c:=by
 have h1:=h.len
 have k1:=k.len
 unfold Ge lessP at h k ⊢
 split
 · rename_i e
   rw [if_pos (by omega)] at h k
   exact lexLt_trans (by omega) (by omega) h k
 · simp; omega
theorem Ge.nil (a:List Int):Ge a []:=by
 unfold Ge lessP
 cases a with
 | nil => rfl
 | cons x a => rw [if_neg (by simp)]; simp
def rank:List Int→Nat→Nat
 | [],r => r
 | a :: l,r => rank l (r * 65+(a.toNat+1))
def small64 (l:List Int):Prop:=∀ a ∈ l,0≤a∧a < 64
theorem rank_lt:∀ {l:List Int} (r:Nat),small64 l→rank l r < (r+1) * 65 ^ l.length
 | [],r,_ => by simp [rank]
 | a :: l,r,h => by
  have ha:=h a (by simp)
  have:=rank_lt (l:=l) (r * 65+(a.toNat+1)) fun b hb => h b (by simp [hb])
  rw [rank]
  refine Nat.lt_of_lt_of_le this ?_
  rw [List.length_cons,Nat.pow_succ,Nat.mul_comm (65 ^ l.length) 65,← Nat.mul_assoc]
  exact Nat.mul_le_mul_right _ (by omega)
theorem rank_ge:∀ {l:List Int} (r:Nat),r * 65 ^ l.length≤rank l r
 | [],r => by simp [rank]
 | a :: l,r => by
  rw [rank]
  refine Nat.le_trans ?_ (rank_ge (l:=l) _)
  rw [List.length_cons,Nat.pow_succ,Nat.mul_comm (65 ^ l.length) 65,← Nat.mul_assoc]
  exact Nat.mul_le_mul_right _ (by omega)
theorem rank_lex:∀ {a b:List Int} (r:Nat),a.length=b.length→small64 a→small64 b→lexLt a b=true→rank a r < rank b r
 | [],[],_,_,_,_,h => by simp [lexLt] at h
 | x :: a,y :: b,r,hl,ha,hb,h => by
  rw [lexLt] at h
  have hx:=ha x (by simp)
  have hy:=hb y (by simp)
  rw [rank,rank]
  have hl':a.length=b.length:=by simpa using hl
  split at h
  · have h1:=rank_lt (l:=a) (r * 65+(x.toNat+1)) fun c hc => ha c (by simp [hc])
    have h2:=rank_ge (l:=b) (r * 65+(y.toNat+1))
    refine Nat.lt_of_lt_of_le h1 (Nat.le_trans ?_ h2)
    rw [hl']
    exact Nat.mul_le_mul_right _ (by omega)
  · split at h
    · cases h
    · have e:x=y:=by omega
      subst e
      exact rank_lex _ hl' (fun c hc => ha c (by simp [hc])) (fun c hc => hb c (by simp [hc])) h
 | [],_ :: _,_,h,_,_,_ => by cases h
 | _ :: _,[],_,h,_,_,_ => by cases h
theorem rank_less {a b:List Int} (ha:small64 a) (hb:small64 b) (h:lessP a b=true):rank a 0 < rank b 0:=by
 unfold lessP at h
 split at h
 · exact rank_lex 0 ‹_› ha hb h
 · have hl:a.length < b.length:=by simpa using h
   have h1:=rank_lt (l:=a) 0 ha
   cases b with
   | nil => simp at hl
   | cons y b =>
    have h2:=rank_ge (l:=b) (0 * 65+(y.toNat+1))
    rw [rank]
    refine Nat.lt_of_lt_of_le h1 (Nat.le_trans ?_ h2)
    simp only [List.length_cons] at hl
    refine Nat.mul_le_mul (by omega) (Nat.pow_le_pow_right (by omega) (by omega))
theorem rank_max {a:List Int} (ha:small64 a) (hl:a.length≤256):rank a 0 < 65 ^ 256+1:=by
 have h1:=rank_lt (l:=a) 0 ha
 have:=Nat.pow_le_pow_right (show 0 < 65 by omega) hl
 omega
mutual
def shortE (F:Nat→Option (List Int)):Ex→Option (List Int)
 | .mk k n _ l => if k=1 then some [n] else if k=2 then F n.toNat else if k=3 then shortS F l [] else if k=4 then shortA F l none else some []
def shortS (F:Nat→Option (List Int)):List Ex→List Int→Option (List Int)
 | [],out => some out
 | x :: l,out => match shortE F x with
  | none => none
  | some s => if out.length+s.length > 256 then none else shortS F l (out ++ s)
def shortA (F:Nat→Option (List Int)):List Ex→Option (List Int)→Option (List Int)
 | [],best => best
 | x :: l,best => match shortE F x with
  | none => shortA F l best
  | some s => match best with
   | none => shortA F l (some s)
   | some b => shortA F l (if lessP s b=true then some s else some b)
end
theorem shortE_eq (F:Nat→Option (List Int)) (x:Ex):shortE F x=if x.kind=1 then some [x.num] else if x.kind=2 then F x.num.toNat else if x.kind=3 then shortS F x.l [] else if x.kind=4 then shortA F x.l none else some []:=by
 cases x; rw [shortE]; rfl
end Go.Am
namespace Go.Am
open Go
theorem Dx.app_left {bs:List Ex} {a b:List Int} {w:Ex ⊕ List Ex} {i j:Nat} (h:Dx bs a w i j):Dx bs (a ++ b) w i j:=by
 have e:(a ++ b).take a.length=a:=by simp
 have:Dx bs ((a ++ b).take a.length) w i j:=by rw [e]; exact h
 exact this.take_of
theorem Dx.app_right {bs:List Ex} {a b:List Int} {w:Ex ⊕ List Ex} {i j:Nat} (h:Dx bs b w i j):Dx bs (a ++ b) w (i+a.length) (j+a.length):=by
 have e:(a ++ b).drop a.length=b:=by simp
 have:Dx bs ((a ++ b).drop a.length) w i j:=by rw [e]; exact h
 exact this.drop_of
def FOk (bs:List Ex) (F:Nat→Option (List Int)):Prop:=∀ n s,F n=some s→small64 s∧s.length≤256∧∀ y,bs[n]?=some y→Der bs s y 0 s.length
theorem shortA_mem (F:Nat→Option (List Int)):∀ (l:List Ex) (best:Option (List Int)) (s:List Int),shortA F l best=some s→best=some s∨∃ y ∈ l,shortE F y=some s
 | [],best,s,h => by rw [shortA] at h; exact .inl h
 | x :: l,best,s,h => by
  rw [shortA] at h
  cases hx:shortE F x with
  | none =>
   rw [hx] at h
   exact (shortA_mem F l best s h).imp id fun ⟨y,hy,e⟩ => ⟨y,by simp [hy],e⟩
  | some t =>
   rw [hx] at h
   cases best with
   | none =>
    rcases shortA_mem F l _ s h with e | ⟨y,hy,e⟩
    · cases e; exact .inr ⟨x,by simp,hx⟩
    · exact .inr ⟨y,by simp [hy],e⟩
   | some b =>
    simp only at h
    rcases shortA_mem F l _ s h with e | ⟨y,hy,e⟩
    · split at e
      · cases e; exact .inr ⟨x,by simp,hx⟩
      · exact .inl e
    · exact .inr ⟨y,by simp [hy],e⟩
mutual
theorem short_ok {bs:List Ex} {F:Nat→Option (List Int)} {t:Int} (hF:FOk bs F) (ht:t≤64) (hb:∀ n s,F n=some s→n < bs.length):∀ (x:Ex),okE t bs.length x→∀ s,shortE F x=some s→small64 s∧s.length≤256∧Der bs s x 0 s.length
 | .mk k n z l,ho,s,h => by
  rw [shortE] at h
  split at h
  · rename_i k1
    cases h
    have hc:=ho.c
    rw [show rightN t bs.length (Ex.mk k n z l).kind=some (t,0,0) by simp [Ex.kind,rightN,k1]] at hc
    have hn:0≤n∧n < t:=by
     simp only [rightC,Ex.num,Bool.not_eq_true',Bool.or_eq_false_iff,decide_eq_false_iff_not] at hc
     have a1:=of_decide_eq_false hc.1.1.1
     have a2:=of_decide_eq_false hc.1.1.2
     omega
    exact ⟨fun a ha => by simp at ha; subst ha; omega,by simp,.tok k1 (by simp [Ex.num])⟩
  rename_i k1
  split at h
  · rename_i k2
    obtain ⟨h1,h2,h3⟩:=hF _ _ h
    have hlt:=hb _ _ h
    have hy:bs[n.toNat]?=some bs[n.toNat]:=by simp [hlt]
    exact ⟨h1,h2,.call k2 hy (h3 _ hy)⟩
  rename_i k2
  split at h
  · rename_i k3
    obtain ⟨q,e,h1,h2,h3⟩:=shortS_ok hF ht hb l (fun y hy => ho.sub hy) [] s (by simp) h
    simp only [List.nil_append] at e; subst e
    exact ⟨h1,h2,.seq ⟨k1,k2,by simp only [Ex.kind] at *; omega,by simp only [Ex.kind] at *; omega,by simp only [Ex.kind] at *; omega⟩ h3⟩
  rename_i k3
  split at h
  · rename_i k4
    rcases shortA_mem F l none s h with e | ⟨y,hy,e⟩
    · cases e
    · obtain ⟨h1,h2,h3⟩:=shortL_ok hF ht hb l (fun y hy => ho.sub hy) y hy s e
      exact ⟨h1,h2,.alt k4 hy h3⟩
  rename_i k4
  cases h
  refine ⟨fun a ha => (by cases ha),by simp,?_⟩
  by_cases k5:k=5
  · exact .star0 k5
  by_cases k6:k=6
  · exact .opt0 k6
  have hc:=ho.c
  have hl:l=[]:=by
   by_cases k0:k=0
   · rw [show rightN t bs.length (Ex.mk k n z l).kind=some (1,0,0) by simp [Ex.kind,rightN,k0]] at hc
     simp [rightC,Ex.l] at hc; exact hc.2
   · rw [show rightN t bs.length (Ex.mk k n z l).kind=none by simp [Ex.kind,rightN,k0,k1,k2,k3,k4,k5,k6]] at hc
     cases hc
  subst hl
  exact .seq ⟨k1,k2,k4,k5,k6⟩ .nil
theorem shortS_ok {bs:List Ex} {F:Nat→Option (List Int)} {t:Int} (hF:FOk bs F) (ht:t≤64) (hb:∀ n s,F n=some s→n < bs.length):∀ (l:List Ex),(∀ y ∈ l,okE t bs.length y)→∀ (out s:List Int),out.length≤256→shortS F l out=some s→∃ q,s=out ++ q∧small64 q∧s.length≤256∧DerL bs q l 0 q.length
 | [],_,out,s,ho,h => by
  rw [shortS] at h; cases h
  exact ⟨[],by simp,(fun a ha => by cases ha),ho,.nil⟩
 | x :: l,hl,out,s,ho,h => by
  rw [shortS] at h
  cases hx:shortE F x with
  | none => rw [hx] at h; cases h
  | some t' =>
   rw [hx] at h
   simp only at h
   split at h
   · cases h
   · obtain ⟨a1,a2,a3⟩:=short_ok hF ht hb x (hl x (by simp)) t' hx
     obtain ⟨q,e,b1,b2,b3⟩:=shortS_ok hF ht hb l (fun y hy => hl y (by simp [hy])) (out ++ t') s (by rw [List.length_append]; omega) h
     refine ⟨t' ++ q,by rw [e,List.append_assoc],fun a ha => ?_,b2,?_⟩
     · rcases List.mem_append.1 ha with ha | ha
       · exact a1 a ha
       · exact b1 a ha
     · refine .cons (k:=t'.length) (Dx.app_left a3) ?_
       have:=Dx.app_right (a:=t') b3
       rw [Nat.zero_add,Nat.add_comm,← List.length_append] at this
       exact this
theorem shortL_ok {bs:List Ex} {F:Nat→Option (List Int)} {t:Int} (hF:FOk bs F) (ht:t≤64) (hb:∀ n s,F n=some s→n < bs.length):∀ (l:List Ex),(∀ y ∈ l,okE t bs.length y)→∀ y ∈ l,∀ s,shortE F y=some s→small64 s∧s.length≤256∧Der bs s y 0 s.length
 | [],_,y,hy,_,_ => by cases hy
 | x :: l,hl,y,hy,s,h => by
  rcases List.mem_cons.1 hy with e | hy
  · rw [e] at h ⊢; exact short_ok hF ht hb x (hl x (by simp)) s h
  · exact shortL_ok hF ht hb l (fun z hz => hl z (by simp [hz])) y hy s h
end
def kF (K:List (Option (List Int))) (n:Nat):Option (List Int):=K.getD n none
def better (K:List (Option (List Int))) (i:Nat) (s:List Int):Bool:=match kF K i with
 | none => true
 | some o => lessP s o
def shPass:List Ex→Nat→List (Option (List Int))→Bool→List (Option (List Int)) × Bool
 | [],_,K,more => (K,more)
 | x :: l,i,K,more => match shortE (kF K) x with
  | none => shPass l (i+1) K more
  | some s => if better K i s=true then shPass l (i+1) (K.set i (some s)) true else shPass l (i+1) K more
def shF (l:List Ex):Nat→List (Option (List Int))→List (Option (List Int))
 | 0,K => K
 | n+1,K => if (shPass l 0 K false).2=true then shF l n (shPass l 0 K false).1 else (shPass l 0 K false).1
def rk1:Option (List Int)→Nat
 | none => 65 ^ 256+1
 | some l => rank l 0
def meas (K:List (Option (List Int))):Nat:=(K.map rk1).sum
theorem kF_set {K:List (Option (List Int))} {i j:Nat} {v:Option (List Int)} (hi:i < K.length):kF (K.set i v) j=if j=i then v else kF K j:=by
 unfold kF
 rw [List.getD_eq_getElem?_getD,List.getD_eq_getElem?_getD,List.getElem?_set]
 by_cases e:j=i
 · subst e; rw [if_pos rfl,if_pos rfl,if_pos hi]; rfl
 · rw [if_neg (fun h => e h.symm),if_neg e]
theorem kF_lt {K:List (Option (List Int))} {n:Nat} {s:List Int} (h:kF K n=some s):n < K.length:=by
 unfold kF at h
 rw [List.getD_eq_getElem?_getD] at h
 cases e:K[n]? with
 | none => rw [e] at h; cases h
 | some b => exact (List.getElem?_eq_some_iff.1 e).1
theorem meas_set:∀ {K:List (Option (List Int))} {i:Nat} {s:List Int},i < K.length→rank s 0 < rk1 (kF K i)→meas (K.set i (some s)) < meas K
 | a :: K,0,s,_,h => by
  unfold meas; simp only [List.set_cons_zero,List.map_cons,List.sum_cons]
  have:rk1 (some s) < rk1 a:=h
  omega
 | a :: K,i+1,s,hi,h => by
  have:=meas_set (K:=K) (i:=i) (s:=s) (by simpa using hi) (by simpa [kF] using h)
  unfold meas at this ⊢
  simp only [List.set_cons_succ,List.map_cons,List.sum_cons]; omega
 | [],_,_,hi,_ => by simp at hi
structure KOk (bs:List Ex) (K:List (Option (List Int))):Prop where
 len:K.length=bs.length
 ok:FOk bs (kF K)
theorem KOk.lt {bs:List Ex} {K:List (Option (List Int))} (h:KOk bs K):∀ n s,kF K n=some s→n < bs.length:=fun n s e => by rw [← h.len]; exact kF_lt e
theorem KOk.set {bs:List Ex} {K:List (Option (List Int))} {t:Int} (h:KOk bs K) (ht:t≤64) {i:Nat} {x:Ex} (hx:bs[i]?=some x) (ho:okE t bs.length x) {s:List Int} (hs:shortE (kF K) x=some s):KOk bs (K.set i (some s)):=by
 have hi:i < K.length:=by rw [h.len]; exact (List.getElem?_eq_some_iff.1 hx).1
 refine ⟨by rw [List.length_set]; exact h.len,fun n u hu => ?_⟩
 rw [kF_set hi] at hu
 split at hu
 · rename_i e; subst e; cases hu
   obtain ⟨h1,h2,h3⟩:=short_ok h.ok ht h.lt x ho s hs
   exact ⟨h1,h2,fun y hy => by rw [hx] at hy; cases hy; exact h3⟩
 · exact h.ok n u hu
theorem better_rank {bs:List Ex} {K:List (Option (List Int))} (h:KOk bs K) {i:Nat} {s:List Int} (hs:small64 s) (hl:s.length≤256) (hb:better K i s=true):rank s 0 < rk1 (kF K i):=by
 unfold better at hb
 cases e:kF K i with
 | none => exact rank_max hs hl
 | some o => rw [e] at hb; exact rank_less hs (h.ok i o e).1 hb
theorem shPass_ok {bs:List Ex} {t:Int} (hok:∀ y ∈ bs,okE t bs.length y) (ht:t≤64):∀ (l:List Ex) (i:Nat) (K:List (Option (List Int))) (more:Bool),(∀ k x,l[k]?=some x→bs[i+k]?=some x)→KOk bs K →
 KOk bs (shPass l i K more).1∧meas (shPass l i K more).1≤meas K∧(more=false→(shPass l i K more).2=true→meas (shPass l i K more).1 < meas K)
 | [],i,K,more,_,h => ⟨h,Nat.le_refl _,fun h1 h2 => by rw [shPass] at h2; rw [h1] at h2; cases h2⟩
 | x :: l,i,K,more,hl,h => by
  have hx:bs[i]?=some x:=hl 0 x rfl
  have hl':∀ k y,l[k]?=some y→bs[i+1+k]?=some y:=fun k y hk => by
   have:=hl (k+1) y (by simpa using hk)
   rwa [show i+(k+1)=i+1+k by omega] at this
  rw [shPass]
  cases hs:shortE (kF K) x with
  | none => exact shPass_ok hok ht l (i+1) K more hl' h
  | some s =>
   simp only
   split
   · rename_i hb
     have ho:=hok x (List.mem_of_getElem? hx)
     obtain ⟨h1,h2,h3⟩:=short_ok h.ok ht h.lt x ho s hs
     have hm:=meas_set (K:=K) (i:=i) (s:=s) (by rw [h.len]; exact (List.getElem?_eq_some_iff.1 hx).1) (better_rank h h1 h2 hb)
     obtain ⟨r1,r2,r3⟩:=shPass_ok hok ht l (i+1) _ true hl' (h.set ht hx ho hs)
     exact ⟨r1,by omega,fun _ _ => by omega⟩
   · exact shPass_ok hok ht l (i+1) K more hl' h
def K0 (n:Nat):List (Option (List Int)):=List.replicate n none
theorem K0_ok (bs:List Ex):KOk bs (K0 bs.length):=⟨by simp [K0],fun n s h => by
 unfold kF K0 at h
 rw [List.getD_eq_getElem?_getD,List.getElem?_replicate] at h
 split at h <;> cases h⟩
def shEnd (bs:List Ex):List (Option (List Int)):=shF bs (meas (K0 bs.length)+1) (K0 bs.length)
end Go.Am

/- Part T2 of a proof that runs a program's calls on a small machine whose values bear no addresses: no conditions. -/
import Derived.Test.YtfhoagkadjinlaaAmT1
import Derived.Test.YtfhoagkadjinlaaAmQ4
set_option autoImplicit false
set_option linter.unusedSimpArgs false
set_option linter.unusedVariables false
set_option linter.unusedSectionVars false
namespace Go.Am
open Go Go.Proofs
section
variable {X:X} {tm:Tm} {σ:St} {dst:Option Nat} {ty:Nat} {pos:String} {after:Array Edge} {g:Option (Nat × Bool)}
def entB (X:Am.X) (σ:St) (kt:Nat) (k zv:A) (r:Nat):Blk→OpR
 | .map es => if keyT X 8 kt k=false then .bad else match mapFind X σ kt k es 0 with
  | some (some (i,v)) => match es[i]? with
   | some e => if sameK σ e.1 k then .val (.tup [v,.d (.int .i64 (i:Int))]) (σ.set r (.map (es.set i (k,e.2)))) [r] [] else .bad
   | none => .bad
  | some none => .val (.tup [zv,.d (.int .i64 (es.length:Int))]) (σ.set r (.map (es ++ [(k,zv)]))) [r] []
  | none => .bad
 | _ => .bad
def entE (X:Am.X) (σ:St) (kt:Nat) (k:A) (r:Nat):Option TI→OpR
 | some { zero:=some _,zval:=zv,.. } => entB X σ kt k zv r (σ.get r)
 | _ => .bad
def entA (X:Am.X) (σ:St) (kt e:Nat) (k:A):A→OpR
 | .map r => entE X σ kt k r (X.ti e)
 | _ => .bad
def entT (X:Am.X) (σ:St) (m k:A):Option TI→OpR
 | some { kind:=.map kt e,.. } => entA X σ kt e k m
 | _ => .bad
theorem o_ent {t:Nat} {m k:Operand}:evalOp X tm σ ⟨dst,.mapEntry t m k,ty,pos,after,g⟩=entT X σ (ev tm m) (ev tm k) (X.ti t):=by
 unfold evalOp entT; dsimp only
 cases X.ti t with
 | none => rfl
 | some i =>
  obtain ⟨kd,s,b,z,zv⟩:=i
  cases kd with
  | map kt e =>
   dsimp only; unfold entA
   cases ev tm m with
   | map r =>
    dsimp only; unfold entE
    cases X.ti e with
    | none => rfl
    | some j =>
     obtain ⟨kd',s',b',z',zv'⟩:=j
     cases z' with
     | none => rfl
     | some z' => dsimp only; unfold entB; cases σ.get r <;> rfl
   | _ => rfl
  | _ => rfl
def estB (σ:St) (r i:Nat) (v:A):Blk→OpR
 | .map es => match es[i]? with
  | some e => .val .top (σ.set r (.map (es.set i (e.1,v)))) [r] []
  | none => .bad
 | _ => .bad
def estA (σ:St) (v:A):A→A→OpR
 | .map r,.d (.int .i64 (.ofNat i)) => estB σ r i v (σ.get r)
 | _,_ => .bad
theorem o_est {t:Nat} {m k x:Operand}:evalOp X tm σ ⟨dst,.entryStore t m k x,ty,pos,after,g⟩=estA σ (ev tm x) (ev tm m) (ev tm k):=by
 unfold evalOp; dsimp only
 split
 · rename_i r i h1 h2
   rw [h1,h2]; unfold estA estB; dsimp only; cases σ.get r <;> rfl
 · rename_i hno
   unfold estA
   split
   · rename_i r i h1 h2; exact (hno _ _ h1 h2).elim
   · rfl
theorem entT_map {m k:A} {kt e s b:Nat} {z:Option (List A)} {zv:A}:entT X σ m k (some ⟨.map kt e,s,b,z,zv⟩)=entA X σ kt e k m:=rfl
theorem entA_map {k:A} {kt e r:Nat}:entA X σ kt e k (.map r)=entE X σ kt k r (X.ti e):=rfl
theorem entE_some {k:A} {kt r s b:Nat} {kd:TK} {z:List A} {zv:A}:entE X σ kt k r (some ⟨kd,s,b,some z,zv⟩)=entB X σ kt k zv r (σ.get r):=rfl
theorem estA_map {v:A} {r i:Nat}:estA σ v (.map r) (.d (.int .i64 (i:Int)))=estB σ r i v (σ.get r):=rfl
theorem o_ins {t:Nat} {m k v:Operand}:evalOp X tm σ ⟨dst,.insert t m k v,ty,pos,after,g⟩=updT X σ (ev tm m) (ev tm k) (ev tm v) (X.ti t):=by
 rw [← o_upd (dst:=dst) (ty:=ty) (pos:=pos) (after:=after) (g:=g)]; rfl
end
attribute [go_sem] o_ent o_est entT_map entA_map entE_some estA_map o_ins
variable {fz:Nat→Md}
theorem find_MF {σ:St} {n:Nat}:∀ (M:List (Nat × List Int)) (off:Nat),(∃ j s,M[j]?=some (n,s)∧FM M n=some s∧mapFind (XX fz) σ 3 (.d (.int .i64 (n:Int))) (MS M) off=some (some (off+j,.d (slD s)))∧∀ s',FM (M.set j (n,s')) n=some s') ∨
 FM M n=none∧mapFind (XX fz) σ 3 (.d (.int .i64 (n:Int))) (MS M) off=some none
 | [],off => .inr ⟨rfl,rfl⟩
 | (k,s) :: M,off => by
  have hME:MS ((k,s) :: M)=(.d (.int .i64 (k:Int)),.d (slD s)) :: MS M:=rfl
  by_cases e:k=n
  · subst e
    left
    refine ⟨0,s,rfl,by simp [FM],?_,fun s' => by simp [FM]⟩
    rw [hME,mapFind,eq_int]
    simp
  · have e':((k:Int) == (n:Int))=false:=by simp; omega
    have e2:((n:Int) == (k:Int))=false:=by simp; omega
    have hF:∀ M':List (Nat × List Int),FM ((k,s) :: M') n=FM M' n:=fun M' => by
     have:(k == n)=false:=by simpa using e
     simp [FM,this]
    rw [hF,hME,mapFind,eq_int]
    rcases find_MF (σ:=σ) (n:=n) M (off+1) with ⟨j,s',h1,h2,h3,h4⟩ | ⟨h1,h2⟩
    · left
      refine ⟨j+1,s',by simpa using h1,h2,?_,fun s'' => by rw [List.set_cons_succ,hF]; exact h4 s''⟩
      simp only [e2,e',h3]
      simp; try omega
    · right
      refine ⟨h1,?_⟩
      simp only [e2,e',h2]
      try simp
theorem FM_set_ne {n n':Nat} {s s':List Int} (hne:n'≠n):∀ {M:List (Nat × List Int)} {j:Nat},M[j]?=some (n,s)→FM (M.set j (n,s')) n'=FM M n'
 | [],j,h => by simp at h
 | (k,q) :: M,0,h => by
  simp at h; obtain ⟨rfl,rfl⟩:=h
  have:(k == n')=false:=by simpa using Ne.symm hne
  simp [FM,this]
 | (k,q) :: M,j+1,h => by
  have ih:=FM_set_ne (s:=s) (s':=s') hne (M:=M) (j:=j) (by simpa using h)
  rw [List.set_cons_succ]
  cases hk:(k == n') with
  | true => simp [FM,hk]
  | false => simp only [FM,List.find?_cons,hk] at ih ⊢; exact ih
theorem FM_app {n n':Nat} {s:List Int} {M:List (Nat × List Int)} (h:FM M n=none):FM (M ++ [(n,s)]) n'=if n'=n then some s else FM M n':=by
 unfold FM at *
 rw [List.find?_append]
 by_cases e:n'=n
 · subst e
   rw [if_pos rfl]
   rw [Option.map_eq_none_iff] at h
   rw [h]; simp
 · rw [if_neg e]
   have:(n == n')=false:=by simpa using Ne.symm e
   cases M.find? (·.1 == n') <;> simp [this]
end Go.Am
namespace Go.Am
open Go Go.Proofs
variable {fz:Nat→Md}
theorem MS_get {M:List (Nat × List Int)} {j:Nat} {n:Nat} {s:List Int} (h:M[j]?=some (n,s)):(MS M)[j]?=some (.d (.int .i64 (n:Int)),.d (slD s)):=by simp [MS,h]
theorem MS_set {M:List (Nat × List Int)} {j:Nat} {n:Nat} {s:List Int}:(MS M).set j (.d (.int .i64 (n:Int)),.d (slD s))=MS (M.set j (n,s)):=by simp [MS,List.map_set]
theorem ent_MS {σ:St} {n r:Nat} (M:List (Nat × List Int)):∃ (M1:List (Nat × List Int)) (j:Nat) (v:A),entB (XX fz) σ 3 (.d (.int .i64 (n:Int))) (.d (.slc true [])) r (.map (MS M))=.val (.tup [v,.d (.int .i64 (j:Int))]) (σ.set r (.map (MS M1))) [r] [] ∧
 ∀ s',∃ M2,(∀ σ':St,estB σ' r j (.d (slD s')) (.map (MS M1))=.val .top (σ'.set r (.map (MS M2))) [r] [])∧∀ n',FM M2 n'=if n'=n then some s' else FM M n':=by
 unfold entB
 dsimp only
 rw [key_int,if_neg (by simp)]
 rcases find_MF (fz:=fz) (σ:=σ) (n:=n) M 0 with ⟨j,s,h1,h2,h3,h4⟩ | ⟨h1,h2⟩
 · rw [h3]; dsimp only
   rw [Nat.zero_add,MS_get h1]; dsimp only
   have hs:sameK σ (A.d (D.int IntKind.i64 ↑n)) (A.d (D.int IntKind.i64 ↑n))=true:=by simp [sameK,sameK1]
   rw [if_pos hs,MS_set]
   have hj:j < M.length:=(List.getElem?_eq_some_iff.1 h1).1
   refine ⟨_,_,_,rfl,fun s' => ⟨M.set j (n,s'),fun σ' => ?_,fun n' => ?_⟩⟩
   · unfold estB; dsimp only
     rw [MS_get (n:=n) (s:=s) (by simp [hj])]; dsimp only
     rw [MS_set,List.set_set]
   · by_cases e:n'=n
     · subst e; rw [if_pos rfl]; exact h4 s'
     · rw [if_neg e]; exact FM_set_ne e h1
 · rw [h2]; dsimp only
   have hA:MS M ++ [(.d (.int .i64 (n:Int)),.d (.slc true []))]=MS (M ++ [(n,[])]):=by simp [MS,slD,intsD]
   have hl:(MS M).length=M.length:=by simp [MS]
   rw [hA,hl]
   refine ⟨_,_,_,rfl,fun s' => ⟨M ++ [(n,s')],fun σ' => ?_,fun n' => FM_app h1⟩⟩
   unfold estB; dsimp only
   rw [MS_get (n:=n) (s:=[]) (by simp)]; dsimp only
   rw [MS_set]; simp
end Go.Am
namespace Go.Am
open Go Go.Proofs
variable {fz:Nat→Md}
theorem shF_fuel {bs:List Ex} {t:Int} (hok:∀ y ∈ bs,okE t bs.length y) (ht:t≤64):∀ (n m:Nat) (K:List (Option (List Int))),KOk bs K→meas K < n→meas K < m→shF bs n K=shF bs m K
 | 0,_,K,_,h,_ => by omega
 | _,0,K,_,_,h => by omega
 | n+1,m+1,K,hK,h1,h2 => by
  obtain ⟨p1,p2,p3⟩:=shPass_ok hok ht bs 0 K false (fun k x h => by rw [Nat.zero_add]; exact h) hK
  rw [shF,shF]
  split
  · rename_i h
    have:=p3 rfl h
    exact shF_fuel hok ht n m _ p1 (by omega) (by omega)
  · rfl
theorem KOk.len256 {bs:List Ex} {K:List (Option (List Int))} (h:KOk bs K):Len256 (kF K):=fun n s e => (h.ok n s e).2.1
theorem shortE_congr {F G:Nat→Option (List Int)} (h:∀ n,F n=G n) (x:Ex):shortE F x=shortE G x:=by rw [show F=G from funext h]
def shortV (g:Gr) (rule:Int):D × Int :=
 if (checkP g != 0)=true then (.slc true [],checkP g) else if (decide (rule < 0) || decide (rule ≥ (g.rules.length:Int)))=true then (.slc true [],9)
 else match kF (shEnd g.bodies) rule.toNat with
  | some s => (slD s,0)
  | none => (.slc true [],5)
end Go.Am
namespace Go.Am
open Go Go.Proofs
variable {fz:Nat→Md}
set_option maxHeartbeats 8000000 in
theorem short_call (hck:∀ (g:Gr) (σ:St),SmallG g→CallsTo (XX fz) (.func 24 []) [g.a] σ (.d (.int .i64 (checkP g))) σ []) (h19:fz 45=.ice) (h52:fz 77=.ice) (h48:fz 65=.ice) (h53:fz 78=.cut) (h47:fz 111=.cut) (h89:fz 122=.cut) (h106:fz 123=.cut)
 (hok:∀ g:Gr,checkP g=0→(∀ y ∈ g.bodies,okE g.tokens g.bodies.length y)∧g.tokens≤64∧g.rules.length≤32) (g:Gr) (hg:SmallG g) (rule:Int) (σ:St) :
 CallsTo (XX fz) (.func 45 []) [g.a,.d (.int .i64 rule)] σ (.tup [.d (shortV g rule).1,.d (.int .i64 (shortV g rule).2)]) σ []:=by
 refine CallsTo.ice0 h19 fn45 (by simp) ?_
 simp only [Try.f45,Option.getD_some]
 simp only [go_sem,Gr.a]
 refine ⟨_,_,_,hck g _ hg,?_⟩
 unfold shortV
 cases hc:(checkP g != 0) with
 | true =>
  have hc':(checkP g != 0)=true:=hc
  simp only [go_sem,hc]
  try rfl
 | false =>
 have hc':checkP g=0:=by simpa using hc
 obtain ⟨ho,ht,h32⟩:=hok g hc'
 simp only [go_sem,hc]
 cases hr:decide (rule < 0) with
 | true => simp only [go_sem,hr,Bool.true_or]; try rfl
 | false =>
 cases hr2:decide (rule ≥ (g.rules.length:Int)) with
 | true => simp only [go_sem,Gr.a,hr,hr2,Bool.or_true]; try rfl
 | false =>
 simp only [go_sem,Gr.a,hr,hr2,Bool.or_false]
 have hbl:g.bodies.length=g.rules.length:=by rw [Gr.bodies,List.length_map]
 generalize hR:shEnd g.bodies=R
 refine Ev.loop_ind (fun k tm τ W => ∃ (K:List (Option (List Int))) (M:List (Nat × List Int)) (more:Bool),k=(if more=true then meas K+1 else 0)∧W=[]∧σ.n+2≤τ.n∧τ.get σ.n=.cells g.c∧τ.get (σ.n+1)=.map (MS M)∧(∀ n,FM M n=kF K n)∧KOk g.bodies K ∧
  (more=true→∀ n,meas K < n→shF g.bodies n K=R)∧(more=false→K=R) ∧
  tm.at 1=.d (.int .i64 rule)∧tm.at 2=.ptr σ.n 0∧tm.at 7=.map (σ.n+1)∧tm.at 8=.d (.bool more)) ?_ _ _ _ _ ⟨K0 g.bodies.length,[],true,rfl,rfl,by simp only [St.n_push]; omega,?_,St.get_push_eq' (by simp [St.n_push]),?_,K0_ok _,?_,by simp,?_,?_,?_,?_⟩
 · rintro k tm τ W ⟨K,M,more,rfl,rfl,hn,g0,gm,hFM,hK,hm1,hm0,t1,t2,t7,t8⟩ ih
   cases more with
   | false =>
    obtain rfl:=hm0 rfl
    have r0:0≤rule:=by simpa using hr
    obtain ⟨rn,rfl⟩:=Int.eq_ofNat_of_zero_le r0
    simp only [go_sem,t1,t2,t7,t8,gm,key_int]
    have hk:kF K (Int.ofNat rn).toNat=FM M rn:=(hFM rn).symm
    simp only [Int.ofNat_eq_natCast] at hk
    rw [hk]
    rcases find_MS (fz:=fz) (σ:=τ) (n:=rn) M 0 with ⟨j,s,q0,q1,q3⟩ | ⟨q1,q3⟩
    · simp only [go_sem,q3,q1]
      try rfl
    · simp only [go_sem,q3,q1]
      try rfl
   | true =>
    simp only [go_sem,t1,t2,t7,t8,g0]
    have hp:=shPass_ok ho ht g.bodies 0 K false (fun k x h => by rw [Nat.zero_add]; exact h) hK
    have hsh:∀ n,shF g.bodies (n+1) K=if (shPass g.bodies 0 K false).2=true then shF g.bodies n (shPass g.bodies 0 K false).1 else (shPass g.bodies 0 K false).1:=fun n => by rw [shF]
    generalize hP:shPass g.bodies 0 K false=P at hp hsh
    refine Ev.loop_ind (fun k2 tm τ W => ∃ (i:Nat) (K2:List (Option (List Int))) (M:List (Nat × List Int)) (more:Bool),k2=g.rules.length - i∧i≤g.rules.length∧W=[]∧σ.n+2≤τ.n∧τ.get σ.n=.cells g.c∧τ.get (σ.n+1)=.map (MS M)∧(∀ n,FM M n=kF K2 n)∧KOk g.bodies K2 ∧
     shPass (g.bodies.drop i) i K2 more=P ∧
     tm.at 1=.d (.int .i64 rule)∧tm.at 2=.ptr σ.n 0∧tm.at 7=.map (σ.n+1)∧tm.at 8=.d (.bool more)∧tm.at 34=g.rd∧tm.at 35=.d (.int .i64 (g.rules.length:Int))∧tm.at 36=.d (.int .i64 i)) ?_ g.rules.length _ _ _ ⟨0,K,M,false,rfl,by omega,rfl,hn,g0,gm,hFM,hK,hP,by simp only [go_sem,t1],by simp only [go_sem,t2],by simp only [go_sem,t7],by simp only [go_sem],by simp only [go_sem],by simp only [go_sem],by simp only [go_sem]; rfl⟩
    rintro k2 tm2 τ2 W2 ⟨i,K2,M2,more,rfl,hi,rfl,hn2,q0,qm,hFM2,hK2,he,u1,u2,u7,u8,u34,u35,u36⟩ ih2
    by_cases hl:i < g.rules.length
    · have hget:g.rules[i]?=some g.rules[i]:=by simp [hl]
      have hmem:g.rules[i] ∈ g.rules:=List.getElem_mem hl
      have hbx:g.bodies[i]?=some g.rules[i].body:=by rw [Gr.bodies,List.getElem?_map,hget]; rfl
      have hd1:g.bodies.drop i=g.rules[i].body :: g.bodies.drop (i+1):=by
       rw [List.drop_eq_getElem_cons (by rw [hbl]; exact hl)]; simp [Gr.bodies]
      have hox:okE g.tokens g.bodies.length g.rules[i].body:=ho _ (List.mem_of_getElem? hbx)
      rw [hd1,shPass] at he
      simp only [go_sem,u1,u2,u7,u8,u34,u35,u36,dec_lt' hl,Gr.index_rd hget]
      generalize hτ:(τ2.push (Blk.cells [A.d (D.str { data:={ toList:=[] } }),A.d (D.int IntKind.i64 0),A.d (D.int IntKind.i64 0),A.d (D.slc true [])])).set τ2.n (Blk.cells g.rules[i].c)=τ3
      have n3:τ3.n=τ2.n+1:=by rw [← hτ]; simp [St.n_set,St.n_push]
      have o3:∀ j,j < τ2.n→τ3.get j=τ2.get j:=fun j hj => by rw [← hτ,St.get_set_ne (by omega),St.get_push_ne hj]
      have lz:low σ.n [τ2.n]=[]:=by rw [low_cons_ge (by omega)]; rfl
      have lz1:low σ.n [σ.n+1]=[]:=by rw [low_cons_ge (by omega)]; rfl
      have g3:τ3.get σ.n=.cells g.c:=by rw [o3 _ (by omega)]; exact q0
      have m3:τ3.get (σ.n+1)=.map (MS M2):=by rw [o3 _ (by omega)]; exact qm
      have hF2:Len256 (FM M2):=fun n s e => hK2.len256 n s (by rw [← hFM2]; exact e)
      refine ⟨_,_,_,short_c h52 h53 h47 h89 h106 M2 hF2 (σ.n+1) g.rules[i].body _ (hg _ hmem) hox m3 (by omega),?_⟩
      rw [shortE_congr hFM2]
      have stay:∀ (tm':Tm),tm'.at 1=.d (.int .i64 rule)→tm'.at 2=.ptr σ.n 0→tm'.at 7=.map (σ.n+1)→tm'.at 8=.d (.bool more)→tm'.at 34=g.rd→tm'.at 35=.d (.int .i64 (g.rules.length:Int))→tm'.at 36=.d (.int .i64 ((i+1:Nat):Int))→shPass (g.bodies.drop (i+1)) (i+1) K2 more=P→_ :=
       fun tm' a1 a2 a3 a4 a5 a6 a7 a8 => ih2 (g.rules.length - (i+1)) tm' τ3 [] (by omega) ⟨i+1,K2,M2,more,rfl,hl,rfl,by omega,g3,m3,hFM2,hK2,a8,a1,a2,a3,a4,a5,a6,a7⟩
      cases hs:shortE (kF K2) g.rules[i].body with
      | none =>
       rw [hs] at he
       dsimp only at he
       simp only [go_sem,shR,lz,u7,m3,key_int]
       rcases find_MS (fz:=fz) (σ:=τ3) (n:=i) M2 0 with ⟨j,o,p0,p1,p3⟩ | ⟨p1,p3⟩
       · simp only [go_sem,p3,u36,wrap_succ' hl (by omega)]
         exact stay _ (by simp only [go_sem,u1]) (by simp only [go_sem,u2]) (by simp only [go_sem,u7]) (by simp only [go_sem,u8]) (by simp only [go_sem,u34]) (by simp only [go_sem,u35]) (by simp only [go_sem]) he
       · simp only [go_sem,p3,u36,wrap_succ' hl (by omega)]
         exact stay _ (by simp only [go_sem,u1]) (by simp only [go_sem,u2]) (by simp only [go_sem,u7]) (by simp only [go_sem,u8]) (by simp only [go_sem,u34]) (by simp only [go_sem,u35]) (by simp only [go_sem]) he
      | some s =>
       rw [hs] at he
       dsimp only at he
       have hsl:s.length≤256:=shortE_len hK2.len256 _ _ hs
       obtain ⟨M3,j1,v1,hE1,hE2⟩:=ent_MS (fz:=fz) (σ:=τ3) (n:=i) (r:=σ.n+1) M2
       obtain ⟨M4,hE3,hFM4⟩:=hE2 s
       have hik:i < K2.length:=by rw [hK2.len,hbl]; exact hl
       have go:better K2 i s=true→∀ (tm':Tm),tm'.at 1=.d (.int .i64 rule)→tm'.at 2=.ptr σ.n 0→tm'.at 7=.map (σ.n+1)→tm'.at 8=.d (.bool true)→tm'.at 34=g.rd→tm'.at 35=.d (.int .i64 (g.rules.length:Int))→tm'.at 36=.d (.int .i64 ((i+1:Nat):Int))→_ :=
        fun hb tm' a1 a2 a3 a4 a5 a6 a7 => ih2 (g.rules.length - (i+1)) tm' ((τ3.set (σ.n+1) (.map (MS M3))).set (σ.n+1) (.map (MS M4))) [] (by omega) ⟨i+1,K2.set i (some s),M4,true,rfl,hl,rfl,by simp only [St.n_set]; omega,by rw [St.get_set_ne (by omega),St.get_set_ne (by omega)]; exact g3,St.get_set_eq,fun n => by rw [hFM4,kF_set hik,hFM2],hK2.set ht hbx hox hs,by rw [hb,if_pos rfl] at he; exact he,a1,a2,a3,a4,a5,a6,a7⟩
       simp only [go_sem,shR,lz,u7,m3,key_int]
       rcases find_MS (fz:=fz) (σ:=τ3) (n:=i) M2 0 with ⟨j,o,p0,p1,p3⟩ | ⟨p1,p3⟩
       · have ho2:kF K2 i=some o:=by rw [← hFM2]; exact p1
         have hol:=hK2.len256 _ _ ho2
         have hbt:better K2 i s=lessP s o:=by unfold better; rw [ho2]
         simp only [go_sem,p3]
         refine ⟨_,_,_,less_c h53 h47 h89 h106 s o s.isEmpty o.isEmpty (by omega) (by omega) _,?_⟩
         cases hp2:lessP s o with
         | true =>
          simp only [go_sem,u7]
          refine ⟨_,_,_,clone_c h48 s (by omega) _,?_⟩
          simp only [go_sem,m3,hE1,hE3,lz1,u36,St.get_set_eq,wrap_succ' hl (by omega)]
          exact go (hbt.trans hp2) _ (by simp only [go_sem,u1]) (by simp only [go_sem,u2]) (by simp only [go_sem,u7]) (by simp only [go_sem]) (by simp only [go_sem,u34]) (by simp only [go_sem,u35]) (by simp only [go_sem])
         | false =>
          rw [hbt,hp2,if_neg (by simp)] at he
          simp only [go_sem,u36,wrap_succ' hl (by omega)]
          exact stay _ (by simp only [go_sem,u1]) (by simp only [go_sem,u2]) (by simp only [go_sem,u7]) (by simp only [go_sem,u8]) (by simp only [go_sem,u34]) (by simp only [go_sem,u35]) (by simp only [go_sem]) he
       · have ho2:kF K2 i=none:=by rw [← hFM2]; exact p1
         have hbt:better K2 i s=true:=by unfold better; rw [ho2]
         simp only [go_sem,p3,u7]
         refine ⟨_,_,_,clone_c h48 s (by omega) _,?_⟩
         simp only [go_sem,m3,hE1,hE3,lz1,u36,St.get_set_eq,wrap_succ' hl (by omega)]
         exact go hbt _ (by simp only [go_sem,u1]) (by simp only [go_sem,u2]) (by simp only [go_sem,u7]) (by simp only [go_sem]) (by simp only [go_sem,u34]) (by simp only [go_sem,u35]) (by simp only [go_sem])
    · rw [List.drop_eq_nil_of_le (by omega),shPass] at he
      simp only [go_sem,u1,u2,u7,u8,u34,u35,u36,dec_ge' hl]
      subst he
      refine ih _ _ _ _ ?_ ⟨K2,M2,more,rfl,rfl,hn2,q0,qm,hFM2,hK2,fun hm n hlt => ?_,fun hm => ?_,by simp only [go_sem,u1],by simp only [go_sem,u2],by simp only [go_sem,u7],by simp only [go_sem,u8]⟩
      · cases more with
        | true => have:=hp.2.2 rfl rfl; simp only [if_true]; simp only at this; omega
        | false => simp
      · subst hm
        have h1:=hp.2.2 rfl rfl
        have h2:=hm1 rfl (meas K+1) (by omega)
        rw [hsh,if_pos rfl] at h2
        simp only at h1 h2
        rw [← h2]
        exact shF_fuel ho ht _ _ _ hK2 hlt h1
      · subst hm
        have h2:=hm1 rfl (meas K+1) (by omega)
        rw [hsh,if_neg (by simp)] at h2
        exact h2
 · rw [St.get_push_ne (by simp [St.n_push]),St.get_push_eq]
 · intro n; rw [show FM [] n=none from rfl]; unfold kF K0
   rw [List.getD_eq_getElem?_getD,List.getElem?_replicate]; split <;> rfl
 · intro _ n hlt
   rw [← hR]; unfold shEnd
   exact shF_fuel ho ht _ _ _ (K0_ok _) hlt (by omega)
 all_goals first | rfl | (simp only [go_sem]; done) | (simp only [go_sem]; rfl)
end Go.Am

/- Part V0 of a proof that runs a program's calls on a small machine whose values bear no addresses: no conditions. -/
import Derived.Test.YtfhoagkadjinlaaAmQ3
set_option autoImplicit false
set_option linter.unusedSimpArgs false
set_option linter.unusedVariables false
set_option linter.unusedSectionVars false
namespace Go.Am
open Go Go.Proofs
section
variable {X:X} {tm:Tm} {σ:St} {dst:Option Nat} {ty:Nat} {pos:String} {after:Array Edge} {g:Option (Nat × Bool)}
def bndA (o:Option A) (d:Nat):Option Nat:=match o with
 | none => some d
 | some (.d (.int _ n)) => if 0≤n then some n.toNat else none
 | _ => none
theorem bnd_eq {o:Option Operand} {d:Nat}:bnd tm o d=bndA (o.map (ev tm)) d:=by
 cases o with
 | none => rfl
 | some p =>
  unfold bnd bndA
  simp only [Option.map_some]
  cases h:ev tm p with
  | d x => cases x <;> rfl
  | _ => rfl
def sliceD (σ:St) (z:Bool) (xs:List (List D)) (lo hi:Option A):Option TI→OpR
 | some ie => match bndA hi xs.length with
  | some h => match bndA lo 0 with
   | some l => if l≤h∧h≤xs.length∧((xs.take h).drop l).all (fun c => c.length == ie.size)=true then .val (.d (.slc z ((xs.take h).drop l))) σ [] [] else .bad
   | none => .bad
  | none => .bad
 | none => .bad
theorem o_sliceD {t:Nat} {x:Operand} {lo hi:Option Operand} {z:Bool} {xs:List (List D)} {e s b:Nat} {zz:Option (List A)} {zv:A} (ht:X.ti t=some ⟨.slc e,s,b,zz,zv⟩) (hx:ev tm x=.d (.slc z xs)) :
 evalOp X tm σ ⟨dst,.slice t x lo hi none,ty,pos,after,g⟩=sliceD σ z xs (lo.map (ev tm)) (hi.map (ev tm)) (X.ti e):=by
 unfold evalOp sliceD
 simp only [ht,hx,bnd_eq]
 cases X.ti e <;> cases bndA (hi.map (ev tm)) xs.length <;> rfl
def sliceT (X:Am.X) (tm:Tm) (σ:St) (t:Nat) (lo hi:Option A):A→Option TI→OpR
 | .d (.slc z xs),some ⟨.slc e,_,_,_,_⟩ => sliceD σ z xs lo hi (X.ti e)
 | x,_ => evalOp X (FT.set (FT.set (FT.set FT.nil 0 x) 1 (lo.getD .top)) 2 (hi.getD .top)) σ ⟨none,.slice t (.tmp 0) (lo.map fun _ => .tmp 1) (hi.map fun _ => .tmp 2) none,0,"",#[],none⟩
theorem o_slice {t:Nat} {x:Operand} {lo hi:Option Operand}:evalOp X tm σ ⟨dst,.slice t x lo hi none,ty,pos,after,g⟩=sliceT X tm σ t (lo.map (ev tm)) (hi.map (ev tm)) (ev tm x) (X.ti t):=by
 have gen:evalOp X tm σ ⟨dst,.slice t x lo hi none,ty,pos,after,g⟩=evalOp X (FT.set (FT.set (FT.set FT.nil 0 (ev tm x)) 1 ((lo.map (ev tm)).getD .top)) 2 ((hi.map (ev tm)).getD .top)) σ ⟨none,.slice t (.tmp 0) ((lo.map (ev tm)).map fun _ => .tmp 1) ((hi.map (ev tm)).map fun _ => .tmp 2) none,0,"",#[],none⟩:=by
  unfold evalOp
  simp only [bnd_eq]
  have a0:ev (FT.set (FT.set (FT.set FT.nil 0 (ev tm x)) 1 ((lo.map (ev tm)).getD .top)) 2 ((hi.map (ev tm)).getD .top)) (.tmp 0)=ev tm x:=by simp [ev,Tm.at_set]
  have a1:((lo.map (ev tm)).map fun _ => Operand.tmp 1).map (ev (FT.set (FT.set (FT.set FT.nil 0 (ev tm x)) 1 ((lo.map (ev tm)).getD .top)) 2 ((hi.map (ev tm)).getD .top)))=lo.map (ev tm):=by
   cases lo <;> simp [ev,Tm.at_set]
  have a2:((hi.map (ev tm)).map fun _ => Operand.tmp 2).map (ev (FT.set (FT.set (FT.set FT.nil 0 (ev tm x)) 1 ((lo.map (ev tm)).getD .top)) 2 ((hi.map (ev tm)).getD .top)))=hi.map (ev tm):=by
   cases hi <;> simp [ev,Tm.at_set]
  rw [a0,a1,a2]
 unfold sliceT
 split
 · rename_i z xs e s b zz zv h1 h2
   rw [o_sliceD h2 h1]
 · exact gen
theorem sliceT_d {t:Nat} {lo hi:Option A} {z:Bool} {xs:List (List D)} {e s b:Nat} {zz:Option (List A)} {zv:A}:sliceT X tm σ t lo hi (.d (.slc z xs)) (some ⟨.slc e,s,b,zz,zv⟩)=sliceD σ z xs lo hi (X.ti e):=rfl
theorem sliceD_hi {z:Bool} {l:List Int} {n:Nat} {kd:IntKind} {ek:TK} {eb:Nat} {ez:Option (List A)} {ezv:A}:sliceD σ z (intsD l) none (some (.d (.int kd (n:Int)))) (some ⟨ek,1,eb,ez,ezv⟩)=if n≤l.length then .val (.d (.slc z (intsD (l.take n)))) σ [] [] else .bad:=by
 unfold sliceD bndA
 simp only [Int.natCast_nonneg,if_true,Int.toNat_natCast,intsD_len,Nat.zero_le,true_and,List.drop_zero]
 have h1:((intsD l).take n).all (fun c => c.length == 1)=true:=by
  rw [List.all_eq_true]; intro c hc; rw [intsD_one l c (List.mem_of_mem_take hc)]; rfl
 have h2:(intsD l).take n=intsD (l.take n):=by simp [intsD,List.map_take]
 by_cases h:n≤l.length
 · rw [if_pos ⟨h,h1⟩,if_pos h,h2]
 · rw [if_neg (fun e => h e.1),if_neg h]
theorem sliceD_lo {z:Bool} {l:List Int} {n:Nat} {kd:IntKind} {ek:TK} {eb:Nat} {ez:Option (List A)} {ezv:A}:sliceD σ z (intsD l) (some (.d (.int kd (n:Int)))) none (some ⟨ek,1,eb,ez,ezv⟩)=if n≤l.length then .val (.d (.slc z (intsD (l.drop n)))) σ [] [] else .bad:=by
 unfold sliceD bndA
 simp only [Int.natCast_nonneg,if_true,Int.toNat_natCast,intsD_len,Nat.le_refl,true_and]
 have h1:(((intsD l).take l.length).drop n).all (fun c => c.length == 1)=true:=by
  rw [List.all_eq_true]; intro c hc; rw [intsD_one l c (List.mem_of_mem_take (List.mem_of_mem_drop hc))]; rfl
 have h2:((intsD l).take l.length).drop n=intsD (l.drop n):=by rw [List.take_of_length_le (by rw [intsD_len]; exact Nat.le_refl _)]; simp [intsD,List.map_drop]
 by_cases h:n≤l.length
 · rw [if_pos ⟨h,h1⟩,if_pos h,h2]
 · rw [if_neg (fun e => h e.1),if_neg h]
theorem len_ints {z:Bool} {l:List Int}:sliceLen σ (.d (.slc z (intsD l)))=some l.length:=by simp [sliceLen,intsD_len]
theorem minA {a b:Nat}:minmax false [.d (.int .i64 (a:Int)),.d (.int .i64 (b:Int))]=some (.d (.int .i64 ((min a b:Nat):Int))):=by
 simp [minmax,mmStep]
 split
 · rw [Nat.min_eq_right (by omega)]
 · rw [Nat.min_eq_left (by omega)]
theorem o_minA {x y:Operand} {ts:Array Nat}:evalOp X tm σ ⟨dst,.call ⟨.builtin .min,#[x,y],ts⟩,ty,pos,after,g⟩=OpR.of σ [] (minmax false [ev tm x,ev tm y]):=rfl
end
attribute [go_sem] o_minA intsD_len o_slice sliceT_d sliceD_hi sliceD_lo len_ints Option.map_none Option.map_some
end Go.Am

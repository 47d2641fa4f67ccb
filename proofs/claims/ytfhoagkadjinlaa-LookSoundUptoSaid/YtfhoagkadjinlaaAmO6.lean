/- Part O6 of a proof that runs a program's calls on a small machine whose values bear no addresses: no conditions. -/
import Derived.Test.YtfhoagkadjinlaaAmF1
import Derived.Test.YtfhoagkadjinlaaAmEE
import Derived.Test.YtfhoagkadjinlaaAmU1
import Derived.Test.YtfhoagkadjinlaaAmR1
import Derived.Test.YtfhoagkadjinlaaAmT2
set_option autoImplicit false
set_option linter.unusedSimpArgs false
set_option linter.unusedVariables false
set_option linter.unusedSectionVars false
namespace Go.Am
open Go Go.Proofs
def bringP (i n:Int):Int:=if n≤0 then 0 else if i.tmod n < 0 then IntKind.i64.wrap (i.tmod n+n) else i.tmod n
theorem bring_call {fz:Nat→Md} (h26:fz 20=.cut) (i n:Int) (σ:St):CallsTo (XX fz) (.func 20 []) [.d (.int .i64 i),.d (.int .i64 n)] σ (.d (.int .i64 (bringP i n))) σ []:=by
 refine CallsTo.cut0 h26 fn20 (by simp) rfl ?_
 simp only [Try.f20,Option.getD_some]
 unfold bringP
 simp only [go_sem]
 by_cases h:n≤0
 · have h1:decide (n≤0)=true:=by simpa using h
   simp only [go_sem,h1,h]
 · have h1:decide (n≤0)=false:=by simpa using h
   simp only [go_sem,h1,h,bin_rem (show n≠0 by omega)]
   by_cases h2:i.tmod n < 0
   · have h3:decide (i.tmod n < 0)=true:=by simpa using h2
     simp only [go_sem,h3,h2]
   · have h3:decide (i.tmod n < 0)=false:=by simpa using h2
     simp only [go_sem,h3,h2]
theorem bring_lt {i n:Int} (h:0 < n) (hn:n < 1000000000):0≤bringP i n∧bringP i n < n:=by
 unfold bringP
 rw [if_neg (by omega)]
 have h1:=Int.tmod_lt_of_pos i h
 have h2:-n < i.tmod n:=by
  have:=Int.lt_tmod_of_pos i h; omega
 split
 · rw [wrap_small (by omega) (by omega)]; omega
 · omega
end Go.Am
namespace Go.Am
open Go Go.Proofs
def mdE:Nat→Md:=fun f => match f with
 | 24 => .ora F35
 | 64 => .ora F28
 | 19 | 45 | 77 | 65 | 66 | 34 | 23 | 25 | 26 | 61 | 90 => .ice
 | 44 | 76 | 43 | 75 | 11 | 36 | 40 | 14 | 16 | 106 | 107 | 108 | 119 | 120 | 30 | 31 | 32 | 91 | 114 => .keep
 | _ => .cut
theorem oraME:∀ f F,oraOf (mdE f)=some F→OraS Try.prog f F:=by
 intro f F h
 unfold mdE at h
 split at h <;> cases h
 · exact ora35
 · exact ora28
theorem check_E (g:Gr) (σ:St) (h:SmallG g):CallsTo (XX mdE) (.func 24 []) [g.a] σ (.d (.int .i64 (checkP g))) σ []:=CallsTo.ora (F:=F35) rfl fn24 rfl (F35_at h) rfl
theorem miniG_as:miniG.a=miniG.aS:=by
 have h:decG miniG.aS=some miniG:=by kernel_rfl
 exact (decG_sound h).1
theorem miniG_E (σ:St):CallsTo (XX mdE) (.func 64 []) [] σ miniG.a σ []:=CallsTo.ora (F:=F28) rfl fn64 rfl (show F28 []=some miniG.a by rw [F28,miniG_as]) rfl
theorem new_E (g:Gr) (σ:St) (h:SmallG g):CallsTo (XX mdE) (.func 19 []) [g.a] σ (.tup [.d (newV g).1,.d (.int .i64 (newV g).2)]) σ [] :=
 new_call check_E (fun g σ rule h => short_call check_E rfl rfl rfl rfl rfl rfl rfl (fun g h => ⟨(GOk.of h).ok,(GOk.of h).tok,(GOk.of h).le⟩) g h rule σ) rfl rfl rfl rfl rfl (fun g h => by
  have k:=GOk.of h
  refine ⟨k.ok,k.pos,k.le,fun y hy => ?_⟩
  have:=szL_mem hy
  have:=k.sz
  rw [szS_eq]; omega) g h σ
theorem works_E (σ:St):CallsTo (XX mdE) (.func 8 []) [] σ (.d (.bool true)) σ []:=works_c miniG_E (fun g σ h => new_E g σ h) rfl rfl rfl rfl rfl rfl rfl rfl rfl rfl rfl rfl rfl rfl rfl rfl rfl rfl rfl rfl rfl rfl rfl σ
theorem deep_E (g:Gr) (σ:St) (hg:SmallG g) (hL:g.rules.length < 1000000000):CallsTo (XX mdE) (.func 7 []) [g.a] σ (.d (.bool (deepG g))) σ []:=deepG_call rfl rfl g σ hg hL
end Go.Am

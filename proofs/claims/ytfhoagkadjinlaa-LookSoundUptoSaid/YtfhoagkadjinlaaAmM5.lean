/- Part M5 of a proof that runs a program's calls on a small machine whose values bear no addresses: no conditions. -/
import Derived.Test.YtfhoagkadjinlaaAmM4
set_option autoImplicit false
set_option linter.unusedSimpArgs false
set_option linter.unusedVariables false
set_option linter.unusedSectionVars false
namespace Go.Am
open Go Go.Proofs
variable {fz:Nat→Md}
structure SndN (N:Nv) (X:Nx) (g:Gr):Prop where
 en:X.en.length=g.rules.length
 lv:X.lv.length=g.rules.length
 enr:∀ i,i < X.en.length→0≤X.en.getD i 0∧X.en.getD i 0 < N.es.length
 lvr:∀ i,i < X.lv.length→0≤X.lv.getD i 0∧X.lv.getD i 0 < N.es.length
 ed:∀ r ∈ N.es,∀ e ∈ r,0≤e.kind∧e.kind≤2∧0≤e.num∧e.to < N.es.length∧(e.kind=2→e.num < g.rules.length)∧(e.kind=1→e.num < g.tokens)
end Go.Am

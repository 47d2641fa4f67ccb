/- Part HF of a proof that runs a program's calls on a small machine whose values bear no addresses: no conditions. -/
import Derived.Test.YtbppacknigeiaaaDoorAmHE
import Derived.Test.YtbppacknigeiaaaDoorAmV0
import Derived.Test.YtbppacknigeiaaaDoorAmU1
set_option autoImplicit false
set_option linter.unusedSimpArgs false
set_option linter.unusedVariables false
set_option linter.unusedSectionVars false
namespace Go.Am
open Go Go.Proofs
end Go.Am
namespace Go.Am
open Go Go.Proofs
end Go.Am

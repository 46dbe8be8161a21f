/- The document's nodes. -/
import Derived.Test.YtodeenahpoobkaaL4
set_option autoImplicit false
set_option linter.unusedVariables false
set_option linter.unusedSimpArgs false
namespace Go.Det.E
open Go.Proofs Go.Det
attribute [local congr] bind_c cond_c
variable {md : Md} {n0 b0 : Nat} {S T : Int} {n l : Nat}
end Go.Det.E

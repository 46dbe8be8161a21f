/- Cells that are seen as they were, or as they are: what its functions answer. -/
import Derived.Test.YtkbpnndheliokaaM2
import Derived.Test.YtkbpnndheliokaaWN
set_option autoImplicit false
set_option linter.unusedVariables false
set_option linter.unusedSimpArgs false
namespace Go.Det.E
open Go.Proofs Go.Det
attribute [local congr] bind_c cond_c
variable {md : Md} {h : Heap} {a b : Nat} {l c : List Int} {V S T : Int}
/-- What a word means by its thread's state. -/
def mT (o n t g s : Int) : Int := bif decide (s < 33554432) then W.meansW o n t g (s / 2) (s % 2 == 1) else 0
def mW (v s : Int) : Int := bif W.rightB v then (bif v / 4294967296 % 256 == 0 then v % 65536 else mT (v / 65536 % 65536) (v % 65536) (v / 4294967296 % 256) (v / 1099511627776) s) else 0
end Go.Det.E

/- The row of a trace, replayed on the arena that it is over. -/
import Derived.Test.YtalelfcdhmfgoaaT3
import Derived.Test.YtalelfcdhmfgoaaT2
set_option autoImplicit false
set_option linter.unusedVariables false
set_option linter.unusedSimpArgs false
namespace Go.Det.E
open Go.Proofs Go.Det
attribute [local congr] bind_c cond_c
variable {h hh h' : Heap} {a b k n0 x xb : Nat} {l c cells : List Int} {v rv s0 s4 : Value} {row ops : List Acc}
theorem Tr.app (T : Tr hh n0 k a b l rv row) (bs : Heap) : Tr (hh ++ bs) n0 k a b l rv row := T.keep fun y hy => List.getElem?_append_left (T.lt y hy)
end Go.Det.E

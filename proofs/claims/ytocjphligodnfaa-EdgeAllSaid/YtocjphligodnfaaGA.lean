/- The laws of the edges: is the machine awake. -/
import Derived.Test.YtocjphligodnfaaG1
set_option autoImplicit false
namespace Go.Det.E
open Go.Proofs Go.Det
theorem awake11 (md : Md) (h : Heap) : C md 41 [] h = some ((Value.bool true), h) := free_ok 100 100 (by kernel_rfl) (by kernel_rfl) md h
end Go.Det.E

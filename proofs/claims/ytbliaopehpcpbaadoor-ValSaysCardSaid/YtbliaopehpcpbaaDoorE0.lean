/- What stands for the functions that are taken by their contracts. -/
import Derived.Test.YtbliaopehpcpbaaDoorDetR
import Derived.Shelf.Strconv.Itoa3
set_option autoImplicit false
namespace Go.Det.E
open Go.Proofs Go.Det
def extItoa : Value → Option Value
  | .int .i64 n => if -9223372036854775808 ≤ n ∧ n ≤ 9223372036854775807 then some (.string ⟨(Lib.itoa n).toArray⟩) else none
  | _ => none
def extX : FuncId → List Value → Heap → Option Value := fun f args _ =>
  match args with
  | [v] => bif Nat.beq f 29 then extItoa v else none
  | _ => none
end Go.Det.E

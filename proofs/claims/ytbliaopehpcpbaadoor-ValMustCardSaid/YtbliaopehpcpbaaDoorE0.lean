/- What stands for the functions that are taken by their contracts. -/
import Derived.Test.YtbliaopehpcpbaaDoorDetR
import Derived.Shelf.Strconv.Itoa3
set_option autoImplicit false
namespace Go.Det.E
open Go.Proofs Go.Det
def extItoa : Value → Option Value
  | .int .i64 n => if -9223372036854775808 ≤ n ∧ n ≤ 9223372036854775807 then some (.string ⟨(Lib.itoa n).toArray⟩) else none
  | _ => none
def extNum : Value → Option Value
  | .nilIface => some (.tuple #[.int .i64 0, .bool false])
  | .iface t (.int .i64 n) => if t = 3 then some (.tuple #[.int .i64 n, .bool true]) else some (.tuple #[.int .i64 0, .bool false])
  | .iface t _ => if t = 3 then none else some (.tuple #[.int .i64 0, .bool false])
  | _ => none
def extStr : Value → Option Value
  | .nilIface => some (.tuple #[.string ⟨#[]⟩, .bool false])
  | .iface t (.string n) => if t = 9 then some (.tuple #[.string n, .bool true]) else some (.tuple #[.string ⟨#[]⟩, .bool false])
  | .iface t _ => if t = 9 then none else some (.tuple #[.string ⟨#[]⟩, .bool false])
  | _ => none
def extX : FuncId → List Value → Heap → Option Value := fun f args _ =>
  match args with
  | [v] => bif Nat.beq f 29 then extItoa v else bif Nat.beq f 17 then extNum v else bif Nat.beq f 18 then extStr v else none
  | _ => none
end Go.Det.E

/- A look: its steps. -/
import Derived.Test.YtkbpnndheliokaaP1
set_option autoImplicit false
set_option linter.unusedVariables false
set_option linter.unusedSimpArgs false
namespace Go.Det.E
open Go.Proofs Go.Det
attribute [local congr] bind_c cond_c
variable {md : Md} {h : Heap} {a b k : Nat} {l c : List Int} {V S T : Int}
/-- A look at its block. -/
abbrev lkC (V S T x o n t g : Int) (hf dn : Bool) (val : Int) : List Value := [(Value.int .i64 V), (Value.int .i64 S), (Value.int .i64 T), (Value.int .i64 x), (Value.int .i64 o), (Value.int .i64 n), (Value.int .i64 t), (Value.int .i64 g), (Value.bool hf), (Value.bool dn), (Value.int .i64 val)]
end Go.Det.E

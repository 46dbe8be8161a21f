/- Of any right lay: the numbers of levels, nodes and cells. -/
import Derived.Test.YtodeenahpoobkaaL2
import Derived.Test.YtodeenahpoobkaaDetS
set_option autoImplicit false
set_option linter.unusedVariables false
set_option linter.unusedSimpArgs false
namespace Go.Det.E
open Go.Proofs Go.Det
attribute [local congr] bind_c cond_c
theorem Lv_half {n : Int} (h : 2 ≤ n) (h' : n ≤ 16) : Lv (n / 2) + 1 = Lv n := by
  unfold Lv
  rcases sixteen (V := n) (by omega) with h | h | h | h | h | h | h | h | h | h | h | h | h | h | h | h <;> subst h <;> first | omega | rfl
theorem arg_lay {h : Heap} {v : Value} (a : TyArg Try.prog h 23 v) : ∃ V S T : Int, v = (Value.agg #[(Value.int .i64 V), (Value.int .i64 S), (Value.int .i64 T)]) ∧ I64 V ∧ I64 S ∧ I64 T := by
  obtain ⟨acs, e, b⟩ := argN (P := Try.prog) (l := [.i .i64, .i .i64, .i .i64]) (by kernel_rfl) (by kernel_rfl) a
  obtain ⟨v1, r, rfl, a1, b⟩ := l_cons b
  obtain ⟨v2, r, rfl, a2, b⟩ := l_cons b
  obtain ⟨v3, r, rfl, a3, b⟩ := l_cons b
  obtain rfl := l_nil b
  obtain ⟨V, rfl, hV⟩ := inI64 a1
  obtain ⟨S, rfl, hS⟩ := inI64 a2
  obtain ⟨T, rfl, hT⟩ := inI64 a3
  exact ⟨V, S, T, e, hV, hS, hT⟩
end Go.Det.E

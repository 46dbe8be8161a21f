/- What the functions of the lay answer. -/
import Derived.Test.YtalelfcdhmfgoaaE1
import Derived.Test.YtalelfcdhmfgoaaDetU
import Derived.Test.YtalelfcdhmfgoaaDetY
import Derived.Laws.Bits64b
import Derived.Laws.BitsLemmas
set_option autoImplicit false
set_option linter.unusedVariables false
set_option linter.unusedSimpArgs false
namespace Go.Det.E
open Go.Proofs Go.Det
attribute [local congr] bind_c cond_c
theorem wi {x : Int} (h0 : -9223372036854775808 ≤ x) (h1 : x < 9223372036854775808) : IntKind.wrap .i64 x = x := by rw [IntKind.wrap_i64]; omega
theorem wu {x : Int} (h0 : 0 ≤ x) (h1 : x < 18446744073709551616) : IntKind.wrap .u64 x = x := by rw [IntKind.wrap_u64]; omega
/-- A right lay. -/
def Rt (V S T : Int) : Prop := (1 ≤ V ∧ V ≤ 16) ∧ (0 ≤ S ∧ S ≤ 48) ∧ (1 ≤ T ∧ T ≤ 8)
instance (V S T : Int) : Decidable (Rt V S T) := by unfold Rt; infer_instance
/-- How many levels. -/
def Lv (V : Int) : Int := if V < 2 then 1 else if V < 4 then 2 else if V < 8 then 3 else if V < 16 then 4 else 5
theorem sixteen {V : Int} (hV : 1 ≤ V ∧ V ≤ 16) : V = 1 ∨ V = 2 ∨ V = 3 ∨ V = 4 ∨ V = 5 ∨ V = 6 ∨ V = 7 ∨ V = 8 ∨ V = 9 ∨ V = 10 ∨ V = 11 ∨ V = 12 ∨ V = 13 ∨ V = 14 ∨ V = 15 ∨ V = 16 := by omega
theorem len_s (md : Md) (h : Heap) {V : Int} (hV : 1 ≤ V ∧ V ≤ 16) : C md 26 [(Value.int .u64 V)] h = some ((Value.int .i64 (Lv V)), h) := by
  rcases sixteen hV with h | h | h | h | h | h | h | h | h | h | h | h | h | h | h | h <;> subst h <;> exact free_ok 100 10 (by kernel_rfl) (by kernel_rfl) md _
theorem Lv_le {V S T : Int} (hR : Rt V S T) : 1 ≤ Lv V ∧ Lv V ≤ 5 := by unfold Lv; split <;> (try split) <;> (try split) <;> (try split) <;> omega
/-- Products of small numbers are small. -/
theorem mul_le {a b m n : Int} (ha : 0 ≤ a ∧ a ≤ m) (hb : 0 ≤ b ∧ b ≤ n) : 0 ≤ a * b ∧ a * b ≤ m * n := ⟨Int.mul_nonneg ha.1 hb.1, Int.mul_le_mul ha.2 hb.2 hb.1 (by omega)⟩
def Nn (V S : Int) : Int := Lv V * V + S * (2 * Lv V)
theorem Nn_le {V S T : Int} (hR : Rt V S T) : (0 ≤ Lv V * V ∧ Lv V * V ≤ 80) ∧ (0 ≤ S * (2 * Lv V) ∧ S * (2 * Lv V) ≤ 480) := by
  have l := Lv_le hR
  have r := hR
  unfold Rt at r
  have := mul_le (a := Lv V) (b := V) (m := 5) (n := 16) (by omega) (by omega)
  have := mul_le (a := S) (b := 2 * Lv V) (m := 48) (n := 10) (by omega) (by omega)
  omega
end Go.Det.E

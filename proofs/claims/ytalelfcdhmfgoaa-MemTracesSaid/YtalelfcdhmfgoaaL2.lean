/- What the functions of the lay answer: nodes and cells. -/
import Derived.Test.YtalelfcdhmfgoaaL1
set_option autoImplicit false
set_option linter.unusedVariables false
set_option linter.unusedSimpArgs false
namespace Go.Det.E
open Go.Proofs Go.Det
attribute [local congr] bind_c cond_c
/-- From 0 on, and below another one. -/
def Bl (a b : Int) : Bool := decide (0 ≤ a) && decide (a < b)
theorem Bl_t {a b : Int} : Bl a b = true ↔ 0 ≤ a ∧ a < b := by simp [Bl]
theorem Bl_f {a b : Int} : Bl a b = false ↔ ¬ (0 ≤ a ∧ a < b) := by rw [← Bool.not_eq_true, Bl_t]
def I64 (x : Int) : Prop := -9223372036854775808 ≤ x ∧ x ≤ 9223372036854775807
theorem Bl_pred {x n : Int} (hx : I64 x) (hn : n < 100000) : Bl (IntKind.wrap .i64 (x - 1)) n = Bl (x - 1) n := by
  unfold I64 at hx
  rw [IntKind.wrap_i64]
  by_cases h : x = -9223372036854775808
  · subst h
    have e1 : Bl (-9223372036854775808 - 1) n = false := by rw [Bl_f]; omega
    have e2 : Bl ((-9223372036854775808 - 1 + 9223372036854775808) % 18446744073709551616 - 9223372036854775808) n = false := by rw [Bl_f]; omega
    rw [e1, e2]
  · congr 1; omega
def Vx (V a b : Int) : Int := bif Bl a (Lv V) && Bl b V then 1 + a * V + b else 0
def Ax (V S a b c : Int) : Int := bif Bl a S && (Bl b (Lv V) && Bl c 2) then 1 + Lv V * V + a * (2 * Lv V) + 2 * b + c else 0
def Sx (T a : Int) : Int := bif Bl (a - 1) T then a - 1 else -1
def Ox (S T a f : Int) : Int := bif Bl a S then T + 1 + a * 7 + f else -1
def Nx (S T a b : Int) : Int := bif Bl b 2 then Ox S T a (3 + b) else -1
def Px (S T a b : Int) : Int := bif Bl b 2 then Ox S T a (5 + b) else -1
def Hd (S T : Int) : Int := T + 1 + S * 7
def Hx (V S T a b : Int) : Int := bif Bl a V && Bl b (Lv V) then Hd S T + a * Lv V + b else -1
def Eg (V S T : Int) : Int := Hd S T + V * Lv V
theorem Eg_le {V S T : Int} (hR : Rt V S T) : Hd S T = T + 1 + S * 7 ∧ Eg V S T = Hd S T + V * Lv V ∧ 0 ≤ V * Lv V ∧ V * Lv V ≤ 80 := by
  have l := Lv_le hR
  have r := hR
  unfold Rt at r
  have := mul_le (a := V) (b := Lv V) (m := 16) (n := 5) (by omega) (by omega)
  exact ⟨rfl, rfl, by omega, by omega⟩
/-- The place of an edge among the edges: of the lesser vertex, of the other one. -/
def eI (V a b : Int) : Int := a * (2 * V - a - 1) / 2 + b - a - 1
def mn (a b : Int) : Int := if b < a then b else a
def mx (a b : Int) : Int := if b > a then b else a
def Ex (V S T a b : Int) : Int := bif (mn a b == mx a b) || (!Bl (mn a b) V || !Bl (mx a b) V) then -1 else Eg V S T + eI V (mn a b) (mx a b)
def Nd (V S T : Int) : Int := Eg V S T + V * (V - 1) / 2
theorem Nd_le {V S T : Int} (hR : Rt V S T) : Nd V S T = Eg V S T + V * (V - 1) / 2 ∧ 0 ≤ V * (V - 1) ∧ V * (V - 1) ≤ 240 := by
  have r := hR
  unfold Rt at r
  have := mul_le (a := V) (b := V - 1) (m := 16) (n := 15) (by omega) (by omega)
  exact ⟨rfl, by omega, by omega⟩
def Fx (V S T a b : Int) : Int := bif Bl (a - 1) (Nn V S) && Bl b 7 then Nd V S T + (a - 1) * 7 + b else -1
def Cn (V S T : Int) : Int := Nd V S T + Nn V S * 7
theorem Cn_le {V S T : Int} (hR : Rt V S T) : 0 ≤ Cn V S T ∧ Cn V S T ≤ 5000 ∧ 1 ≤ Nn V S ∧ Nn V S ≤ 560 := by
  have e := Eg_le hR
  have n := Nd_le hR
  have l := Nn_le hR
  have nn : Nn V S = Lv V * V + S * (2 * Lv V) := rfl
  have cn : Cn V S T = Nd V S T + Nn V S * 7 := rfl
  have lv := Lv_le hR
  have r := hR
  unfold Rt at r
  have : 1 * 1 ≤ Lv V * V := Int.mul_le_mul (by omega) (by omega) (by omega) (by omega)
  omega
end Go.Det.E

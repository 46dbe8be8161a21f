/- What the functions of the lay answer: nodes and cells. -/
import Derived.Test.YtodeenahpoobkaaL1
set_option autoImplicit false
set_option linter.unusedVariables false
set_option linter.unusedSimpArgs false
namespace Go.Det.E
open Go.Proofs Go.Det
attribute [local congr] bind_c cond_c
/-- From 0 on, and below another one. -/
def Bl (a b : Int) : Bool := decide (0 ≤ a) && decide (a < b)
theorem Bl_t {a b : Int} : Bl a b = true ↔ 0 ≤ a ∧ a < b := by simp [Bl]
theorem Bl_f {a b : Int} : Bl a b = false ↔ ¬ (0 ≤ a ∧ a < b) := by rw [← Bool.not_eq_true, Bl_t]
theorem bel_s (md : Md) (h : Heap) (a b : Int) : C md 77 [(Value.int .i64 a), (Value.int .i64 b)] h = some ((Value.bool (Bl a b)), h) := below_s md h a b
def I64 (x : Int) : Prop := -9223372036854775808 ≤ x ∧ x ≤ 9223372036854775807
theorem Bl_pred {x n : Int} (hx : I64 x) (hn : n < 100000) : Bl (IntKind.wrap .i64 (x - 1)) n = Bl (x - 1) n := by
  unfold I64 at hx
  rw [IntKind.wrap_i64]
  by_cases h : x = -9223372036854775808
  · subst h
    have e1 : Bl (-9223372036854775808 - 1) n = false := by rw [Bl_f]; omega
    have e2 : Bl ((-9223372036854775808 - 1 + 9223372036854775808) % 18446744073709551616 - 9223372036854775808) n = false := by rw [Bl_f]; omega
    rw [e1, e2]
  · congr 1; omega
def Vx (V a b : Int) : Int := bif Bl a (Lv V) && Bl b V then 1 + a * V + b else 0
theorem vertex_s (md : Md) (h : Heap) {V S T a b : Int} (hR : Rt V S T) : C md 44 [(Value.agg #[(Value.int .i64 V), (Value.int .i64 S), (Value.int .i64 T)]), (Value.int .i64 a), (Value.int .i64 b)] h = some ((Value.int .i64 (Vx V a b)), h) := by
  rw [C, call_eq, F44_eq]
  unfold F44 Vx
  have l := Lv_le hR
  have r := hR
  unfold Rt at r
  cases ha : Bl a (Lv V)
  · simp only [go_sem, Nat.reduceAdd, Nat.reduceLeDiff, Nat.reduceMul, Int.reduceBEq, Int.reduceBNe, Int.reduceLT, Int.reduceLE, Int.reduceGT, levels_s _ _ hR, bel_s, ha]
  · cases hb : Bl b V
    · simp only [go_sem, Nat.reduceAdd, Nat.reduceLeDiff, Nat.reduceMul, Int.reduceBEq, Int.reduceBNe, Int.reduceLT, Int.reduceLE, Int.reduceGT, levels_s _ _ hR, bel_s, ha, hb, aUn_not]
    · have ha' := Bl_t.1 ha
      have hb' := Bl_t.1 hb
      have := mul_le (a := a) (b := V) (m := 5) (n := 16) (by omega) (by omega)
      have w1 : IntKind.wrap .i64 (a * V) = a * V := wi (by omega) (by omega)
      have w2 : IntKind.wrap .i64 (1 + a * V) = 1 + a * V := wi (by omega) (by omega)
      have w3 : IntKind.wrap .i64 (1 + a * V + b) = 1 + a * V + b := wi (by omega) (by omega)
      simp only [go_sem, Nat.reduceAdd, Nat.reduceLeDiff, Nat.reduceMul, Int.reduceBEq, Int.reduceBNe, Int.reduceLT, Int.reduceLE, Int.reduceGT, levels_s _ _ hR, bel_s, ha, hb, aUn_not, w1, w2, w3]
def Ax (V S a b c : Int) : Int := bif Bl a S && (Bl b (Lv V) && Bl c 2) then 1 + Lv V * V + a * (2 * Lv V) + 2 * b + c else 0
theorem arc_s (md : Md) (h : Heap) {V S T a b c : Int} (hR : Rt V S T) : C md 40 [(Value.agg #[(Value.int .i64 V), (Value.int .i64 S), (Value.int .i64 T)]), (Value.int .i64 a), (Value.int .i64 b), (Value.int .i64 c)] h = some ((Value.int .i64 (Ax V S a b c)), h) := by
  rw [C, call_eq, F40_eq]
  unfold F40 Ax
  have l := Lv_le hR
  have nl := Nn_le hR
  have r := hR
  unfold Rt at r
  cases ha : Bl a S
  · simp only [go_sem, Nat.reduceAdd, Nat.reduceLeDiff, Nat.reduceMul, Int.reduceBEq, Int.reduceBNe, Int.reduceLT, Int.reduceLE, Int.reduceGT, levels_s _ _ hR, bel_s, ha]
  · cases hb : Bl b (Lv V)
    · simp only [go_sem, Nat.reduceAdd, Nat.reduceLeDiff, Nat.reduceMul, Int.reduceBEq, Int.reduceBNe, Int.reduceLT, Int.reduceLE, Int.reduceGT, levels_s _ _ hR, bel_s, ha, hb, aUn_not]
    · cases hc : Bl c 2
      · simp only [go_sem, Nat.reduceAdd, Nat.reduceLeDiff, Nat.reduceMul, Int.reduceBEq, Int.reduceBNe, Int.reduceLT, Int.reduceLE, Int.reduceGT, levels_s _ _ hR, bel_s, ha, hb, hc, aUn_not]
      · have ha' := Bl_t.1 ha
        have hb' := Bl_t.1 hb
        have hc' := Bl_t.1 hc
        have := mul_le (a := a) (b := 2 * Lv V) (m := 48) (n := 10) (by omega) (by omega)
        have w1 : IntKind.wrap .i64 (Lv V * V) = Lv V * V := wi (by omega) (by omega)
        have w2 : IntKind.wrap .i64 (1 + Lv V * V) = 1 + Lv V * V := wi (by omega) (by omega)
        have w3 : IntKind.wrap .i64 (a * (2 * Lv V)) = a * (2 * Lv V) := wi (by omega) (by omega)
        have w4 : IntKind.wrap .i64 (1 + Lv V * V + a * (2 * Lv V)) = 1 + Lv V * V + a * (2 * Lv V) := wi (by omega) (by omega)
        have w5 : IntKind.wrap .i64 (2 * b) = 2 * b := wi (by omega) (by omega)
        have w6 : IntKind.wrap .i64 (1 + Lv V * V + a * (2 * Lv V) + 2 * b) = 1 + Lv V * V + a * (2 * Lv V) + 2 * b := wi (by omega) (by omega)
        have w7 : IntKind.wrap .i64 (1 + Lv V * V + a * (2 * Lv V) + 2 * b + c) = 1 + Lv V * V + a * (2 * Lv V) + 2 * b + c := wi (by omega) (by omega)
        simp only [go_sem, Nat.reduceAdd, Nat.reduceLeDiff, Nat.reduceMul, Int.reduceBEq, Int.reduceBNe, Int.reduceLT, Int.reduceLE, Int.reduceGT, levels_s _ _ hR, arcs_s _ _ hR, bel_s, ha, hb, hc, aUn_not, w1, w2, w3, w4, w5, w6, w7]
def Sx (T a : Int) : Int := bif Bl (a - 1) T then a - 1 else -1
theorem free_s (md : Md) (h : Heap) (V S T : Int) : C md 101 [(Value.agg #[(Value.int .i64 V), (Value.int .i64 S), (Value.int .i64 T)])] h = some ((Value.int .i64 T), h) := by
  rw [C, call_eq, F101_eq]
  unfold F101
  simp only [go_sem, Nat.reduceAdd, Nat.reduceLeDiff, Nat.reduceMul, Int.reduceBEq, Int.reduceBNe, Int.reduceLT, Int.reduceLE, Int.reduceGT]
def Ox (S T a f : Int) : Int := bif Bl a S then T + 1 + a * 7 + f else -1
def Nx (S T a b : Int) : Int := bif Bl b 2 then Ox S T a (3 + b) else -1
def Px (S T a b : Int) : Int := bif Bl b 2 then Ox S T a (5 + b) else -1
def Hd (S T : Int) : Int := T + 1 + S * 7
theorem heads_s (md : Md) (h : Heap) {V S T : Int} (hR : Rt V S T) : C md 97 [(Value.agg #[(Value.int .i64 V), (Value.int .i64 S), (Value.int .i64 T)])] h = some ((Value.int .i64 (Hd S T)), h) := by
  rw [C, call_eq, F97_eq]
  unfold F97 Hd
  have r := hR
  unfold Rt at r
  have w1 : IntKind.wrap .i64 (T + 1) = T + 1 := wi (by omega) (by omega)
  have w2 : IntKind.wrap .i64 (S * 7) = S * 7 := wi (by omega) (by omega)
  have w3 : IntKind.wrap .i64 (T + 1 + S * 7) = T + 1 + S * 7 := wi (by omega) (by omega)
  simp only [go_sem, Nat.reduceAdd, Nat.reduceLeDiff, Nat.reduceMul, Int.reduceBEq, Int.reduceBNe, Int.reduceLT, Int.reduceLE, Int.reduceGT, free_s, w1, w2, w3]
def Hx (V S T a b : Int) : Int := bif Bl a V && Bl b (Lv V) then Hd S T + a * Lv V + b else -1
def Eg (V S T : Int) : Int := Hd S T + V * Lv V
theorem Eg_le {V S T : Int} (hR : Rt V S T) : Hd S T = T + 1 + S * 7 ∧ Eg V S T = Hd S T + V * Lv V ∧ 0 ≤ V * Lv V ∧ V * Lv V ≤ 80 := by
  have l := Lv_le hR
  have r := hR
  unfold Rt at r
  have := mul_le (a := V) (b := Lv V) (m := 16) (n := 5) (by omega) (by omega)
  exact ⟨rfl, rfl, by omega, by omega⟩
theorem edges_s (md : Md) (h : Heap) {V S T : Int} (hR : Rt V S T) : C md 93 [(Value.agg #[(Value.int .i64 V), (Value.int .i64 S), (Value.int .i64 T)])] h = some ((Value.int .i64 (Eg V S T)), h) := by
  rw [C, call_eq, F93_eq]
  unfold F93
  have e := Eg_le hR
  have r := hR
  unfold Rt at r
  have w1 : IntKind.wrap .i64 (V * Lv V) = V * Lv V := wi (by omega) (by omega)
  have w2 : IntKind.wrap .i64 (Hd S T + V * Lv V) = Eg V S T := wi (by omega) (by omega)
  simp only [go_sem, Nat.reduceAdd, Nat.reduceLeDiff, Nat.reduceMul, Int.reduceBEq, Int.reduceBNe, Int.reduceLT, Int.reduceLE, Int.reduceGT, heads_s _ _ hR, levels_s _ _ hR, w1, w2]
/-- The place of an edge among the edges: of the lesser vertex, of the other one. -/
def eI (V a b : Int) : Int := a * (2 * V - a - 1) / 2 + b - a - 1
def mn (a b : Int) : Int := if b < a then b else a
def mx (a b : Int) : Int := if b > a then b else a
def Ex (V S T a b : Int) : Int := bif (mn a b == mx a b) || (!Bl (mn a b) V || !Bl (mx a b) V) then -1 else Eg V S T + eI V (mn a b) (mx a b)
def Nd (V S T : Int) : Int := Eg V S T + V * (V - 1) / 2
theorem Nd_le {V S T : Int} (hR : Rt V S T) : Nd V S T = Eg V S T + V * (V - 1) / 2 ∧ 0 ≤ V * (V - 1) ∧ V * (V - 1) ≤ 240 := by
  have r := hR
  unfold Rt at r
  have := mul_le (a := V) (b := V - 1) (m := 16) (n := 15) (by omega) (by omega)
  exact ⟨rfl, by omega, by omega⟩
theorem nd_s (md : Md) (h : Heap) {V S T : Int} (hR : Rt V S T) : C md 80 [(Value.agg #[(Value.int .i64 V), (Value.int .i64 S), (Value.int .i64 T)])] h = some ((Value.int .i64 (Nd V S T)), h) := by
  rw [C, call_eq, F80_eq]
  unfold F80
  have e := Eg_le hR
  have n := Nd_le hR
  have r := hR
  unfold Rt at r
  have w1 : IntKind.wrap .i64 (V - 1) = V - 1 := wi (by omega) (by omega)
  have w2 : IntKind.wrap .i64 (V * (V - 1)) = V * (V - 1) := wi (by omega) (by omega)
  have t : Int.tdiv (V * (V - 1)) 2 = V * (V - 1) / 2 := Int.tdiv_eq_ediv_of_nonneg (by omega)
  have w3 : IntKind.wrap .i64 (V * (V - 1) / 2) = V * (V - 1) / 2 := wi (by omega) (by omega)
  have w4 : IntKind.wrap .i64 (Eg V S T + V * (V - 1) / 2) = Nd V S T := wi (by omega) (by omega)
  simp only [go_sem, Nat.reduceAdd, Nat.reduceLeDiff, Nat.reduceMul, Int.reduceBEq, Int.reduceBNe, Int.reduceLT, Int.reduceLE, Int.reduceGT, edges_s _ _ hR, w1, w2, t, w3, w4]
def Fx (V S T a b : Int) : Int := bif Bl (a - 1) (Nn V S) && Bl b 7 then Nd V S T + (a - 1) * 7 + b else -1
theorem field_s (md : Md) (h : Heap) {V S T a b : Int} (hR : Rt V S T) (ha : I64 a) : C md 55 [(Value.agg #[(Value.int .i64 V), (Value.int .i64 S), (Value.int .i64 T)]), (Value.int .i64 a), (Value.int .i64 b)] h = some ((Value.int .i64 (Fx V S T a b)), h) := by
  rw [C, call_eq, F55_eq]
  unfold F55 Fx
  have e := Eg_le hR
  have n := Nd_le hR
  have l := Nn_le hR
  have nn : Nn V S = Lv V * V + S * (2 * Lv V) := rfl
  have r := hR
  unfold Rt at r
  have p := Bl_pred (n := Nn V S) ha (by omega)
  cases h1 : Bl (a - 1) (Nn V S)
  · rw [h1] at p
    simp only [go_sem, Nat.reduceAdd, Nat.reduceLeDiff, Nat.reduceMul, Int.reduceBEq, Int.reduceBNe, Int.reduceLT, Int.reduceLE, Int.reduceGT, nodes_s _ _ hR, bel_s, p]
  · rw [h1] at p
    cases hb : Bl b 7
    · simp only [go_sem, Nat.reduceAdd, Nat.reduceLeDiff, Nat.reduceMul, Int.reduceBEq, Int.reduceBNe, Int.reduceLT, Int.reduceLE, Int.reduceGT, nodes_s _ _ hR, bel_s, p, hb, aUn_not]
    · have h1' := Bl_t.1 h1
      have hb' := Bl_t.1 hb
      have w1 : IntKind.wrap .i64 (a - 1) = a - 1 := wi (by omega) (by omega)
      have w2 : IntKind.wrap .i64 ((a - 1) * 7) = (a - 1) * 7 := wi (by omega) (by omega)
      have w3 : IntKind.wrap .i64 (Nd V S T + (a - 1) * 7) = Nd V S T + (a - 1) * 7 := wi (by omega) (by omega)
      have w4 : IntKind.wrap .i64 (Nd V S T + (a - 1) * 7 + b) = Nd V S T + (a - 1) * 7 + b := wi (by omega) (by omega)
      simp only [go_sem, Nat.reduceAdd, Nat.reduceLeDiff, Nat.reduceMul, Int.reduceBEq, Int.reduceBNe, Int.reduceLT, Int.reduceLE, Int.reduceGT, nodes_s _ _ hR, nd_s _ _ hR, bel_s, w1, h1, hb, aUn_not, w2, w3, w4]
def Cn (V S T : Int) : Int := Nd V S T + Nn V S * 7
theorem Cn_le {V S T : Int} (hR : Rt V S T) : 0 ≤ Cn V S T ∧ Cn V S T ≤ 5000 ∧ 1 ≤ Nn V S ∧ Nn V S ≤ 560 := by
  have e := Eg_le hR
  have n := Nd_le hR
  have l := Nn_le hR
  have nn : Nn V S = Lv V * V + S * (2 * Lv V) := rfl
  have cn : Cn V S T = Nd V S T + Nn V S * 7 := rfl
  have lv := Lv_le hR
  have r := hR
  unfold Rt at r
  have : 1 * 1 ≤ Lv V * V := Int.mul_le_mul (by omega) (by omega) (by omega) (by omega)
  omega
theorem cells_s (md : Md) (h : Heap) {V S T : Int} (hR : Rt V S T) : C md 52 [(Value.agg #[(Value.int .i64 V), (Value.int .i64 S), (Value.int .i64 T)])] h = some ((Value.int .i64 (Cn V S T)), h) := by
  rw [C, call_eq, F52_eq]
  unfold F52
  have c := Cn_le hR
  have cn : Cn V S T = Nd V S T + Nn V S * 7 := rfl
  have w1 : IntKind.wrap .i64 (Nn V S * 7) = Nn V S * 7 := wi (by omega) (by omega)
  have w2 : IntKind.wrap .i64 (Nd V S T + Nn V S * 7) = Cn V S T := wi (by omega) (by omega)
  simp only [go_sem, Nat.reduceAdd, Nat.reduceLeDiff, Nat.reduceMul, Int.reduceBEq, Int.reduceBNe, Int.reduceLT, Int.reduceLE, Int.reduceGT, nd_s _ _ hR, nodes_s _ _ hR, w1, w2]
end Go.Det.E

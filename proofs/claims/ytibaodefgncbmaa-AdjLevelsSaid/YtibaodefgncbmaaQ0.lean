/- What the functions of the lay answer. -/
import Derived.Test.YtibaodefgncbmaaE1
import Derived.Test.YtibaodefgncbmaaDetU
import Derived.Test.YtibaodefgncbmaaDetY
import Derived.Laws.Bits64b
import Derived.Laws.BitsLemmas
import Derived.Test.YtibaodefgncbmaaDetV
import Derived.Test.YtibaodefgncbmaaDetW
import Derived.Test.YtibaodefgncbmaaN1
import Derived.Test.YtibaodefgncbmaaDetS
import Derived.Test.YtibaodefgncbmaaE3
import Derived.Laws.BitsAllLaws
set_option autoImplicit false
set_option linter.unusedVariables false
set_option linter.unusedSimpArgs false
namespace Go.Det.E
open Go.Proofs Go.Det
attribute [local congr] bind_c cond_c
theorem wi {x : Int} (h0 : -9223372036854775808 ≤ x) (h1 : x < 9223372036854775808) : IntKind.wrap .i64 x = x := by rw [IntKind.wrap_i64]; omega
theorem wu {x : Int} (h0 : 0 ≤ x) (h1 : x < 18446744073709551616) : IntKind.wrap .u64 x = x := by rw [IntKind.wrap_u64]; omega
theorem below_s (md : Md) (h : Heap) (a b : Int) : C md 36 [(Value.int .i64 a), (Value.int .i64 b)] h = some ((Value.bool (decide (0 ≤ a) && decide (a < b))), h) := by
  rw [C, call_eq, F36_eq]
  unfold F36
  by_cases h0 : 0 ≤ a
  · simp only [go_sem, Nat.reduceAdd, Nat.reduceLeDiff, Nat.reduceMul, Int.reduceBEq, Int.reduceBNe, Int.reduceLT, Int.reduceLE, Int.reduceGT, ge_iff_le, h0, aBin_lss]
  · simp only [go_sem, Nat.reduceAdd, Nat.reduceLeDiff, Nat.reduceMul, Int.reduceBEq, Int.reduceBNe, Int.reduceLT, Int.reduceLE, Int.reduceGT, ge_iff_le, h0]
/-- A right lay. -/
def Rt (V S T : Int) : Prop := (1 ≤ V ∧ V ≤ 16) ∧ (0 ≤ S ∧ S ≤ 48) ∧ (1 ≤ T ∧ T ≤ 8)
instance (V S T : Int) : Decidable (Rt V S T) := by unfold Rt; infer_instance
/-- How many levels. -/
def Lv (V : Int) : Int := if V < 2 then 1 else if V < 4 then 2 else if V < 8 then 3 else if V < 16 then 4 else 5
theorem sixteen {V : Int} (hV : 1 ≤ V ∧ V ≤ 16) : V = 1 ∨ V = 2 ∨ V = 3 ∨ V = 4 ∨ V = 5 ∨ V = 6 ∨ V = 7 ∨ V = 8 ∨ V = 9 ∨ V = 10 ∨ V = 11 ∨ V = 12 ∨ V = 13 ∨ V = 14 ∨ V = 15 ∨ V = 16 := by omega
theorem len_s (md : Md) (h : Heap) {V : Int} (hV : 1 ≤ V ∧ V ≤ 16) : C md 35 [(Value.int .u64 V)] h = some ((Value.int .i64 (Lv V)), h) := by
  rcases sixteen hV with h | h | h | h | h | h | h | h | h | h | h | h | h | h | h | h <;> subst h <;> exact free_ok 100 10 (by kernel_rfl) (by kernel_rfl) md _
theorem levels_s (md : Md) (h : Heap) {V S T : Int} (hR : Rt V S T) : C md 12 [(Value.agg #[(Value.int .i64 V), (Value.int .i64 S), (Value.int .i64 T)])] h = some ((Value.int .i64 (Lv V)), h) := by
  rw [C, call_eq, F12_eq]
  unfold F12
  have w : IntKind.wrap .u64 V = V := wu (by have := hR.1.1; omega) (by have := hR.1.2; omega)
  simp only [go_sem, Nat.reduceAdd, Nat.reduceLeDiff, Nat.reduceMul, Int.reduceBEq, Int.reduceBNe, Int.reduceLT, Int.reduceLE, Int.reduceGT, w, len_s _ _ hR.1]
theorem Lv_le {V S T : Int} (hR : Rt V S T) : 1 ≤ Lv V ∧ Lv V ≤ 5 := by unfold Lv; split <;> (try split) <;> (try split) <;> (try split) <;> omega
theorem arcs_s (md : Md) (h : Heap) {V S T : Int} (hR : Rt V S T) : C md 51 [(Value.agg #[(Value.int .i64 V), (Value.int .i64 S), (Value.int .i64 T)])] h = some ((Value.int .i64 (2 * Lv V)), h) := by
  rw [C, call_eq, F51_eq]
  unfold F51
  have l := Lv_le hR
  have w : IntKind.wrap .i64 (2 * Lv V) = 2 * Lv V := wi (by omega) (by omega)
  simp only [go_sem, Nat.reduceAdd, Nat.reduceLeDiff, Nat.reduceMul, Int.reduceBEq, Int.reduceBNe, Int.reduceLT, Int.reduceLE, Int.reduceGT, levels_s _ _ hR, w]
/-- Products of small numbers are small. -/
theorem mul_le {a b m n : Int} (ha : 0 ≤ a ∧ a ≤ m) (hb : 0 ≤ b ∧ b ≤ n) : 0 ≤ a * b ∧ a * b ≤ m * n := ⟨Int.mul_nonneg ha.1 hb.1, Int.mul_le_mul ha.2 hb.2 hb.1 (by omega)⟩
def Nn (V S : Int) : Int := Lv V * V + S * (2 * Lv V)
theorem Nn_le {V S T : Int} (hR : Rt V S T) : (0 ≤ Lv V * V ∧ Lv V * V ≤ 80) ∧ (0 ≤ S * (2 * Lv V) ∧ S * (2 * Lv V) ≤ 480) := by
  have l := Lv_le hR
  have r := hR
  unfold Rt at r
  have := mul_le (a := Lv V) (b := V) (m := 5) (n := 16) (by omega) (by omega)
  have := mul_le (a := S) (b := 2 * Lv V) (m := 48) (n := 10) (by omega) (by omega)
  omega
theorem nodes_s (md : Md) (h : Heap) {V S T : Int} (hR : Rt V S T) : C md 27 [(Value.agg #[(Value.int .i64 V), (Value.int .i64 S), (Value.int .i64 T)])] h = some ((Value.int .i64 (Nn V S)), h) := by
  rw [C, call_eq, F27_eq]
  unfold F27
  have l := Nn_le hR
  have w1 : IntKind.wrap .i64 (Lv V * V) = Lv V * V := wi (by omega) (by omega)
  have w2 : IntKind.wrap .i64 (S * (2 * Lv V)) = S * (2 * Lv V) := wi (by omega) (by omega)
  have w3 : IntKind.wrap .i64 (Lv V * V + S * (2 * Lv V)) = Nn V S := wi (by omega) (by omega)
  simp only [go_sem, Nat.reduceAdd, Nat.reduceLeDiff, Nat.reduceMul, Int.reduceBEq, Int.reduceBNe, Int.reduceLT, Int.reduceLE, Int.reduceGT, levels_s _ _ hR, arcs_s _ _ hR, w1, w2, w3]
end Go.Det.E
/- What the functions of the lay answer: nodes and cells. -/
namespace Go.Det.E
open Go.Proofs Go.Det
attribute [local congr] bind_c cond_c
/-- From 0 on, and below another one. -/
def Bl (a b : Int) : Bool := decide (0 ≤ a) && decide (a < b)
theorem Bl_t {a b : Int} : Bl a b = true ↔ 0 ≤ a ∧ a < b := by simp [Bl]
theorem Bl_f {a b : Int} : Bl a b = false ↔ ¬ (0 ≤ a ∧ a < b) := by rw [← Bool.not_eq_true, Bl_t]
theorem bel_s (md : Md) (h : Heap) (a b : Int) : C md 36 [(Value.int .i64 a), (Value.int .i64 b)] h = some ((Value.bool (Bl a b)), h) := below_s md h a b
def I64 (x : Int) : Prop := -9223372036854775808 ≤ x ∧ x ≤ 9223372036854775807
theorem Bl_pred {x n : Int} (hx : I64 x) (hn : n < 100000) : Bl (IntKind.wrap .i64 (x - 1)) n = Bl (x - 1) n := by
  unfold I64 at hx
  rw [IntKind.wrap_i64]
  by_cases h : x = -9223372036854775808
  · subst h
    have e1 : Bl (-9223372036854775808 - 1) n = false := by rw [Bl_f]; omega
    have e2 : Bl ((-9223372036854775808 - 1 + 9223372036854775808) % 18446744073709551616 - 9223372036854775808) n = false := by rw [Bl_f]; omega
    rw [e1, e2]
  · congr 1; omega
def Vx (V a b : Int) : Int := bif Bl a (Lv V) && Bl b V then 1 + a * V + b else 0
theorem vertex_s (md : Md) (h : Heap) {V S T a b : Int} (hR : Rt V S T) : C md 22 [(Value.agg #[(Value.int .i64 V), (Value.int .i64 S), (Value.int .i64 T)]), (Value.int .i64 a), (Value.int .i64 b)] h = some ((Value.int .i64 (Vx V a b)), h) := by
  rw [C, call_eq, F22_eq]
  unfold F22 Vx
  have l := Lv_le hR
  have r := hR
  unfold Rt at r
  cases ha : Bl a (Lv V)
  · simp only [go_sem, Nat.reduceAdd, Nat.reduceLeDiff, Nat.reduceMul, Int.reduceBEq, Int.reduceBNe, Int.reduceLT, Int.reduceLE, Int.reduceGT, levels_s _ _ hR, bel_s, ha]
  · cases hb : Bl b V
    · simp only [go_sem, Nat.reduceAdd, Nat.reduceLeDiff, Nat.reduceMul, Int.reduceBEq, Int.reduceBNe, Int.reduceLT, Int.reduceLE, Int.reduceGT, levels_s _ _ hR, bel_s, ha, hb, aUn_not]
    · have ha' := Bl_t.1 ha
      have hb' := Bl_t.1 hb
      have := mul_le (a := a) (b := V) (m := 5) (n := 16) (by omega) (by omega)
      have w1 : IntKind.wrap .i64 (a * V) = a * V := wi (by omega) (by omega)
      have w2 : IntKind.wrap .i64 (1 + a * V) = 1 + a * V := wi (by omega) (by omega)
      have w3 : IntKind.wrap .i64 (1 + a * V + b) = 1 + a * V + b := wi (by omega) (by omega)
      simp only [go_sem, Nat.reduceAdd, Nat.reduceLeDiff, Nat.reduceMul, Int.reduceBEq, Int.reduceBNe, Int.reduceLT, Int.reduceLE, Int.reduceGT, levels_s _ _ hR, bel_s, ha, hb, aUn_not, w1, w2, w3]
def Sx (T a : Int) : Int := bif Bl (a - 1) T then a - 1 else -1
theorem free_s (md : Md) (h : Heap) (V S T : Int) : C md 59 [(Value.agg #[(Value.int .i64 V), (Value.int .i64 S), (Value.int .i64 T)])] h = some ((Value.int .i64 T), h) := by
  rw [C, call_eq, F59_eq]
  unfold F59
  simp only [go_sem, Nat.reduceAdd, Nat.reduceLeDiff, Nat.reduceMul, Int.reduceBEq, Int.reduceBNe, Int.reduceLT, Int.reduceLE, Int.reduceGT]
def Ox (S T a f : Int) : Int := bif Bl a S then T + 1 + a * 7 + f else -1
theorem of_s (md : Md) (h : Heap) {V S T a f : Int} (hR : Rt V S T) (hf : 0 ≤ f ∧ f < 7) : C md 38 [(Value.agg #[(Value.int .i64 V), (Value.int .i64 S), (Value.int .i64 T)]), (Value.int .i64 a), (Value.int .i64 f)] h = some ((Value.int .i64 (Ox S T a f)), h) := by
  rw [C, call_eq, F38_eq]
  unfold F38 Ox
  have r := hR
  unfold Rt at r
  cases hb : Bl a S
  · simp only [go_sem, Nat.reduceAdd, Nat.reduceLeDiff, Nat.reduceMul, Int.reduceBEq, Int.reduceBNe, Int.reduceLT, Int.reduceLE, Int.reduceGT, bel_s, hb]
  · have hb' := Bl_t.1 hb
    have w1 : IntKind.wrap .i64 (T + 1) = T + 1 := wi (by omega) (by omega)
    have w2 : IntKind.wrap .i64 (a * 7) = a * 7 := wi (by omega) (by omega)
    have w3 : IntKind.wrap .i64 (T + 1 + a * 7) = T + 1 + a * 7 := wi (by omega) (by omega)
    have w4 : IntKind.wrap .i64 (T + 1 + a * 7 + f) = T + 1 + a * 7 + f := wi (by omega) (by omega)
    simp only [go_sem, Nat.reduceAdd, Nat.reduceLeDiff, Nat.reduceMul, Int.reduceBEq, Int.reduceBNe, Int.reduceLT, Int.reduceLE, Int.reduceGT, bel_s, hb, free_s, w1, w2, w3, w4]
theorem ends_s (md : Md) (h : Heap) {V S T a : Int} (hR : Rt V S T) : C md 41 [(Value.agg #[(Value.int .i64 V), (Value.int .i64 S), (Value.int .i64 T)]), (Value.int .i64 a)] h = some ((Value.int .i64 (Ox S T a 1)), h) := by
  rw [C, call_eq, F41_eq]
  unfold F41
  simp only [go_sem, Nat.reduceAdd, Nat.reduceLeDiff, Nat.reduceMul, Int.reduceBEq, Int.reduceBNe, Int.reduceLT, Int.reduceLE, Int.reduceGT, of_s _ _ (f := 1) hR (by omega)]
theorem level_s (md : Md) (h : Heap) {V S T a : Int} (hR : Rt V S T) : C md 42 [(Value.agg #[(Value.int .i64 V), (Value.int .i64 S), (Value.int .i64 T)]), (Value.int .i64 a)] h = some ((Value.int .i64 (Ox S T a 2)), h) := by
  rw [C, call_eq, F42_eq]
  unfold F42
  simp only [go_sem, Nat.reduceAdd, Nat.reduceLeDiff, Nat.reduceMul, Int.reduceBEq, Int.reduceBNe, Int.reduceLT, Int.reduceLE, Int.reduceGT, of_s _ _ (f := 2) hR (by omega)]
def Nx (S T a b : Int) : Int := bif Bl b 2 then Ox S T a (3 + b) else -1
theorem next_s (md : Md) (h : Heap) {V S T a b : Int} (hR : Rt V S T) : C md 15 [(Value.agg #[(Value.int .i64 V), (Value.int .i64 S), (Value.int .i64 T)]), (Value.int .i64 a), (Value.int .i64 b)] h = some ((Value.int .i64 (Nx S T a b)), h) := by
  rw [C, call_eq, F15_eq]
  unfold F15 Nx
  cases hb : Bl b 2
  · simp only [go_sem, Nat.reduceAdd, Nat.reduceLeDiff, Nat.reduceMul, Int.reduceBEq, Int.reduceBNe, Int.reduceLT, Int.reduceLE, Int.reduceGT, bel_s, hb]
  · have hb' := Bl_t.1 hb
    have w1 : IntKind.wrap .i64 (3 + b) = 3 + b := wi (by omega) (by omega)
    simp only [go_sem, Nat.reduceAdd, Nat.reduceLeDiff, Nat.reduceMul, Int.reduceBEq, Int.reduceBNe, Int.reduceLT, Int.reduceLE, Int.reduceGT, bel_s, hb, w1, of_s _ _ (f := 3 + b) hR (by omega)]
def Px (S T a b : Int) : Int := bif Bl b 2 then Ox S T a (5 + b) else -1
theorem prev_s (md : Md) (h : Heap) {V S T a b : Int} (hR : Rt V S T) : C md 14 [(Value.agg #[(Value.int .i64 V), (Value.int .i64 S), (Value.int .i64 T)]), (Value.int .i64 a), (Value.int .i64 b)] h = some ((Value.int .i64 (Px S T a b)), h) := by
  rw [C, call_eq, F14_eq]
  unfold F14 Px
  cases hb : Bl b 2
  · simp only [go_sem, Nat.reduceAdd, Nat.reduceLeDiff, Nat.reduceMul, Int.reduceBEq, Int.reduceBNe, Int.reduceLT, Int.reduceLE, Int.reduceGT, bel_s, hb]
  · have hb' := Bl_t.1 hb
    have w1 : IntKind.wrap .i64 (5 + b) = 5 + b := wi (by omega) (by omega)
    simp only [go_sem, Nat.reduceAdd, Nat.reduceLeDiff, Nat.reduceMul, Int.reduceBEq, Int.reduceBNe, Int.reduceLT, Int.reduceLE, Int.reduceGT, bel_s, hb, w1, of_s _ _ (f := 5 + b) hR (by omega)]
def Hd (S T : Int) : Int := T + 1 + S * 7
theorem heads_s (md : Md) (h : Heap) {V S T : Int} (hR : Rt V S T) : C md 37 [(Value.agg #[(Value.int .i64 V), (Value.int .i64 S), (Value.int .i64 T)])] h = some ((Value.int .i64 (Hd S T)), h) := by
  rw [C, call_eq, F37_eq]
  unfold F37 Hd
  have r := hR
  unfold Rt at r
  have w1 : IntKind.wrap .i64 (T + 1) = T + 1 := wi (by omega) (by omega)
  have w2 : IntKind.wrap .i64 (S * 7) = S * 7 := wi (by omega) (by omega)
  have w3 : IntKind.wrap .i64 (T + 1 + S * 7) = T + 1 + S * 7 := wi (by omega) (by omega)
  simp only [go_sem, Nat.reduceAdd, Nat.reduceLeDiff, Nat.reduceMul, Int.reduceBEq, Int.reduceBNe, Int.reduceLT, Int.reduceLE, Int.reduceGT, free_s, w1, w2, w3]
def Hx (V S T a b : Int) : Int := bif Bl a V && Bl b (Lv V) then Hd S T + a * Lv V + b else -1
theorem head_s (md : Md) (h : Heap) {V S T a b : Int} (hR : Rt V S T) : C md 13 [(Value.agg #[(Value.int .i64 V), (Value.int .i64 S), (Value.int .i64 T)]), (Value.int .i64 a), (Value.int .i64 b)] h = some ((Value.int .i64 (Hx V S T a b)), h) := by
  rw [C, call_eq, F13_eq]
  unfold F13 Hx
  have l := Lv_le hR
  have r := hR
  unfold Rt at r
  cases ha : Bl a V
  · simp only [go_sem, Nat.reduceAdd, Nat.reduceLeDiff, Nat.reduceMul, Int.reduceBEq, Int.reduceBNe, Int.reduceLT, Int.reduceLE, Int.reduceGT, levels_s _ _ hR, bel_s, ha]
  · cases hb : Bl b (Lv V)
    · simp only [go_sem, Nat.reduceAdd, Nat.reduceLeDiff, Nat.reduceMul, Int.reduceBEq, Int.reduceBNe, Int.reduceLT, Int.reduceLE, Int.reduceGT, levels_s _ _ hR, bel_s, ha, hb, aUn_not]
    · have ha' := Bl_t.1 ha
      have hb' := Bl_t.1 hb
      have := mul_le (a := a) (b := Lv V) (m := 16) (n := 5) (by omega) (by omega)
      have hd : Hd S T = T + 1 + S * 7 := rfl
      have w1 : IntKind.wrap .i64 (a * Lv V) = a * Lv V := wi (by omega) (by omega)
      have w2 : IntKind.wrap .i64 (Hd S T + a * Lv V) = Hd S T + a * Lv V := wi (by omega) (by omega)
      have w3 : IntKind.wrap .i64 (Hd S T + a * Lv V + b) = Hd S T + a * Lv V + b := wi (by omega) (by omega)
      simp only [go_sem, Nat.reduceAdd, Nat.reduceLeDiff, Nat.reduceMul, Int.reduceBEq, Int.reduceBNe, Int.reduceLT, Int.reduceLE, Int.reduceGT, levels_s _ _ hR, heads_s _ _ hR, bel_s, ha, hb, aUn_not, w1, w2, w3]
def Eg (V S T : Int) : Int := Hd S T + V * Lv V
theorem Eg_le {V S T : Int} (hR : Rt V S T) : Hd S T = T + 1 + S * 7 ∧ Eg V S T = Hd S T + V * Lv V ∧ 0 ≤ V * Lv V ∧ V * Lv V ≤ 80 := by
  have l := Lv_le hR
  have r := hR
  unfold Rt at r
  have := mul_le (a := V) (b := Lv V) (m := 16) (n := 5) (by omega) (by omega)
  exact ⟨rfl, rfl, by omega, by omega⟩
theorem edges_s (md : Md) (h : Heap) {V S T : Int} (hR : Rt V S T) : C md 60 [(Value.agg #[(Value.int .i64 V), (Value.int .i64 S), (Value.int .i64 T)])] h = some ((Value.int .i64 (Eg V S T)), h) := by
  rw [C, call_eq, F60_eq]
  unfold F60
  have e := Eg_le hR
  have r := hR
  unfold Rt at r
  have w1 : IntKind.wrap .i64 (V * Lv V) = V * Lv V := wi (by omega) (by omega)
  have w2 : IntKind.wrap .i64 (Hd S T + V * Lv V) = Eg V S T := wi (by omega) (by omega)
  simp only [go_sem, Nat.reduceAdd, Nat.reduceLeDiff, Nat.reduceMul, Int.reduceBEq, Int.reduceBNe, Int.reduceLT, Int.reduceLE, Int.reduceGT, heads_s _ _ hR, levels_s _ _ hR, w1, w2]
/-- The place of an edge among the edges: of the lesser vertex, of the other one. -/
def eI (V a b : Int) : Int := a * (2 * V - a - 1) / 2 + b - a - 1
def mn (a b : Int) : Int := if b < a then b else a
def mx (a b : Int) : Int := if b > a then b else a
def Ex (V S T a b : Int) : Int := bif (mn a b == mx a b) || (!Bl (mn a b) V || !Bl (mx a b) V) then -1 else Eg V S T + eI V (mn a b) (mx a b)
theorem edge_s (md : Md) (h : Heap) {V S T a b : Int} (hR : Rt V S T) : C md 43 [(Value.agg #[(Value.int .i64 V), (Value.int .i64 S), (Value.int .i64 T)]), (Value.int .i64 a), (Value.int .i64 b)] h = some ((Value.int .i64 (Ex V S T a b)), h) := by
  rw [C, call_eq, F43_eq]
  unfold F43 Ex
  have e := Eg_le hR
  have r := hR
  unfold Rt at r
  show _ = some ((Value.int .i64 (bif (mn a b == mx a b) || (!Bl (mn a b) V || !Bl (mx a b) V) then -1 else Eg V S T + eI V (mn a b) (mx a b))), h)
  rw [show (if b < a then b else a) = mn a b from rfl, show (if b > a then b else a) = mx a b from rfl]
  cases he : (mn a b == mx a b)
  · cases ha : Bl (mn a b) V
    · simp only [go_sem, Nat.reduceAdd, Nat.reduceLeDiff, Nat.reduceMul, Int.reduceBEq, Int.reduceBNe, Int.reduceLT, Int.reduceLE, Int.reduceGT, bel_s, he, ha, aUn_not]
    · cases hb : Bl (mx a b) V
      · simp only [go_sem, Nat.reduceAdd, Nat.reduceLeDiff, Nat.reduceMul, Int.reduceBEq, Int.reduceBNe, Int.reduceLT, Int.reduceLE, Int.reduceGT, bel_s, he, ha, hb, aUn_not]
      · have ha' := Bl_t.1 ha
        have hb' := Bl_t.1 hb
        have := mul_le (a := mn a b) (b := 2 * V - mn a b - 1) (m := 16) (n := 32) (by omega) (by omega)
        have w1 : IntKind.wrap .i64 (2 * V) = 2 * V := wi (by omega) (by omega)
        have w2 : IntKind.wrap .i64 (2 * V - mn a b) = 2 * V - mn a b := wi (by omega) (by omega)
        have w3 : IntKind.wrap .i64 (2 * V - mn a b - 1) = 2 * V - mn a b - 1 := wi (by omega) (by omega)
        have w4 : IntKind.wrap .i64 (mn a b * (2 * V - mn a b - 1)) = mn a b * (2 * V - mn a b - 1) := wi (by omega) (by omega)
        have t : Int.tdiv (mn a b * (2 * V - mn a b - 1)) 2 = mn a b * (2 * V - mn a b - 1) / 2 := Int.tdiv_eq_ediv_of_nonneg (by omega)
        have w5 : IntKind.wrap .i64 (mn a b * (2 * V - mn a b - 1) / 2) = mn a b * (2 * V - mn a b - 1) / 2 := wi (by omega) (by omega)
        have w6 : IntKind.wrap .i64 (Eg V S T + mn a b * (2 * V - mn a b - 1) / 2) = Eg V S T + mn a b * (2 * V - mn a b - 1) / 2 := wi (by omega) (by omega)
        have w7 : IntKind.wrap .i64 (Eg V S T + mn a b * (2 * V - mn a b - 1) / 2 + mx a b) = Eg V S T + mn a b * (2 * V - mn a b - 1) / 2 + mx a b := wi (by omega) (by omega)
        have w8 : IntKind.wrap .i64 (Eg V S T + mn a b * (2 * V - mn a b - 1) / 2 + mx a b - mn a b) = Eg V S T + mn a b * (2 * V - mn a b - 1) / 2 + mx a b - mn a b := wi (by omega) (by omega)
        have w9 : IntKind.wrap .i64 (Eg V S T + mn a b * (2 * V - mn a b - 1) / 2 + mx a b - mn a b - 1) = Eg V S T + eI V (mn a b) (mx a b) := by rw [wi (by omega) (by omega)]; unfold eI; omega
        simp only [go_sem, Nat.reduceAdd, Nat.reduceLeDiff, Nat.reduceMul, Int.reduceBEq, Int.reduceBNe, Int.reduceLT, Int.reduceLE, Int.reduceGT, bel_s, he, ha, hb, aUn_not, edges_s _ _ hR, w1, w2, w3, w4, t, w5, w6, w7, w8, w9]
  · simp only [go_sem, Nat.reduceAdd, Nat.reduceLeDiff, Nat.reduceMul, Int.reduceBEq, Int.reduceBNe, Int.reduceLT, Int.reduceLE, Int.reduceGT, he]
def Nd (V S T : Int) : Int := Eg V S T + V * (V - 1) / 2
theorem Nd_le {V S T : Int} (hR : Rt V S T) : Nd V S T = Eg V S T + V * (V - 1) / 2 ∧ 0 ≤ V * (V - 1) ∧ V * (V - 1) ≤ 240 := by
  have r := hR
  unfold Rt at r
  have := mul_le (a := V) (b := V - 1) (m := 16) (n := 15) (by omega) (by omega)
  exact ⟨rfl, by omega, by omega⟩
theorem nd_s (md : Md) (h : Heap) {V S T : Int} (hR : Rt V S T) : C md 50 [(Value.agg #[(Value.int .i64 V), (Value.int .i64 S), (Value.int .i64 T)])] h = some ((Value.int .i64 (Nd V S T)), h) := by
  rw [C, call_eq, F50_eq]
  unfold F50
  have e := Eg_le hR
  have n := Nd_le hR
  have r := hR
  unfold Rt at r
  have w1 : IntKind.wrap .i64 (V - 1) = V - 1 := wi (by omega) (by omega)
  have w2 : IntKind.wrap .i64 (V * (V - 1)) = V * (V - 1) := wi (by omega) (by omega)
  have t : Int.tdiv (V * (V - 1)) 2 = V * (V - 1) / 2 := Int.tdiv_eq_ediv_of_nonneg (by omega)
  have w3 : IntKind.wrap .i64 (V * (V - 1) / 2) = V * (V - 1) / 2 := wi (by omega) (by omega)
  have w4 : IntKind.wrap .i64 (Eg V S T + V * (V - 1) / 2) = Nd V S T := wi (by omega) (by omega)
  simp only [go_sem, Nat.reduceAdd, Nat.reduceLeDiff, Nat.reduceMul, Int.reduceBEq, Int.reduceBNe, Int.reduceLT, Int.reduceLE, Int.reduceGT, edges_s _ _ hR, w1, w2, t, w3, w4]
def Fx (V S T a b : Int) : Int := bif Bl (a - 1) (Nn V S) && Bl b 7 then Nd V S T + (a - 1) * 7 + b else -1
theorem field_s (md : Md) (h : Heap) {V S T a b : Int} (hR : Rt V S T) (ha : I64 a) : C md 54 [(Value.agg #[(Value.int .i64 V), (Value.int .i64 S), (Value.int .i64 T)]), (Value.int .i64 a), (Value.int .i64 b)] h = some ((Value.int .i64 (Fx V S T a b)), h) := by
  rw [C, call_eq, F54_eq]
  unfold F54 Fx
  have e := Eg_le hR
  have n := Nd_le hR
  have l := Nn_le hR
  have nn : Nn V S = Lv V * V + S * (2 * Lv V) := rfl
  have r := hR
  unfold Rt at r
  have p := Bl_pred (n := Nn V S) ha (by omega)
  cases h1 : Bl (a - 1) (Nn V S)
  · rw [h1] at p
    simp only [go_sem, Nat.reduceAdd, Nat.reduceLeDiff, Nat.reduceMul, Int.reduceBEq, Int.reduceBNe, Int.reduceLT, Int.reduceLE, Int.reduceGT, nodes_s _ _ hR, bel_s, p]
  · rw [h1] at p
    cases hb : Bl b 7
    · simp only [go_sem, Nat.reduceAdd, Nat.reduceLeDiff, Nat.reduceMul, Int.reduceBEq, Int.reduceBNe, Int.reduceLT, Int.reduceLE, Int.reduceGT, nodes_s _ _ hR, bel_s, p, hb, aUn_not]
    · have h1' := Bl_t.1 h1
      have hb' := Bl_t.1 hb
      have w1 : IntKind.wrap .i64 (a - 1) = a - 1 := wi (by omega) (by omega)
      have w2 : IntKind.wrap .i64 ((a - 1) * 7) = (a - 1) * 7 := wi (by omega) (by omega)
      have w3 : IntKind.wrap .i64 (Nd V S T + (a - 1) * 7) = Nd V S T + (a - 1) * 7 := wi (by omega) (by omega)
      have w4 : IntKind.wrap .i64 (Nd V S T + (a - 1) * 7 + b) = Nd V S T + (a - 1) * 7 + b := wi (by omega) (by omega)
      simp only [go_sem, Nat.reduceAdd, Nat.reduceLeDiff, Nat.reduceMul, Int.reduceBEq, Int.reduceBNe, Int.reduceLT, Int.reduceLE, Int.reduceGT, nodes_s _ _ hR, nd_s _ _ hR, bel_s, w1, h1, hb, aUn_not, w2, w3, w4]
def Cn (V S T : Int) : Int := Nd V S T + Nn V S * 7
theorem Cn_le {V S T : Int} (hR : Rt V S T) : 0 ≤ Cn V S T ∧ Cn V S T ≤ 5000 ∧ 1 ≤ Nn V S ∧ Nn V S ≤ 560 := by
  have e := Eg_le hR
  have n := Nd_le hR
  have l := Nn_le hR
  have nn : Nn V S = Lv V * V + S * (2 * Lv V) := rfl
  have cn : Cn V S T = Nd V S T + Nn V S * 7 := rfl
  have lv := Lv_le hR
  have r := hR
  unfold Rt at r
  have : 1 * 1 ≤ Lv V * V := Int.mul_le_mul (by omega) (by omega) (by omega) (by omega)
  omega
theorem cells_s (md : Md) (h : Heap) {V S T : Int} (hR : Rt V S T) : C md 25 [(Value.agg #[(Value.int .i64 V), (Value.int .i64 S), (Value.int .i64 T)])] h = some ((Value.int .i64 (Cn V S T)), h) := by
  rw [C, call_eq, F25_eq]
  unfold F25
  have c := Cn_le hR
  have cn : Cn V S T = Nd V S T + Nn V S * 7 := rfl
  have w1 : IntKind.wrap .i64 (Nn V S * 7) = Nn V S * 7 := wi (by omega) (by omega)
  have w2 : IntKind.wrap .i64 (Nd V S T + Nn V S * 7) = Cn V S T := wi (by omega) (by omega)
  simp only [go_sem, Nat.reduceAdd, Nat.reduceLeDiff, Nat.reduceMul, Int.reduceBEq, Int.reduceBNe, Int.reduceLT, Int.reduceLE, Int.reduceGT, nd_s _ _ hR, nodes_s _ _ hR, w1, w2]
end Go.Det.E

/- An arena as memory: loads and stores. -/
namespace Go.Det.E
open Go.Proofs Go.Det
attribute [local congr] bind_c cond_c
theorem uPu : Try.prog.underlying 134 = some (.pointer 51) := by kernel_rfl
theorem uSu : Try.prog.underlying 87 = some (.slice 51) := by kernel_rfl
def arC (b : Nat) (n : Nat) (c : List Int) : List Value := .slice (some ⟨b, 0, none⟩) n 1 :: c.map (.int .i64)
/-- An arena at a block, its cells at another one. -/
structure Ar (h : Heap) (a b : Nat) (l c : List Int) : Prop where
  ha : h[a]? = some (.own (arC b l.length c))
  hb : h[b]? = some (.own (l.map (.int .u64)))
  hc : c.length = 5
  ne : a ≠ b
def up (c : List Int) (j : Nat) : List Int := c.set j (IntKind.wrap .i64 (c.getD j 0 + 1))
theorem arC_set (b n : Nat) (c : List Int) (j : Nat) (x : Int) : (arC b n c).set (j + 1) (.int .i64 x) = arC b n (c.set j x) := by
  simp [arC, List.map_set]
theorem arC_get {b n : Nat} {c : List Int} {j : Nat} (hj : j < c.length) : (arC b n c)[j + 1]? = some (.int .i64 (c.getD j 0)) := by
  simp [arC, hj, List.getD]
theorem at_s {md : Md} {h : Heap} {a b j : Nat} {l c : List Int} (A : Ar h a b l c) (hro : md.ro ≤ a) (hj : j < 5) {i : Int} (h0 : 0 ≤ i) (h1 : i < l.length) :
    C md 103 [(Value.pointer (some ⟨a, 0, none⟩)), (Value.int .i64 i), (Value.pointer (some ⟨a, j + 1, none⟩))] h = some ((Value.pointer (some ⟨b, i.toNat, none⟩)), h.set a (.own (arC b l.length (up c j)))) := by
  rw [C, call_eq, F103_eq]
  unfold F103
  have hi0 : ¬ i < 0 := by omega
  have hi1 : ¬ (l.length : Int) ≤ i := by omega
  have r1 : rd h a 0 = some ((Value.slice (some ⟨b, 0, none⟩) l.length 1)) := by rw [rd_own A.ha]; rfl
  have r2 : rd h a (j + 1) = some (.int .i64 (c.getD j 0)) := by rw [rd_own A.ha, arC_get (by rw [A.hc]; exact hj)]
  have hlen : j + 1 < (arC b l.length c).length := by simp [arC, A.hc]; omega
  have w1 : wrN ⟨md.ro, h.length⟩ h a (j + 1) [.int .i64 (IntKind.wrap .i64 (c.getD j 0 + 1))] = some (h.set a (.own (arC b l.length (up c j)))) := by
    rw [wr_own (md := ⟨md.ro, h.length⟩) (v := .int .i64 (IntKind.wrap .i64 (c.getD j 0 + 1))) A.ha hro rfl hlen, arC_set]; rfl
  have r3 : rd (h.set a (.own (arC b l.length (up c j)))) a 0 = some ((Value.slice (some ⟨b, 0, none⟩) l.length 1)) := by rw [rd_own (set_here A.ha)]; rfl
  have bl : Nat.blt b h.length = true := by have := lt_of A.hb; simp [Nat.blt]; omega
  have tk : (h.set a (.own (arC b l.length (up c j)))).take h.length = h.set a (.own (arC b l.length (up c j))) := take_same (by simp)
  have hx := fun (k : Value → Option (Value × Heap)) => ixS_p 1 b 0 l.length 1 i k ⟨h0, h1⟩
  simp only [go_sem, Nat.reduceAdd, Nat.reduceLeDiff, Nat.reduceMul, Int.reduceBEq, Int.reduceBNe, Int.reduceLT, Int.reduceLE, Int.reduceGT, hi0, hi1, r1, r2, r3, w1, aBin_geq, hx, bl, tk]
theorem at_none {md : Md} {h : Heap} {a b j : Nat} {l c : List Int} (A : Ar h a b l c) {i : Int} (hi : i < 0 ∨ (l.length : Int) ≤ i) :
    C md 103 [(Value.pointer (some ⟨a, 0, none⟩)), (Value.int .i64 i), (Value.pointer (some ⟨a, j + 1, none⟩))] h = some (.pointer none, h) := by
  rw [C, call_eq, F103_eq]
  unfold F103
  have r1 : rd h a 0 = some ((Value.slice (some ⟨b, 0, none⟩) l.length 1)) := by rw [rd_own A.ha]; rfl
  have tk : h.take h.length = h := take_same (Nat.le_refl _)
  by_cases hi0 : i < 0
  · simp only [go_sem, Nat.reduceAdd, Nat.reduceLeDiff, Nat.reduceMul, Int.reduceBEq, Int.reduceBNe, Int.reduceLT, Int.reduceLE, Int.reduceGT, hi0, tk]
  · have hi1 : (l.length : Int) ≤ i := by omega
    simp only [go_sem, Nat.reduceAdd, Nat.reduceLeDiff, Nat.reduceMul, Int.reduceBEq, Int.reduceBNe, Int.reduceLT, Int.reduceLE, Int.reduceGT, hi0, hi1, r1, aBin_geq, tk]
theorem Ar.count {h : Heap} {a b : Nat} {l c c' : List Int} (A : Ar h a b l c) (hc : c'.length = 5) : Ar (h.set a (.own (arC b l.length c'))) a b l c' :=
  ⟨set_here A.ha, by rw [set_else A.ne]; exact A.hb, hc, A.ne⟩
theorem Ar.cells {h : Heap} {a b : Nat} {l l' c : List Int} (A : Ar h a b l c) (hl : l'.length = l.length) : Ar (h.set b (.own (l'.map (.int .u64)))) a b l' c :=
  ⟨by rw [set_else A.ne.symm, hl]; exact A.ha, set_here A.hb, A.hc, A.ne⟩
theorem up_len (c : List Int) (j : Nat) : (up c j).length = c.length := by simp [up]
theorem Ar.up {h : Heap} {a b : Nat} {l c : List Int} (A : Ar h a b l c) (j : Nat) : Ar (h.set a (.own (arC b l.length (up c j)))) a b l (up c j) := A.count (by rw [up_len, A.hc])
theorem Ar.rd {h : Heap} {a b : Nat} {l c : List Int} (A : Ar h a b l c) {i : Nat} (hi : i < l.length) : rd h b i = some (.int .u64 (l.getD i 0)) := by
  rw [rd_own A.hb]; simp [hi, List.getD]
theorem Ar.wr {md : Md} {h : Heap} {a b : Nat} {l c : List Int} (A : Ar h a b l c) (hro : md.ro ≤ b) {i : Nat} (hi : i < l.length) (x : Int) : wrN md h b i [.int .u64 x] = some (h.set b (.own ((l.set i x).map (.int .u64)))) := by
  rw [wr_own (v := .int .u64 x) A.hb hro rfl (by simpa using hi), List.map_set]
theorem load_s {md : Md} {h : Heap} {a b : Nat} {l c : List Int} (A : Ar h a b l c) (hro : md.ro ≤ a) {i : Int} (h0 : 0 ≤ i) (h1 : i < l.length) :
    C md 101 [(Value.pointer (some ⟨a, 0, none⟩)), (Value.int .i64 i)] h = some ((Value.tuple #[(Value.int .u64 (l.getD i.toNat 0)), (Value.int .i64 0)]), h.set a (.own (arC b l.length (up c 0)))) := by
  rw [C, call_eq, F101_eq]
  unfold F101
  have e := at_s (md := ⟨md.ro, h.length⟩) A hro (j := 0) (by decide) h0 h1
  have tk : (h.set a (.own (arC b l.length (up c 0)))).take h.length = h.set a (.own (arC b l.length (up c 0))) := take_same (by simp)
  have r := (A.up 0).rd (i := i.toNat) (by omega)
  simp only [go_sem, Nat.reduceAdd, Nat.reduceLeDiff, Nat.reduceMul, Int.reduceBEq, Int.reduceBNe, Int.reduceLT, Int.reduceLE, Int.reduceGT, e, aBin_eqlP uPu, r, tk]
theorem load_n {md : Md} {h : Heap} {a b : Nat} {l c : List Int} (A : Ar h a b l c) {i : Int} (hi : i < 0 ∨ (l.length : Int) ≤ i) :
    C md 101 [(Value.pointer (some ⟨a, 0, none⟩)), (Value.int .i64 i)] h = some ((Value.tuple #[(Value.int .u64 0), (Value.int .i64 20)]), h) := by
  rw [C, call_eq, F101_eq]
  unfold F101
  have e := at_none (md := ⟨md.ro, h.length⟩) A (j := 0) hi
  have tk : h.take h.length = h := take_same (Nat.le_refl _)
  simp only [go_sem, Nat.reduceAdd, Nat.reduceLeDiff, Nat.reduceMul, Int.reduceBEq, Int.reduceBNe, Int.reduceLT, Int.reduceLE, Int.reduceGT, e, aBin_eqlN uPu, tk]
theorem store_s {md : Md} {h : Heap} {a b : Nat} {l c : List Int} (A : Ar h a b l c) (hro : md.ro ≤ a) (hrb : md.ro ≤ b) {i : Int} (h0 : 0 ≤ i) (h1 : i < l.length) (v : Int) :
    C md 102 [(Value.pointer (some ⟨a, 0, none⟩)), (Value.int .i64 i), (Value.int .u64 v)] h = some ((Value.int .i64 0), (h.set a (.own (arC b l.length (up c 1)))).set b (.own ((l.set i.toNat v).map (.int .u64)))) := by
  rw [C, call_eq, F102_eq]
  unfold F102
  have e := at_s (md := ⟨md.ro, h.length⟩) A hro (j := 1) (by decide) h0 h1
  have w := (A.up 1).wr (md := ⟨md.ro, h.length⟩) hrb (i := i.toNat) (by omega) v
  have tk : ((h.set a (.own (arC b l.length (up c 1)))).set b (.own ((l.set i.toNat v).map (.int .u64)))).take h.length = (h.set a (.own (arC b l.length (up c 1)))).set b (.own ((l.set i.toNat v).map (.int .u64))) := take_same (by simp)
  simp only [go_sem, Nat.reduceAdd, Nat.reduceLeDiff, Nat.reduceMul, Int.reduceBEq, Int.reduceBNe, Int.reduceLT, Int.reduceLE, Int.reduceGT, e, aBin_eqlP uPu, w, tk]
theorem store_n {md : Md} {h : Heap} {a b : Nat} {l c : List Int} (A : Ar h a b l c) {i : Int} (hi : i < 0 ∨ (l.length : Int) ≤ i) (v : Int) :
    C md 102 [(Value.pointer (some ⟨a, 0, none⟩)), (Value.int .i64 i), (Value.int .u64 v)] h = some ((Value.int .i64 20), h) := by
  rw [C, call_eq, F102_eq]
  unfold F102
  have e := at_none (md := ⟨md.ro, h.length⟩) A (j := 1) hi
  have tk : h.take h.length = h := take_same (Nat.le_refl _)
  simp only [go_sem, Nat.reduceAdd, Nat.reduceLeDiff, Nat.reduceMul, Int.reduceBEq, Int.reduceBNe, Int.reduceLT, Int.reduceLE, Int.reduceGT, e, aBin_eqlN uPu, tk]
/-- What a number of a cell holds; what cells are behind a store. -/
def getI (l : List Int) (i : Int) : Int := if 0 ≤ i ∧ i < l.length then l.getD i.toNat 0 else 0
def putI (l : List Int) (i v : Int) : List Int := if 0 ≤ i ∧ i < l.length then l.set i.toNat v else l
theorem putI_len (l : List Int) (i v : Int) : (putI l i v).length = l.length := by unfold putI; split <;> simp
theorem getI_put (l : List Int) (i j v : Int) : getI (putI l i v) j = if i = j ∧ 0 ≤ i ∧ i < l.length then v else getI l j := by
  unfold putI
  by_cases hi : 0 ≤ i ∧ i < l.length
  · rw [if_pos hi]
    unfold getI
    by_cases hj : 0 ≤ j ∧ j < l.length
    · rw [if_pos (by simpa using hj), if_pos hj]
      by_cases e : i = j
      · subst e; rw [if_pos ⟨rfl, hi⟩]
        have : i.toNat < l.length := by omega
        simp [List.getD, this]
      · rw [if_neg (fun h => e h.1)]
        simp only [List.getD]
        rw [List.getElem?_set_ne (by omega)]
    · rw [if_neg (by simpa using hj), if_neg hj, if_neg (fun h => hj (by rw [← h.1]; exact hi))]
  · rw [if_neg hi, if_neg (fun h => hi h.2)]
theorem Ar.app {h : Heap} {a b : Nat} {l c : List Int} (A : Ar h a b l c) (bs : List Blk) : Ar (h ++ bs) a b l c :=
  ⟨by rw [List.getElem?_append_left (lt_of A.ha)]; exact A.ha, by rw [List.getElem?_append_left (lt_of A.hb)]; exact A.hb, A.hc, A.ne⟩
theorem Ar.take {h : Heap} {a b n : Nat} {l c : List Int} (A : Ar h a b l c) (ha : a < n) (hb : b < n) : Ar (h.take n) a b l c :=
  ⟨by rw [List.getElem?_take, if_pos ha]; exact A.ha, by rw [List.getElem?_take, if_pos hb]; exact A.hb, A.hc, A.ne⟩
theorem Ar.old {h h' : Heap} {a b n : Nat} {l c : List Int} (A : Ar h a b l c) (O : Old n h h') (ha : a < n) (hb : b < n) : Ar h' a b l c :=
  ⟨(O.old _ ha).trans A.ha, (O.old _ hb).trans A.hb, A.hc, A.ne⟩
theorem aload_e {md : Md} {h : Heap} {a b : Nat} {l c : List Int} (A : Ar h a b l c) (hro : md.ro ≤ a) (i : Int) :
    ∃ h' c' e, C md 101 [(Value.pointer (some ⟨a, 0, none⟩)), (Value.int .i64 i)] h = some ((Value.tuple #[(Value.int .u64 (getI l i)), (Value.int .i64 e)]), h') ∧ Ar h' a b l c' ∧ Only a b h h' := by
  by_cases hi : 0 ≤ i ∧ i < l.length
  · refine ⟨_, up c 0, 0, ?_, A.up 0, Only.one _⟩
    rw [load_s A hro hi.1 hi.2, getI, if_pos hi]
  · refine ⟨h, c, 20, ?_, A, Only.refl⟩
    rw [load_n A (by omega), getI, if_neg hi]
theorem astore_e {md : Md} {h : Heap} {a b : Nat} {l c : List Int} (A : Ar h a b l c) (hro : md.ro ≤ a) (hrb : md.ro ≤ b) (i v : Int) :
    ∃ h' c' e, C md 102 [(Value.pointer (some ⟨a, 0, none⟩)), (Value.int .i64 i), (Value.int .u64 v)] h = some ((Value.int .i64 e), h') ∧ Ar h' a b (putI l i v) c' ∧ Only a b h h' := by
  by_cases hi : 0 ≤ i ∧ i < l.length
  · refine ⟨_, up c 1, 0, store_s A hro hrb hi.1 hi.2 v, ?_, Only.two _ _⟩
    rw [putI, if_pos hi]
    exact (A.up 1).cells (by simp)
  · refine ⟨h, c, 20, store_n A (by omega) v, ?_, Only.refl⟩
    rw [putI, if_neg hi]; exact A
theorem tU : SlT Try.prog 87 51 1 8 [(Value.int .u64 0)] := ⟨uSu, by kernel_rfl, by kernel_rfl, rfl, by decide, by decide, rfl⟩
theorem bAr {α : Type} {a : Option Addr} {n c : Nat} (k : Value → Option α) : aBuild Try.prog 91 [(0, .slice a n c)] k = k (.agg #[.slice a n c, (Value.int .i64 0), (Value.int .i64 0), (Value.int .i64 0), (Value.int .i64 0), (Value.int .i64 0)]) := by kernel_rfl
theorem cells_agg (l : List Value) : (Value.agg l.toArray).cells.toList = l := by simp [Value.cells]
theorem repL_int (n : Nat) : repL n [(Value.int .u64 0)] = (List.replicate n (0 : Int)).map (.int .u64) := by
  induction n with
  | zero => rfl
  | succ n ih => simp only [repL, ih, List.replicate_succ, List.map_cons]; rfl
theorem new_e (md : Md) (h : Heap) {n : Int} (h0 : 0 ≤ n) (h1 : n ≤ 16384) :
    ∃ h' a b, C md 24 [(Value.int .i64 n)] h = some ((Value.tuple #[(Value.pointer (some ⟨a, 0, none⟩)), (Value.int .i64 0)]), h') ∧ Ar h' a b (List.replicate n.toNat 0) [0, 0, 0, 0, 0] ∧ Old h.length h h' ∧ h.length ≤ a ∧ h.length ≤ b := by
  refine ⟨h ++ [.own ((List.replicate n.toNat (0 : Int)).map (.int .u64)), .own (arC h.length n.toNat [0, 0, 0, 0, 0])], h.length + 1, h.length, ?_, ⟨?_, ?_, rfl, by omega⟩, Old.app _ (Nat.le_refl _), by omega, Nat.le_refl _⟩
  · rw [C, call_eq, F24_eq]
    unfold F24
    have e0 : ¬ n < 0 := by omega
    have e1 : ¬ 16384 < n := by omega
    have hm := fun (h : Heap) (k : Value → Heap → Option (Value × Heap)) => make_p tU h0 (Int.le_refl n) (by omega) (by omega) h k
    simp only [go_sem, Nat.reduceAdd, Nat.reduceLeDiff, Nat.reduceMul, Int.reduceBEq, Int.reduceBNe, Int.reduceLT, Int.reduceLE, Int.reduceGT, e0, e1, aBin_gtr, hm, bAr, cells_agg, repL_int]
    rfl
  · rw [List.getElem?_append_right (by omega), Nat.add_sub_cancel_left, List.length_replicate]; rfl
  · rw [List.getElem?_append_right (Nat.le_refl _), Nat.sub_self]; rfl
/-- Memory as an interface's value. -/
abbrev ifA (a : Nat) : Value := .iface 72 ((Value.agg #[(Value.pointer (some ⟨a, 0, none⟩))]))
theorem clI_load {α : Type} {rc : Rec} {md : Md} {x : Value} {args : List Value} {h : Heap} {k : Value → Heap → Option α} : clI Try.prog rc md (.iface 72 x) "Load" args h k = cl (rc md 104 (x :: args) h) k := by
  have e : aMethod Try.prog 72 x "Load" = some (104, x) := by kernel_rfl
  unfold clI; simp only [e]
theorem clI_store {α : Type} {rc : Rec} {md : Md} {x : Value} {args : List Value} {h : Heap} {k : Value → Heap → Option α} : clI Try.prog rc md (.iface 72 x) "Store" args h k = cl (rc md 105 (x :: args) h) k := by
  have e : aMethod Try.prog 72 x "Store" = some (105, x) := by kernel_rfl
  unfold clI; simp only [e]
theorem pload_e {md : Md} {h : Heap} {a b : Nat} {l c : List Int} (A : Ar h a b l c) (hro : md.ro ≤ a) (i : Int) :
    ∃ h' c', C md 104 [(Value.agg #[(Value.pointer (some ⟨a, 0, none⟩))]), (Value.int .i64 i)] h = some ((Value.int .u64 (getI l i)), h') ∧ Ar h' a b l c' ∧ Only a b h h' := by
  have la := lt_of A.ha
  have lb := lt_of A.hb
  obtain ⟨h1, c1, e, e1, A1, o1⟩ := aload_e (md := ⟨md.ro, h.length⟩) (A.app [.own [(Value.pointer (some ⟨a, 0, none⟩))]]) hro i
  refine ⟨h1.take h.length, c1, ?_, A1.take la lb, o1.take⟩
  rw [C, call_eq, F104_eq]
  unfold F104
  simp only [go_sem, Nat.reduceAdd, Nat.reduceLeDiff, Nat.reduceMul, Int.reduceBEq, Int.reduceBNe, Int.reduceLT, Int.reduceLE, Int.reduceGT, e1]
theorem pstore_e {md : Md} {h : Heap} {a b : Nat} {l c : List Int} (A : Ar h a b l c) (hro : md.ro ≤ a) (hrb : md.ro ≤ b) (i v : Int) :
    ∃ h' c', C md 105 [(Value.agg #[(Value.pointer (some ⟨a, 0, none⟩))]), (Value.int .i64 i), (Value.int .u64 v)] h = some ((Value.tuple #[]), h') ∧ Ar h' a b (putI l i v) c' ∧ Only a b h h' := by
  have la := lt_of A.ha
  have lb := lt_of A.hb
  obtain ⟨h1, c1, e, e1, A1, o1⟩ := astore_e (md := ⟨md.ro, h.length⟩) (A.app [.own [(Value.pointer (some ⟨a, 0, none⟩))]]) hro hrb i v
  refine ⟨h1.take h.length, c1, ?_, A1.take la lb, o1.take⟩
  rw [C, call_eq, F105_eq]
  unfold F105
  simp only [go_sem, Nat.reduceAdd, Nat.reduceLeDiff, Nat.reduceMul, Int.reduceBEq, Int.reduceBNe, Int.reduceLT, Int.reduceLE, Int.reduceGT, e1]
theorem memof_s (md : Md) (h : Heap) {a : Nat} (ha : a < h.length) : C md 26 [(Value.pointer (some ⟨a, 0, none⟩))] h = some ((Value.agg #[(Value.pointer (some ⟨a, 0, none⟩))]), h) := by
  rw [C, call_eq, F26_eq]
  unfold F26
  have b : aBuild Try.prog 72 [(0, (Value.pointer (some ⟨a, 0, none⟩)))] = fun (k : Value → Option (Value × Heap)) => k ((Value.agg #[(Value.pointer (some ⟨a, 0, none⟩))])) := by kernel_rfl
  have bl : Nat.blt a h.length = true := by simp [Nat.blt]; omega
  have s := fun (hh : Heap) (k : Heap → Option (Value × Heap)) => st_N ⟨h.length, h.length⟩ 1 h.length 0 [(Value.pointer (some ⟨a, 0, none⟩))] hh k rfl rfl
  simp only [go_sem, Nat.reduceAdd, Nat.reduceLeDiff, Nat.reduceMul, Int.reduceBEq, Int.reduceBNe, Int.reduceLT, Int.reduceLE, Int.reduceGT, b, s, bl]
end Go.Det.E

/- An arena as memory, with its counts. -/
namespace Go.Det.E
open Go.Proofs Go.Det
attribute [local congr] bind_c cond_c
/-- Is there such a cell? -/
def inR (l : List Int) (i : Int) : Prop := 0 ≤ i ∧ i < l.length
instance (l : List Int) (i : Int) : Decidable (inR l i) := by unfold inR; infer_instance
theorem getI_in {l : List Int} {i : Int} (h : inR l i) : getI l i = l.getD i.toNat 0 := if_pos h
theorem getI_out {l : List Int} {i : Int} (h : ¬ inR l i) : getI l i = 0 := if_neg h
theorem putI_in {l : List Int} {i v : Int} (h : inR l i) : putI l i v = l.set i.toNat v := if_pos h
theorem putI_out {l : List Int} {i v : Int} (h : ¬ inR l i) : putI l i v = l := if_neg h
def erR (l : List Int) (i : Int) : Int := if inR l i then 0 else 20
/-- The counts after a load; after a store. -/
def cL (l c : List Int) (i : Int) : List Int := if inR l i then up c 0 else c
def cS (l c : List Int) (i : Int) : List Int := if inR l i then up c 1 else c
variable {md : Md} {h : Heap} {a b : Nat} {l c : List Int}
theorem ld_x (A : Ar h a b l c) (hro : md.ro ≤ a) (i : Int) :
    ∃ h', C md 101 [(Value.pointer (some ⟨a, 0, none⟩)), (Value.int .i64 i)] h = some ((Value.tuple #[(Value.int .u64 (getI l i)), (Value.int .i64 (erR l i))]), h') ∧ Ar h' a b l (cL l c i) ∧ Only a b h h' := by
  by_cases hi : inR l i
  · refine ⟨_, ?_, by rw [cL, if_pos hi]; exact A.up 0, Only.one _⟩
    rw [load_s A hro hi.1 hi.2, getI_in hi, erR, if_pos hi]
  · refine ⟨h, ?_, by rw [cL, if_neg hi]; exact A, Only.refl⟩
    rw [load_n A (by unfold inR at hi; omega), getI_out hi, erR, if_neg hi]
theorem st_x (A : Ar h a b l c) (hro : md.ro ≤ a) (hrb : md.ro ≤ b) (i v : Int) :
    ∃ h', C md 102 [(Value.pointer (some ⟨a, 0, none⟩)), (Value.int .i64 i), (Value.int .u64 v)] h = some ((Value.int .i64 (erR l i)), h') ∧ Ar h' a b (putI l i v) (cS l c i) ∧ Only a b h h' := by
  by_cases hi : inR l i
  · refine ⟨_, by rw [store_s A hro hrb hi.1 hi.2 v, erR, if_pos hi], ?_, Only.two _ _⟩
    rw [putI_in hi, cS, if_pos hi]
    exact (A.up 1).cells (by simp)
  · refine ⟨h, by rw [store_n A (by unfold inR at hi; omega) v, erR, if_neg hi], ?_, Only.refl⟩
    rw [putI_out hi, cS, if_neg hi]; exact A
theorem pl_x (A : Ar h a b l c) (hro : md.ro ≤ a) (i : Int) :
    ∃ h', C md 104 [(Value.agg #[(Value.pointer (some ⟨a, 0, none⟩))]), (Value.int .i64 i)] h = some ((Value.int .u64 (getI l i)), h') ∧ Ar h' a b l (cL l c i) ∧ Only a b h h' := by
  have la := lt_of A.ha
  have lb := lt_of A.hb
  obtain ⟨h1, e1, A1, o1⟩ := ld_x (md := ⟨md.ro, h.length⟩) (A.app [.own [(Value.pointer (some ⟨a, 0, none⟩))]]) hro i
  refine ⟨h1.take h.length, ?_, A1.take la lb, o1.take⟩
  rw [C, call_eq, F104_eq]
  unfold F104
  simp only [go_sem, Nat.reduceAdd, Nat.reduceLeDiff, Nat.reduceMul, Int.reduceBEq, Int.reduceBNe, Int.reduceLT, Int.reduceLE, Int.reduceGT, e1]
theorem ps_x (A : Ar h a b l c) (hro : md.ro ≤ a) (hrb : md.ro ≤ b) (i v : Int) :
    ∃ h', C md 105 [(Value.agg #[(Value.pointer (some ⟨a, 0, none⟩))]), (Value.int .i64 i), (Value.int .u64 v)] h = some ((Value.tuple #[]), h') ∧ Ar h' a b (putI l i v) (cS l c i) ∧ Only a b h h' := by
  have la := lt_of A.ha
  have lb := lt_of A.hb
  obtain ⟨h1, e1, A1, o1⟩ := st_x (md := ⟨md.ro, h.length⟩) (A.app [.own [(Value.pointer (some ⟨a, 0, none⟩))]]) hro hrb i v
  refine ⟨h1.take h.length, ?_, A1.take la lb, o1.take⟩
  rw [C, call_eq, F105_eq]
  unfold F105
  simp only [go_sem, Nat.reduceAdd, Nat.reduceLeDiff, Nat.reduceMul, Int.reduceBEq, Int.reduceBNe, Int.reduceLT, Int.reduceLE, Int.reduceGT, e1]
/-- All cells have numbers of 64 bits. -/
def Wd (l : List Int) : Prop := ∀ x ∈ l, 0 ≤ x ∧ x < 18446744073709551616
theorem Wd.get {l : List Int} (w : Wd l) (i : Int) : 0 ≤ getI l i ∧ getI l i < 18446744073709551616 := by
  unfold getI
  split
  · rename_i hi
    have : i.toNat < l.length := by omega
    rw [List.getD, List.getElem?_eq_getElem this]
    exact w _ (List.getElem_mem _)
  · omega
theorem Wd.put {l : List Int} (w : Wd l) (i : Int) {v : Int} (hv : 0 ≤ v ∧ v < 18446744073709551616) : Wd (putI l i v) := by
  unfold putI
  split
  · intro x hx
    rcases List.mem_or_eq_of_mem_set hx with h | h
    · exact w x h
    · subst h; exact hv
  · exact w
theorem Wd.zero (n : Nat) : Wd (List.replicate n 0) := by
  intro x hx
  have := (List.mem_replicate.1 hx).2
  omega
theorem Ar.same {h h' : Heap} {a b : Nat} {l c : List Int} (A : Ar h a b l c) (ha : h'[a]? = h[a]?) (hb : h'[b]? = h[b]?) : Ar h' a b l c := ⟨ha.trans A.ha, hb.trans A.hb, A.hc, A.ne⟩
end Go.Det.E

/- What the functions of the words answer. -/
namespace Go.Det.E.W
open Go.Proofs Go.Det Go.Det.E
attribute [local congr] bind_c cond_c

def inW (a b : Int) : Bool := decide (0 ≤ a ∧ a ≤ b)
theorem u3 : Try.prog.underlying 3 = some (.int .i64) := by kernel_rfl
theorem u4 : Try.prog.underlying 4 = some .bool := by kernel_rfl
theorem u24 : Try.prog.underlying 51 = some (.int .u64) := by kernel_rfl
theorem wu {x : Int} (h0 : 0 ≤ x) (h1 : x < 18446744073709551616) : IntKind.wrap .u64 x = x := by rw [IntKind.wrap_u64]; omega
theorem wi {x : Int} (h0 : -9223372036854775808 ≤ x) (h1 : x < 9223372036854775808) : IntKind.wrap .i64 x = x := by rw [IntKind.wrap_i64]; omega
theorem or_add (i : Nat) (a b : Int) (ha : 0 ≤ a) (hai : a < 2 ^ i) (hb : 0 ≤ b) (hs : a + b * 2 ^ i < 18446744073709551616) : bOr .u64 a (b * 2 ^ i) = a + b * 2 ^ i := by
  obtain ⟨x, rfl⟩ := Int.eq_ofNat_of_zero_le ha
  obtain ⟨y, rfl⟩ := Int.eq_ofNat_of_zero_le hb
  have e : (y : Int) * 2 ^ i = ((y * 2 ^ i : Nat) : Int) := by push_cast; rfl
  rw [e] at hs ⊢
  have hx : x < 2 ^ i := by exact_mod_cast hai
  have h := bits_or_u64_nat x (y * 2 ^ i) (by omega) (by omega)
  refine Eq.trans h ?_
  rw [Nat.or_comm, Nat.mul_comm, ← Nat.two_pow_add_eq_or_of_lt hx]
  push_cast
  omega

theorem within_s (md : Md) (a b : Int) (h : Heap) : C md 81 [.int .i64 a, .int .i64 b] h = some (.bool (inW a b), h) := by
  rw [C, call_eq, F81_eq]
  unfold F81
  by_cases h0 : 0 ≤ a
  · simp only [go_sem, Nat.reduceAdd, Nat.reduceLeDiff, Nat.reduceMul, Int.reduceBEq, Int.reduceBNe, Int.reduceLT, Int.reduceLE, Int.reduceGT, h0, ge_iff_le, aBin_leq, inW, true_and]
  · simp only [go_sem, Nat.reduceAdd, Nat.reduceLeDiff, Nat.reduceMul, Int.reduceBEq, Int.reduceBNe, Int.reduceLT, Int.reduceLE, Int.reduceGT, h0, ge_iff_le, inW, false_and]
theorem plain_s (md : Md) (a b c d : Int) (h : Heap) : C md 82 [.agg #[.int .i64 a, .int .i64 b, .int .i64 c, .int .i64 d]] h = some (.bool (c == 0), h) := by
  rw [C, call_eq, F82_eq]
  unfold F82
  simp only [go_sem, Nat.reduceAdd, Nat.reduceLeDiff, Nat.reduceMul, Int.reduceBEq, Int.reduceBNe, Int.reduceLT, Int.reduceLE, Int.reduceGT]
def rightW (o n t g : Int) : Bool := inW o 65535 && inW n 65535 && inW t 8 && inW g 16777215 && (t != 0 || (o == n && g == 0))
theorem rightW_iff {o n t g : Int} : rightW o n t g = true ↔ (0 ≤ o ∧ o ≤ 65535) ∧ (0 ≤ n ∧ n ≤ 65535) ∧ (0 ≤ t ∧ t ≤ 8) ∧ (0 ≤ g ∧ g ≤ 16777215) ∧ (t ≠ 0 ∨ o = n ∧ g = 0) := by
  simp [rightW, inW, and_assoc]
theorem right_s (md : Md) (o n t g : Int) (h : Heap) : C md 80 [.agg #[.int .i64 o, .int .i64 n, .int .i64 t, .int .i64 g]] h = some (.bool (rightW o n t g), h) := by
  rw [C, call_eq, F80_eq]
  unfold F80
  rw [rightW]
  cases h1 : inW o 65535
  · simp only [go_sem, Nat.reduceAdd, Nat.reduceLeDiff, Nat.reduceMul, Int.reduceBEq, Int.reduceBNe, Int.reduceLT, Int.reduceLE, Int.reduceGT, within_s, plain_s, h1]
  cases h2 : inW n 65535
  · simp only [go_sem, Nat.reduceAdd, Nat.reduceLeDiff, Nat.reduceMul, Int.reduceBEq, Int.reduceBNe, Int.reduceLT, Int.reduceLE, Int.reduceGT, within_s, plain_s, h1, h2, aUn_not]
  cases h3 : inW t 8
  · simp only [go_sem, Nat.reduceAdd, Nat.reduceLeDiff, Nat.reduceMul, Int.reduceBEq, Int.reduceBNe, Int.reduceLT, Int.reduceLE, Int.reduceGT, within_s, plain_s, h1, h2, h3, aUn_not]
  cases h4 : inW g 16777215
  · simp only [go_sem, Nat.reduceAdd, Nat.reduceLeDiff, Nat.reduceMul, Int.reduceBEq, Int.reduceBNe, Int.reduceLT, Int.reduceLE, Int.reduceGT, within_s, plain_s, h1, h2, h3, h4, aUn_not]
  cases h5 : (t == 0)
  · simp only [go_sem, Nat.reduceAdd, Nat.reduceLeDiff, Nat.reduceMul, Int.reduceBEq, Int.reduceBNe, Int.reduceLT, Int.reduceLE, Int.reduceGT, within_s, plain_s, h1, h2, h3, h4, h5, aUn_not, bne]
  cases h6 : (o == n)
  · simp only [go_sem, Nat.reduceAdd, Nat.reduceLeDiff, Nat.reduceMul, Int.reduceBEq, Int.reduceBNe, Int.reduceLT, Int.reduceLE, Int.reduceGT, within_s, plain_s, h1, h2, h3, h4, h5, h6, aUn_not, aBin_eql, bne]
  · simp only [go_sem, Nat.reduceAdd, Nat.reduceLeDiff, Nat.reduceMul, Int.reduceBEq, Int.reduceBNe, Int.reduceLT, Int.reduceLE, Int.reduceGT, within_s, plain_s, h1, h2, h3, h4, h5, h6, aUn_not, aBin_eql, bne]
def bitsW (o n t g : Int) : Int := ((g * 256 + t) * 65536 + o) * 65536 + n
theorem pack_s (md : Md) (o n t g : Int) (h : Heap) : C md 75 [.agg #[.int .i64 o, .int .i64 n, .int .i64 t, .int .i64 g]] h =
    some (.tuple #[.int .u64 (bif rightW o n t g then bitsW o n t g else 0), .int .i64 (bif rightW o n t g then 0 else 11)], h) := by
  rw [C, call_eq, F75_eq]
  unfold F75
  cases hr : rightW o n t g
  · simp only [go_sem, Nat.reduceAdd, Nat.reduceLeDiff, Nat.reduceMul, Int.reduceBEq, Int.reduceBNe, Int.reduceLT, Int.reduceLE, Int.reduceGT, right_s, hr]
  · simp only [go_sem, Nat.reduceAdd, Nat.reduceLeDiff, Nat.reduceMul, Int.reduceBEq, Int.reduceBNe, Int.reduceLT, Int.reduceLE, Int.reduceGT, right_s, hr]
    obtain ⟨ho, hn, ht, hg, _⟩ := rightW_iff.1 hr
    refine congrArg some (congrArg (fun x => (Value.tuple #[Value.int .u64 x, Value.int .i64 0], h)) ?_)
    rw [wu hn.1 (by omega), wu ho.1 (by omega), wu ht.1 (by omega), wu hg.1 (by omega)]
    rw [wu (x := o * 2 ^ 16) (by omega) (by omega), or_add 16 n o hn.1 (by omega) ho.1 (by omega)]
    rw [wu (x := t * 2 ^ 32) (by omega) (by omega), or_add 32 _ t (by omega) (by omega) ht.1 (by omega)]
    rw [wu (x := g * 2 ^ 40) (by omega) (by omega), or_add 40 _ g (by omega) (by omega) hg.1 (by omega)]
    unfold bitsW
    omega
theorem bits_s (md : Md) (v f n : Nat) (hv : v < 18446744073709551616) (hf : f ≤ 64) (hn : n < 64) (h : Heap) : C md 79 [.int .u64 v, .int .i64 f, .int .i64 n] h = some (.int .i64 (IntKind.wrap .i64 ((v / 2 ^ f % 2 ^ n : Nat) : Int)), h) := by
  rw [C, call_eq, F79_eq]
  unfold F79
  have hp : (2 : Nat) ^ n < 18446744073709551616 := by
    calc 2 ^ n < 2 ^ 64 := Nat.pow_lt_pow_right (by omega) hn
      _ = _ := by decide
  have hp1 : 0 < (2 : Nat) ^ n := Nat.two_pow_pos n
  have e1 : shOp .shr (v : Int) (f : Int) .u64 = some (.int .u64 ((v / 2 ^ f : Nat) : Int)) := by
    unfold shOp
    rw [if_neg (by omega)]
    simp only [Int.toNat_natCast, IntKind.bits, Nat.min_eq_left hf]
    rw [Int.fdiv_eq_ediv_of_nonneg _ (Int.le_of_lt (Int.pow_pos (by decide)))]
    push_cast
    rfl
  have e2 : shOp .shl 1 (n : Int) .u64 = some (.int .u64 ((2 ^ n : Nat) : Int)) := by
    unfold shOp
    rw [if_neg (by omega)]
    simp only [Int.toNat_natCast, IntKind.bits, Nat.min_eq_left (Nat.le_of_lt hn)]
    rw [Int.one_mul, show (2 : Int) ^ n = ((2 ^ n : Nat) : Int) by push_cast; rfl, wu (by omega) (by omega)]
  have hq : v / 2 ^ f < 18446744073709551616 := Nat.lt_of_le_of_lt (Nat.div_le_self _ _) hv
  have e3 : bAnd .u64 ((v / 2 ^ f : Nat) : Int) (IntKind.wrap .u64 (((2 ^ n : Nat) : Int) - 1)) = ((v / 2 ^ f % 2 ^ n : Nat) : Int) := by
    rw [wu (by omega) (by omega), show (((2 ^ n : Nat) : Int) - 1) = ((2 ^ n - 1 : Nat) : Int) by omega]
    refine Eq.trans (bits_and_u64_nat _ _ hq (by omega)) ?_
    rw [Nat.and_two_pow_sub_one_eq_mod]
  simp only [go_sem, Nat.reduceAdd, Nat.reduceLeDiff, Nat.reduceMul, Int.reduceBEq, Int.reduceBNe, Int.reduceLT, Int.reduceLE, Int.reduceGT, e1, e2, aBin_sub, aBin_and, aConv_int u24 u3, e3]
theorem bits0_s {v : Int} (h0 : 0 ≤ v) (h1 : v < 18446744073709551616) (md : Md) (h : Heap) : C md 79 [.int .u64 v, .int .i64 0, .int .i64 16] h = some (.int .i64 (v % 65536), h) := by
  obtain ⟨x, rfl⟩ := Int.eq_ofNat_of_zero_le h0
  refine Eq.trans (bits_s md x 0 16 (by omega) (by decide) (by decide) h) ?_
  rw [wi (by omega) (by omega), Nat.pow_zero, Nat.div_one]
  rfl
theorem bits16_s {v : Int} (h0 : 0 ≤ v) (h1 : v < 18446744073709551616) (md : Md) (h : Heap) : C md 79 [.int .u64 v, .int .i64 16, .int .i64 16] h = some (.int .i64 (v / 65536 % 65536), h) := by
  obtain ⟨x, rfl⟩ := Int.eq_ofNat_of_zero_le h0
  refine Eq.trans (bits_s md x 16 16 (by omega) (by decide) (by decide) h) ?_
  rw [wi (by omega) (by omega)]
  congr 4
theorem bits32_s {v : Int} (h0 : 0 ≤ v) (h1 : v < 18446744073709551616) (md : Md) (h : Heap) : C md 79 [.int .u64 v, .int .i64 32, .int .i64 8] h = some (.int .i64 (v / 4294967296 % 256), h) := by
  obtain ⟨x, rfl⟩ := Int.eq_ofNat_of_zero_le h0
  refine Eq.trans (bits_s md x 32 8 (by omega) (by decide) (by decide) h) ?_
  rw [wi (by omega) (by omega)]
  congr 4
def rightB (v : Int) : Bool := rightW (v / 65536 % 65536) (v % 65536) (v / 4294967296 % 256) (v / 1099511627776)
theorem unpack_s {v : Int} (h0 : 0 ≤ v) (h1 : v < 18446744073709551616) (md : Md) (h : Heap) : C md 74 [.int .u64 v] h =
    some (.tuple #[bif rightB v then .agg #[.int .i64 (v / 65536 % 65536), .int .i64 (v % 65536), .int .i64 (v / 4294967296 % 256), .int .i64 (v / 1099511627776)] else .agg #[.int .i64 0, .int .i64 0, .int .i64 0, .int .i64 0], .int .i64 (bif rightB v then 0 else 21)], h) := by
  rw [C, call_eq, F74_eq]
  unfold F74
  have e : IntKind.wrap .i64 (Int.fdiv v (2 ^ 40)) = v / 1099511627776 := by
    rw [Int.fdiv_eq_ediv_of_nonneg _ (by decide), wi (by omega) (by omega)]; rfl
  cases hr : rightB v
  · have hr' := hr
    unfold rightB at hr'
    simp only [go_sem, Nat.reduceAdd, Nat.reduceLeDiff, Nat.reduceMul, Int.reduceBEq, Int.reduceBNe, Int.reduceLT, Int.reduceLE, Int.reduceGT, bits0_s h0 h1, bits16_s h0 h1, bits32_s h0 h1, e, right_s, hr']
  · have hr' := hr
    unfold rightB at hr'
    simp only [go_sem, Nat.reduceAdd, Nat.reduceLeDiff, Nat.reduceMul, Int.reduceBEq, Int.reduceBNe, Int.reduceLT, Int.reduceLE, Int.reduceGT, bits0_s h0 h1, bits16_s h0 h1, bits32_s h0 h1, e, right_s, hr']
end Go.Det.E.W

/- Cells that are seen as they were, or as they are: what its functions answer. -/
namespace Go.Det.E
open Go.Proofs Go.Det
attribute [local congr] bind_c cond_c
variable {md : Md} {h : Heap} {a b : Nat} {l c : List Int} {V S T : Int}
end Go.Det.E

/- A look: its steps. -/
namespace Go.Det.E
open Go.Proofs Go.Det
attribute [local congr] bind_c cond_c
variable {md : Md} {h : Heap} {a b k : Nat} {l c : List Int} {V S T : Int}
end Go.Det.E

/- The laws of the looks: what they begin with, and what a look tells. -/
namespace Go.Det.E
open Go.Proofs Go.Det
attribute [local congr] bind_c cond_c
variable {md : Md} {h hh h' : Heap} {a b k bv bm bl bw br : Nat} {l c l' c' : List Int} {v s : Int}
/-- What the law of the looks has in its blocks. -/
structure LSt (h hh : Heap) (a b bv bm bl bw br : Nat) (v : Int) (l c : List Int) : Prop where
  A : Ar hh a b l c
  w : Wd l
  vw : 0 ≤ v ∧ v < 18446744073709551616
  hv : hh[bv]? = some (.own [(Value.int .u64 v)])
  hm : hh[bm]? = some (.own [(Value.pointer (some ⟨a, 0, none⟩))])
  hl : hh[bl]? = some (.own [(Value.int .i64 2), (Value.int .i64 0), (Value.int .i64 8)])
  hw : hh[bw]? = some (.own [(Value.int .i64 (v / 65536 % 65536)), (Value.int .i64 (v % 65536)), (Value.int .i64 (v / 4294967296 % 256)), (Value.int .i64 (v / 1099511627776))])
  hr : hh[br]? = some (.own [(Value.bool (W.rightB v))])
  g : h.length ≤ hh.length ∧ h.length ≤ a ∧ h.length ≤ b ∧ h.length ≤ bv ∧ h.length ≤ bm ∧ h.length ≤ bl ∧ h.length ≤ bw ∧ h.length ≤ br
  d : (bv ≠ a ∧ bv ≠ b) ∧ (bm ≠ a ∧ bm ≠ b) ∧ (bl ≠ a ∧ bl ≠ b) ∧ (bw ≠ a ∧ bw ≠ b) ∧ (br ≠ a ∧ br ≠ b)
theorem LSt.step (P : LSt h hh a b bv bm bl bw br v l c) (A : Ar h' a b l' c') (w : Wd l') (hlen : hh.length ≤ h'.length) (f : ∀ y, y < hh.length → y ≠ a → y ≠ b → h'[y]? = hh[y]?) : LSt h h' a b bv bm bl bw br v l' c' := by
  obtain ⟨d1, d2, d3, d4, d5⟩ := P.d
  exact ⟨A, w, P.vw, by rw [f _ (lt_of P.hv) d1.1 d1.2]; exact P.hv, by rw [f _ (lt_of P.hm) d2.1 d2.2]; exact P.hm, by rw [f _ (lt_of P.hl) d3.1 d3.2]; exact P.hl,
    by rw [f _ (lt_of P.hw) d4.1 d4.2]; exact P.hw, by rw [f _ (lt_of P.hr) d5.1 d5.2]; exact P.hr, ⟨Nat.le_trans P.g.1 hlen, P.g.2⟩, P.d⟩
theorem clV_f {α : Type} {rc : Rec} {md : Md} {f : FuncId} {fs cs : Array Value} {args : List Value} {h : Heap} {k : Value → Heap → Option α} : clV rc md (.func (.func f) fs cs) args h k = cl (rc md f (fs.toList ++ args ++ cs.toList) h) k := rfl
end Go.Det.E

/- A look tells what the document says that a cell means. -/
namespace Go.Det.E
open Go.Proofs Go.Det
attribute [local congr] bind_c cond_c
variable {md : Md} {h hh h' : Heap} {a b k bv bm bl bw br : Nat} {l c l' c' : List Int} {v s z : Int}
end Go.Det.E

/- What a pen does. -/
namespace Go.Det.E
open Go.Proofs Go.Det
attribute [local congr] bind_c cond_c
theorem W.bits_of {o n t g : Int} (hr : W.rightW o n t g = true) : 0 ≤ W.bitsW o n t g ∧ W.bitsW o n t g < 18446744073709551616 ∧ W.bitsW o n t g / 65536 % 65536 = o ∧ W.bitsW o n t g % 65536 = n ∧ W.bitsW o n t g / 4294967296 % 256 = t ∧ W.bitsW o n t g / 1099511627776 = g := by
  obtain ⟨ho, hn, ht, hg, _⟩ := W.rightW_iff.1 hr
  unfold W.bitsW
  omega
theorem W.bits_right {o n t g : Int} (hr : W.rightW o n t g = true) : W.rightB (W.bitsW o n t g) = true := by
  obtain ⟨_, _, e1, e2, e3, e4⟩ := W.bits_of hr
  unfold W.rightB
  rw [e1, e2, e3, e4]; exact hr
/-- Blocks that are there, and are none of the arena's. -/
def Bk (a b : Nat) (hh : Heap) (K : List (Nat × List Value)) : Prop := ∀ p ∈ K, hh[p.1]? = some (.own p.2) ∧ p.1 ≠ a ∧ p.1 ≠ b
variable {md : Md} {h hh h' : Heap} {a b : Nat} {l c : List Int} {V S T : Int} {K : List (Nat × List Value)}
theorem Bk.only (B : Bk a b hh K) (o : Only a b hh h') : Bk a b h' K := fun p hp => ⟨(o.oth _ (B p hp).2.1 (B p hp).2.2).trans (B p hp).1, (B p hp).2⟩
theorem Bk.app (B : Bk a b hh K) (bs : Heap) : Bk a b (hh ++ bs) K := fun p hp => ⟨by rw [List.getElem?_append_left (lt_of (B p hp).1)]; exact (B p hp).1, (B p hp).2⟩
theorem Bk.at (B : Bk a b hh K) {y : Nat} {cs : List Value} (hy : (y, cs) ∈ K) : hh[y]? = some (.own cs) := (B _ hy).1
theorem Bk.cons (B : Bk a b hh K) {y : Nat} {cs : List Value} (hy : hh[y]? = some (.own cs)) (h1 : y ≠ a) (h2 : y ≠ b) : Bk a b hh ((y, cs) :: K) := by
  intro p hp
  rcases List.mem_cons.1 hp with rfl | hp
  · exact ⟨hy, h1, h2⟩
  · exact B p hp
/-- What a change leaves. -/
def chL (l : List Int) (x o n t g : Int) : List Int := bif W.rightB (getI l x) && W.rightW o n t g then putI l x (W.bitsW o n t g) else l
def chC (l c : List Int) (x o n t g : Int) : List Int := bif W.rightB (getI l x) && W.rightW o n t g then cS l (cL l c x) x else cL l c x
theorem change_e (A : Ar h a b l c) (hro : md.ro ≤ a) (hrb : md.ro ≤ b) (hr : md.ro ≤ h.length) (w : Wd l) {x o n t g : Int} {cv : Value} {v : Int} (hv : getI l x = v)
    (H : W.rightB v = true → ∀ (m : Md) (hx : Heap) (kk : Value → Heap → Option (Value × Heap)), OG a b h hx → clV C m cv [(Value.agg #[(Value.int .i64 (v / 65536 % 65536)), (Value.int .i64 (v % 65536)), (Value.int .i64 (v / 4294967296 % 256)), (Value.int .i64 (v / 1099511627776))])] hx kk = kk ((Value.agg #[(Value.int .i64 o), (Value.int .i64 n), (Value.int .i64 t), (Value.int .i64 g)])) hx) :
    ∃ h', C md 70 [ifA a, (Value.int .i64 x), cv] h = some ((Value.tuple #[]), h') ∧ Ar h' a b (chL l x o n t g) (chC l c x o n t g) ∧ Only a b h h' := by
  have la := lt_of A.ha
  have lb := lt_of A.hb
  have vw := w.get x
  obtain ⟨h3, e3, A3, o3⟩ := pl_x (md := ⟨md.ro, h.length⟩) A hro x
  unfold chL chC
  rw [hv] at e3 vw ⊢
  have og : OG a b h h3 := OG.refl.only o3
  have l3 := o3.len
  have hr3 : md.ro ≤ h3.length := by omega
  have hl3 : h.length ≤ h3.length := by omega
  have up := fun (m : Md) (h : Heap) => W.unpack_s vw.1 vw.2 m h
  have st4 := fun (α : Type) (o n t g : Int) (h' : Heap) (kk : Heap → Option α) => st_N ⟨md.ro, h.length⟩ 4 h3.length 0 [(Value.int .i64 o), (Value.int .i64 n), (Value.int .i64 t), (Value.int .i64 g)] h' kk rfl rfl
  cases hr' : W.rightB v
  · simp only [hr', cond_false] at up
    refine ⟨(h3 ++ [Blk.own [(Value.int .i64 0), (Value.int .i64 0), (Value.int .i64 0), (Value.int .i64 0)]]).take h.length, ?_, (A3.app _).take la lb, (og.app _).done⟩
    rw [C, call_eq, F70_eq]
    unfold F70
    simp only [go_sem, Nat.reduceAdd, Nat.reduceLeDiff, Nat.reduceMul, Int.reduceBEq, Int.reduceBNe, Int.reduceLT, Int.reduceLE, Int.reduceGT, clI_load, e3, up, st4, hr3, hl3]
  · simp only [hr', cond_true] at up
    have H' := fun (m : Md) (kk : Value → Heap → Option (Value × Heap)) => H hr' m (h3 ++ [Blk.own [(Value.int .i64 (v / 65536 % 65536)), (Value.int .i64 (v % 65536)), (Value.int .i64 (v / 4294967296 % 256)), (Value.int .i64 (v / 1099511627776))]]) kk (og.app _)
    cases hp : W.rightW o n t g
    · have pk := fun (m : Md) (h : Heap) => W.pack_s m o n t g h
      simp only [hp, cond_false] at pk
      refine ⟨(h3 ++ [Blk.own [(Value.int .i64 (v / 65536 % 65536)), (Value.int .i64 (v % 65536)), (Value.int .i64 (v / 4294967296 % 256)), (Value.int .i64 (v / 1099511627776))]]).take h.length, ?_, (A3.app _).take la lb, (og.app _).done⟩
      rw [C, call_eq, F70_eq]
      unfold F70
      simp only [go_sem, Nat.reduceAdd, Nat.reduceLeDiff, Nat.reduceMul, Int.reduceBEq, Int.reduceBNe, Int.reduceLT, Int.reduceLE, Int.reduceGT, clI_load, e3, up, st4, hr3, hl3, H', pk]
    · have pk := fun (m : Md) (h : Heap) => W.pack_s m o n t g h
      simp only [hp, cond_true] at pk
      obtain ⟨h5, e5, A5, o5⟩ := ps_x (md := ⟨md.ro, h.length⟩) (A3.app [Blk.own [(Value.int .i64 (v / 65536 % 65536)), (Value.int .i64 (v % 65536)), (Value.int .i64 (v / 4294967296 % 256)), (Value.int .i64 (v / 1099511627776))]]) hro hrb x (W.bitsW o n t g)
      refine ⟨h5.take h.length, ?_, A5.take la lb, ((og.app _).only o5).done⟩
      rw [C, call_eq, F70_eq]
      unfold F70
      simp only [go_sem, Nat.reduceAdd, Nat.reduceLeDiff, Nat.reduceMul, Int.reduceBEq, Int.reduceBNe, Int.reduceLT, Int.reduceLE, Int.reduceGT, clI_load, e3, up, st4, hr3, hl3, H', pk, clI_store, e5]
/-- What a pen's write makes of the old number. -/
def olW (th tag v : Int) : Int := bif v / 4294967296 % 256 != th || v / 1099511627776 != tag then v % 65536 else v / 65536 % 65536
theorem wcl_s {th tag y v : Int} {bp bx : Nat} (hp : hh[bp]? = some (.own [(Value.int .i64 th), (Value.int .i64 tag)])) (hx : hh[bx]? = some (.own [(Value.int .i64 y)])) (md : Md) :
    C md 71 [(Value.agg #[(Value.int .i64 (v / 65536 % 65536)), (Value.int .i64 (v % 65536)), (Value.int .i64 (v / 4294967296 % 256)), (Value.int .i64 (v / 1099511627776))]), (Value.pointer (some ⟨bp, 0, none⟩)), (Value.pointer (some ⟨bx, 0, none⟩))] hh = some ((Value.agg #[(Value.int .i64 (olW th tag v)), (Value.int .i64 y), (Value.int .i64 th), (Value.int .i64 tag)]), hh) := by
  have lp := lt_of hp
  have lx := lt_of hx
  have r : ∀ hx : Heap, hx[bp]? = some (.own [(Value.int .i64 th), (Value.int .i64 tag)]) → rd hx bp 0 = some ((Value.int .i64 th)) ∧ rd hx bp 1 = some ((Value.int .i64 tag)) := fun hx e => ⟨by rw [rd_own e]; rfl, by rw [rd_own e]; rfl⟩
  have q : ∀ hq : Heap, hq[bx]? = some (.own [(Value.int .i64 y)]) → rd hq bx 0 = some ((Value.int .i64 y)) := fun hq e => by rw [rd_own e]; rfl
  have a1 : ∀ bs : Heap, rd (hh ++ bs) bp 0 = some ((Value.int .i64 th)) ∧ rd (hh ++ bs) bp 1 = some ((Value.int .i64 tag)) := fun bs => r _ (by rw [List.getElem?_append_left lp]; exact hp)
  have a2 : ∀ bs : Heap, rd (hh ++ bs) bx 0 = some ((Value.int .i64 y)) := fun bs => q _ (by rw [List.getElem?_append_left lx]; exact hx)
  have b1 := fun bs => (a1 bs).1
  have b2 := fun bs => (a1 bs).2
  have st4 := fun (α : Type) (m : Md) (b : Nat) (o n t g : Int) (h' : Heap) (kk : Heap → Option α) => st_N m 4 b 0 [(Value.int .i64 o), (Value.int .i64 n), (Value.int .i64 t), (Value.int .i64 g)] h' kk rfl rfl
  rw [C, call_eq, F71_eq]
  unfold F71 olW
  cases h1 : (v / 4294967296 % 256 != th)
  · cases h2 : (v / 1099511627776 != tag)
    · simp only [go_sem, Nat.reduceAdd, Nat.reduceLeDiff, Nat.reduceMul, Int.reduceBEq, Int.reduceBNe, Int.reduceLT, Int.reduceLE, Int.reduceGT, b1, b2, a2, h1, h2, aBin_neq, J71_0, st4]
    · simp only [go_sem, Nat.reduceAdd, Nat.reduceLeDiff, Nat.reduceMul, Int.reduceBEq, Int.reduceBNe, Int.reduceLT, Int.reduceLE, Int.reduceGT, b1, b2, a2, h1, h2, aBin_neq, J71_0, st4]
  · simp only [go_sem, Nat.reduceAdd, Nat.reduceLeDiff, Nat.reduceMul, Int.reduceBEq, Int.reduceBNe, Int.reduceLT, Int.reduceLE, Int.reduceGT, b1, b2, a2, h1, aBin_neq, J71_0, st4]
theorem write_e (A : Ar h a b l c) (hro : md.ro ≤ a) (hrb : md.ro ≤ b) (hr : md.ro ≤ h.length) (w : Wd l) {x y th tag : Int} {v : Int} (hv : getI l x = v) :
    ∃ h', C md 67 [(Value.agg #[(Value.int .i64 th), (Value.int .i64 tag)]), ifA a, (Value.int .i64 x), (Value.int .i64 y)] h = some ((Value.tuple #[]), h') ∧ Ar h' a b (chL l x (olW th tag v) y th tag) (chC l c x (olW th tag v) y th tag) ∧ Only a b h h' := by
  have la := lt_of A.ha
  have lb := lt_of A.hb
  obtain ⟨h3, e3, A3, o3⟩ := change_e (md := ⟨md.ro, h.length⟩) (A.app [Blk.own [(Value.int .i64 th), (Value.int .i64 tag)], Blk.own [(Value.int .i64 y)]]) hro hrb (by simp; omega) w (o := olW th tag v) (n := y) (t := th) (g := tag) (cv := .func (.func 71) #[] #[(Value.pointer (some ⟨h.length, 0, none⟩)), (Value.pointer (some ⟨h.length + 1, 0, none⟩))]) hv
    (by
      intro hr' m hx kk og
      have b1 : hx[h.length]? = some (.own [(Value.int .i64 th), (Value.int .i64 tag)]) := by rw [og.oth _ (by simp) (by omega) (by omega)]; simp
      have b2 : hx[h.length + 1]? = some (.own [(Value.int .i64 y)]) := by rw [og.oth _ (by simp) (by omega) (by omega), List.getElem?_append_right (by omega), Nat.add_sub_cancel_left]; rfl
      have e := wcl_s (v := v) b1 b2 m
      rw [clV_f]
      simp only [go_sem, Nat.reduceAdd, Nat.reduceLeDiff, Nat.reduceMul, Int.reduceBEq, Int.reduceBNe, Int.reduceLT, Int.reduceLE, Int.reduceGT, e])
  refine ⟨h3.take h.length, ?_, A3.take la lb, o3.take⟩
  rw [C, call_eq, F67_eq]
  unfold F67
  simp only [go_sem, Nat.reduceAdd, Nat.reduceLeDiff, Nat.reduceMul, Int.reduceBEq, Int.reduceBNe, Int.reduceLT, Int.reduceLE, Int.reduceGT, e3]
end Go.Det.E

/- Free slots, taken and given by steps: what its functions answer. -/
namespace Go.Det.E
open Go.Proofs Go.Det
attribute [local congr] bind_c cond_c
variable {md : Md} {h hh h' : Heap} {a b k : Nat} {l c : List Int} {V S T : Int}
end Go.Det.E

/- Free slots: memory at first, the row of the free ones, and lists of whole numbers. -/
namespace Go.Det.E
open Go.Proofs Go.Det
attribute [local congr] bind_c cond_c
variable {md : Md} {h hh h' : Heap} {a b k : Nat} {l c : List Int} {V T : Int} {n : Nat}
theorem tInts : SlT Try.prog 60 3 1 8 [(Value.int .i64 0)] := ⟨by kernel_rfl, by kernel_rfl, by kernel_rfl, rfl, by decide, by decide, rfl⟩
theorem bInts1 {α : Type} {x : Int} (h : Heap) (k : Value → Heap → Option α) : aBuildSlice Try.prog 60 1 [(0, (Value.int .i64 x))] h k = k ((Value.slice (some ⟨h.length, 0, none⟩) 1 1)) (h ++ [Blk.own [(Value.int .i64 x)]]) := by kernel_rfl
/-- Is a list the row of the free slots that begins so? -/
def Fr (S T : Int) (l : List Int) : Int → List Int → Prop
  | nx, [] => nx = 0
  | nx, x :: xs => nx = x + 1 ∧ 0 ≤ x ∧ x < S ∧ Fr S T l (getI l (Ox S T x 0)) xs
/-- Other cells do not matter. -/
theorem Fr.other {S T : Int} {l l' : List Int} {xs : List Int} : ∀ {nx : Int}, Fr S T l nx xs → (∀ x ∈ xs, getI l' (Ox S T x 0) = getI l (Ox S T x 0)) → Fr S T l' nx xs := by
  induction xs with
  | nil => intro nx F _; exact F
  | cons x xs ih =>
    intro nx F hl
    obtain ⟨h1, h2, h3, h4⟩ := F
    exact ⟨h1, h2, h3, by rw [hl x (by simp)]; exact ih h4 fun y hy => hl y (by simp [hy])⟩
def sm (c : List Int) : Int := c.getD 0 0 + c.getD 1 0 + c.getD 2 0 + c.getD 3 0
end Go.Det.E

/- Free slots: memory at first. -/
namespace Go.Det.E
open Go.Proofs Go.Det
attribute [local congr] bind_c cond_c
variable {md : Md} {h hh h' : Heap} {a b k q : Nat} {l c : List Int} {V T : Int} {n : Nat}
end Go.Det.E

/- Of any right lay: the numbers of levels, nodes and cells. -/
namespace Go.Det.E
open Go.Proofs Go.Det
attribute [local congr] bind_c cond_c
theorem refright_s (md : Md) (h : Heap) (V S T : Int) : C md 18 [(Value.agg #[(Value.int .i64 V), (Value.int .i64 S), (Value.int .i64 T)])] h = some ((Value.bool (decide (Rt V S T))), h) := by
  rw [C, call_eq, F18_eq]
  unfold F18 Rt
  by_cases h1 : 1 ≤ V <;> (try by_cases h2 : V ≤ 16) <;> (try by_cases h3 : 0 ≤ S) <;> (try by_cases h4 : S ≤ 48) <;> (try by_cases h5 : 1 ≤ T) <;> (try by_cases h6 : T ≤ 8) <;>
    simp only [go_sem, Nat.reduceAdd, Nat.reduceLeDiff, Nat.reduceMul, Int.reduceBEq, Int.reduceBNe, Int.reduceLT, Int.reduceLE, Int.reduceGT, ge_iff_le, *, aBin_leq, aBin_geq, false_and, and_false, true_and, and_self]
end Go.Det.E

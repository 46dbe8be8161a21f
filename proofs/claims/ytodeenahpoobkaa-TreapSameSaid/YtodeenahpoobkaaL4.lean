/- The nodes of a lay, by the code and by the document. -/
import Derived.Test.YtodeenahpoobkaaL3
set_option autoImplicit false
set_option linter.unusedVariables false
set_option linter.unusedSimpArgs false
namespace Go.Det.E
open Go.Proofs Go.Det
attribute [local congr] bind_c cond_c
theorem Lv_cases {V : Int} (hV : 1 ≤ V ∧ V ≤ 16) : Lv V = 1 ∨ Lv V = 2 ∨ Lv V = 3 ∨ Lv V = 4 ∨ Lv V = 5 := by unfold Lv; split <;> (try split) <;> (try split) <;> (try split) <;> omega
/-- What a thing's cells are. -/
abbrev thC (arc : Bool) (level vertex slot side : Int) : List Value := [(Value.bool arc), (Value.int .i64 level), (Value.int .i64 vertex), (Value.int .i64 slot), (Value.int .i64 side)]
def thAt (V y : Int) : List Value := if y < Lv V * V then thC false (y / V) (y % V) 0 0 else thC true ((y - Lv V * V) % (2 * Lv V) / 2) 0 ((y - Lv V * V) / (2 * Lv V)) ((y - Lv V * V) % 2)
def thing (V S x : Int) : Value := bif Bl (x - 1) (Nn V S) then (Value.tuple #[(Value.agg (List.toArray (thAt V (x - 1)))), (Value.bool true)]) else (Value.tuple #[(Value.agg (List.toArray (thC false 0 0 0 0))), (Value.bool false)])
theorem b34a {α : Type} {a b : Int} (k : Value → Option α) : aBuild Try.prog 87 [(1, (Value.int .i64 a)), (2, (Value.int .i64 b))] k = k ((Value.agg (List.toArray (thC false a b 0 0)))) := by kernel_rfl
theorem b34b {α : Type} {a b c : Int} (k : Value → Option α) : aBuild Try.prog 87 [(0, (Value.bool true)), (3, (Value.int .i64 a)), (1, (Value.int .i64 b)), (4, (Value.int .i64 c))] k = k ((Value.agg (List.toArray (thC true b 0 a c)))) := by kernel_rfl
theorem node_s (md : Md) (h : Heap) {V S T x : Int} (hR : Rt V S T) (hx : I64 x) : C md 42 [(Value.agg #[(Value.int .i64 V), (Value.int .i64 S), (Value.int .i64 T)]), (Value.int .i64 x)] h = some (thing V S x, h) := by
  rw [C, call_eq, F42_eq]
  unfold F42 thing
  have l := Lv_le hR
  have nl := Nn_le hR
  have nn : Nn V S = Lv V * V + S * (2 * Lv V) := rfl
  have r := hR
  unfold Rt at r
  have p := Bl_pred (n := Nn V S) hx (by omega)
  cases h1 : Bl (x - 1) (Nn V S)
  · rw [h1] at p
    have s := fun (h : Heap) (k : Heap → Option (Value × Heap)) => st_N ⟨0, 0⟩ 5 1 0 (thC false 0 0 0 0) h k rfl rfl
    unfold thC at s
    simp only [go_sem, Nat.reduceAdd, Nat.reduceLeDiff, Nat.reduceMul, Int.reduceBEq, Int.reduceBNe, Int.reduceLT, Int.reduceLE, Int.reduceGT, nodes_s _ _ hR, bel_s, p, s, thC]
  · rw [h1] at p
    have h1' := Bl_t.1 h1
    have w1 : IntKind.wrap .i64 (x - 1) = x - 1 := wi (by omega) (by omega)
    have w2 : IntKind.wrap .i64 (Lv V * V) = Lv V * V := wi (by omega) (by omega)
    rw [w1] at p
    have q : ∀ a b : Int, 0 ≤ a → a < 100000 → 1 ≤ b → intOp .quo a b .i64 = some ((Value.int .i64 (a / b))) := fun a b h0 h2 h3 => by
      have : b ≠ 0 := by omega
      simp only [intOp, this, if_false]
      rw [Int.tdiv_eq_ediv_of_nonneg h0, wi (by have := Int.ediv_nonneg h0 (show (0:Int) ≤ b by omega); omega) (by have := Int.ediv_le_self b h0; omega)]
    have m : ∀ a b : Int, 0 ≤ a → 1 ≤ b → intOp .rem a b .i64 = some ((Value.int .i64 (a % b))) := fun a b h0 h3 => by
      have : b ≠ 0 := by omega
      simp only [intOp, this, if_false]
      rw [Int.tmod_eq_emod_of_nonneg h0]
    by_cases hlt : x - 1 < Lv V * V
    · have s := fun (h : Heap) (k : Heap → Option (Value × Heap)) => st_N ⟨0, 0⟩ 5 1 0 (thC false ((x - 1) / V) ((x - 1) % V) 0 0) h k rfl rfl
      have e : thAt V (x - 1) = thC false ((x - 1) / V) ((x - 1) % V) 0 0 := by unfold thAt; rw [if_pos hlt]
      have q1 := q (x - 1) V (by omega) (by omega) (by omega)
      have m1 := m (x - 1) V (by omega) (by omega)
      rw [e]
      simp only [go_sem, Nat.reduceAdd, Nat.reduceLeDiff, Nat.reduceMul, Int.reduceBEq, Int.reduceBNe, Int.reduceLT, Int.reduceLE, Int.reduceGT, nodes_s _ _ hR, bel_s, p, w1, levels_s _ _ hR, w2, hlt, q1, m1, b34a, s]
    · have e : thAt V (x - 1) = thC true ((x - 1 - Lv V * V) % (2 * Lv V) / 2) 0 ((x - 1 - Lv V * V) / (2 * Lv V)) ((x - 1 - Lv V * V) % 2) := by unfold thAt; rw [if_neg hlt]
      have s := fun (h : Heap) (k : Heap → Option (Value × Heap)) => st_N ⟨0, 0⟩ 5 1 0 (thC true ((x - 1 - Lv V * V) % (2 * Lv V) / 2) 0 ((x - 1 - Lv V * V) / (2 * Lv V)) ((x - 1 - Lv V * V) % 2)) h k rfl rfl
      have w3 : IntKind.wrap .i64 (x - 1 - Lv V * V) = x - 1 - Lv V * V := wi (by omega) (by omega)
      have q1 := q (x - 1 - Lv V * V) (2 * Lv V) (by omega) (by omega) (by omega)
      have m1 := m (x - 1 - Lv V * V) (2 * Lv V) (by omega) (by omega)
      have m2 : Int.tmod (x - 1 - Lv V * V) 2 = (x - 1 - Lv V * V) % 2 := Int.tmod_eq_emod_of_nonneg (by omega)
      have g0 : 0 ≤ (x - 1 - Lv V * V) % (2 * Lv V) := Int.emod_nonneg _ (by omega)
      have g1 : (x - 1 - Lv V * V) % (2 * Lv V) < 2 * Lv V := Int.emod_lt_of_pos _ (by omega)
      have t : Int.tdiv ((x - 1 - Lv V * V) % (2 * Lv V)) 2 = (x - 1 - Lv V * V) % (2 * Lv V) / 2 := Int.tdiv_eq_ediv_of_nonneg (by omega)
      have w4 : IntKind.wrap .i64 ((x - 1 - Lv V * V) % (2 * Lv V) / 2) = (x - 1 - Lv V * V) % (2 * Lv V) / 2 := wi (by omega) (by omega)
      have q2 := fun (kk : Value → Option (Value × Heap)) => aBin_quo (P := Try.prog) (ty := 3) (kd := .i64) (a := (x - 1 - Lv V * V) % (2 * Lv V)) (b := 2) (k := kk) (by decide)
      rw [e]
      simp only [go_sem, Nat.reduceAdd, Nat.reduceLeDiff, Nat.reduceMul, Int.reduceBEq, Int.reduceBNe, Int.reduceLT, Int.reduceLE, Int.reduceGT, nodes_s _ _ hR, arcs_s _ _ hR, bel_s, p, w1, levels_s _ _ hR, w2, hlt, w3, q1, m1, m2, q2, t, w4]
      rw [b34b]
      simp only [go_sem, Nat.reduceAdd, Nat.reduceLeDiff, Nat.reduceMul, Int.reduceBEq, Int.reduceBNe, Int.reduceLT, Int.reduceLE, Int.reduceGT, s]
/-- The document's name of a node, by its place. -/
def nodeAt (V y : Int) : Int × Int × Int × Int := if y < Lv V * V then (1, y / V, y % V, 0) else (2, (y - Lv V * V) / (2 * Lv V), (y - Lv V * V) % (2 * Lv V) / 2, (y - Lv V * V) % 2)
abbrev enc4 (x : Int × Int × Int × Int) : List Value := [(Value.int .i64 x.1), (Value.int .i64 x.2.1), (Value.int .i64 x.2.2.1), (Value.int .i64 x.2.2.2)]
theorem enc4_len (x : Int × Int × Int × Int) : (enc4 x).length = 4 := rfl
def nodeL (V : Int) (n : Nat) : List (Int × Int × Int × Int) := (List.range n).map fun k : Nat => nodeAt V (k : Int)
theorem nodeL_succ (V : Int) (n : Nat) : nodeL V (n + 1) = nodeL V n ++ [nodeAt V n] := by simp [nodeL, List.range_succ]
theorem nodeL_len (V : Int) (n : Nat) : (nodeL V n).length = n := by simp [nodeL]
theorem nodeAt_v {V i v : Int} (hV : 1 ≤ V ∧ V ≤ 16) (hi : 0 ≤ i ∧ i < Lv V) (hv : 0 ≤ v ∧ v < V) : nodeAt V (i * V + v) = (1, i, v, 0) := by
  have h1 : (i * V + v) / V = i := by rw [Int.add_comm, Int.add_mul_ediv_right _ _ (by omega), Int.ediv_eq_zero_of_lt hv.1 hv.2]; omega
  have h2 : (i * V + v) % V = v := by rw [Int.add_comm, Int.add_mul_emod_self_right, Int.emod_eq_of_lt hv.1 hv.2]
  have h3 : (i + 1) * V ≤ Lv V * V := Int.mul_le_mul_of_nonneg_right (by omega) (by omega)
  rw [Int.add_mul] at h3
  unfold nodeAt
  rw [if_pos (by omega), h1, h2]
theorem nodeAt_s {V s i b : Int} (hV : 1 ≤ V ∧ V ≤ 16) (hs : 0 ≤ s) (hi : 0 ≤ i ∧ i < Lv V) (hb : 0 ≤ b ∧ b < 2) : nodeAt V (Lv V * V + s * (2 * Lv V) + 2 * i + b) = (2, s, i, b) := by
  unfold nodeAt
  have hn : ¬ Lv V * V + s * (2 * Lv V) + 2 * i + b < Lv V * V := by
    have : 0 ≤ s * (2 * Lv V) := Int.mul_nonneg hs (by omega)
    omega
  rw [if_neg hn]
  have e : Lv V * V + s * (2 * Lv V) + 2 * i + b - Lv V * V = s * (2 * Lv V) + 2 * i + b := by omega
  rw [e]
  generalize Lv V * V = z at *
  rcases Lv_cases hV with h | h | h | h | h <;> rw [h] at hi ⊢ <;> congr 1 <;> (try congr 1) <;> (try congr 1) <;> omega
end Go.Det.E

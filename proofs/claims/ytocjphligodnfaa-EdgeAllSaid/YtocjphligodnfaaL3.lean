/- Of any right lay: the numbers of levels, nodes and cells. -/
import Derived.Test.YtocjphligodnfaaL2
import Derived.Test.YtocjphligodnfaaDetS
set_option autoImplicit false
set_option linter.unusedVariables false
set_option linter.unusedSimpArgs false
namespace Go.Det.E
open Go.Proofs Go.Det
attribute [local congr] bind_c cond_c
set_option maxRecDepth 100000 in
theorem awake5 (md : Md) (h : Heap) : C md 15 [] h = some ((Value.bool true), h) := free_ok 100 100 (by kernel_rfl) (by kernel_rfl) md h
theorem refof_s (md : Md) (h : Heap) (V S T : Int) : C md 14 [(Value.agg #[(Value.int .i64 V), (Value.int .i64 S), (Value.int .i64 T)])] h = some ((Value.agg #[(Value.int .i64 V), (Value.int .i64 S), (Value.int .i64 T)]), h) := by
  rw [C, call_eq, F14_eq]
  unfold F14
  have e : below2 0 ((Value.agg #[(Value.int .i64 V), (Value.int .i64 S), (Value.int .i64 T)])) = true := nrf rfl
  have s := fun (h : Heap) (k : Heap → Option (Value × Heap)) => st_N ⟨0, 0⟩ 3 1 0 [(Value.int .i64 V), (Value.int .i64 S), (Value.int .i64 T)] h k rfl rfl
  simp only [go_sem, Nat.reduceAdd, Nat.reduceLeDiff, Nat.reduceMul, Int.reduceBEq, Int.reduceBNe, Int.reduceLT, Int.reduceLE, Int.reduceGT, s]
theorem refright_s (md : Md) (h : Heap) (V S T : Int) : C md 13 [(Value.agg #[(Value.int .i64 V), (Value.int .i64 S), (Value.int .i64 T)])] h = some ((Value.bool (decide (Rt V S T))), h) := by
  rw [C, call_eq, F13_eq]
  unfold F13 Rt
  by_cases h1 : 1 ≤ V <;> (try by_cases h2 : V ≤ 16) <;> (try by_cases h3 : 0 ≤ S) <;> (try by_cases h4 : S ≤ 48) <;> (try by_cases h5 : 1 ≤ T) <;> (try by_cases h6 : T ≤ 8) <;>
    simp only [go_sem, Nat.reduceAdd, Nat.reduceLeDiff, Nat.reduceMul, Int.reduceBEq, Int.reduceBNe, Int.reduceLT, Int.reduceLE, Int.reduceGT, ge_iff_le, *, aBin_leq, aBin_geq, false_and, and_false, true_and, and_self]
theorem reflevels_s (md : Md) (h : Heap) {V S T : Int} (hR : Rt V S T) : C md 18 [(Value.agg #[(Value.int .i64 V), (Value.int .i64 S), (Value.int .i64 T)])] h = some ((Value.int .i64 (Lv V)), h) := by
  rcases sixteen hR.1 with h | h | h | h | h | h | h | h | h | h | h | h | h | h | h | h <;> subst h <;> exact free_ok 100 10 (by kernel_rfl) (by kernel_rfl) md _
theorem Lv_half {n : Int} (h : 2 ≤ n) (h' : n ≤ 16) : Lv (n / 2) + 1 = Lv n := by
  unfold Lv
  rcases sixteen (V := n) (by omega) with h | h | h | h | h | h | h | h | h | h | h | h | h | h | h | h <;> subst h <;> first | omega | rfl
theorem counts_loop {V S T : Int} (hp : Heap) (s2 : Value) : ∀ (m : Nat) (n k : Int), n.toNat ≤ m → 1 ≤ n → n ≤ 16 → 0 ≤ k → k + n < 100 →
    J4_0 C ⟨0, 0⟩ [] ((Value.pointer (some ⟨0, 0, none⟩))) s2 ((Value.int .i64 k)) ((Value.int .i64 n)) hp = J4_1 C ⟨0, 0⟩ [] ((Value.pointer (some ⟨0, 0, none⟩))) ((Value.int .i64 (k + Lv n - 1))) hp := by
  intro m
  induction m with
  | zero => intro n k h0 h1; omega
  | succ m ih =>
    intro n k h0 h1 h2 h3 h4
    rw [J4_0_step]
    unfold Jr4_0
    by_cases hn : 1 < n
    · have w1 : IntKind.wrap .i64 (k + 1) = k + 1 := wi (by omega) (by omega)
      have t : Int.tdiv n 2 = n / 2 := Int.tdiv_eq_ediv_of_nonneg (by omega)
      have w2 : IntKind.wrap .i64 (n / 2) = n / 2 := wi (by omega) (by omega)
      have q := fun (kk : Value → Option (((Value × Value × Value × Value) × Heap) ⊕ (Exit × (Value × Value × Value × Value) × Heap))) => aBin_quo (P := Try.prog) (ty := 3) (kd := .i64) (a := n) (b := 2) (k := kk) (by decide)
      simp only [go_sem, Nat.reduceAdd, Nat.reduceLeDiff, Nat.reduceMul, Int.reduceBEq, Int.reduceBNe, Int.reduceLT, Int.reduceLE, Int.reduceGT, aBin_gtr, hn, aBin_add, w1, q, t, w2]
      rw [ih (n / 2) (k + 1) (by omega) (by omega) (by omega) (by omega) (by omega)]
      have := Lv_half (n := n) (by omega) h2
      congr 2; omega
    · have e : n = 1 := by omega
      subst e
      have : Lv 1 = 1 := rfl
      simp only [go_sem, Nat.reduceAdd, Nat.reduceLeDiff, Nat.reduceMul, Int.reduceBEq, Int.reduceBNe, Int.reduceLT, Int.reduceLE, Int.reduceGT, aBin_gtr, hn, Jk4_0]
      congr 2; omega
theorem arg_lay {h : Heap} {v : Value} (a : TyArg Try.prog h 23 v) : ∃ V S T : Int, v = (Value.agg #[(Value.int .i64 V), (Value.int .i64 S), (Value.int .i64 T)]) ∧ I64 V ∧ I64 S ∧ I64 T := by
  obtain ⟨acs, e, b⟩ := argN (P := Try.prog) (l := [.i .i64, .i .i64, .i .i64]) (by kernel_rfl) (by kernel_rfl) a
  obtain ⟨v1, r, rfl, a1, b⟩ := l_cons b
  obtain ⟨v2, r, rfl, a2, b⟩ := l_cons b
  obtain ⟨v3, r, rfl, a3, b⟩ := l_cons b
  obtain rfl := l_nil b
  obtain ⟨V, rfl, hV⟩ := inI64 a1
  obtain ⟨S, rfl, hS⟩ := inI64 a2
  obtain ⟨T, rfl, hT⟩ := inI64 a3
  exact ⟨V, S, T, e, hV, hS, hT⟩
theorem counts_law : Law Try.prog cfg 4 [23] := by
  intro h avs ha
  obtain ⟨v, r, rfl, a, ha⟩ := args_cons ha
  obtain rfl := args_nil ha
  obtain ⟨V, S, T, rfl, hV, hS, hT⟩ := arg_lay a
  refine ⟨h, ?_⟩
  rw [call_eq, F4_eq]
  unfold F4
  by_cases hR : Rt V S T
  · simp only [go_sem, Nat.reduceAdd, Nat.reduceLeDiff, Nat.reduceMul, Int.reduceBEq, Int.reduceBNe, Int.reduceLT, Int.reduceLE, Int.reduceGT, refof_s, refright_s, hR]
    rw [counts_loop (V := V) (S := S) (T := T) _ _ 16 V 1 (by have := hR.1; omega) hR.1.1 hR.1.2 (by omega) (by have := hR.1.2; omega)]
    unfold J4_1
    have e1 : 1 + Lv V - 1 = Lv V := by omega
    rw [e1]
    have lv := Lv_le hR
    have nl := Nn_le hR
    have e := Eg_le hR
    have nd := Nd_le hR
    have cl := Cn_le hR
    have nn : Nn V S = Lv V * V + S * (2 * Lv V) := rfl
    have cn : Cn V S T = Nd V S T + Nn V S * 7 := rfl
    have r := hR
    unfold Rt at r
    have d1 : Lv V * (V + 2 * S) = Nn V S := by
      rw [nn, Int.mul_add]
      have : Lv V * (2 * S) = S * (2 * Lv V) := by
        rw [Int.mul_comm (Lv V), Int.mul_assoc, Int.mul_comm 2 (S * Lv V), Int.mul_assoc, Int.mul_comm (Lv V) 2]
      rw [this]
    have w1 : IntKind.wrap .i64 (2 * S) = 2 * S := wi (by omega) (by omega)
    have w2 : IntKind.wrap .i64 (V + 2 * S) = V + 2 * S := wi (by omega) (by omega)
    have w3 : IntKind.wrap .i64 (Nn V S) = Nn V S := wi (by omega) (by omega)
    have w4 : IntKind.wrap .i64 (V * Lv V) = V * Lv V := wi (by omega) (by omega)
    have w5 : IntKind.wrap .i64 (7 * S) = 7 * S := wi (by omega) (by omega)
    have w6 : IntKind.wrap .i64 (T + 1) = T + 1 := wi (by omega) (by omega)
    have w7 : IntKind.wrap .i64 (T + 1 + 7 * S) = T + 1 + 7 * S := wi (by omega) (by omega)
    have w8 : IntKind.wrap .i64 (T + 1 + 7 * S + V * Lv V) = Eg V S T := by rw [wi (by omega) (by omega)]; omega
    have w9 : IntKind.wrap .i64 (V - 1) = V - 1 := wi (by omega) (by omega)
    have w10 : IntKind.wrap .i64 (V * (V - 1)) = V * (V - 1) := wi (by omega) (by omega)
    have t : Int.tdiv (V * (V - 1)) 2 = V * (V - 1) / 2 := Int.tdiv_eq_ediv_of_nonneg (by omega)
    have w11 : IntKind.wrap .i64 (V * (V - 1) / 2) = V * (V - 1) / 2 := wi (by omega) (by omega)
    have w12 : IntKind.wrap .i64 (Eg V S T + V * (V - 1) / 2) = Nd V S T := wi (by omega) (by omega)
    have w13 : IntKind.wrap .i64 (7 * Nn V S) = 7 * Nn V S := wi (by omega) (by omega)
    have w14 : IntKind.wrap .i64 (Nd V S T + 7 * Nn V S) = Cn V S T := by rw [wi (by omega) (by omega)]; omega
    have c1 : Cn V S T ≤ 16384 := by omega
    have c2 : Nn V S < 65535 := by omega
    simp only [go_sem, Nat.reduceAdd, Nat.reduceLeDiff, Nat.reduceMul, Int.reduceBEq, Int.reduceBNe, Int.reduceLT, Int.reduceLE, Int.reduceGT, aBin_mul, aBin_add, aBin_eql, aBin_leq, aBin_lss, w1, w2, d1, w3, w4, w5, w6, w7, w8, w9, w10, t, w11, w12, w13, w14, levels_s _ _ hR, nodes_s _ _ hR, cells_s _ _ hR, c1, c2, awake5]
  · simp only [go_sem, Nat.reduceAdd, Nat.reduceLeDiff, Nat.reduceMul, Int.reduceBEq, Int.reduceBNe, Int.reduceLT, Int.reduceLE, Int.reduceGT, refof_s, refright_s, hR, awake5]
end Go.Det.E

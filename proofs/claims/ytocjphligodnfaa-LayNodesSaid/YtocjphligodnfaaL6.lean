/- The nodes of any lay are the document's. -/
import Derived.Test.YtocjphligodnfaaL5
set_option autoImplicit false
set_option linter.unusedVariables false
set_option linter.unusedSimpArgs false
namespace Go.Det.E
open Go.Proofs Go.Det
attribute [local congr] bind_c cond_c
theorem u4 : Try.prog.underlying 4 = some .bool := by kernel_rfl
theorem thC_eq {α : Type} {k : Value → Option α} {a a' : Bool} {b c d e b' c' d' e' : Int} : aBin Try.prog .eql 34 ((Value.agg (List.toArray (thC a b c d e)))) ((Value.agg (List.toArray (thC a' b' c' d' e')))) k = k ((Value.bool (a == a' && (b == b' && (c == c' && (d == d' && (e == e' && true))))))) :=
  aBin_eqlA (xs := [_, _, _, _, _]) (ys := [_, _, _, _, _]) (ks := [.b, .i, .i, .i, .i]) (by kernel_rfl) (by kernel_rfl) (by kernel_rfl) rfl rfl (cellsEq_b (cellsEq_i (cellsEq_i (cellsEq_i (cellsEq_i cellsEq_n)))))
theorem thC_neq {α : Type} {k : Value → Option α} {a a' : Bool} {b c d e b' c' d' e' : Int} : aBin Try.prog .neq 34 ((Value.agg (List.toArray (thC a b c d e)))) ((Value.agg (List.toArray (thC a' b' c' d' e')))) k = k ((Value.bool (!(a == a' && (b == b' && (c == c' && (d == d' && (e == e' && true)))))))) :=
  aBin_neqA (xs := [_, _, _, _, _]) (ys := [_, _, _, _, _]) (ks := [.b, .i, .i, .i, .i]) (by kernel_rfl) (by kernel_rfl) (by kernel_rfl) rfl rfl (cellsEq_b (cellsEq_i (cellsEq_i (cellsEq_i (cellsEq_i cellsEq_n)))))
theorem nodes_loop {V S T x : Int} (hR : Rt V S T) (hx : I64 x) (v : Value) : ∀ (m i : Nat) (hp : Heap), i + m = (Nn V S).toNat → hp[0]? = some (.own [(Value.int .i64 V), (Value.int .i64 S), (Value.int .i64 T)]) → Sl hp 4 enc4 v (nodeL V (Nn V S).toNat) →
    J3_0 C ⟨0, 0⟩ [] ((Value.int .i64 x)) ((Value.pointer (some ⟨0, 0, none⟩))) ((Value.bool false)) v v ((Value.int .i64 (Nn V S))) ((Value.int .i64 ((i : Int)))) hp = some ((Value.bool true), []) := by
  have nl := Nn_le hR
  have lv := Lv_le hR
  have cn := Cn_le hR
  have nn : Nn V S = Lv V * V + S * (2 * Lv V) := rfl
  have r := hR
  unfold Rt at r
  intro m
  induction m with
  | zero =>
    intro i hp hi hb S1
    have e : (i : Int) = Nn V S := by omega
    have hlt : 0 < hp.length := (List.getElem?_eq_some_iff.1 hb).1
    have r0 : rdN hp 0 0 3 = some [(Value.int .i64 V), (Value.int .i64 S), (Value.int .i64 T)] := by rw [rdN_at hb (by simp [Blk.cells])]; rfl
    rw [J3_0_step, e]
    unfold Jr3_0
    simp only [go_sem, Nat.reduceAdd, Nat.reduceLeDiff, Nat.reduceMul, Int.reduceBEq, Int.reduceBNe, Int.reduceLT, Int.reduceLE, Int.reduceGT, aBin_lss, Int.lt_irrefl, Jk3_0]
    unfold J3_1
    have len : (nodeL V (Nn V S).toNat).length = (Nn V S).toNat := nodeL_len _ _
    have sl := fun (k : Value → Option (Value × Heap)) => S1.len k
    rw [len, show (((Nn V S).toNat : Nat) : Int) = Nn V S by omega] at sl
    have stn := fun (a : Bool) (b c d e : Int) (h : Heap) (k : Heap → Option (Value × Heap)) => st_N ⟨0, 0⟩ 5 hp.length 0 (thC a b c d e) h k rfl rfl
    cases hbx : Bl (x - 1) (Nn V S)
    · have hbx' := Bl_f.1 hbx
      have et : thing V S x = (Value.tuple #[(Value.agg (List.toArray (thC false 0 0 0 0))), (Value.bool false)]) := by unfold thing; rw [hbx]; rfl
      by_cases h1 : 1 ≤ x
      · have h2 : ¬ x ≤ Nn V S := by omega
        simp only [go_sem, Nat.reduceAdd, Nat.reduceLeDiff, Nat.reduceMul, Int.reduceBEq, Int.reduceBNe, Int.reduceLT, Int.reduceLE, Int.reduceGT, r0, node_s _ _ hR hx, et, sl, aBin_geq, h1, aBin_leq, h2, aBin_eqlB u4, aUn_not, stn, thC_eq, awake5]
      · simp only [go_sem, Nat.reduceAdd, Nat.reduceLeDiff, Nat.reduceMul, Int.reduceBEq, Int.reduceBNe, Int.reduceLT, Int.reduceLE, Int.reduceGT, r0, node_s _ _ hR hx, et, sl, aBin_geq, h1, aBin_leq, aBin_eqlB u4, aUn_not, stn, thC_eq, awake5]
    · have hbx' := Bl_t.1 hbx
      have h1 : 1 ≤ x := by omega
      have h2 : x ≤ Nn V S := by omega
      have et : ∃ a b c d e, thing V S x = (Value.tuple #[(Value.agg (List.toArray (thC a b c d e))), (Value.bool true)]) := by
        unfold thing thAt; rw [hbx]
        simp only [cond_true]
        split <;> exact ⟨_, _, _, _, _, rfl⟩
      obtain ⟨a, b, c, d, e, et⟩ := et
      simp only [go_sem, Nat.reduceAdd, Nat.reduceLeDiff, Nat.reduceMul, Int.reduceBEq, Int.reduceBNe, Int.reduceLT, Int.reduceLE, Int.reduceGT, r0, node_s _ _ hR hx, et, sl, aBin_geq, h1, aBin_leq, h2, aBin_eqlB u4, aUn_not, stn, thC_eq, awake5]
  | succ m ih =>
    intro i hp hi hb S1
    have hlt : 0 < hp.length := (List.getElem?_eq_some_iff.1 hb).1
    have hiN : (i : Int) < Nn V S := by omega
    have r0 : ∀ bs, rdN (hp ++ bs) 0 0 3 = some [(Value.int .i64 V), (Value.int .i64 S), (Value.int .i64 T)] := fun bs => by rw [rdN_old hlt, rdN_at hb (by simp [Blk.cells])]; rfl
    have hk : (nodeL V (Nn V S).toNat)[i]? = some (nodeAt V i) := by
      unfold nodeL
      rw [List.getElem?_map, List.getElem?_range (by omega)]
      rfl
    have ix := fun (k : Value → Option (((Value × Value × Value × Value × Value × Value × Value) × Heap) ⊕ (Exit × (Value × Value × Value × Value × Value × Value × Value) × Heap))) => S1.ix (i := (i : Int)) (by omega) (by rw [nodeL_len]; omega) k
    have el := S1.elem hk
    have w1 : IntKind.wrap .i64 ((i : Int) + 1) = ((i + 1 : Nat) : Int) := by rw [wi (by omega) (by omega)]; rfl
    have et : thing V S ((i + 1 : Nat) : Int) = (Value.tuple #[(Value.agg (List.toArray (thAt V i))), (Value.bool true)]) := by
      unfold thing
      have e : (((i + 1 : Nat) : Int) - 1) = (i : Int) := by omega
      rw [e, show Bl (i : Int) (Nn V S) = true from Bl_t.2 (by omega)]; rfl
    have nd := node_s ⟨0, 0⟩ (h := hp ++ [.own (enc4 (nodeAt V i))]) (x := ((i + 1 : Nat) : Int)) hR ⟨by omega, by omega⟩
    rw [et] at nd
    have st4 := fun (h : Heap) (k : Heap → Option (((Value × Value × Value × Value × Value × Value × Value) × Heap) ⊕ (Exit × (Value × Value × Value × Value × Value × Value × Value) × Heap))) => st_N ⟨0, 0⟩ 4 hp.length 0 (enc4 (nodeAt V i)) h k rfl rfl
    have st5 := fun (a : Bool) (b c d e : Int) (j : Nat) (h : Heap) (k : Heap → Option (((Value × Value × Value × Value × Value × Value × Value) × Heap) ⊕ (Exit × (Value × Value × Value × Value × Value × Value × Value) × Heap))) => st_N ⟨0, 0⟩ 5 j 0 (thC a b c d e) h k rfl rfl
    have q : ∀ z : Int, (z != z) = false := fun z => by simp
    rw [J3_0_step]
    unfold Jr3_0
    have rest : ∀ bs, J3_0 C ⟨0, 0⟩ [] ((Value.int .i64 x)) ((Value.pointer (some ⟨0, 0, none⟩))) ((Value.bool false)) v v ((Value.int .i64 (Nn V S))) ((Value.int .i64 (((i + 1 : Nat) : Int)))) (hp ++ bs) = some ((Value.bool true), []) := fun bs =>
      ih (i + 1) (hp ++ bs) (by omega) (by rw [List.getElem?_append_left hlt]; exact hb) S1.app
    by_cases hc : (i : Int) < Lv V * V
    · have ea : nodeAt V i = (1, (i : Int) / V, (i : Int) % V, 0) := by unfold nodeAt; rw [if_pos hc]
      have eb : thAt V i = thC false ((i : Int) / V) ((i : Int) % V) 0 0 := by unfold thAt; rw [if_pos hc]
      have v1 := vertex_s ⟨0, 0⟩ (S := S) (T := T) (a := (i : Int) / V) (b := (i : Int) % V) (V := V)
      have g0 : 0 ≤ (i : Int) % V := Int.emod_nonneg _ (by omega)
      have g1 : (i : Int) % V < V := Int.emod_lt_of_pos _ (by omega)
      have g2 : 0 ≤ (i : Int) / V := Int.ediv_nonneg (by omega) (by omega)
      have g3 : (i : Int) / V < Lv V := by
        refine Int.ediv_lt_of_lt_mul (by omega) ?_
        exact hc
      have vx : Vx V ((i : Int) / V) ((i : Int) % V) = ((i + 1 : Nat) : Int) := by
        unfold Vx
        rw [Bl_t.2 ⟨g2, g3⟩, Bl_t.2 ⟨g0, g1⟩]
        simp only [Bool.and_self, cond_true]
        have := Int.mul_ediv_add_emod (i : Int) V
        rw [Int.mul_comm] at this
        omega
      rw [ea] at el nd st4
      rw [eb] at nd
      simp only [go_sem, Nat.reduceAdd, Nat.reduceLeDiff, Nat.reduceMul, Int.reduceBEq, Int.reduceBNe, Int.reduceLT, Int.reduceLE, Int.reduceGT, aBin_lss, hiN, ix, el, st4, r0, aBin_add, w1, nd, st5, vertex_s _ _ hR, vx, J3_0b0, aUn_not, thC_neq, aBin_neq, q, rest]
    · have ea : nodeAt V i = (2, ((i : Int) - Lv V * V) / (2 * Lv V), ((i : Int) - Lv V * V) % (2 * Lv V) / 2, ((i : Int) - Lv V * V) % 2) := by unfold nodeAt; rw [if_neg hc]
      have eb : thAt V i = thC true (((i : Int) - Lv V * V) % (2 * Lv V) / 2) 0 (((i : Int) - Lv V * V) / (2 * Lv V)) (((i : Int) - Lv V * V) % 2) := by unfold thAt; rw [if_neg hc]
      obtain ⟨j, hj⟩ : ∃ j : Int, (i : Int) - Lv V * V = j := ⟨_, rfl⟩
      rw [hj] at ea eb
      have g0 : 0 ≤ j % (2 * Lv V) := Int.emod_nonneg _ (by omega)
      have g1 : j % (2 * Lv V) < 2 * Lv V := Int.emod_lt_of_pos _ (by omega)
      have g2 : 0 ≤ j / (2 * Lv V) := Int.ediv_nonneg (by omega) (by omega)
      have g3 : j / (2 * Lv V) < S := Int.ediv_lt_of_lt_mul (by omega) (by omega)
      have g4 : j % (2 * Lv V) % 2 = j % 2 := Int.emod_emod_of_dvd _ ⟨Lv V, rfl⟩
      have ax : Ax V S (j / (2 * Lv V)) (j % (2 * Lv V) / 2) (j % 2) = ((i + 1 : Nat) : Int) := by
        unfold Ax
        rw [Bl_t.2 ⟨g2, g3⟩, show Bl (j % (2 * Lv V) / 2) (Lv V) = true from Bl_t.2 (by omega), show Bl (j % 2) 2 = true from Bl_t.2 (by omega)]
        simp only [Bool.and_self, cond_true]
        have := Int.mul_ediv_add_emod j (2 * Lv V)
        rw [Int.mul_comm] at this
        omega
      have nv : Vx V (j / (2 * Lv V)) (j % (2 * Lv V) / 2) = Vx V (j / (2 * Lv V)) (j % (2 * Lv V) / 2) := rfl
      rw [ea] at el nd st4
      rw [eb] at nd
      simp only [go_sem, Nat.reduceAdd, Nat.reduceLeDiff, Nat.reduceMul, Int.reduceBEq, Int.reduceBNe, Int.reduceLT, Int.reduceLE, Int.reduceGT, aBin_lss, hiN, ix, el, st4, r0, aBin_add, w1, nd, st5, vertex_s _ _ hR, arc_s _ _ hR, ax, J3_0b0, aUn_not, thC_neq, aBin_neq, q, rest]
theorem nodes_law : Law Try.prog cfg 3 [23, 3] := by
  intro h avs ha
  obtain ⟨v, r, rfl, a, ha⟩ := args_cons ha
  obtain ⟨v2, r, rfl, a2, ha⟩ := args_cons ha
  obtain rfl := args_nil ha
  obtain ⟨V, S, T, rfl, hV, hS, hT⟩ := arg_lay a
  obtain ⟨x, rfl, hx⟩ := inI64 (arg1 (P := Try.prog) (by kernel_rfl) (by kernel_rfl) a2)
  refine ⟨h, ?_⟩
  rw [call_eq, F3_eq]
  unfold F3
  by_cases hR : Rt V S T
  · obtain ⟨w, h1, e1, S1, O1⟩ := refnodes_s ⟨0, 0⟩ [Blk.own [(Value.int .i64 V), (Value.int .i64 S), (Value.int .i64 T)]] (Nat.zero_le _) hR
    have hb : h1[0]? = some (.own [(Value.int .i64 V), (Value.int .i64 S), (Value.int .i64 T)]) := O1.old 0 (by simp)
    have r0 : rdN h1 0 0 3 = some [(Value.int .i64 V), (Value.int .i64 S), (Value.int .i64 T)] := by rw [rdN_at hb (by simp [Blk.cells])]; rfl
    have sl := fun (k : Value → Option (Value × Heap)) => S1.len k
    have cn := Cn_le hR
    rw [nodeL_len, show (((Nn V S).toNat : Nat) : Int) = Nn V S by omega] at sl
    have q : ∀ z : Int, (z != z) = false := fun z => by simp
    have sl2 : ∀ {α : Type} (k : Value → Option α), lenS w k = k ((Value.int .i64 (Nn V S))) := fun k => by
      have := S1.len k
      rwa [nodeL_len, show (((Nn V S).toNat : Nat) : Int) = Nn V S by omega] at this
    have fin := nodes_loop hR hx w (Nn V S).toNat 0 h1 (by omega) hb S1
    simp only [go_sem, Nat.reduceAdd, Nat.reduceLeDiff, Nat.reduceMul, Int.reduceBEq, Int.reduceBNe, Int.reduceLT, Int.reduceLE, Int.reduceGT, right_n _ _ hV hT, refof_s, refright_s, hR, aBin_neqB u4, e1, r0, levels_s _ _ hR, reflevels_s _ _ hR, nodes_s _ _ hR, q, sl2, aBin_neq]
    rw [show ((0 : Int)) = ((0 : Nat) : Int) from rfl, fin]
    rfl
  · simp only [go_sem, Nat.reduceAdd, Nat.reduceLeDiff, Nat.reduceMul, Int.reduceBEq, Int.reduceBNe, Int.reduceLT, Int.reduceLE, Int.reduceGT, right_n _ _ hV hT, refof_s, refright_s, hR, aBin_neqB u4, awake5]
end Go.Det.E

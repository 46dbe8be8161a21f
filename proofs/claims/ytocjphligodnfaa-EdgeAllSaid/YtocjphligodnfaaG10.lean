/- The law of the edges turned and lifted, and back. -/
import Derived.Test.YtocjphligodnfaaG9
set_option autoImplicit false
set_option linter.unusedVariables false
set_option linter.unusedSimpArgs false
namespace Go.Det.E
open Go.Proofs Go.Det
attribute [local congr] bind_c cond_c
/-- What the play's laws find once it has begun. -/
theorem first_s {h h8 : Heap} {a b n : Nat} {S T : Int} (la : h.length + 1 ≤ a) (lb : h.length + 1 ≤ b) (A8 : Ar h8 a b (List.replicate (Cn n S T).toNat 0) [0, 0, 0, 0, 0]) {d : Blk} (O8 : Old (h.length + 1) (h ++ [d]) h8) :
    h8[h.length]? = some d ∧ h.length + 1 ≤ h8.length ∧ Old h.length h (h8 ++ [Blk.own [(Value.int .i64 ((n : Int))), (Value.int .i64 S), (Value.int .i64 T), ifA a], Blk.own [(Value.int .i64 ((n : Int))), (Value.int .i64 S), (Value.int .i64 T), (Value.int .i64 ((n : Int))), (Value.int .i64 S), (Value.int .i64 T), ifA a, .slice none 0 0]]) := by
  have := O8.len
  simp only [List.length_append, List.length_cons, List.length_nil] at this
  exact ⟨(O8.old _ (by omega)).trans (by simp), by omega, ⟨by simp; omega, fun x hx => by rw [List.getElem?_append_left (by omega), O8.old x (by omega), List.getElem?_append_left hx]⟩⟩
theorem turns_law : Law Try.prog cfg 11 [23, 49, 3] := by
  intro h avs ha
  obtain ⟨x, r, rfl, a0, ha⟩ := args_cons ha
  obtain ⟨v, r, rfl, a1, ha⟩ := args_cons ha
  obtain ⟨y, r, rfl, a2, ha⟩ := args_cons ha
  obtain rfl := args_nil ha
  obtain ⟨V, S, T, rfl, hV, hS, hT⟩ := arg_lay a0
  obtain ⟨ops, SV⟩ := arg_ops a1
  obtain ⟨lev, rfl, _⟩ := inI64 (arg1 (by kernel_rfl) (by kernel_rfl) a2)
  have len := fun {α : Type} (k : Value → Option α) => SV.len k
  have rt := right11_s ⟨0, h.length⟩ (h ++ [Blk.own [(Value.int .i64 V), (Value.int .i64 S), (Value.int .i64 T)]]) hV hS hT (Nat.zero_le _) (by simp)
  rw [call_eq, F11_eq]
  unfold F11
  by_cases hq : Rt V S T ∧ V ≤ 8
  · have hd : decide (Rt V S T ∧ V ≤ 8) = true := decide_eq_true hq
    rw [hd] at rt
    have lvs := levels_s ⟨0, h.length⟩ (h ++ [Blk.own [(Value.int .i64 V), (Value.int .i64 S), (Value.int .i64 T)]]) hq.1
    by_cases h60 : (60 : Int) < ops.length
    · exact ⟨h, by simp only [go_sem, Nat.reduceAdd, Nat.reduceLeDiff, Nat.reduceMul, Int.reduceBEq, Int.reduceBNe, Int.reduceLT, Int.reduceLE, Int.reduceGT, rt, len, aBin_gtr, gt_iff_lt, h60, awake11]⟩
    by_cases h61 : lev < 0
    · exact ⟨h, by simp only [go_sem, Nat.reduceAdd, Nat.reduceLeDiff, Nat.reduceMul, Int.reduceBEq, Int.reduceBNe, Int.reduceLT, Int.reduceLE, Int.reduceGT, rt, len, aBin_gtr, aBin_lss, gt_iff_lt, h60, h61, awake11]⟩
    by_cases h62 : Lv V ≤ lev
    · exact ⟨h, by simp only [go_sem, Nat.reduceAdd, Nat.reduceLeDiff, Nat.reduceMul, Int.reduceBEq, Int.reduceBNe, Int.reduceLT, Int.reduceLE, Int.reduceGT, rt, len, aBin_gtr, aBin_lss, aBin_geq, ge_iff_le, gt_iff_lt, h60, h61, lvs, h62, awake11]⟩
    obtain ⟨n, rfl⟩ : ∃ n : Nat, V = n := ⟨V.toNat, by have := hq.1.1; omega⟩
    obtain ⟨h8, a, b, e8, A8, O8, la, lb⟩ := begun_s ⟨0, h.length⟩ (h ++ [Blk.own [(Value.int .i64 ((n : Int))), (Value.int .i64 S), (Value.int .i64 T)]]) hq.1 (Nat.zero_le _) (by simp)
    simp only [List.length_append, List.length_cons, List.length_nil] at la lb O8
    obtain ⟨b8, hl8, O⟩ := first_s la lb A8 O8
    have P := Pl.first (V := n) (S := S) (T := T) A8 (lt_of A8.ha) (lt_of A8.hb) (.own [(Value.int .i64 ((n : Int))), (Value.int .i64 S), (Value.int .i64 T), ifA a])
    have haa := lt_of A8.ha
    have hbb := lt_of A8.hb
    obtain ⟨g, l1, c1, v1, all1, e1, P1, I1, m1, K1⟩ := turns_ops hq.1 SV (by omega) ⟨by omega, by omega, by omega⟩ ((Value.int .i64 lev)) ((Value.bool false)) ((Value.pointer (some ⟨h8.length, 0, none⟩))) ops.length 0 _ _ _ _ _ (by omega) P (EI.none0 hq.1) (Nat.le_refl _) O
    have y1 : g[h8.length]? = some (.own [(Value.int .i64 ((n : Int))), (Value.int .i64 S), (Value.int .i64 T), ifA a]) := (K1.oth _ (by omega) (by omega) (by omega)).trans (by simp)
    have hlg : h.length ≤ g.length := by have := K1.len; simp at this; omega
    obtain ⟨g2, l2, c2, e2, P2, I2⟩ := turns_all (h := h) (lev := lev) hq.1 m1 ⟨by omega, by omega⟩ (q := h8.length) ⟨by omega, by omega, by omega⟩ ((Value.bool false)) all1.length 0 g l1 c1 (by omega) P1 I1 y1 hlg
    obtain ⟨g3, c3, e3, A3, o3⟩ := is_e (md := ⟨0, h.length⟩) hq.1 P2 I2 (by omega) (Nat.zero_le _)
    have r7 : rd g (h8.length + 1) 7 = some v1 := by rw [rd_at P1.hp]; rfl
    have len1 := fun {α : Type} (k : Value → Option α) => P1.sl.sl.len k
    have r0 : rdN (h8 ++ [Blk.own [(Value.int .i64 ((n : Int))), (Value.int .i64 S), (Value.int .i64 T), ifA a]]) h.length 0 3 = some [(Value.int .i64 ((n : Int))), (Value.int .i64 S), (Value.int .i64 T)] := by
      rw [rdN_own (by rw [List.getElem?_append_left (by omega)]; exact b8) (by simp)]; rfl
    have st4 := fun (h' : Heap) (kk : Heap → Option (Value × Heap)) => st_N ⟨0, h.length⟩ 4 h8.length 0 [(Value.int .i64 ((n : Int))), (Value.int .i64 S), (Value.int .i64 T), ifA a] h' kk rfl rfl
    have hll : h.length ≤ h8.length := by omega
    refine ⟨g3.take h.length, ?_⟩
    simp only [go_sem, Nat.reduceAdd, Nat.reduceLeDiff, Nat.reduceMul, Int.reduceBEq, Int.reduceBNe, Int.reduceLT, Int.reduceLE, Int.reduceGT, rt, len, aBin_gtr, aBin_lss, aBin_geq, ge_iff_le, gt_iff_lt, h60, h61, lvs, h62, e8, st4, hll, r0, bPlay]
    refine e1.trans ?_
    unfold J11_1
    simp only [go_sem, Nat.reduceAdd, Nat.reduceLeDiff, Nat.reduceMul, Int.reduceBEq, Int.reduceBNe, Int.reduceLT, Int.reduceLE, Int.reduceGT, r7, len1]
    refine e2.trans ?_
    unfold J11_3
    simp only [go_sem, Nat.reduceAdd, Nat.reduceLeDiff, Nat.reduceMul, Int.reduceBEq, Int.reduceBNe, Int.reduceLT, Int.reduceLE, Int.reduceGT, e3, awake11]
  · have hd : decide (Rt V S T ∧ V ≤ 8) = false := decide_eq_false hq
    rw [hd] at rt
    exact ⟨h, by simp only [go_sem, Nat.reduceAdd, Nat.reduceLeDiff, Nat.reduceMul, Int.reduceBEq, Int.reduceBNe, Int.reduceLT, Int.reduceLE, Int.reduceGT, rt, awake11]⟩
end Go.Det.E

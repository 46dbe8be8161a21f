/- Scanning: what a rune is. -/
import Derived.Test.YthhlflpeibdfmaaDoorQE
import Derived.Test.YthhlflpeibdfmaaDoorQL
import Derived.Test.YthhlflpeibdfmaaDoorN1
import Derived.Test.YthhlflpeibdfmaaDoorDetS
import Derived.Test.YthhlflpeibdfmaaDoorDetW
import Derived.Lib.MapLaws
set_option autoImplicit false
set_option linter.unusedVariables false
set_option linter.unusedSimpArgs false
namespace Go.Det.E
open Go.Proofs Go.Det
attribute [local congr] bind_c cond_c
/-- What a rune is. -/
def cls (c : Int) : Int :=
  if c = 32 ∨ c = 9 ∨ c = 10 then 1 else if 48 ≤ c ∧ c ≤ 57 then 2 else if (97 ≤ c ∧ c ≤ 122) ∨ (65 ≤ c ∧ c ≤ 90) ∨ c = 95 ∨ (192 ≤ c ∧ c ≠ 65533) then 3 else if 33 ≤ c ∧ c ≤ 126 then 4 else 0
theorem cls_cases (c : Int) : (c = 32) ∨ (c = 9) ∨ (c = 10) ∨ (c < 32 ∧ c ≠ 9 ∧ c ≠ 10) ∨ (32 < c ∧ c < 48) ∨ (48 ≤ c ∧ c ≤ 57) ∨ (58 ≤ c ∧ c ≤ 64) ∨ (65 ≤ c ∧ c ≤ 90) ∨ (91 ≤ c ∧ c ≤ 96 ∧ c ≠ 95) ∨ (c = 95) ∨ (97 ≤ c ∧ c ≤ 122) ∨ (123 ≤ c ∧ c ≤ 126) ∨ (127 ≤ c ∧ c < 192) ∨ (192 ≤ c ∧ c ≠ 65533) ∨ (c = 65533) := by omega
theorem class_s (md : Md) (h : Heap) (c : Int) : C md 14 [.int .i32 c] h = some ((Value.int .i64 (cls c)), h) := by
  rw [C, call_eq, F14_eq]
  unfold F14
  rcases cls_cases c with k | k | k | k | k | k | k | k | k | k | k | k | k | k | k
  · have e : cls c = 1 := by unfold cls; repeat' split
                             all_goals omega
    have a0 : (c == 32) = true := by simp; omega
    have a1 : (c == 9) = false := by simp; omega
    have a2 : (c == 10) = false := by simp; omega
    have a3 : ¬ (48 ≤ c) := by omega
    have a4 : c ≤ 57 := by omega
    have a5 : ¬ (97 ≤ c) := by omega
    have a6 : c ≤ 122 := by omega
    have a7 : ¬ (65 ≤ c) := by omega
    have a8 : c ≤ 90 := by omega
    have a9 : (c == 95) = false := by simp; omega
    have a10 : ¬ (192 ≤ c) := by omega
    have a11 : (c != 65533) = true := by simp; omega
    have a12 : ¬ (32 < c) := by omega
    have a13 : ¬ (33 ≤ c) := by omega
    have a14 : c ≤ 126 := by omega
    simp only [go_sem, Nat.reduceAdd, Nat.reduceLeDiff, Nat.reduceMul, Int.reduceBEq, Int.reduceBNe, Int.reduceLT, Int.reduceLE, Int.reduceGT, e, ge_iff_le, gt_iff_lt, a0, a1, a2, a3, a4, a5, a6, a7, a8, a9, a10, a11, a12, a13, a14, aBin_eql, aBin_leq, aBin_geq, aBin_gtr, aBin_neq]
  · have e : cls c = 1 := by unfold cls; repeat' split
                             all_goals omega
    have a0 : (c == 32) = false := by simp; omega
    have a1 : (c == 9) = true := by simp; omega
    have a2 : (c == 10) = false := by simp; omega
    have a3 : ¬ (48 ≤ c) := by omega
    have a4 : c ≤ 57 := by omega
    have a5 : ¬ (97 ≤ c) := by omega
    have a6 : c ≤ 122 := by omega
    have a7 : ¬ (65 ≤ c) := by omega
    have a8 : c ≤ 90 := by omega
    have a9 : (c == 95) = false := by simp; omega
    have a10 : ¬ (192 ≤ c) := by omega
    have a11 : (c != 65533) = true := by simp; omega
    have a12 : ¬ (32 < c) := by omega
    have a13 : ¬ (33 ≤ c) := by omega
    have a14 : c ≤ 126 := by omega
    simp only [go_sem, Nat.reduceAdd, Nat.reduceLeDiff, Nat.reduceMul, Int.reduceBEq, Int.reduceBNe, Int.reduceLT, Int.reduceLE, Int.reduceGT, e, ge_iff_le, gt_iff_lt, a0, a1, a2, a3, a4, a5, a6, a7, a8, a9, a10, a11, a12, a13, a14, aBin_eql, aBin_leq, aBin_geq, aBin_gtr, aBin_neq]
  · have e : cls c = 1 := by unfold cls; repeat' split
                             all_goals omega
    have a0 : (c == 32) = false := by simp; omega
    have a1 : (c == 9) = false := by simp; omega
    have a2 : (c == 10) = true := by simp; omega
    have a3 : ¬ (48 ≤ c) := by omega
    have a4 : c ≤ 57 := by omega
    have a5 : ¬ (97 ≤ c) := by omega
    have a6 : c ≤ 122 := by omega
    have a7 : ¬ (65 ≤ c) := by omega
    have a8 : c ≤ 90 := by omega
    have a9 : (c == 95) = false := by simp; omega
    have a10 : ¬ (192 ≤ c) := by omega
    have a11 : (c != 65533) = true := by simp; omega
    have a12 : ¬ (32 < c) := by omega
    have a13 : ¬ (33 ≤ c) := by omega
    have a14 : c ≤ 126 := by omega
    simp only [go_sem, Nat.reduceAdd, Nat.reduceLeDiff, Nat.reduceMul, Int.reduceBEq, Int.reduceBNe, Int.reduceLT, Int.reduceLE, Int.reduceGT, e, ge_iff_le, gt_iff_lt, a0, a1, a2, a3, a4, a5, a6, a7, a8, a9, a10, a11, a12, a13, a14, aBin_eql, aBin_leq, aBin_geq, aBin_gtr, aBin_neq]
  · have e : cls c = 0 := by unfold cls; repeat' split
                             all_goals omega
    have a0 : (c == 32) = false := by simp; omega
    have a1 : (c == 9) = false := by simp; omega
    have a2 : (c == 10) = false := by simp; omega
    have a3 : ¬ (48 ≤ c) := by omega
    have a4 : c ≤ 57 := by omega
    have a5 : ¬ (97 ≤ c) := by omega
    have a6 : c ≤ 122 := by omega
    have a7 : ¬ (65 ≤ c) := by omega
    have a8 : c ≤ 90 := by omega
    have a9 : (c == 95) = false := by simp; omega
    have a10 : ¬ (192 ≤ c) := by omega
    have a11 : (c != 65533) = true := by simp; omega
    have a12 : ¬ (32 < c) := by omega
    have a13 : ¬ (33 ≤ c) := by omega
    have a14 : c ≤ 126 := by omega
    simp only [go_sem, Nat.reduceAdd, Nat.reduceLeDiff, Nat.reduceMul, Int.reduceBEq, Int.reduceBNe, Int.reduceLT, Int.reduceLE, Int.reduceGT, e, ge_iff_le, gt_iff_lt, a0, a1, a2, a3, a4, a5, a6, a7, a8, a9, a10, a11, a12, a13, a14, aBin_eql, aBin_leq, aBin_geq, aBin_gtr, aBin_neq]
  · have e : cls c = 4 := by unfold cls; repeat' split
                             all_goals omega
    have a0 : (c == 32) = false := by simp; omega
    have a1 : (c == 9) = false := by simp; omega
    have a2 : (c == 10) = false := by simp; omega
    have a3 : ¬ (48 ≤ c) := by omega
    have a4 : c ≤ 57 := by omega
    have a5 : ¬ (97 ≤ c) := by omega
    have a6 : c ≤ 122 := by omega
    have a7 : ¬ (65 ≤ c) := by omega
    have a8 : c ≤ 90 := by omega
    have a9 : (c == 95) = false := by simp; omega
    have a10 : ¬ (192 ≤ c) := by omega
    have a11 : (c != 65533) = true := by simp; omega
    have a12 : 32 < c := by omega
    have a13 : 33 ≤ c := by omega
    have a14 : c ≤ 126 := by omega
    simp only [go_sem, Nat.reduceAdd, Nat.reduceLeDiff, Nat.reduceMul, Int.reduceBEq, Int.reduceBNe, Int.reduceLT, Int.reduceLE, Int.reduceGT, e, ge_iff_le, gt_iff_lt, a0, a1, a2, a3, a4, a5, a6, a7, a8, a9, a10, a11, a12, a13, a14, aBin_eql, aBin_leq, aBin_geq, aBin_gtr, aBin_neq]
  · have e : cls c = 2 := by unfold cls; repeat' split
                             all_goals omega
    have a0 : (c == 32) = false := by simp; omega
    have a1 : (c == 9) = false := by simp; omega
    have a2 : (c == 10) = false := by simp; omega
    have a3 : 48 ≤ c := by omega
    have a4 : c ≤ 57 := by omega
    have a5 : ¬ (97 ≤ c) := by omega
    have a6 : c ≤ 122 := by omega
    have a7 : ¬ (65 ≤ c) := by omega
    have a8 : c ≤ 90 := by omega
    have a9 : (c == 95) = false := by simp; omega
    have a10 : ¬ (192 ≤ c) := by omega
    have a11 : (c != 65533) = true := by simp; omega
    have a12 : 32 < c := by omega
    have a13 : 33 ≤ c := by omega
    have a14 : c ≤ 126 := by omega
    simp only [go_sem, Nat.reduceAdd, Nat.reduceLeDiff, Nat.reduceMul, Int.reduceBEq, Int.reduceBNe, Int.reduceLT, Int.reduceLE, Int.reduceGT, e, ge_iff_le, gt_iff_lt, a0, a1, a2, a3, a4, a5, a6, a7, a8, a9, a10, a11, a12, a13, a14, aBin_eql, aBin_leq, aBin_geq, aBin_gtr, aBin_neq]
  · have e : cls c = 4 := by unfold cls; repeat' split
                             all_goals omega
    have a0 : (c == 32) = false := by simp; omega
    have a1 : (c == 9) = false := by simp; omega
    have a2 : (c == 10) = false := by simp; omega
    have a3 : 48 ≤ c := by omega
    have a4 : ¬ (c ≤ 57) := by omega
    have a5 : ¬ (97 ≤ c) := by omega
    have a6 : c ≤ 122 := by omega
    have a7 : ¬ (65 ≤ c) := by omega
    have a8 : c ≤ 90 := by omega
    have a9 : (c == 95) = false := by simp; omega
    have a10 : ¬ (192 ≤ c) := by omega
    have a11 : (c != 65533) = true := by simp; omega
    have a12 : 32 < c := by omega
    have a13 : 33 ≤ c := by omega
    have a14 : c ≤ 126 := by omega
    simp only [go_sem, Nat.reduceAdd, Nat.reduceLeDiff, Nat.reduceMul, Int.reduceBEq, Int.reduceBNe, Int.reduceLT, Int.reduceLE, Int.reduceGT, e, ge_iff_le, gt_iff_lt, a0, a1, a2, a3, a4, a5, a6, a7, a8, a9, a10, a11, a12, a13, a14, aBin_eql, aBin_leq, aBin_geq, aBin_gtr, aBin_neq]
  · have e : cls c = 3 := by unfold cls; repeat' split
                             all_goals omega
    have a0 : (c == 32) = false := by simp; omega
    have a1 : (c == 9) = false := by simp; omega
    have a2 : (c == 10) = false := by simp; omega
    have a3 : 48 ≤ c := by omega
    have a4 : ¬ (c ≤ 57) := by omega
    have a5 : ¬ (97 ≤ c) := by omega
    have a6 : c ≤ 122 := by omega
    have a7 : 65 ≤ c := by omega
    have a8 : c ≤ 90 := by omega
    have a9 : (c == 95) = false := by simp; omega
    have a10 : ¬ (192 ≤ c) := by omega
    have a11 : (c != 65533) = true := by simp; omega
    have a12 : 32 < c := by omega
    have a13 : 33 ≤ c := by omega
    have a14 : c ≤ 126 := by omega
    simp only [go_sem, Nat.reduceAdd, Nat.reduceLeDiff, Nat.reduceMul, Int.reduceBEq, Int.reduceBNe, Int.reduceLT, Int.reduceLE, Int.reduceGT, e, ge_iff_le, gt_iff_lt, a0, a1, a2, a3, a4, a5, a6, a7, a8, a9, a10, a11, a12, a13, a14, aBin_eql, aBin_leq, aBin_geq, aBin_gtr, aBin_neq]
  · have e : cls c = 4 := by unfold cls; repeat' split
                             all_goals omega
    have a0 : (c == 32) = false := by simp; omega
    have a1 : (c == 9) = false := by simp; omega
    have a2 : (c == 10) = false := by simp; omega
    have a3 : 48 ≤ c := by omega
    have a4 : ¬ (c ≤ 57) := by omega
    have a5 : ¬ (97 ≤ c) := by omega
    have a6 : c ≤ 122 := by omega
    have a7 : 65 ≤ c := by omega
    have a8 : ¬ (c ≤ 90) := by omega
    have a9 : (c == 95) = false := by simp; omega
    have a10 : ¬ (192 ≤ c) := by omega
    have a11 : (c != 65533) = true := by simp; omega
    have a12 : 32 < c := by omega
    have a13 : 33 ≤ c := by omega
    have a14 : c ≤ 126 := by omega
    simp only [go_sem, Nat.reduceAdd, Nat.reduceLeDiff, Nat.reduceMul, Int.reduceBEq, Int.reduceBNe, Int.reduceLT, Int.reduceLE, Int.reduceGT, e, ge_iff_le, gt_iff_lt, a0, a1, a2, a3, a4, a5, a6, a7, a8, a9, a10, a11, a12, a13, a14, aBin_eql, aBin_leq, aBin_geq, aBin_gtr, aBin_neq]
  · have e : cls c = 3 := by unfold cls; repeat' split
                             all_goals omega
    have a0 : (c == 32) = false := by simp; omega
    have a1 : (c == 9) = false := by simp; omega
    have a2 : (c == 10) = false := by simp; omega
    have a3 : 48 ≤ c := by omega
    have a4 : ¬ (c ≤ 57) := by omega
    have a5 : ¬ (97 ≤ c) := by omega
    have a6 : c ≤ 122 := by omega
    have a7 : 65 ≤ c := by omega
    have a8 : ¬ (c ≤ 90) := by omega
    have a9 : (c == 95) = true := by simp; omega
    have a10 : ¬ (192 ≤ c) := by omega
    have a11 : (c != 65533) = true := by simp; omega
    have a12 : 32 < c := by omega
    have a13 : 33 ≤ c := by omega
    have a14 : c ≤ 126 := by omega
    simp only [go_sem, Nat.reduceAdd, Nat.reduceLeDiff, Nat.reduceMul, Int.reduceBEq, Int.reduceBNe, Int.reduceLT, Int.reduceLE, Int.reduceGT, e, ge_iff_le, gt_iff_lt, a0, a1, a2, a3, a4, a5, a6, a7, a8, a9, a10, a11, a12, a13, a14, aBin_eql, aBin_leq, aBin_geq, aBin_gtr, aBin_neq]
  · have e : cls c = 3 := by unfold cls; repeat' split
                             all_goals omega
    have a0 : (c == 32) = false := by simp; omega
    have a1 : (c == 9) = false := by simp; omega
    have a2 : (c == 10) = false := by simp; omega
    have a3 : 48 ≤ c := by omega
    have a4 : ¬ (c ≤ 57) := by omega
    have a5 : 97 ≤ c := by omega
    have a6 : c ≤ 122 := by omega
    have a7 : 65 ≤ c := by omega
    have a8 : ¬ (c ≤ 90) := by omega
    have a9 : (c == 95) = false := by simp; omega
    have a10 : ¬ (192 ≤ c) := by omega
    have a11 : (c != 65533) = true := by simp; omega
    have a12 : 32 < c := by omega
    have a13 : 33 ≤ c := by omega
    have a14 : c ≤ 126 := by omega
    simp only [go_sem, Nat.reduceAdd, Nat.reduceLeDiff, Nat.reduceMul, Int.reduceBEq, Int.reduceBNe, Int.reduceLT, Int.reduceLE, Int.reduceGT, e, ge_iff_le, gt_iff_lt, a0, a1, a2, a3, a4, a5, a6, a7, a8, a9, a10, a11, a12, a13, a14, aBin_eql, aBin_leq, aBin_geq, aBin_gtr, aBin_neq]
  · have e : cls c = 4 := by unfold cls; repeat' split
                             all_goals omega
    have a0 : (c == 32) = false := by simp; omega
    have a1 : (c == 9) = false := by simp; omega
    have a2 : (c == 10) = false := by simp; omega
    have a3 : 48 ≤ c := by omega
    have a4 : ¬ (c ≤ 57) := by omega
    have a5 : 97 ≤ c := by omega
    have a6 : ¬ (c ≤ 122) := by omega
    have a7 : 65 ≤ c := by omega
    have a8 : ¬ (c ≤ 90) := by omega
    have a9 : (c == 95) = false := by simp; omega
    have a10 : ¬ (192 ≤ c) := by omega
    have a11 : (c != 65533) = true := by simp; omega
    have a12 : 32 < c := by omega
    have a13 : 33 ≤ c := by omega
    have a14 : c ≤ 126 := by omega
    simp only [go_sem, Nat.reduceAdd, Nat.reduceLeDiff, Nat.reduceMul, Int.reduceBEq, Int.reduceBNe, Int.reduceLT, Int.reduceLE, Int.reduceGT, e, ge_iff_le, gt_iff_lt, a0, a1, a2, a3, a4, a5, a6, a7, a8, a9, a10, a11, a12, a13, a14, aBin_eql, aBin_leq, aBin_geq, aBin_gtr, aBin_neq]
  · have e : cls c = 0 := by unfold cls; repeat' split
                             all_goals omega
    have a0 : (c == 32) = false := by simp; omega
    have a1 : (c == 9) = false := by simp; omega
    have a2 : (c == 10) = false := by simp; omega
    have a3 : 48 ≤ c := by omega
    have a4 : ¬ (c ≤ 57) := by omega
    have a5 : 97 ≤ c := by omega
    have a6 : ¬ (c ≤ 122) := by omega
    have a7 : 65 ≤ c := by omega
    have a8 : ¬ (c ≤ 90) := by omega
    have a9 : (c == 95) = false := by simp; omega
    have a10 : ¬ (192 ≤ c) := by omega
    have a11 : (c != 65533) = true := by simp; omega
    have a12 : 32 < c := by omega
    have a13 : 33 ≤ c := by omega
    have a14 : ¬ (c ≤ 126) := by omega
    simp only [go_sem, Nat.reduceAdd, Nat.reduceLeDiff, Nat.reduceMul, Int.reduceBEq, Int.reduceBNe, Int.reduceLT, Int.reduceLE, Int.reduceGT, e, ge_iff_le, gt_iff_lt, a0, a1, a2, a3, a4, a5, a6, a7, a8, a9, a10, a11, a12, a13, a14, aBin_eql, aBin_leq, aBin_geq, aBin_gtr, aBin_neq]
  · have e : cls c = 3 := by unfold cls; repeat' split
                             all_goals omega
    have a0 : (c == 32) = false := by simp; omega
    have a1 : (c == 9) = false := by simp; omega
    have a2 : (c == 10) = false := by simp; omega
    have a3 : 48 ≤ c := by omega
    have a4 : ¬ (c ≤ 57) := by omega
    have a5 : 97 ≤ c := by omega
    have a6 : ¬ (c ≤ 122) := by omega
    have a7 : 65 ≤ c := by omega
    have a8 : ¬ (c ≤ 90) := by omega
    have a9 : (c == 95) = false := by simp; omega
    have a10 : 192 ≤ c := by omega
    have a11 : (c != 65533) = true := by simp; omega
    have a12 : 32 < c := by omega
    have a13 : 33 ≤ c := by omega
    have a14 : ¬ (c ≤ 126) := by omega
    simp only [go_sem, Nat.reduceAdd, Nat.reduceLeDiff, Nat.reduceMul, Int.reduceBEq, Int.reduceBNe, Int.reduceLT, Int.reduceLE, Int.reduceGT, e, ge_iff_le, gt_iff_lt, a0, a1, a2, a3, a4, a5, a6, a7, a8, a9, a10, a11, a12, a13, a14, aBin_eql, aBin_leq, aBin_geq, aBin_gtr, aBin_neq]
  · have e : cls c = 0 := by unfold cls; repeat' split
                             all_goals omega
    have a0 : (c == 32) = false := by simp; omega
    have a1 : (c == 9) = false := by simp; omega
    have a2 : (c == 10) = false := by simp; omega
    have a3 : 48 ≤ c := by omega
    have a4 : ¬ (c ≤ 57) := by omega
    have a5 : 97 ≤ c := by omega
    have a6 : ¬ (c ≤ 122) := by omega
    have a7 : 65 ≤ c := by omega
    have a8 : ¬ (c ≤ 90) := by omega
    have a9 : (c == 95) = false := by simp; omega
    have a10 : 192 ≤ c := by omega
    have a11 : (c != 65533) = false := by simp; omega
    have a12 : 32 < c := by omega
    have a13 : 33 ≤ c := by omega
    have a14 : ¬ (c ≤ 126) := by omega
    simp only [go_sem, Nat.reduceAdd, Nat.reduceLeDiff, Nat.reduceMul, Int.reduceBEq, Int.reduceBNe, Int.reduceLT, Int.reduceLE, Int.reduceGT, e, ge_iff_le, gt_iff_lt, a0, a1, a2, a3, a4, a5, a6, a7, a8, a9, a10, a11, a12, a13, a14, aBin_eql, aBin_leq, aBin_geq, aBin_gtr, aBin_neq]
theorem rclass_s (md : Md) (h : Heap) (c : Int) : C md 15 [(Value.int .i64 c)] h = some ((Value.int .i64 (cls c)), h) := by
  rw [C, call_eq, F15_eq]
  unfold F15
  rcases cls_cases c with k | k | k | k | k | k | k | k | k | k | k | k | k | k | k
  · have e : cls c = 1 := by unfold cls; repeat' split
                             all_goals omega
    have a0 : (c == 32) = true := by simp; omega
    have a1 : (c == 9) = false := by simp; omega
    have a2 : (c == 10) = false := by simp; omega
    have a3 : ¬ (48 ≤ c) := by omega
    have a4 : c ≤ 57 := by omega
    have a5 : ¬ (97 ≤ c) := by omega
    have a6 : c ≤ 122 := by omega
    have a7 : ¬ (65 ≤ c) := by omega
    have a8 : c ≤ 90 := by omega
    have a9 : (c == 95) = false := by simp; omega
    have a10 : ¬ (192 ≤ c) := by omega
    have a11 : (c != 65533) = true := by simp; omega
    have a12 : ¬ (32 < c) := by omega
    have a13 : ¬ (33 ≤ c) := by omega
    have a14 : c ≤ 126 := by omega
    simp only [go_sem, Nat.reduceAdd, Nat.reduceLeDiff, Nat.reduceMul, Int.reduceBEq, Int.reduceBNe, Int.reduceLT, Int.reduceLE, Int.reduceGT, e, ge_iff_le, gt_iff_lt, a0, a1, a2, a3, a4, a5, a6, a7, a8, a9, a10, a11, a12, a13, a14, aBin_eql, aBin_leq, aBin_geq, aBin_gtr, aBin_neq]
  · have e : cls c = 1 := by unfold cls; repeat' split
                             all_goals omega
    have a0 : (c == 32) = false := by simp; omega
    have a1 : (c == 9) = true := by simp; omega
    have a2 : (c == 10) = false := by simp; omega
    have a3 : ¬ (48 ≤ c) := by omega
    have a4 : c ≤ 57 := by omega
    have a5 : ¬ (97 ≤ c) := by omega
    have a6 : c ≤ 122 := by omega
    have a7 : ¬ (65 ≤ c) := by omega
    have a8 : c ≤ 90 := by omega
    have a9 : (c == 95) = false := by simp; omega
    have a10 : ¬ (192 ≤ c) := by omega
    have a11 : (c != 65533) = true := by simp; omega
    have a12 : ¬ (32 < c) := by omega
    have a13 : ¬ (33 ≤ c) := by omega
    have a14 : c ≤ 126 := by omega
    simp only [go_sem, Nat.reduceAdd, Nat.reduceLeDiff, Nat.reduceMul, Int.reduceBEq, Int.reduceBNe, Int.reduceLT, Int.reduceLE, Int.reduceGT, e, ge_iff_le, gt_iff_lt, a0, a1, a2, a3, a4, a5, a6, a7, a8, a9, a10, a11, a12, a13, a14, aBin_eql, aBin_leq, aBin_geq, aBin_gtr, aBin_neq]
  · have e : cls c = 1 := by unfold cls; repeat' split
                             all_goals omega
    have a0 : (c == 32) = false := by simp; omega
    have a1 : (c == 9) = false := by simp; omega
    have a2 : (c == 10) = true := by simp; omega
    have a3 : ¬ (48 ≤ c) := by omega
    have a4 : c ≤ 57 := by omega
    have a5 : ¬ (97 ≤ c) := by omega
    have a6 : c ≤ 122 := by omega
    have a7 : ¬ (65 ≤ c) := by omega
    have a8 : c ≤ 90 := by omega
    have a9 : (c == 95) = false := by simp; omega
    have a10 : ¬ (192 ≤ c) := by omega
    have a11 : (c != 65533) = true := by simp; omega
    have a12 : ¬ (32 < c) := by omega
    have a13 : ¬ (33 ≤ c) := by omega
    have a14 : c ≤ 126 := by omega
    simp only [go_sem, Nat.reduceAdd, Nat.reduceLeDiff, Nat.reduceMul, Int.reduceBEq, Int.reduceBNe, Int.reduceLT, Int.reduceLE, Int.reduceGT, e, ge_iff_le, gt_iff_lt, a0, a1, a2, a3, a4, a5, a6, a7, a8, a9, a10, a11, a12, a13, a14, aBin_eql, aBin_leq, aBin_geq, aBin_gtr, aBin_neq]
  · have e : cls c = 0 := by unfold cls; repeat' split
                             all_goals omega
    have a0 : (c == 32) = false := by simp; omega
    have a1 : (c == 9) = false := by simp; omega
    have a2 : (c == 10) = false := by simp; omega
    have a3 : ¬ (48 ≤ c) := by omega
    have a4 : c ≤ 57 := by omega
    have a5 : ¬ (97 ≤ c) := by omega
    have a6 : c ≤ 122 := by omega
    have a7 : ¬ (65 ≤ c) := by omega
    have a8 : c ≤ 90 := by omega
    have a9 : (c == 95) = false := by simp; omega
    have a10 : ¬ (192 ≤ c) := by omega
    have a11 : (c != 65533) = true := by simp; omega
    have a12 : ¬ (32 < c) := by omega
    have a13 : ¬ (33 ≤ c) := by omega
    have a14 : c ≤ 126 := by omega
    simp only [go_sem, Nat.reduceAdd, Nat.reduceLeDiff, Nat.reduceMul, Int.reduceBEq, Int.reduceBNe, Int.reduceLT, Int.reduceLE, Int.reduceGT, e, ge_iff_le, gt_iff_lt, a0, a1, a2, a3, a4, a5, a6, a7, a8, a9, a10, a11, a12, a13, a14, aBin_eql, aBin_leq, aBin_geq, aBin_gtr, aBin_neq]
  · have e : cls c = 4 := by unfold cls; repeat' split
                             all_goals omega
    have a0 : (c == 32) = false := by simp; omega
    have a1 : (c == 9) = false := by simp; omega
    have a2 : (c == 10) = false := by simp; omega
    have a3 : ¬ (48 ≤ c) := by omega
    have a4 : c ≤ 57 := by omega
    have a5 : ¬ (97 ≤ c) := by omega
    have a6 : c ≤ 122 := by omega
    have a7 : ¬ (65 ≤ c) := by omega
    have a8 : c ≤ 90 := by omega
    have a9 : (c == 95) = false := by simp; omega
    have a10 : ¬ (192 ≤ c) := by omega
    have a11 : (c != 65533) = true := by simp; omega
    have a12 : 32 < c := by omega
    have a13 : 33 ≤ c := by omega
    have a14 : c ≤ 126 := by omega
    simp only [go_sem, Nat.reduceAdd, Nat.reduceLeDiff, Nat.reduceMul, Int.reduceBEq, Int.reduceBNe, Int.reduceLT, Int.reduceLE, Int.reduceGT, e, ge_iff_le, gt_iff_lt, a0, a1, a2, a3, a4, a5, a6, a7, a8, a9, a10, a11, a12, a13, a14, aBin_eql, aBin_leq, aBin_geq, aBin_gtr, aBin_neq]
  · have e : cls c = 2 := by unfold cls; repeat' split
                             all_goals omega
    have a0 : (c == 32) = false := by simp; omega
    have a1 : (c == 9) = false := by simp; omega
    have a2 : (c == 10) = false := by simp; omega
    have a3 : 48 ≤ c := by omega
    have a4 : c ≤ 57 := by omega
    have a5 : ¬ (97 ≤ c) := by omega
    have a6 : c ≤ 122 := by omega
    have a7 : ¬ (65 ≤ c) := by omega
    have a8 : c ≤ 90 := by omega
    have a9 : (c == 95) = false := by simp; omega
    have a10 : ¬ (192 ≤ c) := by omega
    have a11 : (c != 65533) = true := by simp; omega
    have a12 : 32 < c := by omega
    have a13 : 33 ≤ c := by omega
    have a14 : c ≤ 126 := by omega
    simp only [go_sem, Nat.reduceAdd, Nat.reduceLeDiff, Nat.reduceMul, Int.reduceBEq, Int.reduceBNe, Int.reduceLT, Int.reduceLE, Int.reduceGT, e, ge_iff_le, gt_iff_lt, a0, a1, a2, a3, a4, a5, a6, a7, a8, a9, a10, a11, a12, a13, a14, aBin_eql, aBin_leq, aBin_geq, aBin_gtr, aBin_neq]
  · have e : cls c = 4 := by unfold cls; repeat' split
                             all_goals omega
    have a0 : (c == 32) = false := by simp; omega
    have a1 : (c == 9) = false := by simp; omega
    have a2 : (c == 10) = false := by simp; omega
    have a3 : 48 ≤ c := by omega
    have a4 : ¬ (c ≤ 57) := by omega
    have a5 : ¬ (97 ≤ c) := by omega
    have a6 : c ≤ 122 := by omega
    have a7 : ¬ (65 ≤ c) := by omega
    have a8 : c ≤ 90 := by omega
    have a9 : (c == 95) = false := by simp; omega
    have a10 : ¬ (192 ≤ c) := by omega
    have a11 : (c != 65533) = true := by simp; omega
    have a12 : 32 < c := by omega
    have a13 : 33 ≤ c := by omega
    have a14 : c ≤ 126 := by omega
    simp only [go_sem, Nat.reduceAdd, Nat.reduceLeDiff, Nat.reduceMul, Int.reduceBEq, Int.reduceBNe, Int.reduceLT, Int.reduceLE, Int.reduceGT, e, ge_iff_le, gt_iff_lt, a0, a1, a2, a3, a4, a5, a6, a7, a8, a9, a10, a11, a12, a13, a14, aBin_eql, aBin_leq, aBin_geq, aBin_gtr, aBin_neq]
  · have e : cls c = 3 := by unfold cls; repeat' split
                             all_goals omega
    have a0 : (c == 32) = false := by simp; omega
    have a1 : (c == 9) = false := by simp; omega
    have a2 : (c == 10) = false := by simp; omega
    have a3 : 48 ≤ c := by omega
    have a4 : ¬ (c ≤ 57) := by omega
    have a5 : ¬ (97 ≤ c) := by omega
    have a6 : c ≤ 122 := by omega
    have a7 : 65 ≤ c := by omega
    have a8 : c ≤ 90 := by omega
    have a9 : (c == 95) = false := by simp; omega
    have a10 : ¬ (192 ≤ c) := by omega
    have a11 : (c != 65533) = true := by simp; omega
    have a12 : 32 < c := by omega
    have a13 : 33 ≤ c := by omega
    have a14 : c ≤ 126 := by omega
    simp only [go_sem, Nat.reduceAdd, Nat.reduceLeDiff, Nat.reduceMul, Int.reduceBEq, Int.reduceBNe, Int.reduceLT, Int.reduceLE, Int.reduceGT, e, ge_iff_le, gt_iff_lt, a0, a1, a2, a3, a4, a5, a6, a7, a8, a9, a10, a11, a12, a13, a14, aBin_eql, aBin_leq, aBin_geq, aBin_gtr, aBin_neq]
  · have e : cls c = 4 := by unfold cls; repeat' split
                             all_goals omega
    have a0 : (c == 32) = false := by simp; omega
    have a1 : (c == 9) = false := by simp; omega
    have a2 : (c == 10) = false := by simp; omega
    have a3 : 48 ≤ c := by omega
    have a4 : ¬ (c ≤ 57) := by omega
    have a5 : ¬ (97 ≤ c) := by omega
    have a6 : c ≤ 122 := by omega
    have a7 : 65 ≤ c := by omega
    have a8 : ¬ (c ≤ 90) := by omega
    have a9 : (c == 95) = false := by simp; omega
    have a10 : ¬ (192 ≤ c) := by omega
    have a11 : (c != 65533) = true := by simp; omega
    have a12 : 32 < c := by omega
    have a13 : 33 ≤ c := by omega
    have a14 : c ≤ 126 := by omega
    simp only [go_sem, Nat.reduceAdd, Nat.reduceLeDiff, Nat.reduceMul, Int.reduceBEq, Int.reduceBNe, Int.reduceLT, Int.reduceLE, Int.reduceGT, e, ge_iff_le, gt_iff_lt, a0, a1, a2, a3, a4, a5, a6, a7, a8, a9, a10, a11, a12, a13, a14, aBin_eql, aBin_leq, aBin_geq, aBin_gtr, aBin_neq]
  · have e : cls c = 3 := by unfold cls; repeat' split
                             all_goals omega
    have a0 : (c == 32) = false := by simp; omega
    have a1 : (c == 9) = false := by simp; omega
    have a2 : (c == 10) = false := by simp; omega
    have a3 : 48 ≤ c := by omega
    have a4 : ¬ (c ≤ 57) := by omega
    have a5 : ¬ (97 ≤ c) := by omega
    have a6 : c ≤ 122 := by omega
    have a7 : 65 ≤ c := by omega
    have a8 : ¬ (c ≤ 90) := by omega
    have a9 : (c == 95) = true := by simp; omega
    have a10 : ¬ (192 ≤ c) := by omega
    have a11 : (c != 65533) = true := by simp; omega
    have a12 : 32 < c := by omega
    have a13 : 33 ≤ c := by omega
    have a14 : c ≤ 126 := by omega
    simp only [go_sem, Nat.reduceAdd, Nat.reduceLeDiff, Nat.reduceMul, Int.reduceBEq, Int.reduceBNe, Int.reduceLT, Int.reduceLE, Int.reduceGT, e, ge_iff_le, gt_iff_lt, a0, a1, a2, a3, a4, a5, a6, a7, a8, a9, a10, a11, a12, a13, a14, aBin_eql, aBin_leq, aBin_geq, aBin_gtr, aBin_neq]
  · have e : cls c = 3 := by unfold cls; repeat' split
                             all_goals omega
    have a0 : (c == 32) = false := by simp; omega
    have a1 : (c == 9) = false := by simp; omega
    have a2 : (c == 10) = false := by simp; omega
    have a3 : 48 ≤ c := by omega
    have a4 : ¬ (c ≤ 57) := by omega
    have a5 : 97 ≤ c := by omega
    have a6 : c ≤ 122 := by omega
    have a7 : 65 ≤ c := by omega
    have a8 : ¬ (c ≤ 90) := by omega
    have a9 : (c == 95) = false := by simp; omega
    have a10 : ¬ (192 ≤ c) := by omega
    have a11 : (c != 65533) = true := by simp; omega
    have a12 : 32 < c := by omega
    have a13 : 33 ≤ c := by omega
    have a14 : c ≤ 126 := by omega
    simp only [go_sem, Nat.reduceAdd, Nat.reduceLeDiff, Nat.reduceMul, Int.reduceBEq, Int.reduceBNe, Int.reduceLT, Int.reduceLE, Int.reduceGT, e, ge_iff_le, gt_iff_lt, a0, a1, a2, a3, a4, a5, a6, a7, a8, a9, a10, a11, a12, a13, a14, aBin_eql, aBin_leq, aBin_geq, aBin_gtr, aBin_neq]
  · have e : cls c = 4 := by unfold cls; repeat' split
                             all_goals omega
    have a0 : (c == 32) = false := by simp; omega
    have a1 : (c == 9) = false := by simp; omega
    have a2 : (c == 10) = false := by simp; omega
    have a3 : 48 ≤ c := by omega
    have a4 : ¬ (c ≤ 57) := by omega
    have a5 : 97 ≤ c := by omega
    have a6 : ¬ (c ≤ 122) := by omega
    have a7 : 65 ≤ c := by omega
    have a8 : ¬ (c ≤ 90) := by omega
    have a9 : (c == 95) = false := by simp; omega
    have a10 : ¬ (192 ≤ c) := by omega
    have a11 : (c != 65533) = true := by simp; omega
    have a12 : 32 < c := by omega
    have a13 : 33 ≤ c := by omega
    have a14 : c ≤ 126 := by omega
    simp only [go_sem, Nat.reduceAdd, Nat.reduceLeDiff, Nat.reduceMul, Int.reduceBEq, Int.reduceBNe, Int.reduceLT, Int.reduceLE, Int.reduceGT, e, ge_iff_le, gt_iff_lt, a0, a1, a2, a3, a4, a5, a6, a7, a8, a9, a10, a11, a12, a13, a14, aBin_eql, aBin_leq, aBin_geq, aBin_gtr, aBin_neq]
  · have e : cls c = 0 := by unfold cls; repeat' split
                             all_goals omega
    have a0 : (c == 32) = false := by simp; omega
    have a1 : (c == 9) = false := by simp; omega
    have a2 : (c == 10) = false := by simp; omega
    have a3 : 48 ≤ c := by omega
    have a4 : ¬ (c ≤ 57) := by omega
    have a5 : 97 ≤ c := by omega
    have a6 : ¬ (c ≤ 122) := by omega
    have a7 : 65 ≤ c := by omega
    have a8 : ¬ (c ≤ 90) := by omega
    have a9 : (c == 95) = false := by simp; omega
    have a10 : ¬ (192 ≤ c) := by omega
    have a11 : (c != 65533) = true := by simp; omega
    have a12 : 32 < c := by omega
    have a13 : 33 ≤ c := by omega
    have a14 : ¬ (c ≤ 126) := by omega
    simp only [go_sem, Nat.reduceAdd, Nat.reduceLeDiff, Nat.reduceMul, Int.reduceBEq, Int.reduceBNe, Int.reduceLT, Int.reduceLE, Int.reduceGT, e, ge_iff_le, gt_iff_lt, a0, a1, a2, a3, a4, a5, a6, a7, a8, a9, a10, a11, a12, a13, a14, aBin_eql, aBin_leq, aBin_geq, aBin_gtr, aBin_neq]
  · have e : cls c = 3 := by unfold cls; repeat' split
                             all_goals omega
    have a0 : (c == 32) = false := by simp; omega
    have a1 : (c == 9) = false := by simp; omega
    have a2 : (c == 10) = false := by simp; omega
    have a3 : 48 ≤ c := by omega
    have a4 : ¬ (c ≤ 57) := by omega
    have a5 : 97 ≤ c := by omega
    have a6 : ¬ (c ≤ 122) := by omega
    have a7 : 65 ≤ c := by omega
    have a8 : ¬ (c ≤ 90) := by omega
    have a9 : (c == 95) = false := by simp; omega
    have a10 : 192 ≤ c := by omega
    have a11 : (c != 65533) = true := by simp; omega
    have a12 : 32 < c := by omega
    have a13 : 33 ≤ c := by omega
    have a14 : ¬ (c ≤ 126) := by omega
    simp only [go_sem, Nat.reduceAdd, Nat.reduceLeDiff, Nat.reduceMul, Int.reduceBEq, Int.reduceBNe, Int.reduceLT, Int.reduceLE, Int.reduceGT, e, ge_iff_le, gt_iff_lt, a0, a1, a2, a3, a4, a5, a6, a7, a8, a9, a10, a11, a12, a13, a14, aBin_eql, aBin_leq, aBin_geq, aBin_gtr, aBin_neq]
  · have e : cls c = 0 := by unfold cls; repeat' split
                             all_goals omega
    have a0 : (c == 32) = false := by simp; omega
    have a1 : (c == 9) = false := by simp; omega
    have a2 : (c == 10) = false := by simp; omega
    have a3 : 48 ≤ c := by omega
    have a4 : ¬ (c ≤ 57) := by omega
    have a5 : 97 ≤ c := by omega
    have a6 : ¬ (c ≤ 122) := by omega
    have a7 : 65 ≤ c := by omega
    have a8 : ¬ (c ≤ 90) := by omega
    have a9 : (c == 95) = false := by simp; omega
    have a10 : 192 ≤ c := by omega
    have a11 : (c != 65533) = false := by simp; omega
    have a12 : 32 < c := by omega
    have a13 : 33 ≤ c := by omega
    have a14 : ¬ (c ≤ 126) := by omega
    simp only [go_sem, Nat.reduceAdd, Nat.reduceLeDiff, Nat.reduceMul, Int.reduceBEq, Int.reduceBNe, Int.reduceLT, Int.reduceLE, Int.reduceGT, e, ge_iff_le, gt_iff_lt, a0, a1, a2, a3, a4, a5, a6, a7, a8, a9, a10, a11, a12, a13, a14, aBin_eql, aBin_leq, aBin_geq, aBin_gtr, aBin_neq]
set_option maxRecDepth 100000 in
theorem awake04 (md : Md) (h : Heap) : C md 10 [] h = some ((Value.bool true), h) := free_ok 50 50 (by kernel_rfl) (by kernel_rfl) md h
theorem classes_law : Law Tryd.prog cfg 4 [21] := by
  intro h avs ha
  obtain ⟨v, r, rfl, a0, ha⟩ := args_cons ha
  obtain rfl := args_nil ha
  obtain ⟨c, rfl, h1, h2⟩ := inI (arg1 (by kernel_rfl) (by kernel_rfl) a0 : TyS h (.i .i32) v)
  have h1 : -2147483648 ≤ c := h1
  have h2 : c ≤ 2147483647 := h2
  have tk : h.take h.length = h := take_same (Nat.le_refl _)
  refine ⟨h, ?_⟩
  rw [call_eq, F4_eq]
  unfold F4
  by_cases hn : c < 0
  · simp only [go_sem, Nat.reduceAdd, Nat.reduceLeDiff, Nat.reduceMul, Int.reduceBEq, Int.reduceBNe, Int.reduceLT, Int.reduceLE, Int.reduceGT, hn, awake04, tk]
  · by_cases hm : c > 1114111
    · simp only [go_sem, Nat.reduceAdd, Nat.reduceLeDiff, Nat.reduceMul, Int.reduceBEq, Int.reduceBNe, Int.reduceLT, Int.reduceLE, Int.reduceGT, hn, hm, aBin_gtr, awake04, tk]
    · have w : IntKind.wrap .i64 c = c := by rw [IntKind.wrap_i64]; omega
      have k1 := fun (m : Md) (g : Heap) => class_s m g c
      have k2 := fun (m : Md) (g : Heap) => rclass_s m g c
      simp only [go_sem, Nat.reduceAdd, Nat.reduceLeDiff, Nat.reduceMul, Int.reduceBEq, Int.reduceBNe, Int.reduceLT, Int.reduceLE, Int.reduceGT, hn, hm, aBin_gtr, awake04, tk, k1, k2, w, beq_self_eq_true]
end Go.Det.E

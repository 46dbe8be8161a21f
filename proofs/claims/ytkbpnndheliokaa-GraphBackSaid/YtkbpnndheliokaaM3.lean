/- Arenas: another one, and are two the same. -/
import Derived.Test.YtkbpnndheliokaaM2
import Derived.Test.YtkbpnndheliokaaE4
set_option autoImplicit false
set_option linter.unusedVariables false
set_option linter.unusedSimpArgs false
namespace Go.Det.E
open Go.Proofs Go.Det
attribute [local congr] bind_c cond_c
theorem eq_loop {md : Md} {h0 h : Heap} {b b' : Nat} {l l' : List Int} {s4 : Value} (hb : h[b]? = some (.own (l.map (.int .u64)))) (hb' : h[b']? = some (.own (l'.map (.int .u64)))) (hl : l.length = l'.length) (hm : l.length < 4611686018427387904) : ∀ (m k : Nat), k + m = l.length →
    J64_0 C md h0 (.slice (some ⟨b, 0, none⟩) l.length 1) (.slice (some ⟨b', 0, none⟩) l'.length 1) s4 (.int .i64 l.length) (.int .i64 k) h = some (.bool (decide (l.drop k = l'.drop k)), h0) := by
  intro m
  induction m with
  | zero =>
    intro k hk
    obtain rfl : k = l.length := by omega
    rw [J64_0_step]
    unfold Jr64_0
    simp only [go_sem, Nat.reduceAdd, Nat.reduceLeDiff, Nat.reduceMul, Int.reduceBEq, Int.reduceBNe, Int.reduceLT, Int.reduceLE, Int.reduceGT, aBin_lss, Int.lt_irrefl, Jk64_0]
    rw [List.drop_length, hl, List.drop_length]
    rfl
  | succ m ih =>
    intro k hk
    rw [J64_0_step]
    have hkl : (k : Int) < (l.length : Int) := by omega
    have hkl' : (k : Int) < (l'.length : Int) := by omega
    have r1 : rd h b k = some (.int .u64 (l.getD k 0)) := by rw [rd_own hb]; simp [show k < l.length by omega, List.getD]
    have r2 : rd h b' k = some (.int .u64 (l'.getD k 0)) := by rw [rd_own hb']; simp [show k < l'.length by omega, List.getD]
    have hw : IntKind.wrap .i64 ((k : Int) + 1) = ((k + 1 : Nat) : Int) := by rw [IntKind.wrap_i64]; omega
    have hx := fun {α : Type} (kk : Value → Option α) => ixS_p 1 b 0 l.length 1 (k : Int) kk ⟨Int.natCast_nonneg k, hkl⟩
    have hx' := fun {α : Type} (kk : Value → Option α) => ixS_p 1 b' 0 l'.length 1 (k : Int) kk ⟨Int.natCast_nonneg k, hkl'⟩
    have d1 : l.drop k = l.getD k 0 :: l.drop (k + 1) := by rw [List.drop_eq_getElem_cons (by omega : k < l.length)]; simp [List.getD, show k < l.length by omega]
    have d2 : l'.drop k = l'.getD k 0 :: l'.drop (k + 1) := by rw [List.drop_eq_getElem_cons (by omega : k < l'.length)]; simp [List.getD, show k < l'.length by omega]
    unfold Jr64_0
    by_cases he : l.getD k 0 = l'.getD k 0
    · have hb : (l.getD k 0 != l'.getD k 0) = false := by rw [he]; simp
      simp only [go_sem, Nat.reduceAdd, Nat.reduceLeDiff, Nat.reduceMul, Int.reduceBEq, Int.reduceBNe, Int.reduceLT, Int.reduceLE, Int.reduceGT, aBin_lss, hkl, hx, hx', r1, r2, hb, aBin_add, hw]
      rw [ih (k + 1) (by omega), d1, d2]
      simp only [List.cons.injEq, he, true_and]
    · have hb : (l.getD k 0 != l'.getD k 0) = true := by simpa using he
      simp only [go_sem, Nat.reduceAdd, Nat.reduceLeDiff, Nat.reduceMul, Int.reduceBEq, Int.reduceBNe, Int.reduceLT, Int.reduceLE, Int.reduceGT, aBin_lss, hkl, hx, hx', r1, r2, hb, Jk64_0]
      rw [d1, d2]
      simp only [List.cons.injEq, he, false_and, decide_false]
theorem equal_s {md : Md} {h : Heap} {a b a' b' : Nat} {l c l' c' : List Int} (A : Ar h a b l c) (A' : Ar h a' b' l' c') (hm : l.length < 4611686018427387904) :
    C md 34 [.pointer (some ⟨a, 0, none⟩), .pointer (some ⟨a', 0, none⟩)] h = some (.bool (decide (l = l')), h) := by
  rw [C, call_eq, F34_eq]
  unfold F34
  have r1 : rd h a 0 = some (.slice (some ⟨b, 0, none⟩) l.length 1) := by rw [rd_own A.ha]; rfl
  have r2 : rd h a' 0 = some (.slice (some ⟨b', 0, none⟩) l'.length 1) := by rw [rd_own A'.ha]; rfl
  have e : C ⟨h.length, h.length⟩ 64 [.slice (some ⟨b, 0, none⟩) l.length 1, .slice (some ⟨b', 0, none⟩) l'.length 1] h = some (.bool (decide (l = l')), h) := by
    rw [C, call_eq, F64_eq]
    unfold F64
    by_cases hl : l.length = l'.length
    · have hb : ((l.length : Int) != (l'.length : Int)) = false := by rw [hl]; simp
      simp only [go_sem, Nat.reduceAdd, Nat.reduceLeDiff, Nat.reduceMul, Int.reduceBEq, Int.reduceBNe, Int.reduceLT, Int.reduceLE, Int.reduceGT, hb]
      exact eq_loop A.hb A'.hb hl hm l.length 0 (by omega)
    · have hb : ((l.length : Int) != (l'.length : Int)) = true := by simpa using fun h => hl (by omega)
      have hd : decide (l = l') = false := by simpa using fun h => hl (by rw [h])
      simp only [go_sem, Nat.reduceAdd, Nat.reduceLeDiff, Nat.reduceMul, Int.reduceBEq, Int.reduceBNe, Int.reduceLT, Int.reduceLE, Int.reduceGT, hb, hd]
  simp only [go_sem, Nat.reduceAdd, Nat.reduceLeDiff, Nat.reduceMul, Int.reduceBEq, Int.reduceBNe, Int.reduceLT, Int.reduceLE, Int.reduceGT, r1, r2, e]
theorem b79c {α : Type} {a : Option Addr} {n c : Nat} {c0 c1 c2 c3 c4 : Int} (k : Value → Option α) : aBuild Try.prog 104 [(0, .slice a n c), (1, .agg #[.int .i64 c0, .int .i64 c1, .int .i64 c2, .int .i64 c3, .int .i64 c4])] k =
    k (.agg #[.slice a n c, .int .i64 c0, .int .i64 c1, .int .i64 c2, .int .i64 c3, .int .i64 c4]) := by kernel_rfl
theorem new_n {md : Md} {h : Heap} {n : Int} (hn : n < 0 ∨ 16384 < n) : C md 45 [.int .i64 n] h = some (.tuple #[.pointer none, .int .i64 11], h) := by
  rw [C, call_eq, F45_eq]
  unfold F45
  by_cases h0 : n < 0
  · simp only [go_sem, Nat.reduceAdd, Nat.reduceLeDiff, Nat.reduceMul, Int.reduceBEq, Int.reduceBNe, Int.reduceLT, Int.reduceLE, Int.reduceGT, h0]
  · have h1 : 16384 < n := by omega
    simp only [go_sem, Nat.reduceAdd, Nat.reduceLeDiff, Nat.reduceMul, Int.reduceBEq, Int.reduceBNe, Int.reduceLT, Int.reduceLE, Int.reduceGT, h0, h1, aBin_gtr]
theorem sl_nil {α : Type} {a : Addr} {n c : Nat} (k : Value → Option α) : aBin Try.prog .eql 50 (.slice (some a) n c) (.slice none 0 0) k = k (.bool false) := by simp [aBin, aEq, uSu]
end Go.Det.E

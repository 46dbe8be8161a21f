/- Arenas: another one, and are two the same. -/
import Derived.Test.YtalelfcdhmfgoaaM2
import Derived.Test.YtalelfcdhmfgoaaE4
set_option autoImplicit false
set_option linter.unusedVariables false
set_option linter.unusedSimpArgs false
namespace Go.Det.E
open Go.Proofs Go.Det
attribute [local congr] bind_c cond_c
theorem eq_loop {md : Md} {h0 h : Heap} {b b' : Nat} {l l' : List Int} {s4 : Value} (hb : h[b]? = some (.own (l.map (.int .u64)))) (hb' : h[b']? = some (.own (l'.map (.int .u64)))) (hl : l.length = l'.length) (hm : l.length < 4611686018427387904) : ∀ (m k : Nat), k + m = l.length →
    J21_0 C md h0 (.slice (some ⟨b, 0, none⟩) l.length 1) (.slice (some ⟨b', 0, none⟩) l'.length 1) s4 (.int .i64 l.length) (.int .i64 k) h = some (.bool (decide (l.drop k = l'.drop k)), h0) := by
  intro m
  induction m with
  | zero =>
    intro k hk
    obtain rfl : k = l.length := by omega
    rw [J21_0_step]
    unfold Jr21_0
    simp only [go_sem, Nat.reduceAdd, Nat.reduceLeDiff, Nat.reduceMul, Int.reduceBEq, Int.reduceBNe, Int.reduceLT, Int.reduceLE, Int.reduceGT, aBin_lss, Int.lt_irrefl, Jk21_0]
    rw [List.drop_length, hl, List.drop_length]
    rfl
  | succ m ih =>
    intro k hk
    rw [J21_0_step]
    have hkl : (k : Int) < (l.length : Int) := by omega
    have hkl' : (k : Int) < (l'.length : Int) := by omega
    have r1 : rd h b k = some (.int .u64 (l.getD k 0)) := by rw [rd_own hb]; simp [show k < l.length by omega, List.getD]
    have r2 : rd h b' k = some (.int .u64 (l'.getD k 0)) := by rw [rd_own hb']; simp [show k < l'.length by omega, List.getD]
    have hw : IntKind.wrap .i64 ((k : Int) + 1) = ((k + 1 : Nat) : Int) := by rw [IntKind.wrap_i64]; omega
    have hx := fun {α : Type} (kk : Value → Option α) => ixS_p 1 b 0 l.length 1 (k : Int) kk ⟨Int.natCast_nonneg k, hkl⟩
    have hx' := fun {α : Type} (kk : Value → Option α) => ixS_p 1 b' 0 l'.length 1 (k : Int) kk ⟨Int.natCast_nonneg k, hkl'⟩
    have d1 : l.drop k = l.getD k 0 :: l.drop (k + 1) := by rw [List.drop_eq_getElem_cons (by omega : k < l.length)]; simp [List.getD, show k < l.length by omega]
    have d2 : l'.drop k = l'.getD k 0 :: l'.drop (k + 1) := by rw [List.drop_eq_getElem_cons (by omega : k < l'.length)]; simp [List.getD, show k < l'.length by omega]
    unfold Jr21_0
    by_cases he : l.getD k 0 = l'.getD k 0
    · have hb : (l.getD k 0 != l'.getD k 0) = false := by rw [he]; simp
      simp only [go_sem, Nat.reduceAdd, Nat.reduceLeDiff, Nat.reduceMul, Int.reduceBEq, Int.reduceBNe, Int.reduceLT, Int.reduceLE, Int.reduceGT, aBin_lss, hkl, hx, hx', r1, r2, hb, aBin_add, hw]
      rw [ih (k + 1) (by omega), d1, d2]
      simp only [List.cons.injEq, he, true_and]
    · have hb : (l.getD k 0 != l'.getD k 0) = true := by simpa using he
      simp only [go_sem, Nat.reduceAdd, Nat.reduceLeDiff, Nat.reduceMul, Int.reduceBEq, Int.reduceBNe, Int.reduceLT, Int.reduceLE, Int.reduceGT, aBin_lss, hkl, hx, hx', r1, r2, hb, Jk21_0]
      rw [d1, d2]
      simp only [List.cons.injEq, he, false_and, decide_false]
theorem equal_s {md : Md} {h : Heap} {a b a' b' : Nat} {l c l' c' : List Int} (A : Ar h a b l c) (A' : Ar h a' b' l' c') (hm : l.length < 4611686018427387904) :
    C md 11 [.pointer (some ⟨a, 0, none⟩), .pointer (some ⟨a', 0, none⟩)] h = some (.bool (decide (l = l')), h) := by
  rw [C, call_eq, F11_eq]
  unfold F11
  have r1 : rd h a 0 = some (.slice (some ⟨b, 0, none⟩) l.length 1) := by rw [rd_own A.ha]; rfl
  have r2 : rd h a' 0 = some (.slice (some ⟨b', 0, none⟩) l'.length 1) := by rw [rd_own A'.ha]; rfl
  have e : C ⟨h.length, h.length⟩ 21 [.slice (some ⟨b, 0, none⟩) l.length 1, .slice (some ⟨b', 0, none⟩) l'.length 1] h = some (.bool (decide (l = l')), h) := by
    rw [C, call_eq, F21_eq]
    unfold F21
    by_cases hl : l.length = l'.length
    · have hb : ((l.length : Int) != (l'.length : Int)) = false := by rw [hl]; simp
      simp only [go_sem, Nat.reduceAdd, Nat.reduceLeDiff, Nat.reduceMul, Int.reduceBEq, Int.reduceBNe, Int.reduceLT, Int.reduceLE, Int.reduceGT, hb]
      exact eq_loop A.hb A'.hb hl hm l.length 0 (by omega)
    · have hb : ((l.length : Int) != (l'.length : Int)) = true := by simpa using fun h => hl (by omega)
      have hd : decide (l = l') = false := by simpa using fun h => hl (by rw [h])
      simp only [go_sem, Nat.reduceAdd, Nat.reduceLeDiff, Nat.reduceMul, Int.reduceBEq, Int.reduceBNe, Int.reduceLT, Int.reduceLE, Int.reduceGT, hb, hd]
  simp only [go_sem, Nat.reduceAdd, Nat.reduceLeDiff, Nat.reduceMul, Int.reduceBEq, Int.reduceBNe, Int.reduceLT, Int.reduceLE, Int.reduceGT, r1, r2, e]
theorem b79c {α : Type} {a : Option Addr} {n c : Nat} {c0 c1 c2 c3 c4 : Int} (k : Value → Option α) : aBuild Try.prog 59 [(0, .slice a n c), (1, .agg #[.int .i64 c0, .int .i64 c1, .int .i64 c2, .int .i64 c3, .int .i64 c4])] k =
    k (.agg #[.slice a n c, .int .i64 c0, .int .i64 c1, .int .i64 c2, .int .i64 c3, .int .i64 c4]) := by kernel_rfl
theorem new_n {md : Md} {h : Heap} {n : Int} (hn : n < 0 ∨ 16384 < n) : C md 13 [.int .i64 n] h = some (.tuple #[.pointer none, .int .i64 11], h) := by
  rw [C, call_eq, F13_eq]
  unfold F13
  by_cases h0 : n < 0
  · simp only [go_sem, Nat.reduceAdd, Nat.reduceLeDiff, Nat.reduceMul, Int.reduceBEq, Int.reduceBNe, Int.reduceLT, Int.reduceLE, Int.reduceGT, h0]
  · have h1 : 16384 < n := by omega
    simp only [go_sem, Nat.reduceAdd, Nat.reduceLeDiff, Nat.reduceMul, Int.reduceBEq, Int.reduceBNe, Int.reduceLT, Int.reduceLE, Int.reduceGT, h0, h1, aBin_gtr]
theorem sl_nil {α : Type} {a : Addr} {n c : Nat} (k : Value → Option α) : aBin Try.prog .eql 22 (.slice (some a) n c) (.slice none 0 0) k = k (.bool false) := by simp [aBin, aEq, uSu]
theorem clone_s {md : Md} {h : Heap} {b : Nat} {l : List Int} (hb : h[b]? = some (.own (l.map (.int .u64)))) (hro : md.ro ≤ h.length) (hm : l.length ≤ 16384) :
    ∃ bs b', C md 19 [.slice (some ⟨b, 0, none⟩) l.length 1] h = some (.slice (some ⟨b', 0, none⟩) l.length 1, h ++ bs) ∧ (h ++ bs)[b']? = some (.own (l.map (.int .u64))) ∧ h.length ≤ b' := by
  cases l with
  | nil =>
    refine ⟨[.own []], h.length, ?_, by simp, Nat.le_refl _⟩
    rw [C, call_eq, F19_eq]
    unfold F19
    have hr : rdN (h ++ [.own []]) b 0 0 = some [] := by rw [rdN_old (lt_of hb), rdN_own hb (by simp)]; rfl
    have ap := fun (k : Value → Heap → Option (Value × Heap)) => append_0 (md := md) (b := h.length) (o := 0) (len := 0) (cap := 1) (cap' := 1) tU hr k
    simp only [go_sem, Nat.reduceAdd, Nat.reduceLeDiff, Nat.reduceMul, Int.reduceBEq, Int.reduceBNe, Int.reduceLT, Int.reduceLE, Int.reduceGT, sl_nil, ap]
  | cons x l =>
    refine ⟨[.dead, .own ((x :: l).map (.int .u64))], h.length + 1, ?_, by rw [List.getElem?_append_right (by omega), Nat.add_sub_cancel_left]; rfl, by omega⟩
    rw [C, call_eq, F19_eq]
    unfold F19
    have hr : rdN (h ++ [.own []]) b 0 ((x :: l).length * 1) = some ((x :: l).map (.int .u64)) := by
      rw [rdN_old (lt_of hb), rdN_own hb (by simp)]
      rw [List.drop_zero, Nat.mul_one, List.take_of_length_le (by simp)]
    have hc : (((x :: l).map (Value.int .u64))).all isCell = true := by
      rw [List.all_eq_true]; intro v hv
      obtain ⟨y, _, rfl⟩ := List.mem_map.1 hv; rfl
    have ap := fun (k : Value → Heap → Option (Value × Heap)) => append_p (md := md) (b := h.length) (o := 0) (len := 0) (cap' := 1) (cs := []) tU (by simp) (by simp) hro (by simp) hr hc (by simp at hm ⊢; omega) k
    simp only [List.length_cons] at ap
    simp only [go_sem, Nat.reduceAdd, Nat.reduceLeDiff, Nat.reduceMul, Int.reduceBEq, Int.reduceBNe, Int.reduceLT, Int.reduceLE, Int.reduceGT, sl_nil]
    rw [ap]
    simp
theorem copy_s {md : Md} {h : Heap} {a b : Nat} {l c : List Int} (A : Ar h a b l c) (hro : md.ro ≤ h.length) (hm : l.length ≤ 16384) :
    ∃ bs a' b', C md 6 [.pointer (some ⟨a, 0, none⟩)] h = some (.pointer (some ⟨a', 0, none⟩), h ++ bs) ∧ Ar (h ++ bs) a' b' l c ∧ h.length ≤ a' ∧ h.length ≤ b' := by
  obtain ⟨bs, b', hc, hb', hle⟩ := clone_s (md := md) A.hb hro hm
  have hlt := lt_of hb'
  refine ⟨bs ++ [.own (arC b' l.length c)], (h ++ bs).length, b', ?_, ⟨?_, ?_, A.hc, by omega⟩, by simp, hle⟩
  · rw [C, call_eq, F6_eq]
    unfold F6
    have r1 : rd h a 0 = some (.slice (some ⟨b, 0, none⟩) l.length 1) := by rw [rd_own A.ha]; rfl
    obtain ⟨ha, hb, hcl, ne⟩ := A
    obtain ⟨c0, c1, c2, c3, c4, rfl⟩ : ∃ c0 c1 c2 c3 c4, c = [c0, c1, c2, c3, c4] := by
      rcases c with _ | ⟨c0, _ | ⟨c1, _ | ⟨c2, _ | ⟨c3, _ | ⟨c4, _ | ⟨c5, c⟩⟩⟩⟩⟩⟩ <;> simp at hcl
      exact ⟨_, _, _, _, _, rfl⟩
    have r2 : rdN h a 1 5 = some [.int .i64 c0, .int .i64 c1, .int .i64 c2, .int .i64 c3, .int .i64 c4] := by rw [rdN_own ha (by simp [arC])]; rfl
    have r3 : rdN (h ++ bs) a 1 5 = some [.int .i64 c0, .int .i64 c1, .int .i64 c2, .int .i64 c3, .int .i64 c4] := by rw [rdN_old (lt_of ha), r2]
    simp only [go_sem, Nat.reduceAdd, Nat.reduceLeDiff, Nat.reduceMul, Int.reduceBEq, Int.reduceBNe, Int.reduceLT, Int.reduceLE, Int.reduceGT, r1, hc, r2, r3, b79c, cells_agg]
    rfl
  · rw [← List.append_assoc, List.getElem?_append_right (Nat.le_refl _), Nat.sub_self]; rfl
  · rw [← List.append_assoc, List.getElem?_append_left hlt]; exact hb'
end Go.Det.E

/- Heap sort over a row in memory. -/
import Derived.Test.YtalelfcdhmfgoaaO1
set_option autoImplicit false
set_option linter.unusedVariables false
set_option linter.unusedSimpArgs false
namespace Go.Det.O
open Go.Det.E
open Go.Proofs Go.Det
attribute [local congr] bind_c cond_c
variable {md : Md} {h hh k h' h'' : Heap} {v : Value} {d d' : Array Int} {i j a b n hi first root c : Nat} {x y : Int}
theorem AR.same (A : AR h v d) (A' : AR h' v d') : d'.size = d.size := by
  rcases A.sl.is with ⟨e1, e2⟩ | ⟨b1, o1, k1, e1, _⟩
  · rcases A'.sl.is with ⟨e3, e4⟩ | ⟨b2, o2, k2, e3, _⟩
    · have h1 := congrArg List.length e2
      have h2 := congrArg List.length e4
      simp at h1 h2
      rw [h1, h2]
    · rw [e1] at e3; cases e3
  · rcases A'.sl.is with ⟨e3, e4⟩ | ⟨b2, o2, k2, e3, _⟩
    · rw [e1] at e3; cases e3
    · rw [e1] at e3
      injection e3 with _ q
      simpa using q.symm
/-- One step of sifting: the child is greater, or not. -/
theorem sift_b0 (hro : md.ro ≤ slB v) (A : AR h v d) (h1 : first + root < d.size) (h2 : first + c < d.size) (hd : d.size < 100000) :
    (Go.Sort.ltInt d[first + root]! d[first + c]! = false → J38_0b0 C md v ((Value.int .i64 ((hi : Int)))) ((Value.int .i64 ((first : Int)))) ((Value.int .i64 ((root : Int)))) ((Value.int .i64 ((c : Int)))) h = some (.inr (.ret, (v, (Value.int .i64 ((hi : Int))), (Value.int .i64 ((first : Int))), (Value.int .i64 ((root : Int)))), h))) ∧
    (Go.Sort.ltInt d[first + root]! d[first + c]! = true → ∃ h2, J38_0b0 C md v ((Value.int .i64 ((hi : Int)))) ((Value.int .i64 ((first : Int)))) ((Value.int .i64 ((root : Int)))) ((Value.int .i64 ((c : Int)))) h = some (.inl ((v, (Value.int .i64 ((hi : Int))), (Value.int .i64 ((first : Int))), (Value.int .i64 ((c : Int)))), h2)) ∧ AR h2 v (Go.Sort.swp d (first + root) (first + c)) ∧ O1 v h h2) := by
  have w1 : IntKind.wrap .i64 ((first : Int) + (root : Int)) = ((first + root : Nat) : Int) := by rw [wi (by omega) (by omega)]; omega
  have w2 : IntKind.wrap .i64 ((first : Int) + (c : Int)) = ((first + c : Nat) : Int) := by rw [wi (by omega) (by omega)]; omega
  obtain ⟨x1, r1⟩ := A.rd h1
  obtain ⟨x2, r2⟩ := A.rd h2
  have nt : (!true) = false := rfl
  have nf : (!false) = true := rfl
  refine ⟨fun hl => ?_, fun hl => ?_⟩
  · unfold J38_0b0
    simp only [go_sem, Nat.reduceAdd, Nat.reduceLeDiff, Nat.reduceMul, Int.reduceBEq, Int.reduceBNe, Int.reduceLT, Int.reduceLE, Int.reduceGT, aBin_add, w1, w2, ixSV_p, x1, r1, x2, r2, less_s, hl, nf]
  · obtain ⟨g1, g2, e1, e2, A2, o2⟩ := A.swp (md := md) h1 h2 hro
    refine ⟨g2, ?_, A2, o2⟩
    unfold J38_0b0
    simp only [go_sem, Nat.reduceAdd, Nat.reduceLeDiff, Nat.reduceMul, Int.reduceBEq, Int.reduceBNe, Int.reduceLT, Int.reduceLE, Int.reduceGT, aBin_add, w1, w2, ixSV_p, x1, r1, x2, r2, less_s, hl, nt, st_1i, e1, e2]
theorem sift_lp {h0 : Heap} (hro : md.ro ≤ slB v) (hsz : first + hi ≤ n) (hn : n < 50000) : ∀ (m root : Nat) (d : Array Int) (h : Heap), hi - root ≤ m → root < n → AR h v d → d.size = n → h.length = h0.length →
    ∃ h', J38_0 C md h0 v ((Value.int .i64 ((hi : Int)))) ((Value.int .i64 ((first : Int)))) ((Value.int .i64 ((root : Int)))) h = some ((Value.tuple #[]), h') ∧ AR h' v (Go.Sort.siftDown Go.Sort.ltInt hi first root d) ∧ O1 v h h' := by
  intro m
  induction m with
  | zero =>
    intro root d h hm hrt A hd hl
    have w1 : IntKind.wrap .i64 (2 * (root : Int)) = 2 * (root : Int) := wi (by omega) (by omega)
    have w2 : IntKind.wrap .i64 (2 * (root : Int) + 1) = 2 * (root : Int) + 1 := wi (by omega) (by omega)
    have c1 : (2 * (root : Int) + 1 ≥ (hi : Int)) := by omega
    refine ⟨h, ?_, by rw [Go.Sort.siftDown, dif_pos (by omega)]; exact A, Only.refl⟩
    rw [J38_0_step]
    unfold Jr38_0
    simp only [go_sem, Nat.reduceAdd, Nat.reduceLeDiff, Nat.reduceMul, Int.reduceBEq, Int.reduceBNe, Int.reduceLT, Int.reduceLE, Int.reduceGT, aBin_mul, w1, aBin_add, w2, aBin_geq, c1, Jk38_0, take_len hl]
  | succ m ih =>
    intro root d h hm hrt A hd hl
    have w1 : IntKind.wrap .i64 (2 * (root : Int)) = 2 * (root : Int) := wi (by omega) (by omega)
    have w2 : IntKind.wrap .i64 (2 * (root : Int) + 1) = 2 * (root : Int) + 1 := wi (by omega) (by omega)
    by_cases hc : 2 * root + 1 ≥ hi
    · have c1 : (2 * (root : Int) + 1 ≥ (hi : Int)) := by omega
      refine ⟨h, ?_, by rw [Go.Sort.siftDown, dif_pos hc]; exact A, Only.refl⟩
      rw [J38_0_step]
      unfold Jr38_0
      simp only [go_sem, Nat.reduceAdd, Nat.reduceLeDiff, Nat.reduceMul, Int.reduceBEq, Int.reduceBNe, Int.reduceLT, Int.reduceLE, Int.reduceGT, aBin_mul, w1, aBin_add, w2, aBin_geq, c1, Jk38_0, take_len hl]
    · have c1 : ¬ (2 * (root : Int) + 1 ≥ (hi : Int)) := by omega
      have w3 : IntKind.wrap .i64 (2 * (root : Int) + 1 + 1) = 2 * (root : Int) + 1 + 1 := wi (by omega) (by omega)
      have w4 : IntKind.wrap .i64 ((first : Int) + (2 * (root : Int) + 1)) = ((first + (2 * root + 1) : Nat) : Int) := by rw [wi (by omega) (by omega)]; omega
      have w5 : IntKind.wrap .i64 (((first + (2 * root + 1) : Nat) : Int) + 1) = ((first + (2 * root + 1) + 1 : Nat) : Int) := by rw [wi (by omega) (by omega)]; omega
      have eo : 2 * (root : Int) + 1 = ((2 * root + 1 : Nat) : Int) := by omega
      have et : 2 * (root : Int) + 1 + 1 = ((2 * root + 2 : Nat) : Int) := by omega
      -- the greater child goes up
      have fin : ∀ (cc : Nat), cc < hi → root < cc → (Go.Sort.ltInt d[first + root]! d[first + cc]! = false → Go.Sort.siftDown Go.Sort.ltInt hi first root d = d) → (Go.Sort.ltInt d[first + root]! d[first + cc]! = true → Go.Sort.siftDown Go.Sort.ltInt hi first root d = Go.Sort.siftDown Go.Sort.ltInt hi first cc (Go.Sort.swp d (first + root) (first + cc))) →
          (J38_0b0 C md v ((Value.int .i64 ((hi : Int)))) ((Value.int .i64 ((first : Int)))) ((Value.int .i64 ((root : Int)))) ((Value.int .i64 ((cc : Int)))) h = some (.inr (.ret, (v, (Value.int .i64 ((hi : Int))), (Value.int .i64 ((first : Int))), (Value.int .i64 ((root : Int)))), h)) ∧ Go.Sort.siftDown Go.Sort.ltInt hi first root d = d) ∨
          ∃ k2 h', J38_0b0 C md v ((Value.int .i64 ((hi : Int)))) ((Value.int .i64 ((first : Int)))) ((Value.int .i64 ((root : Int)))) ((Value.int .i64 ((cc : Int)))) h = some (.inl ((v, (Value.int .i64 ((hi : Int))), (Value.int .i64 ((first : Int))), (Value.int .i64 ((cc : Int)))), k2)) ∧ J38_0 C md h0 v ((Value.int .i64 ((hi : Int)))) ((Value.int .i64 ((first : Int)))) ((Value.int .i64 ((cc : Int)))) k2 = some ((Value.tuple #[]), h') ∧ AR h' v (Go.Sort.siftDown Go.Sort.ltInt hi first root d) ∧ O1 v h h' := fun cc h1 h2 g1 g2 => by
        obtain ⟨b1, b2⟩ := sift_b0 (md := md) (hi := hi) (first := first) (root := root) (c := cc) hro A (by omega) (by omega) (by omega)
        cases hlt : Go.Sort.ltInt d[first + root]! d[first + cc]!
        · exact .inl ⟨b1 hlt, g1 hlt⟩
        · obtain ⟨k2, e2, A2, o2⟩ := b2 hlt
          obtain ⟨h', e', A', o'⟩ := ih cc (Go.Sort.swp d (first + root) (first + cc)) k2 (by omega) (by omega) A2 (by rw [Go.Sort.size_swp]; exact hd) (by rw [o2.len]; exact hl)
          exact .inr ⟨k2, h', e2, e', by rw [g2 hlt]; exact A', o2.trans o'⟩
      have pure1 : Go.Sort.siftDown Go.Sort.ltInt hi first root d = if 2 * root + 1 + 1 < hi && Go.Sort.ltInt d[first + (2 * root + 1)]! d[first + (2 * root + 1) + 1]! then
          (if !Go.Sort.ltInt d[first + root]! d[first + (2 * root + 2)]! then d else if _h2 : 2 * root + 2 < hi then Go.Sort.siftDown Go.Sort.ltInt hi first (2 * root + 2) (Go.Sort.swp d (first + root) (first + (2 * root + 2))) else d)
        else (if !Go.Sort.ltInt d[first + root]! d[first + (2 * root + 1)]! then d else Go.Sort.siftDown Go.Sort.ltInt hi first (2 * root + 1) (Go.Sort.swp d (first + root) (first + (2 * root + 1)))) := by
        rw [Go.Sort.siftDown, dif_neg hc]
      by_cases h2 : 2 * root + 1 + 1 < hi
      · have c2 : (2 * (root : Int) + 1 + 1 < (hi : Int)) := by omega
        obtain ⟨x1, r1⟩ := A.rd (i := first + (2 * root + 1)) (by omega)
        obtain ⟨x2, r2⟩ := A.rd (i := first + (2 * root + 1) + 1) (by omega)
        cases hlt : Go.Sort.ltInt d[first + (2 * root + 1)]! d[first + (2 * root + 1) + 1]!
        · skip
          have ff := fin (2 * root + 1) (by omega) (by omega) (fun q => by rw [pure1, hlt, Bool.and_false, if_neg (by simp), q]; rfl) (fun q => by rw [pure1, hlt, Bool.and_false, if_neg (by simp), q]; rfl)
          rcases ff with ⟨e, p⟩ | ⟨k2, h', e, e', A', o'⟩
          · rw [← eo] at e
            refine ⟨h, ?_, by rw [p]; exact A, Only.refl⟩
            rw [J38_0_step]
            unfold Jr38_0
            simp only [go_sem, Nat.reduceAdd, Nat.reduceLeDiff, Nat.reduceMul, Int.reduceBEq, Int.reduceBNe, Int.reduceLT, Int.reduceLE, Int.reduceGT, aBin_mul, w1, aBin_add, w2, aBin_geq, c1, w3, aBin_lss, c2, w4, w5, ixSV_p, x1, r1, x2, r2, less_s, hlt, e, Jk38_0, take_len hl]
          · rw [← eo] at e e'
            refine ⟨h', ?_, A', o'⟩
            rw [J38_0_step]
            unfold Jr38_0
            simp only [go_sem, Nat.reduceAdd, Nat.reduceLeDiff, Nat.reduceMul, Int.reduceBEq, Int.reduceBNe, Int.reduceLT, Int.reduceLE, Int.reduceGT, aBin_mul, w1, aBin_add, w2, aBin_geq, c1, w3, aBin_lss, c2, w4, w5, ixSV_p, x1, r1, x2, r2, less_s, hlt, e]
            exact e'
        · skip
          have ff := fin (2 * root + 2) (by omega) (by omega) (fun q => by rw [pure1, hlt, decide_eq_true h2, if_pos (by rfl), q]; rfl) (fun q => by rw [pure1, hlt, decide_eq_true h2, if_pos (by rfl), q, if_neg (by simp), dif_pos (by omega)])
          rcases ff with ⟨e, p⟩ | ⟨k2, h', e, e', A', o'⟩
          · rw [← et] at e
            refine ⟨h, ?_, by rw [p]; exact A, Only.refl⟩
            rw [J38_0_step]
            unfold Jr38_0
            simp only [go_sem, Nat.reduceAdd, Nat.reduceLeDiff, Nat.reduceMul, Int.reduceBEq, Int.reduceBNe, Int.reduceLT, Int.reduceLE, Int.reduceGT, aBin_mul, w1, aBin_add, w2, aBin_geq, c1, w3, aBin_lss, c2, w4, w5, ixSV_p, x1, r1, x2, r2, less_s, hlt, e, Jk38_0, take_len hl]
          · rw [← et] at e e'
            refine ⟨h', ?_, A', o'⟩
            rw [J38_0_step]
            unfold Jr38_0
            simp only [go_sem, Nat.reduceAdd, Nat.reduceLeDiff, Nat.reduceMul, Int.reduceBEq, Int.reduceBNe, Int.reduceLT, Int.reduceLE, Int.reduceGT, aBin_mul, w1, aBin_add, w2, aBin_geq, c1, w3, aBin_lss, c2, w4, w5, ixSV_p, x1, r1, x2, r2, less_s, hlt, e]
            exact e'
      · have c2 : ¬ (2 * (root : Int) + 1 + 1 < (hi : Int)) := by omega
        have ff := fin (2 * root + 1) (by omega) (by omega) (fun q => by rw [pure1, decide_eq_false h2, Bool.false_and, if_neg (by simp), q]; rfl) (fun q => by rw [pure1, decide_eq_false h2, Bool.false_and, if_neg (by simp), q]; rfl)
        rcases ff with ⟨e, p⟩ | ⟨k2, h', e, e', A', o'⟩
        · rw [← eo] at e
          refine ⟨h, ?_, by rw [p]; exact A, Only.refl⟩
          rw [J38_0_step]
          unfold Jr38_0
          simp only [go_sem, Nat.reduceAdd, Nat.reduceLeDiff, Nat.reduceMul, Int.reduceBEq, Int.reduceBNe, Int.reduceLT, Int.reduceLE, Int.reduceGT, aBin_mul, w1, aBin_add, w2, aBin_geq, c1, w3, aBin_lss, c2, e, Jk38_0, take_len hl]
        · rw [← eo] at e e'
          refine ⟨h', ?_, A', o'⟩
          rw [J38_0_step]
          unfold Jr38_0
          simp only [go_sem, Nat.reduceAdd, Nat.reduceLeDiff, Nat.reduceMul, Int.reduceBEq, Int.reduceBNe, Int.reduceLT, Int.reduceLE, Int.reduceGT, aBin_mul, w1, aBin_add, w2, aBin_geq, c1, w3, aBin_lss, c2, e]
          exact e'
theorem sift_s (hro : md.ro ≤ slB v) (A : AR h v d) (hsz : first + hi ≤ d.size) (hr : root < d.size) (hn : d.size < 50000) (lo : Int) :
    ∃ h', C md 38 [v, (Value.int .i64 ((root : Int))), (Value.int .i64 ((hi : Int))), (Value.int .i64 ((first : Int)))] h = some ((Value.tuple #[]), h') ∧ AR h' v (Go.Sort.siftDown Go.Sort.ltInt hi first root d) ∧ O1 v h h' := by
  obtain ⟨h', e, A', o⟩ := sift_lp (md := ⟨md.ro, h.length⟩) (h0 := h) (first := first) (hi := hi) hro hsz hn (hi - root) root d h (Nat.le_refl _) hr A rfl rfl
  refine ⟨h', ?_, A', o⟩
  rw [C, call_eq, F38_eq]
  unfold F38
  exact e
end Go.Det.O

/- Partial insertion sort. -/
import Derived.Test.YtalelfcdhmfgoaaO3
set_option autoImplicit false
set_option linter.unusedVariables false
set_option linter.unusedSimpArgs false
namespace Go.Det.O
open Go.Det.E
open Go.Proofs Go.Det
attribute [local congr] bind_c cond_c
variable {md : Md} {h hh k h' h'' : Heap} {v s1 s2 s6 s7 s8 : Value} {d d' : Array Int} {i j a b c n : Nat} {x y aa bb : Int}
theorem up_lp (hro : md.ro ≤ slB v) (hb : b ≤ n) (hn : n < 50000) : ∀ (m j : Nat) (d : Array Int) (h : Heap), b - j ≤ m → 1 ≤ j → j ≤ n → AR h v d → d.size = n →
    ∃ h', J32_0b4 C md v s1 ((Value.int .i64 ((b : Int)))) s6 s7 s8 ((Value.int .i64 ((j : Int)))) h = (aBin Try.prog .add 3 s8 ((Value.int .i64 1)) fun v1 => some (.inl ((v, s1, (Value.int .i64 ((b : Int))), s6, s7, v1), h'))) ∧ AR h' v (Go.Sort.shiftUp Go.Sort.ltInt b j d) ∧ O1 v h h' := by
  intro m
  have stop : ∀ (j : Nat) (d : Array Int) (h : Heap), ¬ j < b → AR h v d → ∃ h', J32_0b4 C md v s1 ((Value.int .i64 ((b : Int)))) s6 s7 s8 ((Value.int .i64 ((j : Int)))) h = (aBin Try.prog .add 3 s8 ((Value.int .i64 1)) fun v1 => some (.inl ((v, s1, (Value.int .i64 ((b : Int))), s6, s7, v1), h'))) ∧ AR h' v (Go.Sort.shiftUp Go.Sort.ltInt b j d) ∧ O1 v h h' := fun j d h hj A => by
    have nlt : ¬ ((j : Int) < (b : Int)) := by omega
    refine ⟨h, ?_, by rw [Go.Sort.shiftUp, if_neg hj]; exact A, Only.refl⟩
    rw [J32_0b4_step]
    unfold Jr32_0b4
    simp only [go_sem, Nat.reduceAdd, Nat.reduceLeDiff, Nat.reduceMul, Int.reduceBEq, Int.reduceBNe, Int.reduceLT, Int.reduceLE, Int.reduceGT, aBin_lss, nlt, Jk32_0b4]
  induction m with
  | zero => intro j d h hm h1 hj A hd; exact stop j d h (by omega) A
  | succ m ih =>
    intro j d h hm h1 hj A hd
    by_cases hlt : j < b
    · have c1 : ((j : Int) < (b : Int)) := by omega
      have wj : IntKind.wrap .i64 ((j : Int) - 1) = ((j - 1 : Nat) : Int) := by rw [wi (by omega) (by omega)]; omega
      have wj1 : IntKind.wrap .i64 ((j : Int) + 1) = ((j + 1 : Nat) : Int) := by rw [wi (by omega) (by omega)]; omega
      obtain ⟨x1, r1⟩ := A.rd (i := j) (by omega)
      obtain ⟨x2, r2⟩ := A.rd (i := j - 1) (by omega)
      have nt : (!true) = false := rfl
      have nf : (!false) = true := rfl
      cases hl : Go.Sort.ltInt d[j]! d[j - 1]!
      · refine ⟨h, ?_, by rw [Go.Sort.shiftUp, if_pos hlt, hl]; exact A, Only.refl⟩
        rw [J32_0b4_step]
        unfold Jr32_0b4
        simp only [go_sem, Nat.reduceAdd, Nat.reduceLeDiff, Nat.reduceMul, Int.reduceBEq, Int.reduceBNe, Int.reduceLT, Int.reduceLE, Int.reduceGT, aBin_lss, c1, ixSV_p, x1, r1, aBin_sub, wj, x2, r2, less_s, hl, nf, Jk32_0b4]
      · obtain ⟨g1, g2, w1, w2, A2, o2⟩ := A.swp (md := md) (i := j) (j := j - 1) (by omega) (by omega) hro
        obtain ⟨h', e, A', o'⟩ := ih (j + 1) _ g2 (by omega) (by omega) (by omega) A2 (by rw [Go.Sort.size_swp]; exact hd)
        refine ⟨h', ?_, by rw [Go.Sort.shiftUp, if_pos hlt, hl]; exact A', o2.trans o'⟩
        rw [J32_0b4_step]
        unfold Jr32_0b4
        simp only [go_sem, Nat.reduceAdd, Nat.reduceLeDiff, Nat.reduceMul, Int.reduceBEq, Int.reduceBNe, Int.reduceLT, Int.reduceLE, Int.reduceGT, aBin_lss, c1, ixSV_p, x1, r1, aBin_sub, wj, x2, r2, less_s, hl, nt, st_1i, w1, w2, aBin_add, wj1]
        exact e
    · exact stop j d h hlt A
theorem pis_b3 (hro : md.ro ≤ slB v) (hi : i ≤ b) (hb : b ≤ d.size) (hn : d.size < 50000) (A : AR h v d) :
    ∃ h', J32_0b3 C md v s1 ((Value.int .i64 ((b : Int)))) s6 ((Value.int .i64 ((i : Int)))) s8 h = (aBin Try.prog .add 3 s8 ((Value.int .i64 1)) fun v1 => some (.inl ((v, s1, (Value.int .i64 ((b : Int))), s6, (Value.int .i64 ((i : Int))), v1), h'))) ∧ AR h' v (if b - i ≥ 2 then Go.Sort.shiftUp Go.Sort.ltInt b (i + 1) d else d) ∧ O1 v h h' := by
  have w1 : IntKind.wrap .i64 ((b : Int) - (i : Int)) = ((b - i : Nat) : Int) := by rw [wi (by omega) (by omega)]; omega
  by_cases h2 : b - i ≥ 2
  · have c2 : (((b - i : Nat) : Int) ≥ 2) := by omega
    have w2 : IntKind.wrap .i64 ((i : Int) + 1) = ((i + 1 : Nat) : Int) := by rw [wi (by omega) (by omega)]; omega
    obtain ⟨h', e, A', o⟩ := up_lp (md := md) (s1 := s1) (s6 := s6) (s7 := (Value.int .i64 ((i : Int)))) (s8 := s8) hro hb hn (b - (i + 1)) (i + 1) d h (Nat.le_refl _) (by omega) (by omega) A rfl
    refine ⟨h', ?_, by rw [if_pos h2]; exact A', o⟩
    unfold J32_0b3
    simp only [go_sem, Nat.reduceAdd, Nat.reduceLeDiff, Nat.reduceMul, Int.reduceBEq, Int.reduceBNe, Int.reduceLT, Int.reduceLE, Int.reduceGT, aBin_sub, w1, aBin_geq, c2, aBin_add, w2]
    exact e
  · have c2 : ¬ (((b - i : Nat) : Int) ≥ 2) := by omega
    refine ⟨h, ?_, by rw [if_neg h2]; exact A, Only.refl⟩
    unfold J32_0b3
    simp only [go_sem, Nat.reduceAdd, Nat.reduceLeDiff, Nat.reduceMul, Int.reduceBEq, Int.reduceBNe, Int.reduceLT, Int.reduceLE, Int.reduceGT, aBin_sub, w1, aBin_geq, c2]
theorem down_lp (hro : md.ro ≤ slB v) (hn : n < 50000) : ∀ (j : Nat) (d : Array Int) (h : Heap), j < n → AR h v d → d.size = n →
    ∃ h', J32_0b2 C md v s1 s2 s6 s7 s8 ((Value.int .i64 ((j : Int)))) h = J32_0b3 C md v s1 s2 s6 s7 s8 h' ∧ AR h' v (Go.Sort.shiftDown Go.Sort.ltInt j d) ∧ O1 v h h' := by
  intro j
  induction j with
  | zero =>
    intro d h hj A hd
    have c1 : ¬ (((0 : Nat) : Int) ≥ 1) := by omega
    refine ⟨h, ?_, A, Only.refl⟩
    rw [J32_0b2_step]
    unfold Jr32_0b2
    simp only [go_sem, Nat.reduceAdd, Nat.reduceLeDiff, Nat.reduceMul, Int.reduceBEq, Int.reduceBNe, Int.reduceLT, Int.reduceLE, Int.reduceGT, aBin_geq, c1, Jk32_0b2]
  | succ j ih =>
    intro d h hj A hd
    have c1 : (((j + 1 : Nat) : Int) ≥ 1) := by omega
    have wj : IntKind.wrap .i64 (((j + 1 : Nat) : Int) - 1) = (j : Int) := by rw [wi (by omega) (by omega)]; omega
    obtain ⟨x1, r1⟩ := A.rd (i := j + 1) (by omega)
    obtain ⟨x2, r2⟩ := A.rd (i := j) (by omega)
    have nt : (!true) = false := rfl
    have nf : (!false) = true := rfl
    cases hl : Go.Sort.ltInt d[j + 1]! d[j]!
    · refine ⟨h, ?_, by rw [Go.Sort.shiftDown, hl]; exact A, Only.refl⟩
      rw [J32_0b2_step]
      unfold Jr32_0b2
      simp only [go_sem, Nat.reduceAdd, Nat.reduceLeDiff, Nat.reduceMul, Int.reduceBEq, Int.reduceBNe, Int.reduceLT, Int.reduceLE, Int.reduceGT, aBin_geq, c1, ixSV_p, x1, r1, aBin_sub, wj, x2, r2, less_s, hl, nf, Jk32_0b2]
    · obtain ⟨g1, g2, w1, w2, A2, o2⟩ := A.swp (md := md) (i := j + 1) (j := j) (by omega) (by omega) hro
      obtain ⟨h', e, A', o'⟩ := ih _ g2 (by omega) A2 (by rw [Go.Sort.size_swp]; exact hd)
      refine ⟨h', ?_, by rw [Go.Sort.shiftDown, hl]; exact A', o2.trans o'⟩
      rw [J32_0b2_step]
      unfold Jr32_0b2
      simp only [go_sem, Nat.reduceAdd, Nat.reduceLeDiff, Nat.reduceMul, Int.reduceBEq, Int.reduceBNe, Int.reduceLT, Int.reduceLE, Int.reduceGT, aBin_geq, c1, ixSV_p, x1, r1, aBin_sub, wj, x2, r2, less_s, hl, nt, st_1i, w1, w2]
      exact e
theorem scan_lp (A : AR h v d) (hb : b ≤ d.size) (hn : d.size < 50000) : ∀ (m i : Nat), b - i ≤ m → 1 ≤ i → i ≤ b →
    J32_0b0 C md v s1 ((Value.int .i64 ((b : Int)))) s6 ((Value.int .i64 ((i : Int)))) s8 h = J32_0b1 C md v s1 ((Value.int .i64 ((b : Int)))) s6 ((Value.int .i64 ((Go.Sort.scanSorted Go.Sort.ltInt d b i : Int)))) s8 h ∧ i ≤ Go.Sort.scanSorted Go.Sort.ltInt d b i ∧ Go.Sort.scanSorted Go.Sort.ltInt d b i ≤ b := by
  intro m
  have stop : ∀ i : Nat, ¬ i < b → i ≤ b → J32_0b0 C md v s1 ((Value.int .i64 ((b : Int)))) s6 ((Value.int .i64 ((i : Int)))) s8 h = J32_0b1 C md v s1 ((Value.int .i64 ((b : Int)))) s6 ((Value.int .i64 ((Go.Sort.scanSorted Go.Sort.ltInt d b i : Int)))) s8 h ∧ i ≤ Go.Sort.scanSorted Go.Sort.ltInt d b i ∧ Go.Sort.scanSorted Go.Sort.ltInt d b i ≤ b := fun i hi hib => by
    have c1 : ¬ ((i : Int) < (b : Int)) := by omega
    have e : Go.Sort.scanSorted Go.Sort.ltInt d b i = i := by rw [Go.Sort.scanSorted, decide_eq_false hi]; rfl
    rw [e]
    refine ⟨?_, Nat.le_refl _, hib⟩
    rw [J32_0b0_step]
    unfold Jr32_0b0
    simp only [go_sem, Nat.reduceAdd, Nat.reduceLeDiff, Nat.reduceMul, Int.reduceBEq, Int.reduceBNe, Int.reduceLT, Int.reduceLE, Int.reduceGT, aBin_lss, c1, Jk32_0b0]
  induction m with
  | zero => intro i hm h1 hi; exact stop i (by omega) hi
  | succ m ih =>
    intro i hm h1 hi
    by_cases hlt : i < b
    · have c1 : ((i : Int) < (b : Int)) := by omega
      have wj : IntKind.wrap .i64 ((i : Int) - 1) = ((i - 1 : Nat) : Int) := by rw [wi (by omega) (by omega)]; omega
      have wi1 : IntKind.wrap .i64 ((i : Int) + 1) = ((i + 1 : Nat) : Int) := by rw [wi (by omega) (by omega)]; omega
      obtain ⟨x1, r1⟩ := A.rd (i := i) (by omega)
      obtain ⟨x2, r2⟩ := A.rd (i := i - 1) (by omega)
      have nt : (!true) = false := rfl
      have nf : (!false) = true := rfl
      cases hl : Go.Sort.ltInt d[i]! d[i - 1]!
      · have e : Go.Sort.scanSorted Go.Sort.ltInt d b i = Go.Sort.scanSorted Go.Sort.ltInt d b (i + 1) := by rw [Go.Sort.scanSorted, decide_eq_true hlt, hl]; rfl
        obtain ⟨g1, g2, g3⟩ := ih (i + 1) (by omega) (by omega) (by omega)
        rw [e]
        refine ⟨?_, by omega, g3⟩
        rw [J32_0b0_step]
        unfold Jr32_0b0
        simp only [go_sem, Nat.reduceAdd, Nat.reduceLeDiff, Nat.reduceMul, Int.reduceBEq, Int.reduceBNe, Int.reduceLT, Int.reduceLE, Int.reduceGT, aBin_lss, c1, ixSV_p, x1, r1, aBin_sub, wj, x2, r2, less_s, hl, aUn_not, nf, aBin_add, wi1]
        exact g1
      · have e : Go.Sort.scanSorted Go.Sort.ltInt d b i = i := by rw [Go.Sort.scanSorted, decide_eq_true hlt, hl]; rfl
        rw [e]
        refine ⟨?_, Nat.le_refl _, hi⟩
        rw [J32_0b0_step]
        unfold Jr32_0b0
        simp only [go_sem, Nat.reduceAdd, Nat.reduceLeDiff, Nat.reduceMul, Int.reduceBEq, Int.reduceBNe, Int.reduceLT, Int.reduceLE, Int.reduceGT, aBin_lss, c1, ixSV_p, x1, r1, aBin_sub, wj, x2, r2, less_s, hl, aUn_not, nt, Jk32_0b0]
    · exact stop i hlt hi
theorem pis_lp {h0 : Heap} (hro : md.ro ≤ slB v) (hb : b ≤ n) (hn : n < 50000) : ∀ (s i : Nat) (d : Array Int) (h : Heap), s ≤ 5 → a < i → i ≤ b → AR h v d → d.size = n → h.length = h0.length →
    ∃ h', J32_0 C md h0 v ((Value.int .i64 ((a : Int)))) ((Value.int .i64 ((b : Int)))) ((Value.bool false)) ((Value.int .i64 ((i : Int)))) ((Value.int .i64 (5 - (s : Int)))) h = some ((Value.bool ((Go.Sort.partialIns Go.Sort.ltInt a b s i d).2)), h') ∧ AR h' v (Go.Sort.partialIns Go.Sort.ltInt a b s i d).1 ∧ O1 v h h' := by
  intro s
  induction s with
  | zero =>
    intro i d h hs ha hi A hd hl
    have c1 : ¬ (5 - ((0 : Nat) : Int) < 5) := by omega
    refine ⟨h, ?_, A, Only.refl⟩
    rw [J32_0_step]
    unfold Jr32_0
    simp only [go_sem, Nat.reduceAdd, Nat.reduceLeDiff, Nat.reduceMul, Int.reduceBEq, Int.reduceBNe, Int.reduceLT, Int.reduceLE, Int.reduceGT, aBin_lss, c1, Jk32_0, take_len hl]
    rfl
  | succ s ih =>
    intro i d h hs ha hi A hd hl
    have c1 : (5 - ((s + 1 : Nat) : Int) < 5) := by omega
    have wst : IntKind.wrap .i64 (5 - ((s + 1 : Nat) : Int) + 1) = 5 - (s : Int) := by rw [wi (by omega) (by omega)]; omega
    obtain ⟨e0, q1, q2⟩ := scan_lp (md := md) (s1 := (Value.int .i64 ((a : Int)))) (s6 := (Value.bool false)) (s8 := (Value.int .i64 (5 - ((s + 1 : Nat) : Int)))) A (by omega) (by omega) (b - i) i (Nat.le_refl _) (by omega) hi
    rw [Go.Sort.partialIns]
    generalize hu : Go.Sort.scanSorted Go.Sort.ltInt d b i = u at e0 q1 q2
    simp only []
    by_cases hub : u = b
    · have z : ((u : Int) == (b : Int)) = true := by rw [hub]; simp
      rw [if_pos hub]
      refine ⟨h, ?_, A, Only.refl⟩
      rw [J32_0_step]
      unfold Jr32_0
      simp only [go_sem, Nat.reduceAdd, Nat.reduceLeDiff, Nat.reduceMul, Int.reduceBEq, Int.reduceBNe, Int.reduceLT, Int.reduceLE, Int.reduceGT, aBin_lss, c1, e0]
      unfold J32_0b1
      simp only [go_sem, Nat.reduceAdd, Nat.reduceLeDiff, Nat.reduceMul, Int.reduceBEq, Int.reduceBNe, Int.reduceLT, Int.reduceLE, Int.reduceGT, aBin_eql, z, Jk32_0, take_len hl]
    · have z : ((u : Int) == (b : Int)) = false := by rw [beq_eq_false_iff_ne]; omega
      have wba : IntKind.wrap .i64 ((b : Int) - (a : Int)) = ((b - a : Nat) : Int) := by rw [wi (by omega) (by omega)]; omega
      rw [if_neg hub]
      by_cases h50 : b - a < 50
      · have c50 : (((b - a : Nat) : Int) < 50) := by omega
        rw [if_pos h50]
        refine ⟨h, ?_, A, Only.refl⟩
        rw [J32_0_step]
        unfold Jr32_0
        simp only [go_sem, Nat.reduceAdd, Nat.reduceLeDiff, Nat.reduceMul, Int.reduceBEq, Int.reduceBNe, Int.reduceLT, Int.reduceLE, Int.reduceGT, aBin_lss, c1, e0]
        unfold J32_0b1
        simp only [go_sem, Nat.reduceAdd, Nat.reduceLeDiff, Nat.reduceMul, Int.reduceBEq, Int.reduceBNe, Int.reduceLT, Int.reduceLE, Int.reduceGT, aBin_eql, z, aBin_sub, wba, aBin_lss, c50, Jk32_0, take_len hl]
      · have c50 : ¬ (((b - a : Nat) : Int) < 50) := by omega
        rw [if_neg h50]
        have wu : IntKind.wrap .i64 ((u : Int) - 1) = ((u - 1 : Nat) : Int) := by rw [wi (by omega) (by omega)]; omega
        have wua : IntKind.wrap .i64 ((u : Int) - (a : Int)) = ((u - a : Nat) : Int) := by rw [wi (by omega) (by omega)]; omega
        obtain ⟨x1, r1⟩ := A.rd (i := u) (by omega)
        obtain ⟨x2, r2⟩ := A.rd (i := u - 1) (by omega)
        obtain ⟨g1, g2, w1, w2, A2, o2⟩ := A.swp (md := md) (i := u) (j := u - 1) (by omega) (by omega) hro
        have s2 : (Go.Sort.swp d u (u - 1)).size = n := by rw [Go.Sort.size_swp]; exact hd
        by_cases h2 : u - a ≥ 2
        · have c2 : (((u - a : Nat) : Int) ≥ 2) := by omega
          rw [if_pos h2]
          obtain ⟨k3, e3, A3, o3⟩ := down_lp (md := md) (s1 := (Value.int .i64 ((a : Int)))) (s2 := (Value.int .i64 ((b : Int)))) (s6 := (Value.bool false)) (s7 := (Value.int .i64 ((u : Int)))) (s8 := (Value.int .i64 (5 - ((s + 1 : Nat) : Int)))) hro hn (u - 1) _ g2 (by omega) A2 s2
          have s3 := (A2.same A3).trans s2
          obtain ⟨k4, e4, A4, o4⟩ := pis_b3 (md := md) (i := u) (b := b) (s1 := (Value.int .i64 ((a : Int)))) (s6 := (Value.bool false)) (s8 := (Value.int .i64 (5 - ((s + 1 : Nat) : Int)))) hro q2 (by omega) (by omega) A3
          obtain ⟨h', e5, A5, o5⟩ := ih u _ k4 (by omega) (by omega) q2 A4 ((A3.same A4).trans s3) (by rw [o4.len, o3.len, o2.len]; exact hl)
          refine ⟨h', ?_, A5, ((o2.trans o3).trans o4).trans o5⟩
          rw [J32_0_step]
          unfold Jr32_0
          simp only [go_sem, Nat.reduceAdd, Nat.reduceLeDiff, Nat.reduceMul, Int.reduceBEq, Int.reduceBNe, Int.reduceLT, Int.reduceLE, Int.reduceGT, aBin_lss, c1, e0]
          unfold J32_0b1
          simp only [go_sem, Nat.reduceAdd, Nat.reduceLeDiff, Nat.reduceMul, Int.reduceBEq, Int.reduceBNe, Int.reduceLT, Int.reduceLE, Int.reduceGT, aBin_eql, z, aBin_sub, wba, aBin_lss, c50, wu, ixSV_p, x2, r2, x1, r1, st_1i, w1, w2, wua, aBin_geq, c2, e3, e4, aBin_add, wst]
          exact e5
        · have c2 : ¬ (((u - a : Nat) : Int) ≥ 2) := by omega
          rw [if_neg h2]
          obtain ⟨k4, e4, A4, o4⟩ := pis_b3 (md := md) (i := u) (b := b) (s1 := (Value.int .i64 ((a : Int)))) (s6 := (Value.bool false)) (s8 := (Value.int .i64 (5 - ((s + 1 : Nat) : Int)))) hro q2 (by omega) (by omega) A2
          obtain ⟨h', e5, A5, o5⟩ := ih u _ k4 (by omega) (by omega) q2 A4 ((A2.same A4).trans s2) (by rw [o4.len, o2.len]; exact hl)
          refine ⟨h', ?_, A5, (o2.trans o4).trans o5⟩
          rw [J32_0_step]
          unfold Jr32_0
          simp only [go_sem, Nat.reduceAdd, Nat.reduceLeDiff, Nat.reduceMul, Int.reduceBEq, Int.reduceBNe, Int.reduceLT, Int.reduceLE, Int.reduceGT, aBin_lss, c1, e0]
          unfold J32_0b1
          simp only [go_sem, Nat.reduceAdd, Nat.reduceLeDiff, Nat.reduceMul, Int.reduceBEq, Int.reduceBNe, Int.reduceLT, Int.reduceLE, Int.reduceGT, aBin_eql, z, aBin_sub, wba, aBin_lss, c50, wu, ixSV_p, x2, r2, x1, r1, st_1i, w1, w2, wua, aBin_geq, c2, e4, aBin_add, wst]
          exact e5
theorem partial_s (hro : md.ro ≤ slB v) (A : AR h v d) (hab : a < b) (hb : b ≤ d.size) (hn : d.size < 50000) :
    ∃ h', C md 32 [v, (Value.int .i64 ((a : Int))), (Value.int .i64 ((b : Int)))] h = some ((Value.bool ((Go.Sort.partialInsertionSort Go.Sort.ltInt d a b).2)), h') ∧ AR h' v (Go.Sort.partialInsertionSort Go.Sort.ltInt d a b).1 ∧ O1 v h h' := by
  have wa : IntKind.wrap .i64 ((a : Int) + 1) = ((a + 1 : Nat) : Int) := by rw [wi (by omega) (by omega)]; rfl
  obtain ⟨h', e, A', o⟩ := pis_lp (md := ⟨md.ro, h.length⟩) (h0 := h) (a := a) hro hb hn 5 (a + 1) d h (Nat.le_refl _) (by omega) (by omega) A rfl rfl
  refine ⟨h', ?_, A', o⟩
  rw [C, call_eq, F32_eq]
  unfold F32
  rw [wa]
  exact e
end Go.Det.O

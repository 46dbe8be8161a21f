/- Heap sort whole; medians, and the pivot. -/
import Derived.Test.YtalelfcdhmfgoaaO2
set_option autoImplicit false
set_option linter.unusedVariables false
set_option linter.unusedSimpArgs false
namespace Go.Det.O
open Go.Det.E
open Go.Proofs Go.Det
attribute [local congr] bind_c cond_c
variable {md : Md} {h hh k h' h'' : Heap} {v : Value} {d d' : Array Int} {i j a b c n hi first root s p : Nat} {x y : Int}
theorem heap_b {h0 : Heap} (hro : md.ro ≤ slB v) (hsz : first + hi ≤ n) (hn : n < 50000) : ∀ (k : Nat) (d : Array Int) (h : Heap), k ≤ n → AR h v d → d.size = n → h.length = h0.length →
    ∃ h', J28_0 C md h0 v ((Value.int .i64 ((first : Int)))) ((Value.int .i64 0)) ((Value.int .i64 ((hi : Int)))) ((Value.int .i64 ((k : Int) - 1))) h = J28_1 C md h0 v ((Value.int .i64 ((first : Int)))) ((Value.int .i64 0)) ((Value.int .i64 ((hi : Int)))) h' ∧ AR h' v (Go.Sort.heapBuild Go.Sort.ltInt hi first k d) ∧ O1 v h h' := by
  intro k
  induction k with
  | zero =>
    intro d h hk A hd hl
    have c0 : ¬ (((0 : Nat) : Int) - 1 ≥ 0) := by omega
    refine ⟨h, ?_, A, Only.refl⟩
    rw [J28_0_step]
    unfold Jr28_0
    simp only [go_sem, Nat.reduceAdd, Nat.reduceLeDiff, Nat.reduceMul, Int.reduceBEq, Int.reduceBNe, Int.reduceLT, Int.reduceLE, Int.reduceGT, aBin_geq, c0, Jk28_0]
  | succ k ih =>
    intro d h hk A hd hl
    have ek : ((k + 1 : Nat) : Int) - 1 = (k : Int) := by omega
    have c0 : ((k : Int) ≥ 0) := by omega
    have w1 : IntKind.wrap .i64 ((k : Int) - 1) = (k : Int) - 1 := wi (by omega) (by omega)
    obtain ⟨h1, e1, A1, o1⟩ := sift_s (md := md) (first := first) (hi := hi) (root := k) hro A (by omega) (by omega) (by omega) 0
    obtain ⟨h', e, A', o'⟩ := ih _ h1 (by omega) A1 (by rw [A.same A1]; exact hd) (by rw [o1.len]; exact hl)
    refine ⟨h', ?_, A', o1.trans o'⟩
    rw [ek, J28_0_step]
    unfold Jr28_0
    simp only [go_sem, Nat.reduceAdd, Nat.reduceLeDiff, Nat.reduceMul, Int.reduceBEq, Int.reduceBNe, Int.reduceLT, Int.reduceLE, Int.reduceGT, aBin_geq, c0, e1, aBin_sub, w1]
    exact e
theorem heap_p {h0 : Heap} (hro : md.ro ≤ slB v) (hn : n < 50000) : ∀ (k : Nat) (d : Array Int) (h : Heap), first + k ≤ n → AR h v d → d.size = n → h.length = h0.length →
    ∃ h', J28_2 C md h0 v ((Value.int .i64 ((first : Int)))) ((Value.int .i64 0)) ((Value.int .i64 ((k : Int) - 1))) h = some ((Value.tuple #[]), h') ∧ AR h' v (Go.Sort.heapPop Go.Sort.ltInt first k d) ∧ O1 v h h' := by
  intro k
  induction k with
  | zero =>
    intro d h hk A hd hl
    have c0 : ¬ (((0 : Nat) : Int) - 1 ≥ 0) := by omega
    refine ⟨h, ?_, A, Only.refl⟩
    rw [J28_2_step]
    unfold Jr28_2
    simp only [go_sem, Nat.reduceAdd, Nat.reduceLeDiff, Nat.reduceMul, Int.reduceBEq, Int.reduceBNe, Int.reduceLT, Int.reduceLE, Int.reduceGT, aBin_geq, c0, Jk28_2, take_len hl]
  | succ k ih =>
    intro d h hk A hd hl
    have ek : ((k + 1 : Nat) : Int) - 1 = (k : Int) := by omega
    have c0 : ((k : Int) ≥ 0) := by omega
    have w1 : IntKind.wrap .i64 ((k : Int) - 1) = (k : Int) - 1 := wi (by omega) (by omega)
    have w2 : IntKind.wrap .i64 ((first : Int) + (k : Int)) = ((first + k : Nat) : Int) := by rw [wi (by omega) (by omega)]; omega
    obtain ⟨x1, r1⟩ := A.rd (i := first + k) (by omega)
    obtain ⟨x2, r2⟩ := A.rd (i := first) (by omega)
    obtain ⟨g1, g2, e1, e2, A2, o2⟩ := A.swp (md := md) (i := first) (j := first + k) (by omega) (by omega) hro
    obtain ⟨h1, e3, A3, o3⟩ := sift_s (md := md) (first := first) (hi := k) (root := 0) hro A2 (by rw [Go.Sort.size_swp]; omega) (by rw [Go.Sort.size_swp]; omega) (by rw [Go.Sort.size_swp]; omega) 0
    obtain ⟨h', e, A', o'⟩ := ih _ h1 (by omega) A3 (by rw [A.same A3]; exact hd) (by rw [o3.len, o2.len]; exact hl)
    refine ⟨h', ?_, A', (o2.trans o3).trans o'⟩
    have z0 : ((0 : Nat) : Int) = 0 := rfl
    rw [z0] at e3
    rw [ek, J28_2_step]
    unfold Jr28_2
    simp only [go_sem, Nat.reduceAdd, Nat.reduceLeDiff, Nat.reduceMul, Int.reduceBEq, Int.reduceBNe, Int.reduceLT, Int.reduceLE, Int.reduceGT, aBin_geq, c0, aBin_add, w2, ixSV_p, x1, r1, x2, r2, st_1i, e1, e2, e3, aBin_sub, w1]
    exact e
theorem heap_s (hro : md.ro ≤ slB v) (A : AR h v d) (hab : a < b) (hb : b ≤ d.size) (hn : d.size < 50000) :
    ∃ h', C md 28 [v, (Value.int .i64 ((a : Int))), (Value.int .i64 ((b : Int)))] h = some ((Value.tuple #[]), h') ∧ AR h' v (Go.Sort.heapSort Go.Sort.ltInt d a b) ∧ O1 v h h' := by
  obtain ⟨h1, e1, A1, o1⟩ := heap_b (md := ⟨md.ro, h.length⟩) (h0 := h) (first := a) (hi := b - a) hro (by omega) hn ((b - a - 1) / 2 + 1) d h (by omega) A rfl rfl
  obtain ⟨h', e2, A', o2⟩ := heap_p (md := ⟨md.ro, h.length⟩) (h0 := h) (first := a) hro hn (b - a) _ h1 (by omega) A1 (A.same A1) o1.len
  refine ⟨h', ?_, A', o1.trans o2⟩
  have w1 : IntKind.wrap .i64 ((b : Int) - (a : Int)) = ((b - a : Nat) : Int) := by rw [wi (by omega) (by omega)]; omega
  have w2 : IntKind.wrap .i64 (((b - a : Nat) : Int) - 1) = ((b - a : Nat) : Int) - 1 := wi (by omega) (by omega)
  have t2 : Int.tdiv (((b - a : Nat) : Int) - 1) 2 = (((b - a - 1) / 2 + 1 : Nat) : Int) - 1 := by rw [Int.tdiv_eq_ediv_of_nonneg (by omega)]; omega
  have w3 : IntKind.wrap .i64 ((((b - a - 1) / 2 + 1 : Nat) : Int) - 1) = (((b - a - 1) / 2 + 1 : Nat) : Int) - 1 := wi (by omega) (by omega)
  rw [C, call_eq, F28_eq]
  unfold F28
  simp only [w1, w2, t2, w3]
  refine e1.trans ?_
  unfold J28_1
  simp only [go_sem, Nat.reduceAdd, Nat.reduceLeDiff, Nat.reduceMul, Int.reduceBEq, Int.reduceBNe, Int.reduceLT, Int.reduceLE, Int.reduceGT, aBin_sub, w2]
  exact e2
/-! ### The pivot -/
abbrev Cb (p : Nat) (h h' : Heap) : Prop := Only p p h h'
theorem order2_s (hro : md.ro ≤ p) (A : AR h v d) (hp : h[p]? = some (.own [(Value.int .i64 ((s : Int)))])) (hne : p ≠ slB v) (hi' : i < d.size) (hj : j < d.size) (hs : s < 1000) :
    ∃ h', C md 44 [v, (Value.int .i64 ((i : Int))), (Value.int .i64 ((j : Int))), (Value.pointer (some ⟨p, 0, none⟩))] h = some ((Value.tuple #[(Value.int .i64 (((Go.Sort.order2 Go.Sort.ltInt d i j s).1 : Int))), (Value.int .i64 (((Go.Sort.order2 Go.Sort.ltInt d i j s).2.1 : Int)))]), h') ∧ AR h' v d ∧ h'[p]? = some (.own [(Value.int .i64 (((Go.Sort.order2 Go.Sort.ltInt d i j s).2.2 : Int)))]) ∧ Cb p h h' := by
  obtain ⟨xi, ri⟩ := A.rd hi'
  obtain ⟨xj, rj⟩ := A.rd hj
  have rp : rd h p 0 = some ((Value.int .i64 ((s : Int)))) := by rw [rd_own hp]; rfl
  have ws : IntKind.wrap .i64 ((s : Int) + 1) = ((s + 1 : Nat) : Int) := by rw [wi (by omega) (by omega)]; rfl
  unfold Go.Sort.order2
  cases hl : Go.Sort.ltInt d[j]! d[i]!
  · refine ⟨h, ?_, A, hp, Only.refl⟩
    rw [C, call_eq, F44_eq]
    unfold F44
    simp only [go_sem, Nat.reduceAdd, Nat.reduceLeDiff, Nat.reduceMul, Int.reduceBEq, Int.reduceBNe, Int.reduceLT, Int.reduceLE, Int.reduceGT, xj, rj, xi, ri, less_s, hl, take_len (rfl : h.length = h.length)]
    rfl
  · have ww : wrN ⟨md.ro, h.length⟩ h p 0 [(Value.int .i64 (((s + 1 : Nat) : Int)))] = some (h.set p (.own [(Value.int .i64 (((s + 1 : Nat) : Int)))])) := wr_own hp hro rfl (by simp)
    have o : Cb p h (h.set p (.own [(Value.int .i64 (((s + 1 : Nat) : Int)))])) := ⟨by simp, fun y h1 h2 => List.getElem?_set_ne (Ne.symm h1)⟩
    refine ⟨_, ?_, ⟨A.sl.heap fun _ => o.oth _ (Ne.symm hne) (Ne.symm hne), by obtain ⟨cs, e⟩ := A.ow; exact ⟨cs, (o.oth _ (Ne.symm hne) (Ne.symm hne)).trans e⟩⟩, List.getElem?_set_self (lt_of hp), o⟩
    rw [C, call_eq, F44_eq]
    unfold F44
    simp only [go_sem, Nat.reduceAdd, Nat.reduceLeDiff, Nat.reduceMul, Int.reduceBEq, Int.reduceBNe, Int.reduceLT, Int.reduceLE, Int.reduceGT, xj, rj, xi, ri, less_s, hl, okNil, okP_p, rp, ws, st_1i, ww, take_len o.len]
theorem o2_lt (hi' : i < n) (hj : j < n) : (Go.Sort.order2 Go.Sort.ltInt d i j s).1 < n ∧ (Go.Sort.order2 Go.Sort.ltInt d i j s).2.1 < n ∧ (Go.Sort.order2 Go.Sort.ltInt d i j s).2.2 ≤ s + 1 := by
  unfold Go.Sort.order2
  split
  · exact ⟨hj, hi', Nat.le_refl _⟩
  · exact ⟨hi', hj, Nat.le_succ _⟩
theorem median_s (hro : md.ro ≤ p) (A : AR h v d) (hp : h[p]? = some (.own [(Value.int .i64 ((s : Int)))])) (hne : p ≠ slB v) (hi' : i < d.size) (hj : j < d.size) (hc : c < d.size) (hs : s < 900) :
    ∃ h', C md 42 [v, (Value.int .i64 ((i : Int))), (Value.int .i64 ((j : Int))), (Value.int .i64 ((c : Int))), (Value.pointer (some ⟨p, 0, none⟩))] h = some ((Value.int .i64 (((Go.Sort.median Go.Sort.ltInt d i j c s).1 : Int))), h') ∧ AR h' v d ∧ h'[p]? = some (.own [(Value.int .i64 (((Go.Sort.median Go.Sort.ltInt d i j c s).2 : Int)))]) ∧ Cb p h h' := by
  obtain ⟨q1, q2, q3⟩ := o2_lt (d := d) (s := s) hi' hj
  obtain ⟨h1, e1, A1, p1, o1⟩ := order2_s (md := ⟨md.ro, h.length⟩) hro A hp hne hi' hj (by omega)
  obtain ⟨q4, q5, q6⟩ := o2_lt (d := d) (s := (Go.Sort.order2 Go.Sort.ltInt d i j s).2.2) q2 hc
  obtain ⟨h2, e2, A2, p2, o2⟩ := order2_s (md := ⟨md.ro, h.length⟩) hro A1 p1 hne q2 hc (by omega)
  obtain ⟨h3, e3, A3, p3, o3⟩ := order2_s (md := ⟨md.ro, h.length⟩) hro A2 p2 hne q1 q4 (by omega)
  have o := (o1.trans o2).trans o3
  refine ⟨h3, ?_, A3, p3, o⟩
  rw [C, call_eq, F42_eq]
  unfold F42
  simp only [go_sem, Nat.reduceAdd, Nat.reduceLeDiff, Nat.reduceMul, Int.reduceBEq, Int.reduceBNe, Int.reduceLT, Int.reduceLE, Int.reduceGT, e1, e2, e3, take_len o.len]
  rfl
theorem med_lt (hi' : i < n) (hj : j < n) (hc : c < n) : (Go.Sort.median Go.Sort.ltInt d i j c s).1 < n ∧ (Go.Sort.median Go.Sort.ltInt d i j c s).2 ≤ s + 3 := by
  obtain ⟨q1, q2, q3⟩ := o2_lt (d := d) (s := s) hi' hj
  obtain ⟨q4, q5, q6⟩ := o2_lt (d := d) (s := (Go.Sort.order2 Go.Sort.ltInt d i j s).2.2) q2 hc
  obtain ⟨q7, q8, q9⟩ := o2_lt (d := d) (s := (Go.Sort.order2 Go.Sort.ltInt d (Go.Sort.order2 Go.Sort.ltInt d i j s).2.1 c (Go.Sort.order2 Go.Sort.ltInt d i j s).2.2).2.2) q1 q4
  exact ⟨q8, by show (Go.Sort.order2 _ _ _ _ _).2.2 ≤ s + 3; omega⟩
theorem medadj_s (hro : md.ro ≤ p) (A : AR h v d) (hp : h[p]? = some (.own [(Value.int .i64 ((s : Int)))])) (hne : p ≠ slB v) (hi1 : 1 ≤ i) (hi' : i + 1 < d.size) (hd : d.size < 50000) (hs : s < 900) :
    ∃ h', C md 41 [v, (Value.int .i64 ((i : Int))), (Value.pointer (some ⟨p, 0, none⟩))] h = some ((Value.int .i64 (((Go.Sort.medianAdjacent Go.Sort.ltInt d i s).1 : Int))), h') ∧ AR h' v d ∧ h'[p]? = some (.own [(Value.int .i64 (((Go.Sort.medianAdjacent Go.Sort.ltInt d i s).2 : Int)))]) ∧ Cb p h h' := by
  have w1 : IntKind.wrap .i64 ((i : Int) - 1) = ((i - 1 : Nat) : Int) := by rw [wi (by omega) (by omega)]; omega
  have w2 : IntKind.wrap .i64 ((i : Int) + 1) = ((i + 1 : Nat) : Int) := by rw [wi (by omega) (by omega)]; omega
  obtain ⟨h1, e1, A1, p1, o1⟩ := median_s (md := ⟨md.ro, h.length⟩) (i := i - 1) (j := i) (c := i + 1) hro A hp hne (by omega) (by omega) (by omega) hs
  refine ⟨h1, ?_, A1, p1, o1⟩
  rw [C, call_eq, F41_eq]
  unfold F41
  simp only [go_sem, Nat.reduceAdd, Nat.reduceLeDiff, Nat.reduceMul, Int.reduceBEq, Int.reduceBNe, Int.reduceLT, Int.reduceLE, Int.reduceGT, w1, w2, e1, take_len o1.len]
  rfl
def hintI : Go.Sort.Hint → Int
  | .unknown => 0
  | .increasing => 1
  | .decreasing => 2
theorem AR.app (A : AR h v d) (bs : Heap) : AR (h ++ bs) v d := ⟨A.sl.app, by obtain ⟨cs, e⟩ := A.ow; exact ⟨cs, (List.getElem?_append_left (lt_of e)).trans e⟩⟩
theorem AR.take (A : AR k v d) (hv : slB v < n) : AR (k.take n) v d := ⟨A.sl.heap fun _ => List.getElem?_take_of_lt hv, by obtain ⟨cs, e⟩ := A.ow; exact ⟨cs, (List.getElem?_take_of_lt hv).trans e⟩⟩
/-- The end of the choice: what the swaps tell. -/
theorem piv_end {h0 : Heap} {p : Nat} {x : Int} {kk : Heap} (hp : kk[p]? = some (.own [(Value.int .i64 ((s : Int)))])) : J30_1 C md h0 ((Value.pointer (some ⟨p, 0, none⟩))) ((Value.int .i64 x)) kk = some ((Value.tuple #[(Value.int .i64 x), (Value.int .i64 (hintI (if s = 0 then .increasing else if s = 12 then .decreasing else .unknown)))]), kk.take h0.length) := by
  have rp : rd kk p 0 = some ((Value.int .i64 ((s : Int)))) := by rw [rd_own hp]; rfl
  unfold J30_1
  by_cases s0 : s = 0
  · have z : ((s : Int) == 0) = true := by rw [s0]; rfl
    rw [if_pos s0]
    simp only [go_sem, Nat.reduceAdd, Nat.reduceLeDiff, Nat.reduceMul, Int.reduceBEq, Int.reduceBNe, Int.reduceLT, Int.reduceLE, Int.reduceGT, rp, z]
    rfl
  · have z : ((s : Int) == 0) = false := by rw [beq_eq_false_iff_ne]; omega
    rw [if_neg s0]
    by_cases s2 : s = 12
    · have z2 : ((s : Int) == 12) = true := by rw [s2]; rfl
      rw [if_pos s2]
      simp only [go_sem, Nat.reduceAdd, Nat.reduceLeDiff, Nat.reduceMul, Int.reduceBEq, Int.reduceBNe, Int.reduceLT, Int.reduceLE, Int.reduceGT, rp, z, z2]
      rfl
    · have z2 : ((s : Int) == 12) = false := by rw [beq_eq_false_iff_ne]; omega
      rw [if_neg s2]
      simp only [go_sem, Nat.reduceAdd, Nat.reduceLeDiff, Nat.reduceMul, Int.reduceBEq, Int.reduceBNe, Int.reduceLT, Int.reduceLE, Int.reduceGT, rp, z, z2]
      rfl
theorem choose_s (hro : md.ro ≤ h.length) (A : AR h v d) (hab : a ≤ b) (hb : b ≤ d.size) (hd : d.size < 50000) :
    ∃ h', C md 30 [v, (Value.int .i64 ((a : Int))), (Value.int .i64 ((b : Int)))] h = some ((Value.tuple #[(Value.int .i64 (((Go.Sort.choosePivot Go.Sort.ltInt d a b).1 : Int))), (Value.int .i64 (hintI (Go.Sort.choosePivot Go.Sort.ltInt d a b).2))]), h') ∧ AR h' v d ∧ O1 v h h' := by
  have hv := A.ltb
  have wl : IntKind.wrap .i64 ((b : Int) - (a : Int)) = ((b - a : Nat) : Int) := by rw [wi (by omega) (by omega)]; omega
  have tl : Int.tdiv ((b - a : Nat) : Int) 4 = (((b - a) / 4 : Nat) : Int) := by rw [Int.tdiv_eq_ediv_of_nonneg (by omega)]; omega
  have wq : IntKind.wrap .i64 (((b - a) / 4 : Nat) : Int) = (((b - a) / 4 : Nat) : Int) := wi (by omega) (by omega)
  have m1 : IntKind.wrap .i64 ((((b - a) / 4 : Nat) : Int) * 1) = (((b - a) / 4 : Nat) : Int) := by rw [wi (by omega) (by omega)]; omega
  have m2 : IntKind.wrap .i64 ((((b - a) / 4 : Nat) : Int) * 2) = (((b - a) / 4 * 2 : Nat) : Int) := by rw [wi (by omega) (by omega)]; omega
  have m3 : IntKind.wrap .i64 ((((b - a) / 4 : Nat) : Int) * 3) = (((b - a) / 4 * 3 : Nat) : Int) := by rw [wi (by omega) (by omega)]; omega
  have a1 : IntKind.wrap .i64 ((a : Int) + (((b - a) / 4 : Nat) : Int)) = ((a + (b - a) / 4 : Nat) : Int) := by rw [wi (by omega) (by omega)]; omega
  have a2 : IntKind.wrap .i64 ((a : Int) + (((b - a) / 4 * 2 : Nat) : Int)) = ((a + (b - a) / 4 * 2 : Nat) : Int) := by rw [wi (by omega) (by omega)]; omega
  have a3 : IntKind.wrap .i64 ((a : Int) + (((b - a) / 4 * 3 : Nat) : Int)) = ((a + (b - a) / 4 * 3 : Nat) : Int) := by rw [wi (by omega) (by omega)]; omega
  have l1 : (h ++ [Blk.own [(Value.int .i64 0)]]).length = h.length + 1 := by simp
  have p0 : (h ++ [Blk.own [(Value.int .i64 0)]])[h.length]? = some (.own [(Value.int .i64 (((0 : Nat) : Int)))]) := List.getElem?_concat_length ..
  have A0 := A.app [Blk.own [(Value.int .i64 0)]]
  have o0 : ∀ y, y < h.length → (h ++ [Blk.own [(Value.int .i64 0)]])[y]? = h[y]? := fun y hy => List.getElem?_append_left hy
  have fin : ∀ {kk : Heap}, Cb h.length (h ++ [Blk.own [(Value.int .i64 0)]]) kk → O1 v h (kk.take h.length) := fun {kk} o => ⟨by rw [List.length_take, o.len, l1]; omega, fun y h1 h2 => by
    by_cases hy : y < h.length
    · rw [List.getElem?_take_of_lt hy, o.oth y (by omega) (by omega), o0 y hy]
    · rw [List.getElem?_eq_none (by rw [List.length_take]; omega), List.getElem?_eq_none (by omega)]⟩
  rw [C, call_eq, F30_eq]
  unfold F30
  unfold Go.Sort.choosePivot
  simp only [Nat.mul_one, wl, tl, wq, m1, m2, m3, a1, a2, a3]
  by_cases h8 : b - a ≥ 8
  · have c8 : decide (((b - a : Nat) : Int) ≥ 8) = true := decide_eq_true (by omega)
    rw [if_pos h8, c8, cond_true]
    by_cases h50 : b - a ≥ 50
    · have c50 : decide (((b - a : Nat) : Int) ≥ 50) = true := decide_eq_true (by omega)
      rw [if_pos h50, c50, cond_true]
      have b1 := med_lt (d := d) (s := 0) (n := b) (i := a + (b - a) / 4 - 1) (j := a + (b - a) / 4) (c := a + (b - a) / 4 + 1) (by omega) (by omega) (by omega)
      obtain ⟨k1, e1, A1, p1, o1⟩ := medadj_s (md := ⟨md.ro, h.length⟩) (i := a + (b - a) / 4) (s := 0) (by exact hro) A0 p0 (by omega) (by omega) (by omega) hd (by omega)
      have b2 := med_lt (d := d) (s := (Go.Sort.medianAdjacent Go.Sort.ltInt d (a + (b - a) / 4) 0).2) (n := b) (i := a + (b - a) / 4 * 2 - 1) (j := a + (b - a) / 4 * 2) (c := a + (b - a) / 4 * 2 + 1) (by omega) (by omega) (by omega)
      have s1 : (Go.Sort.medianAdjacent Go.Sort.ltInt d (a + (b - a) / 4) 0).2 ≤ 3 := b1.2
      obtain ⟨k2, e2, A2, p2, o2⟩ := medadj_s (md := ⟨md.ro, h.length⟩) (i := a + (b - a) / 4 * 2) (by exact hro) A1 p1 (by omega) (by omega) (by omega) hd (by omega)
      have b3 := med_lt (d := d) (s := (Go.Sort.medianAdjacent Go.Sort.ltInt d (a + (b - a) / 4 * 2) (Go.Sort.medianAdjacent Go.Sort.ltInt d (a + (b - a) / 4) 0).2).2) (n := b) (i := a + (b - a) / 4 * 3 - 1) (j := a + (b - a) / 4 * 3) (c := a + (b - a) / 4 * 3 + 1) (by omega) (by omega) (by omega)
      have s2 : (Go.Sort.medianAdjacent Go.Sort.ltInt d (a + (b - a) / 4 * 2) (Go.Sort.medianAdjacent Go.Sort.ltInt d (a + (b - a) / 4) 0).2).2 ≤ 6 := by have := b2.2; show (Go.Sort.median _ _ _ _ _ _).2 ≤ 6; omega
      obtain ⟨k3, e3, A3, p3, o3⟩ := medadj_s (md := ⟨md.ro, h.length⟩) (i := a + (b - a) / 4 * 3) (by exact hro) A2 p2 (by omega) (by omega) (by omega) hd (by omega)
      have s3 : (Go.Sort.medianAdjacent Go.Sort.ltInt d (a + (b - a) / 4 * 3) (Go.Sort.medianAdjacent Go.Sort.ltInt d (a + (b - a) / 4 * 2) (Go.Sort.medianAdjacent Go.Sort.ltInt d (a + (b - a) / 4) 0).2).2).2 ≤ 9 := by have := b3.2; show (Go.Sort.median _ _ _ _ _ _).2 ≤ 9; omega
      obtain ⟨k4, e4, A4, p4, o4⟩ := median_s (md := ⟨md.ro, h.length⟩) (by exact hro) A3 p3 (by omega) (Nat.lt_of_lt_of_le b1.1 hb) (Nat.lt_of_lt_of_le b2.1 hb) (Nat.lt_of_lt_of_le b3.1 hb) (by omega)
      have o := ((o1.trans o2).trans o3).trans o4
      refine ⟨k4.take h.length, ?_, A4.take hv, fin o⟩
      have e4' := e4
      unfold Go.Sort.medianAdjacent at e1 e2 e3 e4
      simp only [go_sem, Nat.reduceAdd, Nat.reduceLeDiff, Nat.reduceMul, Int.reduceBEq, Int.reduceBNe, Int.reduceLT, Int.reduceLE, Int.reduceGT, e1, e2, e3]
      unfold J30_0
      simp only [go_sem, Nat.reduceAdd, Nat.reduceLeDiff, Nat.reduceMul, Int.reduceBEq, Int.reduceBNe, Int.reduceLT, Int.reduceLE, Int.reduceGT, e4]
      rw [piv_end p4]
      rfl
    · have c50 : decide (((b - a : Nat) : Int) ≥ 50) = false := decide_eq_false (by omega)
      rw [if_neg h50, c50, cond_false]
      obtain ⟨k4, e4, A4, p4, o4⟩ := median_s (md := ⟨md.ro, h.length⟩) (i := a + (b - a) / 4) (j := a + (b - a) / 4 * 2) (c := a + (b - a) / 4 * 3) (by exact hro) A0 p0 (by omega) (by omega) (by omega) (by omega) (by omega)
      refine ⟨k4.take h.length, ?_, A4.take hv, fin o4⟩
      unfold J30_0
      simp only [go_sem, Nat.reduceAdd, Nat.reduceLeDiff, Nat.reduceMul, Int.reduceBEq, Int.reduceBNe, Int.reduceLT, Int.reduceLE, Int.reduceGT, e4]
      rw [piv_end p4]
  · have c8 : decide (((b - a : Nat) : Int) ≥ 8) = false := decide_eq_false (by omega)
    rw [if_neg h8, c8, cond_false]
    refine ⟨(h ++ [Blk.own [(Value.int .i64 0)]]).take h.length, ?_, A0.take hv, fin Only.refl⟩
    rw [piv_end p0]
end Go.Det.O

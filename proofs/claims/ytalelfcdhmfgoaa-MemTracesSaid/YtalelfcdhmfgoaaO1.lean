/- A row of whole numbers in memory, as an array: read, written, swapped; insertion sort and reversal. -/
import Derived.Test.YtalelfcdhmfgoaaE1
import Derived.Test.YtalelfcdhmfgoaaN1
import Derived.Test.YtalelfcdhmfgoaaI1
import Derived.Sort.AssemblyPlain
set_option autoImplicit false
set_option linter.unusedVariables false
set_option linter.unusedSimpArgs false
namespace Go.Det.O
open Go.Det.E
open Go.Proofs Go.Det
attribute [local congr] bind_c cond_c
variable {md : Md} {h hh k h' h'' : Heap} {v : Value} {d d' : Array Int} {i j a b n : Nat} {x y : Int}
theorem wi {x : Int} (h1 : -9223372036854775808 ≤ x) (h2 : x ≤ 9223372036854775807) : IntKind.wrap .i64 x = x := by
  rw [IntKind.wrap_i64]; omega
structure AR (h : Heap) (v : Value) (d : Array Int) : Prop where
  sl : Sl h 1 eZ v d.toList
  ow : ∃ cs, h[slB v]? = some (.own cs)
abbrev O1 (v : Value) (h h' : Heap) : Prop := Only (slB v) (slB v) h h'
theorem get_at (d : Array Int) (hi : i < d.size) : d.toList[i]? = some d[i]! := by
  rw [getElem!_pos d i hi]; simp [hi]
theorem AR.rd (A : AR h v d) (hi : i < d.size) : (∀ {α : Type} (kk : Value → Option α), ixS 1 v (i : Int) kk = kk ((Value.pointer (some ⟨slB v, slO v + i, none⟩)))) ∧ rd h (slB v) (slO v + i) = some ((Value.int .i64 (d[i]!))) := Sl.getI A.sl (get_at d hi)
theorem AR.ltb (A : AR h v d) : slB v < h.length := by obtain ⟨cs, e⟩ := A.ow; exact lt_of e
theorem take_len (e : h'.length = h.length) : h'.take h.length = h' := List.take_of_length_le (by omega)
theorem put_list1 {G E : List Value} {a z n' : Nat} (hE : E.length = z) (h1 : a + z ≤ n') (h2 : n' ≤ G.length) : (G.take a ++ (E ++ G.drop (a + z))).take n' = (G.take n').take a ++ (E ++ (G.take n').drop (a + z)) := by
  have e : (G.take a).length = a := by rw [List.length_take]; omega
  rw [List.take_append, e, List.take_of_length_le (l := G.take a) (by rw [e]; omega), List.take_append, hE, List.take_of_length_le (l := E) (by rw [hE]; omega), List.take_take, Nat.min_eq_left (by omega), List.drop_take]
  congr 3; omega
/-- An element of a slice is stored. -/
theorem Sl.put1 {v : Value} {xs : List Int} {k : Nat} {x : Int} {cs : List Value} (S : Sl h 1 eZ v xs) (ho : h[slB v]? = some (.own cs)) (hk : k < xs.length) (hro : md.ro ≤ slB v) :
    ∃ h', wrN md h (slB v) (slO v + k) [(Value.int .i64 x)] = some h' ∧ Sl h' 1 eZ v (xs.set k x) ∧ O1 v h h' ∧ ∃ cs', h'[slB v]? = some (.own cs') := by
  have he := S.he
  rcases S.is with ⟨rfl, rfl⟩ | ⟨b, o, kb, rfl, hb, hc, hl⟩
  · simp at hk
  · have hb2 : h[b]? = some (.own cs) := ho
    rw [hb] at hb2
    obtain rfl := Option.some.inj hb2
    replace hc : (cs.drop o).take (xs.length * 1) = flat eZ xs := hc
    replace hl : o + xs.length * 1 ≤ cs.length := hl
    have w : wrN md h b (o + k) [(Value.int .i64 x)] = some (h.set b (.own (cs.set (o + k) ((Value.int .i64 x))))) := wr_own hb hro rfl (by omega)
    refine ⟨_, w, ?_, ⟨by simp, fun y h1 h2 => List.getElem?_set_ne (Ne.symm h1)⟩, ⟨_, List.getElem?_set_self (lt_of hb)⟩⟩
    have hc2 : ((cs.set (o + k) ((Value.int .i64 x))).drop o).take (xs.length * 1) = flat eZ (xs.set k x) := by
      have e1 : (cs.set (o + k) ((Value.int .i64 x))).drop o = (cs.drop o).set k ((Value.int .i64 x)) := by rw [List.drop_set, if_neg (by omega)]; congr 1; omega
      rw [e1, List.take_set, hc]
      have fl : ∀ l : List Int, flat eZ l = l.map (Value.int .i64) := fun l => by
        induction l with
        | nil => rfl
        | cons y r ih => rw [flat_cons, ih]; rfl
      rw [fl, fl, List.map_set]
    have hl2 : (xs.set k x).length = xs.length := List.length_set
    exact Sl.part (h := h.set b (.own (cs.set (o + k) ((Value.int .i64 x))))) (b := b) (o := o) (n := xs.length) (xs := xs.set k x) he (List.getElem?_set_self (lt_of hb)) (by rw [hl2]; exact hc2) (by rw [hl2]; show _ ≤ (cs.set _ _).length; rw [List.length_set]; exact hl) hl2.symm
theorem AR.wr (A : AR h v d) (hi : i < d.size) (hro : md.ro ≤ slB v) (x : Int) : ∃ h', wrN md h (slB v) (slO v + i) [(Value.int .i64 x)] = some h' ∧ AR h' v (d.setIfInBounds i x) ∧ O1 v h h' := by
  obtain ⟨cs, hc⟩ := A.ow
  obtain ⟨h', e, S, o, w⟩ := Sl.put1 (md := md) (k := i) (x := x) A.sl hc (by simpa using hi) hro
  exact ⟨h', e, ⟨by rw [Array.toList_setIfInBounds]; exact S, w⟩, o⟩
/-- Two elements change places. -/
theorem AR.swp (A : AR h v d) (hi : i < d.size) (hj : j < d.size) (hro : md.ro ≤ slB v) :
    ∃ h1 h2, wrN md h (slB v) (slO v + i) [(Value.int .i64 (d[j]!))] = some h1 ∧ wrN md h1 (slB v) (slO v + j) [(Value.int .i64 (d[i]!))] = some h2 ∧ AR h2 v (Go.Sort.swp d i j) ∧ O1 v h h2 := by
  obtain ⟨h1, e1, A1, o1⟩ := A.wr (md := md) hi hro d[j]!
  obtain ⟨h2, e2, A2, o2⟩ := A1.wr (md := md) (i := j) (by simpa using hj) hro d[i]!
  exact ⟨h1, h2, e1, e2, A2, o1.trans o2⟩
theorem less_s (md : Md) (h : Heap) (x y : Int) : C md 33 [(Value.int .i64 x), (Value.int .i64 y)] h = some ((Value.bool (Go.Sort.ltInt x y)), h) := by
  have nan : ∀ (m : Md) (g : Heap) (z : Int), C m 43 [(Value.int .i64 z)] g = some ((Value.bool false), g) := fun m g z => by
    rw [C, call_eq, F43_eq]
    unfold F43
    simp only [go_sem, Nat.reduceAdd, Nat.reduceLeDiff, Nat.reduceMul, Int.reduceBEq, Int.reduceBNe, Int.reduceLT, Int.reduceLE, Int.reduceGT, bne_self_eq_false]
  rw [C, call_eq, F33_eq]
  unfold F33 Go.Sort.ltInt
  simp only [go_sem, Nat.reduceAdd, Nat.reduceLeDiff, Nat.reduceMul, Int.reduceBEq, Int.reduceBNe, Int.reduceLT, Int.reduceLE, Int.reduceGT, nan, aBin_lss]
theorem rev_lp {h0 : Heap} (hro : md.ro ≤ slB v) : ∀ (n i j : Nat) (d : Array Int) (h : Heap), j - i ≤ n → AR h v d → j < d.size → d.size < 100000 → h.length = h0.length →
    ∃ h', J31_0 C md h0 v ((Value.int .i64 ((i : Int)))) ((Value.int .i64 ((j : Int)))) h = some ((Value.tuple #[]), h') ∧ AR h' v (Go.Sort.reverseLoop i j d) ∧ O1 v h h' := by
  intro n
  induction n with
  | zero =>
    intro i j d h hn A hj hd hl
    have nlt : ¬ ((i : Int) < (j : Int)) := by omega
    refine ⟨h, ?_, by rw [Go.Sort.reverseLoop, if_neg (by omega)]; exact A, Only.refl⟩
    rw [J31_0_step]
    unfold Jr31_0
    simp only [go_sem, Nat.reduceAdd, Nat.reduceLeDiff, Nat.reduceMul, Int.reduceBEq, Int.reduceBNe, Int.reduceLT, Int.reduceLE, Int.reduceGT, aBin_lss, nlt, Jk31_0, take_len hl]
  | succ n ih =>
    intro i j d h hn A hj hd hl
    by_cases hlt : i < j
    · have hlt' : ((i : Int) < (j : Int)) := by omega
      obtain ⟨xj, rj⟩ := A.rd (i := j) hj
      obtain ⟨xi, ri⟩ := A.rd (i := i) (by omega)
      obtain ⟨h1, h2, w1, w2, A2, o2⟩ := A.swp (md := md) (i := i) (j := j) (by omega) hj hro
      have wi1 : IntKind.wrap .i64 ((i : Int) + 1) = ((i + 1 : Nat) : Int) := by rw [wi (by omega) (by omega)]; rfl
      have wj1 : IntKind.wrap .i64 ((j : Int) - 1) = ((j - 1 : Nat) : Int) := by rw [wi (by omega) (by omega)]; omega
      obtain ⟨h', e, A', o'⟩ := ih (i + 1) (j - 1) (Go.Sort.swp d i j) h2 (by omega) A2 (by rw [Go.Sort.size_swp]; omega) (by rw [Go.Sort.size_swp]; omega) (by rw [o2.len]; exact hl)
      refine ⟨h', ?_, by rw [Go.Sort.reverseLoop, if_pos hlt]; exact A', o2.trans o'⟩
      rw [J31_0_step]
      unfold Jr31_0
      simp only [go_sem, Nat.reduceAdd, Nat.reduceLeDiff, Nat.reduceMul, Int.reduceBEq, Int.reduceBNe, Int.reduceLT, Int.reduceLE, Int.reduceGT, aBin_lss, hlt', ixSV_p, xj, rj, xi, ri, st_1i, w1, w2, aBin_add, wi1, aBin_sub, wj1]
      exact e
    · have nlt : ¬ ((i : Int) < (j : Int)) := by omega
      refine ⟨h, ?_, by rw [Go.Sort.reverseLoop, if_neg (by omega)]; exact A, Only.refl⟩
      rw [J31_0_step]
      unfold Jr31_0
      simp only [go_sem, Nat.reduceAdd, Nat.reduceLeDiff, Nat.reduceMul, Int.reduceBEq, Int.reduceBNe, Int.reduceLT, Int.reduceLE, Int.reduceGT, aBin_lss, nlt, Jk31_0, take_len hl]
theorem reverse_s (hro : md.ro ≤ slB v) (A : AR h v d) (hb : b ≤ d.size) (h1 : 1 ≤ b) (hd : d.size < 100000) :
    ∃ h', C md 31 [v, (Value.int .i64 ((a : Int))), (Value.int .i64 ((b : Int)))] h = some ((Value.tuple #[]), h') ∧ AR h' v (Go.Sort.reverseRange d a b) ∧ O1 v h h' := by
  have wb : IntKind.wrap .i64 ((b : Int) - 1) = ((b - 1 : Nat) : Int) := by rw [wi (by omega) (by omega)]; omega
  obtain ⟨h', e, A', o⟩ := rev_lp (md := ⟨md.ro, h.length⟩) (h0 := h) hro (b - 1 - a) a (b - 1) d h (Nat.le_refl _) A (by omega) hd rfl
  refine ⟨h', ?_, A', o⟩
  rw [C, call_eq, F31_eq]
  unfold F31
  rw [wb]
  exact e
theorem ins_in (hro : md.ro ≤ slB v) {s6 : Value} {bb : Int} : ∀ (j : Nat) (d : Array Int) (h : Heap), AR h v d → j < d.size → d.size < 100000 →
    ∃ h', J27_0b0 C md v ((Value.int .i64 ((a : Int)))) ((Value.int .i64 bb)) s6 ((Value.int .i64 ((j : Int)))) h = (aBin Try.prog .add 3 s6 ((Value.int .i64 1)) fun v1 => some (.inl ((v, (Value.int .i64 ((a : Int))), (Value.int .i64 bb), v1), h'))) ∧ AR h' v (Go.Sort.insInner Go.Sort.ltInt a j d) ∧ O1 v h h' := by
  intro j
  induction j with
  | zero =>
    intro d h A hj hd
    have ng : ¬ (((0 : Nat) : Int) > (a : Int)) := by omega
    refine ⟨h, ?_, A, Only.refl⟩
    rw [J27_0b0_step]
    unfold Jr27_0b0
    simp only [go_sem, Nat.reduceAdd, Nat.reduceLeDiff, Nat.reduceMul, Int.reduceBEq, Int.reduceBNe, Int.reduceLT, Int.reduceLE, Int.reduceGT, aBin_gtr, ng, Jk27_0b0]
  | succ j ih =>
    intro d h A hj hd
    have wj1 : IntKind.wrap .i64 (((j + 1 : Nat) : Int) - 1) = (j : Int) := by rw [wi (by omega) (by omega)]; omega
    by_cases hg : j + 1 > a
    · have g1 : (((j + 1 : Nat) : Int) > (a : Int)) := by omega
      obtain ⟨xj, rj⟩ := A.rd (i := j) (by omega)
      obtain ⟨xi, ri⟩ := A.rd (i := j + 1) hj
      cases hl : Go.Sort.ltInt d[j + 1]! d[j]!
      · refine ⟨h, ?_, by rw [Go.Sort.insInner, hl]; simp; exact A, Only.refl⟩
        rw [J27_0b0_step]
        unfold Jr27_0b0
        simp only [go_sem, Nat.reduceAdd, Nat.reduceLeDiff, Nat.reduceMul, Int.reduceBEq, Int.reduceBNe, Int.reduceLT, Int.reduceLE, Int.reduceGT, aBin_gtr, g1, ixSV_p, xi, ri, aBin_sub, wj1, xj, rj, less_s, hl, Jk27_0b0]
      · obtain ⟨h1, h2, w1, w2, A2, o2⟩ := A.swp (md := md) (i := j + 1) (j := j) hj (by omega) hro
        obtain ⟨h', e, A', o'⟩ := ih (Go.Sort.swp d (j + 1) j) h2 A2 (by rw [Go.Sort.size_swp]; omega) (by rw [Go.Sort.size_swp]; omega)
        refine ⟨h', ?_, by rw [Go.Sort.insInner, hl, decide_eq_true hg]; simpa using A', o2.trans o'⟩
        rw [J27_0b0_step]
        unfold Jr27_0b0
        simp only [go_sem, Nat.reduceAdd, Nat.reduceLeDiff, Nat.reduceMul, Int.reduceBEq, Int.reduceBNe, Int.reduceLT, Int.reduceLE, Int.reduceGT, aBin_gtr, g1, ixSV_p, xi, ri, aBin_sub, wj1, xj, rj, less_s, hl, st_1i, w1, w2]
        exact e
    · have ng : ¬ (((j + 1 : Nat) : Int) > (a : Int)) := by omega
      refine ⟨h, ?_, by rw [Go.Sort.insInner, decide_eq_false hg]; simpa using A, Only.refl⟩
      rw [J27_0b0_step]
      unfold Jr27_0b0
      simp only [go_sem, Nat.reduceAdd, Nat.reduceLeDiff, Nat.reduceMul, Int.reduceBEq, Int.reduceBNe, Int.reduceLT, Int.reduceLE, Int.reduceGT, aBin_gtr, ng, Jk27_0b0]
theorem insInner_size (lt : Int → Int → Bool) (a : Nat) : ∀ (j : Nat) (d : Array Int), (Go.Sort.insInner lt a j d).size = d.size
  | 0, d => rfl
  | j + 1, d => by
    rw [Go.Sort.insInner]
    split
    · rw [insInner_size lt a j, Go.Sort.size_swp]
    · rfl
theorem ins_lp {h0 : Heap} (hro : md.ro ≤ slB v) (hb : b ≤ n) (hn : n < 100000) : ∀ (m i : Nat) (d : Array Int) (h : Heap), b - i ≤ m → AR h v d → d.size = n → h.length = h0.length →
    ∃ h', J27_0 C md h0 v ((Value.int .i64 ((a : Int)))) ((Value.int .i64 ((b : Int)))) ((Value.int .i64 ((i : Int)))) h = some ((Value.tuple #[]), h') ∧ AR h' v (Go.Sort.insOuter Go.Sort.ltInt a b i d) ∧ O1 v h h' := by
  intro m
  have stop : ∀ (i : Nat) (d : Array Int) (h : Heap), ¬ i < b → AR h v d → h.length = h0.length → ∃ h', J27_0 C md h0 v ((Value.int .i64 ((a : Int)))) ((Value.int .i64 ((b : Int)))) ((Value.int .i64 ((i : Int)))) h = some ((Value.tuple #[]), h') ∧ AR h' v (Go.Sort.insOuter Go.Sort.ltInt a b i d) ∧ O1 v h h' := fun i d h hi A hl => by
    have nlt : ¬ ((i : Int) < (b : Int)) := by omega
    refine ⟨h, ?_, by rw [Go.Sort.insOuter, if_neg hi]; exact A, Only.refl⟩
    rw [J27_0_step]
    unfold Jr27_0
    simp only [go_sem, Nat.reduceAdd, Nat.reduceLeDiff, Nat.reduceMul, Int.reduceBEq, Int.reduceBNe, Int.reduceLT, Int.reduceLE, Int.reduceGT, aBin_lss, nlt, Jk27_0, take_len hl]
  induction m with
  | zero => intro i d h hm A hd hl; exact stop i d h (by omega) A hl
  | succ m ih =>
    intro i d h hm A hd hl
    by_cases hi : i < b
    · have hlt : ((i : Int) < (b : Int)) := by omega
      have wi1 : IntKind.wrap .i64 ((i : Int) + 1) = ((i + 1 : Nat) : Int) := by rw [wi (by omega) (by omega)]; rfl
      obtain ⟨h1, e1, A1, o1⟩ := ins_in (a := a) (bb := (b : Int)) (s6 := (Value.int .i64 ((i : Int)))) hro i d h A (by omega) (by omega)
      obtain ⟨h', e, A', o'⟩ := ih (i + 1) _ h1 (by omega) A1 (by rw [insInner_size]; exact hd) (by rw [o1.len]; exact hl)
      refine ⟨h', ?_, by rw [Go.Sort.insOuter, if_pos hi]; exact A', o1.trans o'⟩
      rw [J27_0_step]
      unfold Jr27_0
      simp only [go_sem, Nat.reduceAdd, Nat.reduceLeDiff, Nat.reduceMul, Int.reduceBEq, Int.reduceBNe, Int.reduceLT, Int.reduceLE, Int.reduceGT, aBin_lss, hlt, e1, aBin_add, wi1]
      exact e
    · exact stop i d h hi A hl
theorem insertion_s (hro : md.ro ≤ slB v) (A : AR h v d) (hb : b ≤ d.size) (ha : a < 100000) (hd : d.size < 100000) :
    ∃ h', C md 27 [v, (Value.int .i64 ((a : Int))), (Value.int .i64 ((b : Int)))] h = some ((Value.tuple #[]), h') ∧ AR h' v (Go.Sort.insertionSort Go.Sort.ltInt d a b) ∧ O1 v h h' := by
  have wa : IntKind.wrap .i64 ((a : Int) + 1) = ((a + 1 : Nat) : Int) := by rw [wi (by omega) (by omega)]; rfl
  obtain ⟨h', e, A', o⟩ := ins_lp (md := ⟨md.ro, h.length⟩) (h0 := h) (a := a) hro hb hd (b - (a + 1)) (a + 1) d h (Nat.le_refl _) A rfl rfl
  refine ⟨h', ?_, A', o⟩
  rw [C, call_eq, F27_eq]
  unfold F27
  rw [wa]
  exact e
end Go.Det.O

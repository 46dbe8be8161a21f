/- Two traces over one arena know nothing of each other. -/
import Derived.Test.YtfckdafeeoibhaaT4
set_option autoImplicit false
set_option linter.unusedVariables false
set_option linter.unusedSimpArgs false
namespace Go.Det.E
open Go.Proofs Go.Det
attribute [local congr] bind_c cond_c
/-- The three traces of the law: one, the other, and one alone. -/
structure Th (h hh : Heap) (k1 a1 b1 k2 a2 b2 k3 a3 b3 : Nat) (l1 l2 : List Int) (r1 r2 r3 : Value) (w1 w2 : List Acc) : Prop where
  T1 : Tr hh h.length k1 a1 b1 l1 r1 w1
  T2 : Tr hh h.length k2 a2 b2 l2 r2 w2
  T3 : Tr hh h.length k3 a3 b3 l1 r3 w1
  d12 : ∀ y, ft a1 b1 k1 r1 y → ¬ ft a2 b2 k2 r2 y
  d13 : ∀ y, ft a1 b1 k1 r1 y → ¬ ft a3 b3 k3 r3 y
  d23 : ∀ y, ft a2 b2 k2 r2 y → ¬ ft a3 b3 k3 r3 y
  O : Old h.length h hh
variable {h hh h' : Heap} {k1 a1 b1 k2 a2 b2 k3 a3 b3 n : Nat} {l1 l2 : List Int} {r1 r2 r3 v v' s0 s4 : Value} {w1 w2 ops1 ops2 : List Acc}
theorem Sl.xcell {h : Heap} {v : Value} {xs : List Acc} (S : Sl h 3 encX v xs) {k : Nat} {x : Acc} (hx : xs[k]? = some x) :
    (∀ {α : Type} (kk : Value → Option α), ixS 3 v (k : Int) kk = kk ((Value.pointer (some ⟨slB v, slO v + k * 3, none⟩)))) ∧ rd h (slB v) (slO v + k * 3) = some ((Value.bool x.s)) ∧ rd h (slB v) (slO v + k * 3 + 1) = some ((Value.int .i64 x.i)) ∧ rd h (slB v) (slO v + k * 3 + 2) = some ((Value.int .u64 x.v)) ∧ rdN h (slB v) (slO v + k * 3) 3 = some (encX x) := by
  have h1 : k < xs.length := (List.getElem?_eq_some_iff.1 hx).1
  refine ⟨fun kk => ?_, ?_, ?_, ?_, S.elem hx⟩
  · rw [S.ix (by omega) (by omega) kk]; rfl
  · have := S.cell hx (j := 0) (by decide)
    rw [Nat.add_zero] at this; exact this
  · exact S.cell hx (j := 1) (by decide)
  · exact S.cell hx (j := 2) (by decide)
/-- An act of the second. -/
theorem Th.two {l2' : List Int} {r2' : Value} {w2' : List Acc} (P : Th h hh k1 a1 b1 k2 a2 b2 k3 a3 b3 l1 l2 r1 r2 r3 w1 w2) (T : Tr h' h.length k2 a2 b2 l2' r2' w2') (hl : hh.length ≤ h'.length)
    (f : ∀ y, y < hh.length → ¬ ft a2 b2 k2 r2 y → h'[y]? = hh[y]?) (g : ∀ y, ft a2 b2 k2 r2' y → ft a2 b2 k2 r2 y ∨ hh.length ≤ y) : Th h h' k1 a1 b1 k2 a2 b2 k3 a3 b3 l1 l2' r1 r2' r3 w1 w2' := by
  have gl := P.O.len
  refine ⟨P.T1.keep fun y hy => f y (P.T1.lt y hy) (P.d12 y hy), T, P.T3.keep fun y hy => f y (P.T3.lt y hy) fun q => P.d23 y q hy, fun y h1 h2 => ?_, P.d13, fun y h1 h2 => ?_, ⟨by omega, fun y hy => ?_⟩⟩
  · rcases g y h2 with q | q
    · exact P.d12 y h1 q
    · have := P.T1.lt y h1; omega
  · rcases g y h1 with q | q
    · exact P.d23 y q h2
    · have := P.T3.lt y h2; omega
  · rw [f y (by omega) (fun q => by have := P.T2.ge y q; omega)]; exact P.O.old y hy
/-- An act of the first, and the same of the one alone. -/
theorem Th.one {hm : Heap} {l1' : List Int} {r1' r3' : Value} {w1' : List Acc} (P : Th h hh k1 a1 b1 k2 a2 b2 k3 a3 b3 l1 l2 r1 r2 r3 w1 w2) (T1 : Tr hm h.length k1 a1 b1 l1' r1' w1') (hl : hh.length ≤ hm.length)
    (f : ∀ y, y < hh.length → ¬ ft a1 b1 k1 r1 y → hm[y]? = hh[y]?) (g : ∀ y, ft a1 b1 k1 r1' y → ft a1 b1 k1 r1 y ∨ hh.length ≤ y) (T3 : Tr h' h.length k3 a3 b3 l1' r3' w1') (hl' : hm.length ≤ h'.length)
    (f' : ∀ y, y < hm.length → ¬ ft a3 b3 k3 r3 y → h'[y]? = hm[y]?) (g' : ∀ y, ft a3 b3 k3 r3' y → ft a3 b3 k3 r3 y ∨ hm.length ≤ y) : Th h h' k1 a1 b1 k2 a2 b2 k3 a3 b3 l1' l2 r1' r2 r3' w1' w2 := by
  have gl := P.O.len
  have d13' : ∀ y, ft a1 b1 k1 r1' y → ¬ ft a3 b3 k3 r3 y := fun y h1 h2 => by
    rcases g y h1 with q | q
    · exact P.d13 y q h2
    · have := P.T3.lt y h2; omega
  refine ⟨T1.keep fun y hy => f' y (T1.lt y hy) (d13' y hy), P.T2.keep fun y hy => ?_, T3, fun y h1 h2 => ?_, fun y h1 h2 => ?_, fun y h1 h2 => ?_, ⟨by omega, fun y hy => ?_⟩⟩
  · have := P.T2.lt y hy
    rw [f' y (by omega) (P.d23 y hy), f y this fun q => P.d12 y q hy]
  · rcases g y h1 with q | q
    · exact P.d12 y q h2
    · have := P.T2.lt y h2; omega
  · rcases g' y h2 with q | q
    · exact d13' y h1 q
    · have := T1.lt y h1; omega
  · rcases g' y h2 with q | q
    · exact P.d23 y h1 q
    · have := P.T2.lt y h1; omega
  · rw [f' y (by omega) (fun q => by have := P.T3.ge y q; omega), f y (by omega) (fun q => by have := P.T1.ge y q; omega)]; exact P.O.old y hy
/-- A round's second half: what the first does. -/
theorem one_round (P : Th h hh k1 a1 b1 k2 a2 b2 k3 a3 b3 l1 l2 r1 r2 r3 w1 w2) (SV : Sl h 3 encX v ops1) (hlen : ops1.length ≤ 60) (hw : w1.length ≤ 500) {i : Nat} (hi : i < 1000) :
    ∃ h' l1' r1' r3' w1', J13_2b0 C ⟨0, h.length⟩ v v' s4 ((Value.pointer (some ⟨k1, 0, none⟩))) ((Value.pointer (some ⟨k2, 0, none⟩))) ((Value.pointer (some ⟨k3, 0, none⟩))) ((Value.int .i64 ((i : Int)))) ((Value.int .i64 ((n : Int)))) ((Value.int .i64 ((i : Int)))) hh = some (.inl ((v, v', s4, (Value.pointer (some ⟨k1, 0, none⟩)), (Value.pointer (some ⟨k2, 0, none⟩)), (Value.pointer (some ⟨k3, 0, none⟩)), (Value.int .i64 ((n : Int))), (Value.int .i64 (((i + 1 : Nat) : Int)))), h')) ∧
      Th h h' k1 a1 b1 k2 a2 b2 k3 a3 b3 l1' l2 r1' r2 r3' w1' w2 ∧ w1'.length ≤ w1.length + 1 := by
  have ol := P.O.len
  have w : IntKind.wrap .i64 ((i : Int) + 1) = ((i + 1 : Nat) : Int) := by rw [wi (by omega) (by omega)]; rfl
  have len := fun {α : Type} (kk : Value → Option α) => SV.len kk
  by_cases hge : (ops1.length : Int) ≤ (i : Int)
  · refine ⟨hh, l1, r1, r3, w1, ?_, P, by omega⟩
    unfold J13_2b0
    simp only [go_sem, Nat.reduceAdd, Nat.reduceLeDiff, Nat.reduceMul, Int.reduceBEq, Int.reduceBNe, Int.reduceLT, Int.reduceLE, Int.reduceGT, len, aBin_geq, hge, aBin_add, w]
  · obtain ⟨o, hx⟩ : ∃ o, ops1[i]? = some o := ⟨ops1[i]'(by omega), List.getElem?_eq_getElem (by omega)⟩
    have S0 : ∀ hx : Heap, (∀ y, y < h.length → hx[y]? = h[y]?) → Sl hx 3 encX v ops1 := fun hx f => SV.heap fun hl => f _ hl
    obtain ⟨ix, q0, q1, q2, _⟩ := Sl.xcell (S0 hh P.O.old) hx
    cases hs : o.s
    · rw [hs] at q0
      obtain ⟨hm, r1', e1, T1, lm, f1, g1⟩ := tload_e (md := ⟨0, h.length⟩) P.T1 (Nat.zero_le _) (Nat.le_refl _) ol (by omega) o.i
      have T3m := P.T3.keep (h' := hm) fun y hy => f1 y (P.T3.lt y hy) fun q => P.d13 y q hy
      obtain ⟨h9, r3', e3, T3, l9, f3, g3⟩ := tload_e (md := ⟨0, h.length⟩) T3m (Nat.zero_le _) (Nat.le_refl _) (by omega) (by omega) o.i
      have om : ∀ y, y < h.length → hm[y]? = h[y]? := fun y hy => (f1 y (by omega) (fun q => by have := P.T1.ge y q; omega)).trans (P.O.old y hy)
      obtain ⟨_, _, q1', _, _⟩ := Sl.xcell (S0 hm om) hx
      refine ⟨h9, _, r1', r3', _, ?_, P.one T1 lm f1 g1 T3 l9 f3 g3, by simp only [List.length_append]; split <;> simp⟩
      unfold J13_2b0
      simp only [go_sem, Nat.reduceAdd, Nat.reduceLeDiff, Nat.reduceMul, Int.reduceBEq, Int.reduceBNe, Int.reduceLT, Int.reduceLE, Int.reduceGT, len, aBin_geq, hge, ix, q0, q1, e1, q1', cLE_t, e3, bne_self_eq_false, aBin_add, w]
    · rw [hs] at q0
      obtain ⟨hm, r1', e1, T1, lm, f1, g1⟩ := tstore_e (md := ⟨0, h.length⟩) P.T1 (Nat.zero_le _) (Nat.le_refl _) ol (by omega) o.i o.v
      have T3m := P.T3.keep (h' := hm) fun y hy => f1 y (P.T3.lt y hy) fun q => P.d13 y q hy
      obtain ⟨h9, r3', e3, T3, l9, f3, g3⟩ := tstore_e (md := ⟨0, h.length⟩) T3m (Nat.zero_le _) (Nat.le_refl _) (by omega) (by omega) o.i o.v
      have om : ∀ y, y < h.length → hm[y]? = h[y]? := fun y hy => (f1 y (by omega) (fun q => by have := P.T1.ge y q; omega)).trans (P.O.old y hy)
      obtain ⟨_, _, q1', q2', _⟩ := Sl.xcell (S0 hm om) hx
      refine ⟨h9, _, r1', r3', _, ?_, P.one T1 lm f1 g1 T3 l9 f3 g3, by simp only [List.length_append]; split <;> simp⟩
      unfold J13_2b0
      simp only [go_sem, Nat.reduceAdd, Nat.reduceLeDiff, Nat.reduceMul, Int.reduceBEq, Int.reduceBNe, Int.reduceLT, Int.reduceLE, Int.reduceGT, len, aBin_geq, hge, ix, q0, q1, q2, e1, q1', q2', e3, aBin_add, w]
theorem apart_loop6 (SV : Sl h 3 encX v ops1) (SV' : Sl h 3 encX v' ops2) (hlen : ops1.length ≤ 60) (hlen' : ops2.length ≤ 60) (hn : n ≤ 60) : ∀ (m i : Nat) (hh : Heap) (l1 l2 : List Int) (r1 r2 r3 : Value) (w1 w2 : List Acc), i + m = n → Th h hh k1 a1 b1 k2 a2 b2 k3 a3 b3 l1 l2 r1 r2 r3 w1 w2 → w1.length ≤ i → w2.length ≤ i →
    ∃ hf l1f l2f r1f r2f r3f w1f w2f, J13_2 C ⟨0, h.length⟩ h v v' s4 ((Value.pointer (some ⟨k1, 0, none⟩))) ((Value.pointer (some ⟨k2, 0, none⟩))) ((Value.pointer (some ⟨k3, 0, none⟩))) ((Value.int .i64 ((n : Int)))) ((Value.int .i64 ((i : Int)))) hh = J13_3 C ⟨0, h.length⟩ h s4 ((Value.pointer (some ⟨k1, 0, none⟩))) ((Value.pointer (some ⟨k3, 0, none⟩))) hf ∧
      Th h hf k1 a1 b1 k2 a2 b2 k3 a3 b3 l1f l2f r1f r2f r3f w1f w2f ∧ w1f.length ≤ n := by
  intro m
  induction m with
  | zero =>
    intro i hh l1 l2 r1 r2 r3 w1 w2 hi P h1 h2
    obtain rfl : i = n := by omega
    refine ⟨hh, l1, l2, r1, r2, r3, w1, w2, ?_, P, h1⟩
    rw [J13_2_step]
    unfold Jr13_2
    simp only [go_sem, Nat.reduceAdd, Nat.reduceLeDiff, Nat.reduceMul, Int.reduceBEq, Int.reduceBNe, Int.reduceLT, Int.reduceLE, Int.reduceGT, aBin_lss, Int.lt_irrefl, Jk13_2]
  | succ m ih =>
    intro i hh l1 l2 r1 r2 r3 w1 w2 hi P h1 h2
    have hlt : (i : Int) < (n : Int) := by omega
    have ol := P.O.len
    have len := fun {α : Type} (kk : Value → Option α) => SV'.len kk
    have key : ∃ h6 l2' r2' w2', Jr13_2 C ⟨0, h.length⟩ v v' s4 ((Value.pointer (some ⟨k1, 0, none⟩))) ((Value.pointer (some ⟨k2, 0, none⟩))) ((Value.pointer (some ⟨k3, 0, none⟩))) ((Value.int .i64 ((n : Int)))) ((Value.int .i64 ((i : Int)))) hh = J13_2b0 C ⟨0, h.length⟩ v v' s4 ((Value.pointer (some ⟨k1, 0, none⟩))) ((Value.pointer (some ⟨k2, 0, none⟩))) ((Value.pointer (some ⟨k3, 0, none⟩))) ((Value.int .i64 ((i : Int)))) ((Value.int .i64 ((n : Int)))) ((Value.int .i64 ((i : Int)))) h6 ∧
        Th h h6 k1 a1 b1 k2 a2 b2 k3 a3 b3 l1 l2' r1 r2' r3 w1 w2' ∧ w2'.length ≤ i + 1 := by
      by_cases hb : (i : Int) < (ops2.length : Int)
      · obtain ⟨o, hx⟩ : ∃ o, ops2[i]? = some o := ⟨ops2[i]'(by omega), List.getElem?_eq_getElem (by omega)⟩
        have S0 : Sl hh 3 encX v' ops2 := SV'.heap fun hl => P.O.old _ hl
        obtain ⟨ix, q0, q1, q2, _⟩ := Sl.xcell S0 hx
        cases hs : o.s
        · rw [hs] at q0
          obtain ⟨h6, r2', e2, T2, l6, f2, g2⟩ := tload_e (md := ⟨0, h.length⟩) P.T2 (Nat.zero_le _) (Nat.le_refl _) ol (by omega) o.i
          refine ⟨h6, l2, r2', _, ?_, P.two T2 l6 f2 g2, by simp only [List.length_append]; split <;> simp <;> omega⟩
          unfold Jr13_2
          simp only [go_sem, Nat.reduceAdd, Nat.reduceLeDiff, Nat.reduceMul, Int.reduceBEq, Int.reduceBNe, Int.reduceLT, Int.reduceLE, Int.reduceGT, aBin_lss, hlt, len, hb, ix, q0, q1, e2]
        · rw [hs] at q0
          obtain ⟨h6, r2', e2, T2, l6, f2, g2⟩ := tstore_e (md := ⟨0, h.length⟩) P.T2 (Nat.zero_le _) (Nat.le_refl _) ol (by omega) o.i o.v
          refine ⟨h6, _, r2', _, ?_, P.two T2 l6 f2 g2, by simp only [List.length_append]; split <;> simp <;> omega⟩
          unfold Jr13_2
          simp only [go_sem, Nat.reduceAdd, Nat.reduceLeDiff, Nat.reduceMul, Int.reduceBEq, Int.reduceBNe, Int.reduceLT, Int.reduceLE, Int.reduceGT, aBin_lss, hlt, len, hb, ix, q0, q1, q2, e2]
      · refine ⟨hh, l2, r2, w2, ?_, P, by omega⟩
        unfold Jr13_2
        simp only [go_sem, Nat.reduceAdd, Nat.reduceLeDiff, Nat.reduceMul, Int.reduceBEq, Int.reduceBNe, Int.reduceLT, Int.reduceLE, Int.reduceGT, aBin_lss, hlt, len, hb]
    obtain ⟨h6, l2', r2', w2', e6, P6, hw6⟩ := key
    obtain ⟨h7, l1', r1', r3', w1', e7, P7, hw7⟩ := one_round (n := n) (v' := v') (s4 := s4) P6 SV hlen (by omega) (i := i) (by omega)
    obtain ⟨hf, l1f, l2f, r1f, r2f, r3f, w1f, w2f, e', P', hw'⟩ := ih (i + 1) h7 l1' l2' r1' r2' r3' w1' w2' (by omega) P7 (by omega) hw6
    refine ⟨hf, l1f, l2f, r1f, r2f, r3f, w1f, w2f, ?_, P', hw'⟩
    rw [J13_2_step, e6, e7]
    exact e'
theorem neX {α : Type} (x : Acc) (k : Value → Option α) : aBin Try.prog .neq 116 ((Value.agg #[(Value.bool x.s), (Value.int .i64 x.i), (Value.int .u64 x.v)])) ((Value.agg #[(Value.bool x.s), (Value.int .i64 x.i), (Value.int .u64 x.v)])) k = k (.bool false) := by
  have e : ∀ k : Value → Option α, aBin Try.prog .neq 116 ((Value.agg #[(Value.bool x.s), (Value.int .i64 x.i), (Value.int .u64 x.v)])) ((Value.agg #[(Value.bool x.s), (Value.int .i64 x.i), (Value.int .u64 x.v)])) k = k (.bool (!(x.s == x.s && (x.i == x.i && (x.v == x.v && true))))) := fun k =>
    aBin_neqA (xs := [_, _, _]) (ys := [_, _, _]) (ks := [.b, .i, .i]) (by kernel_rfl) (by kernel_rfl) (by kernel_rfl) rfl rfl (cellsEq_b (cellsEq_i (cellsEq_i cellsEq_n)))
  rw [e]
  simp
theorem rows_loop {p q : Value} {row : List Acc} (hr : row.length ≤ 1000) (Sp : Sl hh 3 encX p row) (Sq : Sl hh 3 encX q row) (hl : h.length ≤ hh.length) : ∀ (m i : Nat), i + m = row.length →
    ∃ g, J13_4 C ⟨0, h.length⟩ h s4 p q ((Value.int .i64 ((row.length : Int)))) ((Value.int .i64 ((i : Int)))) hh = some ((Value.bool true), g) := by
  intro m
  induction m with
  | zero =>
    intro i hi
    obtain rfl : i = row.length := by omega
    refine ⟨hh.take h.length, ?_⟩
    rw [J13_4_step]
    unfold Jr13_4
    simp only [go_sem, Nat.reduceAdd, Nat.reduceLeDiff, Nat.reduceMul, Int.reduceBEq, Int.reduceBNe, Int.reduceLT, Int.reduceLE, Int.reduceGT, aBin_lss, Int.lt_irrefl, Jk13_4, awake06]
  | succ m ih =>
    intro i hi
    have hlt : (i : Int) < (row.length : Int) := by omega
    obtain ⟨x, hx⟩ : ∃ x, row[i]? = some x := ⟨row[i]'(by omega), List.getElem?_eq_getElem (by omega)⟩
    obtain ⟨i1, _, _, _, n1⟩ := Sl.xcell Sp hx
    obtain ⟨i2, _, _, _, n2⟩ := Sl.xcell Sq hx
    have w : IntKind.wrap .i64 ((i : Int) + 1) = ((i + 1 : Nat) : Int) := by rw [wi (by omega) (by omega)]; rfl
    obtain ⟨g, eg⟩ := ih (i + 1) (by omega)
    refine ⟨g, ?_⟩
    rw [J13_4_step]
    unfold Jr13_4
    simp only [go_sem, Nat.reduceAdd, Nat.reduceLeDiff, Nat.reduceMul, Int.reduceBEq, Int.reduceBNe, Int.reduceLT, Int.reduceLE, Int.reduceGT, aBin_lss, hlt, i1, i2, n1, n2, neX, aBin_add, w]
    exact eg
theorem nines_loop {x xb : Nat} (hn : n ≤ 60) (gx : h.length ≤ x) (gxb : h.length ≤ xb) : ∀ (m i : Nat) (hh : Heap) (l c : List Int), i + m = n → Ar hh x xb l c →
    ∃ hf, J13_0 C ⟨0, h.length⟩ h v v' s4 ((Value.pointer (some ⟨x, 0, none⟩))) ((Value.pointer (some ⟨k1, 0, none⟩))) ((Value.pointer (some ⟨k2, 0, none⟩))) ((Value.pointer (some ⟨k3, 0, none⟩))) ((Value.int .i64 ((n : Int)))) ((Value.int .i64 ((i : Int)))) hh = J13_1 C ⟨0, h.length⟩ h v v' s4 ((Value.pointer (some ⟨k1, 0, none⟩))) ((Value.pointer (some ⟨k2, 0, none⟩))) ((Value.pointer (some ⟨k3, 0, none⟩))) hf ∧ Only x xb hh hf := by
  intro m
  induction m with
  | zero =>
    intro i hh l c hi A
    obtain rfl : i = n := by omega
    refine ⟨hh, ?_, Only.refl⟩
    rw [J13_0_step]
    unfold Jr13_0
    simp only [go_sem, Nat.reduceAdd, Nat.reduceLeDiff, Nat.reduceMul, Int.reduceBEq, Int.reduceBNe, Int.reduceLT, Int.reduceLE, Int.reduceGT, aBin_lss, Int.lt_irrefl, Jk13_0]
  | succ m ih =>
    intro i hh l c hi A
    have hlt : (i : Int) < (n : Int) := by omega
    have w : IntKind.wrap .i64 ((i : Int) + 1) = ((i + 1 : Nat) : Int) := by rw [wi (by omega) (by omega)]; rfl
    obtain ⟨h2, e2, A2, o2⟩ := st_x (md := ⟨0, h.length⟩) A (Nat.zero_le _) (Nat.zero_le _) (i : Int) 99
    obtain ⟨hf, e', o'⟩ := ih (i + 1) h2 _ _ (by omega) A2
    refine ⟨hf, ?_, o2.trans o'⟩
    rw [J13_0_step]
    unfold Jr13_0
    simp only [go_sem, Nat.reduceAdd, Nat.reduceLeDiff, Nat.reduceMul, Int.reduceBEq, Int.reduceBNe, Int.reduceLT, Int.reduceLE, Int.reduceGT, aBin_lss, hlt, e2, aBin_add, w]
    exact e'
theorem apart_law6 : Law Try.prog cfg 13 [103, 104, 104] := by
  intro h avs ha
  obtain ⟨cv, r, rfl, a0, ha⟩ := args_cons ha
  obtain ⟨v, r, rfl, a1, ha⟩ := args_cons ha
  obtain ⟨v', r, rfl, a2, ha⟩ := args_cons ha
  obtain rfl := args_nil ha
  obtain ⟨cells, SC, wc, hm⟩ := arg_words a0
  obtain ⟨ops1, SV, wr, hm'⟩ := arg_accs (by kernel_rfl) (by kernel_rfl) a1
  obtain ⟨ops2, SV', wr', hm''⟩ := arg_accs (by kernel_rfl) (by kernel_rfl) a2
  have len := fun {α : Type} (k : Value → Option α) => SC.len k
  have len1 := fun {α : Type} (k : Value → Option α) => SV.len k
  have len2 := fun {α : Type} (k : Value → Option α) => SV'.len k
  have tk : h.take h.length = h := take_same (Nat.le_refl _)
  rw [call_eq, F13_eq]
  unfold F13
  by_cases h60 : (60 : Int) < cells.length
  · exact ⟨h, by simp only [go_sem, Nat.reduceAdd, Nat.reduceLeDiff, Nat.reduceMul, Int.reduceBEq, Int.reduceBNe, Int.reduceLT, Int.reduceLE, Int.reduceGT, len, gt_iff_lt, h60, awake06, tk]⟩
  by_cases h61 : (60 : Int) < ops1.length
  · exact ⟨h, by simp only [go_sem, Nat.reduceAdd, Nat.reduceLeDiff, Nat.reduceMul, Int.reduceBEq, Int.reduceBNe, Int.reduceLT, Int.reduceLE, Int.reduceGT, len, len1, gt_iff_lt, h60, aBin_gtr, h61, awake06, tk]⟩
  by_cases h62 : (60 : Int) < ops2.length
  · exact ⟨h, by simp only [go_sem, Nat.reduceAdd, Nat.reduceLeDiff, Nat.reduceMul, Int.reduceBEq, Int.reduceBNe, Int.reduceLT, Int.reduceLE, Int.reduceGT, len, len1, len2, gt_iff_lt, h60, aBin_gtr, h61, h62, awake06, tk]⟩
  obtain ⟨h1, x, xb, c, e1, A1, O1, la, lb⟩ := begun06 (cells := cells) ⟨0, h.length⟩ (Nat.zero_le _) SC (by omega)
  have l1 := O1.len
  have lta := lt_of A1.ha
  have ltb := lt_of A1.hb
  obtain ⟨h2, k1, a1, b1, e2, T1, l2, f2⟩ := over_e (md := ⟨0, h.length⟩) A1 (Nat.zero_le _) (by omega)
  have A2 := A1.same (f2 x lta) (f2 xb ltb)
  obtain ⟨h3, k2, a2, b2, e3, T2, l3, f3⟩ := over_e (md := ⟨0, h.length⟩) A2 (Nat.zero_le _) (by omega)
  have A3 := A2.same (f3 x (by omega)) (f3 xb (by omega))
  obtain ⟨h4, k3, a3, b3, e4, T3, l4, f4⟩ := over_e (md := ⟨0, h.length⟩) A3 (Nat.zero_le _) (by omega)
  have A4 := A3.same (f4 x (by omega)) (f4 xb (by omega))
  have T1' := (T1.keep (h' := h4) fun y hy => by have := T1.lt y hy; rw [f4 y (by omega), f3 y (by omega)])
  have T2' := (T2.keep (h' := h4) fun y hy => by have := T2.lt y hy; rw [f4 y (by omega)])
  have O4 : Old h.length h h4 := ⟨by omega, fun y hy => by rw [f4 y (by omega), f3 y (by omega), f2 y (by omega)]; exact O1.old y hy⟩
  have uT : Try.prog.underlying 106 = some (.pointer 150) := by kernel_rfl
  obtain ⟨h5, e5, o5⟩ := nines_loop (h := h) (v := v) (v' := v') (s4 := (Value.bool false)) (k1 := k1) (k2 := k2) (k3 := k3) (n := cells.length) (by omega) la lb cells.length 0 h4 cells c (by omega) A4
  have kx : ∀ y, h1.length ≤ y → h5[y]? = h4[y]? := fun y hy => o5.oth y (by omega) (by omega)
  have P5 : Th h h5 k1 a1 b1 k2 a2 b2 k3 a3 b3 cells cells (.slice none 0 0) (.slice none 0 0) (.slice none 0 0) [] [] := by
    refine ⟨(T1'.keep fun y hy => kx y (T1.ge y hy)).mono l1, (T2'.keep fun y hy => kx y (by have := T2.ge y hy; omega)).mono (by omega), (T3.keep fun y hy => kx y (by have := T3.ge y hy; omega)).mono (by omega),
      fun y q1 q2 => ?_, fun y q1 q2 => ?_, fun y q1 q2 => ?_, ⟨by rw [o5.len]; omega, fun y hy => by rw [o5.oth y (by omega) (by omega)]; exact O4.old y hy⟩⟩
    · have := T1.lt y q1; have := T2.ge y q2; omega
    · have := T1.lt y q1; have := T3.ge y q2; omega
    · have := T2.lt y q1; have := T3.ge y q2; omega
  obtain ⟨n, hn, hn60⟩ : ∃ n : Nat, (if (ops2.length : Int) > (ops1.length : Int) then (ops2.length : Int) else (ops1.length : Int)) = (n : Int) ∧ n ≤ 60 := by
    split
    · exact ⟨ops2.length, rfl, by omega⟩
    · exact ⟨ops1.length, rfl, by omega⟩
  obtain ⟨h6, l1f, l2f, r1f, r2f, r3f, w1f, w2f, e6, P6, hw⟩ := apart_loop6 (s4 := (Value.bool false)) SV SV' (by omega) (by omega) hn60 n 0 h5 cells cells _ _ _ [] [] (by omega) P5 (by simp) (by simp)
  obtain ⟨pv, h7, e7, S7, l7, f7, g7⟩ := row_e (md := ⟨0, h.length⟩) P6.T1 (Nat.zero_le _) (by omega)
  have T3f := P6.T3.keep (h' := h7) fun y hy => f7 y (P6.T3.lt y hy)
  obtain ⟨qv, h8, e8, S8, l8, f8, g8⟩ := row_e (md := ⟨0, h.length⟩) T3f (Nat.zero_le _) (by omega)
  have S7' : Sl h8 3 encX pv w1f := S7.heap fun hl => f8 _ hl
  have lenp := fun {α : Type} (k : Value → Option α) => S7'.len k
  have lenq := fun {α : Type} (k : Value → Option α) => S8.len k
  have ol := P6.O.len
  obtain ⟨g, eg⟩ := rows_loop (h := h) (s4 := (Value.bool false)) (by omega) S7' S8 (by omega) w1f.length 0 (by omega)
  refine ⟨g, ?_⟩
  simp only [go_sem, Nat.reduceAdd, Nat.reduceLeDiff, Nat.reduceMul, Int.reduceBEq, Int.reduceBNe, Int.reduceLT, Int.reduceLE, Int.reduceGT, len, len1, len2, gt_iff_lt, h60, aBin_gtr, h61, h62, e1, aBin_eqlP uPa, e2, e3, e4, aBin_eqlP uT]
  refine Eq.trans e5 ?_
  unfold J13_1
  simp only [go_sem, Nat.reduceAdd, Nat.reduceLeDiff, Nat.reduceMul, Int.reduceBEq, Int.reduceBNe, Int.reduceLT, Int.reduceLE, Int.reduceGT, len1, len2, hn]
  refine Eq.trans e6 ?_
  unfold J13_3
  simp only [go_sem, Nat.reduceAdd, Nat.reduceLeDiff, Nat.reduceMul, Int.reduceBEq, Int.reduceBNe, Int.reduceLT, Int.reduceLE, Int.reduceGT, e7, e8, lenp, lenq, bne_self_eq_false]
  exact eg
end Go.Det.E

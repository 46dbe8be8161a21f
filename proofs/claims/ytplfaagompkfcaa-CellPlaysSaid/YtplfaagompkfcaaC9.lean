/- An arena answers as a plain list does. -/
import Derived.Test.YtplfaagompkfcaaC8
set_option autoImplicit false
set_option linter.unusedVariables false
set_option linter.unusedSimpArgs false
namespace Go.Det.Cell
open Go.Proofs Go.Det
attribute [local congr] bind_c cond_c
/-- An arena at its two blocks, a list and counts of the law at two others. -/
structure Pq (h hh : Heap) (a b L N : Nat) (l c l2 c2 : List Int) : Prop where
  A : Ar hh a b l c
  hL : hh[L]? = some (.own (l2.map (.int .u64)))
  hN : hh[N]? = some (.own (c2.map (.int .i64)))
  c5 : c2.length = 5
  la : h.length ≤ a
  lb : h.length ≤ b
  lL : h.length ≤ L
  lN : h.length ≤ N
  d : L ≠ N ∧ a ≠ L ∧ b ≠ L ∧ a ≠ N ∧ b ≠ N
  G : Grown h hh
variable {h hh h1 : Heap} {v : Value} {ops : List Act} {a b L N n : Nat} {l c l2 c2 l' c' : List Int}
theorem Pq.grown (P : Pq h hh a b L N l c l2 c2) (g : Grown hh h1) : Pq h h1 a b L N l c l2 c2 :=
  ⟨P.A.grown g, by rw [g.old _ (lt_of P.hL)]; exact P.hL, by rw [g.old _ (lt_of P.hN)]; exact P.hN, P.c5, P.la, P.lb, P.lL, P.lN, P.d, P.G.trans g⟩
theorem Pq.arena (P : Pq h hh a b L N l c l2 c2) (A : Ar h1 a b l' c') (o : Only a b hh h1) : Pq h h1 a b L N l' c' l2 c2 := by
  obtain ⟨d1, d2, d3, d4, d5⟩ := P.d
  exact ⟨A, by rw [o.oth L d2.symm d3.symm]; exact P.hL, by rw [o.oth N d4.symm d5.symm]; exact P.hN, P.c5, P.la, P.lb, P.lL, P.lN, P.d, P.G.only o P.la P.lb⟩
theorem Grown.setB {h hh : Heap} {b : Nat} {k : Blk} (G : Grown h hh) (hb : h.length ≤ b) : Grown h (hh.set b k) :=
  ⟨by simpa using G.len, fun x hx => by rw [set_else (by omega)]; exact G.old x hx⟩
theorem Pq.setL (P : Pq h hh a b L N l c l2 c2) {i : Nat} (hi : i < l2.length) (x : Int) :
    ∃ h', wrN ⟨h.length, h.length⟩ hh L i [(Value.int .u64 x)] = some h' ∧ Pq h h' a b L N l c (l2.set i x) c2 ∧ ∀ y, y ≠ L → h'[y]? = hh[y]? := by
  obtain ⟨d1, d2, d3, d4, d5⟩ := P.d
  refine ⟨_, by rw [wr_own (v := (Value.int .u64 x)) P.hL P.lL rfl (by simpa using hi)], ⟨⟨?_, ?_, P.A.hc, P.A.ne⟩, ?_, ?_, P.c5, P.la, P.lb, P.lL, P.lN, P.d, P.G.setB P.lL⟩, fun y hy => set_else (Ne.symm hy)⟩
  · rw [set_else d2.symm]; exact P.A.ha
  · rw [set_else d3.symm]; exact P.A.hb
  · rw [set_here P.hL, List.map_set]
  · rw [set_else d1]; exact P.hN
theorem Pq.setN (P : Pq h hh a b L N l c l2 c2) {j : Nat} (hj : j < 5) :
    ∃ h', wrN ⟨h.length, h.length⟩ hh N j [(Value.int .i64 (IntKind.wrap .i64 (c2.getD j 0 + 1)))] = some h' ∧ Pq h h' a b L N l c l2 (up c2 j) ∧ ∀ y, y ≠ N → h'[y]? = hh[y]? := by
  obtain ⟨d1, d2, d3, d4, d5⟩ := P.d
  refine ⟨_, by rw [wr_own (v := (Value.int .i64 (IntKind.wrap .i64 (c2.getD j 0 + 1)))) P.hN P.lN rfl (by simpa [P.c5] using hj)], ⟨⟨?_, ?_, P.A.hc, P.A.ne⟩, ?_, ?_, by rw [up_len]; exact P.c5, P.la, P.lb, P.lL, P.lN, P.d, P.G.setB P.lN⟩, fun y hy => set_else (Ne.symm hy)⟩
  · rw [set_else d4.symm]; exact P.A.ha
  · rw [set_else d5.symm]; exact P.A.hb
  · rw [set_else (Ne.symm d1)]; exact P.hL
  · rw [set_here P.hN, up, List.map_set]
theorem Pq.rdN (P : Pq h hh a b L N l c l2 c2) {j : Nat} (hj : j < 5) : rd hh N j = some ((Value.int .i64 (c2.getD j 0))) := by
  rw [rd_own P.hN]; simp [List.getD, show j < c2.length by rw [P.c5]; exact hj]
theorem Pq.rdL (P : Pq h hh a b L N l c l2 c2) {i : Nat} (hi : i < l2.length) : rd hh L i = some ((Value.int .u64 (l2.getD i 0))) := by
  rw [rd_own P.hL]; simp [List.getD, hi]
theorem rest_loop (s4 : Value) (hn : l.length ≤ 16384) (la : h.length ≤ a) (lb : h.length ≤ b) (d : a ≠ L ∧ b ≠ L) : ∀ (m k : Nat) (hh : Heap) (c : List Int), k + m = l.length → Ar hh a b l c → hh[L]? = some (.own (l.map (.int .u64))) →
    J10_2 C ⟨h.length, h.length⟩ h s4 ((Value.pointer (some ⟨a, 0, none⟩))) ((Value.slice (some ⟨L, 0, none⟩) l.length 1)) ((Value.int .i64 ((l.length : Int)))) ((Value.int .i64 ((k : Int)))) hh = some ((Value.bool true), h) := by
  intro m
  induction m with
  | zero =>
    intro k hh c hk A hL
    obtain rfl : k = l.length := by omega
    rw [J10_2_step]
    unfold Jr10_2
    simp only [go_sem, Nat.reduceAdd, Nat.reduceLeDiff, Nat.reduceMul, Int.reduceBEq, Int.reduceBNe, Int.reduceLT, Int.reduceLE, Int.reduceGT, aBin_lss, Int.lt_irrefl, Jk10_2, awake_s]
  | succ m ih =>
    intro k hh c hk A hL
    have hkl : (k : Int) < (l.length : Int) := by omega
    have hx := fun {α : Type} (kk : Value → Option α) => ixS_p 1 L 0 l.length 1 (k : Int) kk ⟨Int.natCast_nonneg k, hkl⟩
    have r1 : rd hh L k = some ((Value.int .u64 (l.getD k 0))) := by rw [rd_own hL]; simp [show k < l.length by omega, List.getD]
    have hw : IntKind.wrap .i64 ((k : Int) + 1) = ((k + 1 : Nat) : Int) := by rw [wi (by omega) (by omega)]; rfl
    rw [J10_2_step]
    unfold Jr10_2
    by_cases h200 : (200 : Int) < (k : Int)
    · simp only [go_sem, Nat.reduceAdd, Nat.reduceLeDiff, Nat.reduceMul, Int.reduceBEq, Int.reduceBNe, Int.reduceLT, Int.reduceLE, Int.reduceGT, aBin_lss, hkl, hx, r1, aBin_gtr, h200, Jk10_2, awake_s]
    · obtain ⟨h2, e2, A2, o2⟩ := load_e (md := ⟨h.length, h.length⟩) A la (i := (k : Int)) (by omega) hkl
      simp only [Int.toNat_natCast] at e2
      simp only [go_sem, Nat.reduceAdd, Nat.reduceLeDiff, Nat.reduceMul, Int.reduceBEq, Int.reduceBNe, Int.reduceLT, Int.reduceLE, Int.reduceGT, aBin_lss, hkl, hx, r1, aBin_gtr, h200, e2, bne_self_eq_false, aBin_neq, aBin_add, hw]
      exact ih (k + 1) h2 _ (by omega) A2 (by rw [o2.oth L d.1.symm d.2.symm]; exact hL)
theorem same_b (s0 s4 s7 s61 s62 : Value) {k : Nat} (hk : k < 100) (P : Pq h hh a b L N l c l2 c) :
    J10_0b0 C ⟨h.length, h.length⟩ s0 s4 ((Value.pointer (some ⟨a, 0, none⟩))) s7 ((Value.pointer (some ⟨N, 0, none⟩))) s61 s62 ((Value.int .i64 ((k : Int)))) hh = some (.inl ((s0, s4, (Value.pointer (some ⟨a, 0, none⟩)), s7, (Value.pointer (some ⟨N, 0, none⟩)), s61, s62, (Value.int .i64 (((k + 1 : Nat) : Int)))), hh)) := by
  have hw : IntKind.wrap .i64 ((k : Int) + 1) = ((k + 1 : Nat) : Int) := by rw [wi (by omega) (by omega)]; rfl
  obtain ⟨c0, c1, c2, c3, c4, rfl⟩ := five P.c5
  have e := counts_e (md := ⟨h.length, h.length⟩) P.A
  have r : rdN hh N 0 5 = some [(Value.int .i64 c0), (Value.int .i64 c1), (Value.int .i64 c2), (Value.int .i64 c3), (Value.int .i64 c4)] := by rw [rdN_own P.hN (by simp)]; rfl
  unfold J10_0b0
  simp only [go_sem, Nat.reduceAdd, Nat.reduceLeDiff, Nat.reduceMul, Int.reduceBEq, Int.reduceBNe, Int.reduceLT, Int.reduceLE, Int.reduceGT, e, r, ne59, aBin_add, hw]
theorem plays_loop (SV : Sl h 4 encA v ops) (hlen : ops.length ≤ 80) (hn : n ≤ 16384) (s4 : Value) (d4 : s4 = (Value.bool false)) : ∀ (m k a b : Nat) (hh : Heap) (l c : List Int), k + m = ops.length → Pq h hh a b L N l c l c → l.length = n →
    J10_0 C ⟨h.length, h.length⟩ h ((Value.int .i64 ((n : Int)))) s4 ((Value.pointer (some ⟨a, 0, none⟩))) ((Value.slice (some ⟨L, 0, none⟩) n 1)) ((Value.pointer (some ⟨N, 0, none⟩))) v ((Value.int .i64 ((ops.length : Int)))) ((Value.int .i64 ((k : Int)))) hh = some ((Value.bool true), h) := by
  intro m
  induction m with
  | zero =>
    intro k a b hh l c hk P hl
    obtain rfl : k = ops.length := by omega
    have hr := rest_loop s4 (l := l) (by omega) P.la P.lb ⟨P.d.2.1, P.d.2.2.1⟩ l.length 0 hh c (by omega) P.A P.hL
    rw [hl] at hr
    rw [J10_0_step]
    unfold Jr10_0
    simp only [go_sem, Nat.reduceAdd, Nat.reduceLeDiff, Nat.reduceMul, Int.reduceBEq, Int.reduceBNe, Int.reduceLT, Int.reduceLE, Int.reduceGT, aBin_lss, Int.lt_irrefl, Jk10_0]
    unfold J10_1
    simp only [go_sem, Nat.reduceAdd, Nat.reduceLeDiff, Nat.reduceMul, Int.reduceBEq, Int.reduceBNe, Int.reduceLT, Int.reduceLE, Int.reduceGT]
    exact hr
  | succ m ih =>
    intro k a b hh l c hk P hl
    have hlt : (k : Int) < (ops.length : Int) := by omega
    obtain ⟨x, hx⟩ : ∃ x, ops[k]? = some x := ⟨ops[k]'(by omega), List.getElem?_eq_getElem (by omega)⟩
    have S0 : Sl hh 4 encA v ops := SV.heap fun hl => P.G.old _ hl
    have ix := fun {α : Type} (kk : Value → Option α) => S0.ix (i := (k : Int)) (by omega) hlt kk
    have el := S0.elem hx
    have gl := P.G.len
    have P6 := P.grown (Grown.app hh [.own (encA x)])
    have hb6 : (hh ++ [Blk.own (encA x)])[hh.length]? = some (.own (encA x)) := by simp
    have st4 := fun (h' : Heap) (kk : Heap → Option (((Value × Value × Value × Value × Value × Value × Value × Value) × Heap) ⊕ (Exit × (Value × Value × Value × Value × Value × Value × Value × Value) × Heap))) => st_N ⟨h.length, h.length⟩ 4 hh.length 0 (encA x) h' kk rfl rfl
    have w : IntKind.wrap .i64 ((k : Int) + 1) = ((k + 1 : Nat) : Int) := by rw [wi (by omega) (by omega)]; rfl
    have lta := lt_of P.A.ha
    have ltb := lt_of P.A.hb
    have ltL := lt_of P.hL
    have ltN := lt_of P.hN
    by_cases k5 : x.k = 5
    · have q5 : (x.k == 5) = true := by simp [k5]
      obtain ⟨h8, a', b', e8, B8, g8, ga, gb⟩ := copy_e (md := ⟨h.length, h.length⟩) P6.A (by simp; omega) (by omega)
      simp only [List.length_append, List.length_cons, List.length_nil] at ga gb
      have P8 := P6.grown g8
      have i8 := equal_s (md := ⟨h.length, h.length⟩) B8 P8.A (by omega)
      simp only [decide_true] at i8
      have hb8 : h8[hh.length]? = some (.own (encA x)) := (g8.old _ (by simp)).trans hb6
      have r3 : rd h8 hh.length 3 = some ((Value.int .u64 x.v)) := by rw [rd_own hb8]; rfl
      obtain ⟨h9, l9, c9, e, e9, A9, b9, o9⟩ := store_a (md := ⟨h.length, h.length⟩) P8.A P.la P.lb 0 (IntKind.wrap .u64 (x.v + 1))
      have P9 := P8.arena A9 o9
      have B9 := B8.only o9 (by omega) (by omega) (by omega) (by omega)
      have P9' : Pq h h9 a' b' L N l c l c := ⟨B9, P9.hL, P9.hN, P9.c5, by omega, by omega, P9.lL, P9.lN, ⟨P9.d.1, by omega, by omega, by omega, by omega⟩, P9.G⟩
      rw [J10_0_step]
      unfold Jr10_0
      simp only [go_sem, Nat.reduceAdd, Nat.reduceLeDiff, Nat.reduceMul, Int.reduceBEq, Int.reduceBNe, Int.reduceLT, Int.reduceLE, Int.reduceGT, aBin_lss, hlt, ix, el, st4, gl, q5, e8, aBin_eqlP u53, i8, aUn_not, r3, e9, aBin_add, w]
      exact ih (k + 1) a' b' h9 l c (by omega) P9' hl
    · have q5 : (x.k == 5) = false := by simp [k5]
      have key : ∀ hf lf cf, Jr10_0 C ⟨h.length, h.length⟩ ((Value.int .i64 ((n : Int)))) s4 ((Value.pointer (some ⟨a, 0, none⟩))) ((Value.slice (some ⟨L, 0, none⟩) n 1)) ((Value.pointer (some ⟨N, 0, none⟩))) v ((Value.int .i64 ((ops.length : Int)))) ((Value.int .i64 ((k : Int)))) hh = some (.inl (((Value.int .i64 ((n : Int))), s4, (Value.pointer (some ⟨a, 0, none⟩)), (Value.slice (some ⟨L, 0, none⟩) n 1), (Value.pointer (some ⟨N, 0, none⟩)), v, (Value.int .i64 ((ops.length : Int))), (Value.int .i64 (((k + 1 : Nat) : Int)))), hf)) →
          Pq h hf a b L N lf cf lf cf → lf.length = n → J10_0 C ⟨h.length, h.length⟩ h ((Value.int .i64 ((n : Int)))) s4 ((Value.pointer (some ⟨a, 0, none⟩))) ((Value.slice (some ⟨L, 0, none⟩) n 1)) ((Value.pointer (some ⟨N, 0, none⟩))) v ((Value.int .i64 ((ops.length : Int)))) ((Value.int .i64 ((k : Int)))) hh = some ((Value.bool true), h) := by
        intro hf lf cf e Pf hlf
        rw [J10_0_step, e]
        exact ih (k + 1) a b hf lf cf (by omega) Pf hlf
      by_cases hin : 0 ≤ x.i ∧ x.i < n
      · have n0 : ¬ x.i < 0 := by omega
        have n1 : ¬ (n : Int) ≤ x.i := by omega
        have hil : x.i.toNat < l.length := by omega
        have ixL := fun {α : Type} (kk : Value → Option α) => ixS_p 1 L 0 n 1 x.i kk hin
        have rL := P6.rdL hil
        have hi2 : x.i < (l.length : Int) := by omega
        by_cases k1 : x.k = 1
        · have q1 : (x.k == 1) = true := by simp [k1]
          obtain ⟨h7, e7, A7, o7⟩ := load_e (md := ⟨h.length, h.length⟩) P6.A P.la hin.1 hi2
          have P7 := P6.arena A7 o7
          have rN := P7.rdN (j := 0) (by omega)
          obtain ⟨h8, w8, P8, f8⟩ := P7.setN (j := 0) (by omega)
          have sb := same_b ((Value.int .i64 ((n : Int)))) s4 ((Value.slice (some ⟨L, 0, none⟩) n 1)) v ((Value.int .i64 ((ops.length : Int)))) (k := k) (by omega) P8
          refine key h8 l _ ?_ P8 hl
          unfold Jr10_0
          simp only [go_sem, Nat.reduceAdd, Nat.reduceLeDiff, Nat.reduceMul, Int.reduceBEq, Int.reduceBNe, Int.reduceLT, Int.reduceLE, Int.reduceGT, aBin_lss, aBin_geq, hlt, ix, el, st4, gl, q5, n0, n1, ixL, rL, q1, e7, rN, w8, bne_self_eq_false, aBin_neq, sb]
        · have q1 : (x.k == 1) = false := by simp [k1]
          by_cases k2 : x.k = 2
          · have q2 : (x.k == 2) = true := by simp [k2]
            obtain ⟨h7, w7, P7, f7⟩ := P6.setL hil x.v
            have rN := P7.rdN (j := 1) (by omega)
            obtain ⟨h8, w8, P8, f8⟩ := P7.setN (j := 1) (by omega)
            have hb8 : h8[hh.length]? = some (.own (encA x)) := by rw [f8 _ (by omega), f7 _ (by omega)]; exact hb6
            have r1 : rd h8 hh.length 1 = some ((Value.int .i64 x.i)) := by rw [rd_own hb8]; rfl
            have r3 : rd h8 hh.length 3 = some ((Value.int .u64 x.v)) := by rw [rd_own hb8]; rfl
            obtain ⟨h9, e9, A9, o9⟩ := store_e (md := ⟨h.length, h.length⟩) P8.A P.la P.lb hin.1 hi2 x.v
            have P9 := P8.arena A9 o9
            have sb := same_b ((Value.int .i64 ((n : Int)))) s4 ((Value.slice (some ⟨L, 0, none⟩) n 1)) v ((Value.int .i64 ((ops.length : Int)))) (k := k) (by omega) P9
            refine key h9 _ _ ?_ P9 (by simpa using hl)
            unfold Jr10_0
            simp only [go_sem, Nat.reduceAdd, Nat.reduceLeDiff, Nat.reduceMul, Int.reduceBEq, Int.reduceBNe, Int.reduceLT, Int.reduceLE, Int.reduceGT, aBin_lss, aBin_geq, hlt, ix, el, st4, gl, q5, n0, n1, ixL, rL, q1, q2, w7, rN, w8, r1, r3, e9, sb]
          · have q2 : (x.k == 2) = false := by simp [k2]
            by_cases k3 : x.k = 3
            · have q3 : (x.k == 3) = true := by simp [k3]
              obtain ⟨h7, e7, A7, o7⟩ := swap_e (md := ⟨h.length, h.length⟩) P6.A P.la P.lb hin.1 hi2 x.was x.v
              have P7 := P6.arena A7 o7
              have hb7 : h7[hh.length]? = some (.own (encA x)) := by rw [o7.oth _ (by omega) (by omega)]; exact hb6
              have r2 : rd h7 hh.length 2 = some ((Value.int .u64 x.was)) := by rw [rd_own hb7]; rfl
              cases hd : (l.getD x.i.toNat 0 == x.was)
              · rw [hd] at e7 P7
                simp only [cond_false] at P7
                have rN := P7.rdN (j := 3) (by omega)
                obtain ⟨h8, w8, P8, f8⟩ := P7.setN (j := 3) (by omega)
                have sb := same_b ((Value.int .i64 ((n : Int)))) s4 ((Value.slice (some ⟨L, 0, none⟩) n 1)) v ((Value.int .i64 ((ops.length : Int)))) (k := k) (by omega) P8
                refine key h8 _ _ ?_ P8 hl
                unfold Jr10_0
                simp only [go_sem, Nat.reduceAdd, Nat.reduceLeDiff, Nat.reduceMul, Int.reduceBEq, Int.reduceBNe, Int.reduceLT, Int.reduceLE, Int.reduceGT, aBin_lss, aBin_geq, hlt, ix, el, st4, gl, q5, n0, n1, ixL, rL, q1, q2, q3, e7, r2, hd, aBin_neqB u4, aBin_neq, bne_self_eq_false, rN, w8, sb]
              · rw [hd] at e7 P7
                simp only [cond_true] at P7
                have rN := P7.rdN (j := 2) (by omega)
                obtain ⟨h8, w8, P8, f8⟩ := P7.setN (j := 2) (by omega)
                have hb8 : h8[hh.length]? = some (.own (encA x)) := by rw [f8 _ (by omega)]; exact hb7
                have r1 : rd h8 hh.length 1 = some ((Value.int .i64 x.i)) := by rw [rd_own hb8]; rfl
                have r3 : rd h8 hh.length 3 = some ((Value.int .u64 x.v)) := by rw [rd_own hb8]; rfl
                obtain ⟨h9, w9, P9, f9⟩ := P8.setL hil x.v
                have sb := same_b ((Value.int .i64 ((n : Int)))) s4 ((Value.slice (some ⟨L, 0, none⟩) n 1)) v ((Value.int .i64 ((ops.length : Int)))) (k := k) (by omega) P9
                refine key h9 _ _ ?_ P9 (by simpa using hl)
                unfold Jr10_0
                simp only [go_sem, Nat.reduceAdd, Nat.reduceLeDiff, Nat.reduceMul, Int.reduceBEq, Int.reduceBNe, Int.reduceLT, Int.reduceLE, Int.reduceGT, aBin_lss, aBin_geq, hlt, ix, el, st4, gl, q5, n0, n1, ixL, rL, q1, q2, q3, e7, r2, hd, aBin_neqB u4, aBin_neq, bne_self_eq_false, rN, w8, r1, r3, w9, sb]
            · have q3 : (x.k == 3) = false := by simp [k3]
              by_cases k4 : x.k = 4
              · have q4 : (x.k == 4) = true := by simp [k4]
                obtain ⟨h7, e7, A7, o7⟩ := add_e (md := ⟨h.length, h.length⟩) P6.A P.la P.lb hin.1 hi2 x.v
                have P7 := P6.arena A7 o7
                have hb7 : h7[hh.length]? = some (.own (encA x)) := by rw [o7.oth _ (by omega) (by omega)]; exact hb6
                have r1 : rd h7 hh.length 1 = some ((Value.int .i64 x.i)) := by rw [rd_own hb7]; rfl
                have r3 : rd h7 hh.length 3 = some ((Value.int .u64 x.v)) := by rw [rd_own hb7]; rfl
                obtain ⟨h8, w8, P8, f8⟩ := P7.setL hil (IntKind.wrap .u64 (l.getD x.i.toNat 0 + x.v))
                have rN := P8.rdN (j := 4) (by omega)
                obtain ⟨h9, w9, P9, f9⟩ := P8.setN (j := 4) (by omega)
                have sb := same_b ((Value.int .i64 ((n : Int)))) s4 ((Value.slice (some ⟨L, 0, none⟩) n 1)) v ((Value.int .i64 ((ops.length : Int)))) (k := k) (by omega) P9
                refine key h9 _ _ ?_ P9 (by simpa using hl)
                unfold Jr10_0
                simp only [go_sem, Nat.reduceAdd, Nat.reduceLeDiff, Nat.reduceMul, Int.reduceBEq, Int.reduceBNe, Int.reduceLT, Int.reduceLE, Int.reduceGT, aBin_lss, aBin_geq, hlt, ix, el, st4, gl, q5, n0, n1, ixL, rL, q1, q2, q3, q4, e7, aBin_neq, bne_self_eq_false, r1, r3, w8, rN, w9, sb]
              · have q4 : (x.k == 4) = false := by simp [k4]
                have sb := same_b ((Value.int .i64 ((n : Int)))) s4 ((Value.slice (some ⟨L, 0, none⟩) n 1)) v ((Value.int .i64 ((ops.length : Int)))) (k := k) (by omega) P6
                refine key _ l c ?_ P6 hl
                unfold Jr10_0
                simp only [go_sem, Nat.reduceAdd, Nat.reduceLeDiff, Nat.reduceMul, Int.reduceBEq, Int.reduceBNe, Int.reduceLT, Int.reduceLE, Int.reduceGT, aBin_lss, aBin_geq, hlt, ix, el, st4, gl, q5, n0, n1, ixL, rL, q1, q2, q3, q4, sb]
      · have rf := refuses_s (md := ⟨h.length, h.length⟩) P6.A (by simp; omega) x.k x.i x.was x.v (by omega)
        refine key _ l c ?_ P6 hl
        unfold Jr10_0
        by_cases n0 : x.i < 0
        · simp only [go_sem, Nat.reduceAdd, Nat.reduceLeDiff, Nat.reduceMul, Int.reduceBEq, Int.reduceBNe, Int.reduceLT, Int.reduceLE, Int.reduceGT, aBin_lss, hlt, ix, el, st4, gl, q5, n0, rf, aBin_add, w]
        · have n1 : (n : Int) ≤ x.i := by omega
          simp only [go_sem, Nat.reduceAdd, Nat.reduceLeDiff, Nat.reduceMul, Int.reduceBEq, Int.reduceBNe, Int.reduceLT, Int.reduceLE, Int.reduceGT, aBin_lss, aBin_geq, hlt, ix, el, st4, gl, q5, n0, n1, rf, aBin_add, w]
theorem tU : SlT Try.prog 57 24 1 8 [(Value.int .u64 0)] := ⟨by kernel_rfl, by kernel_rfl, by kernel_rfl, rfl, by decide, by decide, rfl⟩
theorem repL_int' (n : Nat) : repL n [(Value.int .u64 0)] = (List.replicate n (0 : Int)).map (.int .u64) := by
  induction n with
  | zero => rfl
  | succ n ih => simp only [repL, ih, List.replicate_succ, List.map_cons]; rfl
theorem cplays_law : Law Try.prog cfg 10 [3, 52] := by
  intro h avs ha
  obtain ⟨x, r, rfl, a0, ha⟩ := args_cons ha
  obtain ⟨v, r, rfl, a1, ha⟩ := args_cons ha
  obtain rfl := args_nil ha
  obtain ⟨z, rfl, z0, z1⟩ := inI64 (arg1 (P := Try.prog) (by kernel_rfl) (by kernel_rfl) a0)
  obtain ⟨ops, SV, hm⟩ := arg_acts a1
  have len := fun {α : Type} (k : Value → Option α) => SV.len k
  refine ⟨h, ?_⟩
  rw [call_eq, F10_eq]
  unfold F10
  by_cases h80 : (80 : Int) < ops.length
  · simp only [go_sem, Nat.reduceAdd, Nat.reduceLeDiff, Nat.reduceMul, Int.reduceBEq, Int.reduceBNe, Int.reduceLT, Int.reduceLE, Int.reduceGT, len, gt_iff_lt, h80, awake_s]
  · by_cases hz : z < 0 ∨ 16384 < z
    · have e1 := new_n (md := ⟨h.length, h.length⟩) (h := h) hz
      by_cases hz0 : z < 0
      · simp only [go_sem, Nat.reduceAdd, Nat.reduceLeDiff, Nat.reduceMul, Int.reduceBEq, Int.reduceBNe, Int.reduceLT, Int.reduceLE, Int.reduceGT, len, gt_iff_lt, h80, e1, hz0, aBin_eqlN u53, awake_s]
      · have hz2 : 16384 < z := by omega
        simp only [go_sem, Nat.reduceAdd, Nat.reduceLeDiff, Nat.reduceMul, Int.reduceBEq, Int.reduceBNe, Int.reduceLT, Int.reduceLE, Int.reduceGT, len, gt_iff_lt, h80, e1, hz0, hz2, aBin_gtr, aBin_eqlN u53, awake_s]
    · have z0 : ¬ z < 0 := by omega
      have z2 : ¬ 16384 < z := by omega
      obtain ⟨n, rfl⟩ : ∃ n : Nat, z = n := ⟨z.toNat, by omega⟩
      obtain ⟨h1, a, b, e1, A1, g1, la, lb⟩ := new_e ⟨h.length, h.length⟩ h (n := (n : Int)) (by omega) (by omega)
      have e2 := len_s (md := ⟨h.length, h.length⟩) A1
      simp only [Int.toNat_natCast, List.length_replicate] at e2 A1
      have hmk := fun (hh : Heap) (k : Value → Heap → Option (Value × Heap)) => make_p tU (by omega : 0 ≤ (n : Int)) (Int.le_refl (n : Int)) (by omega) (by omega) hh k
      have lta := lt_of A1.ha
      have ltb := lt_of A1.hb
      have gl := g1.len
      have P : Pq h (h1 ++ [.own ((List.replicate n (0 : Int)).map (.int .u64)), .own [(Value.int .i64 0), (Value.int .i64 0), (Value.int .i64 0), (Value.int .i64 0), (Value.int .i64 0)]]) a b h1.length (h1.length + 1) (List.replicate n 0) [0, 0, 0, 0, 0] (List.replicate n 0) [0, 0, 0, 0, 0] :=
        ⟨A1.grown (Grown.app _ _), by simp, by rw [List.getElem?_append_right (by omega), Nat.add_sub_cancel_left]; rfl, rfl, la, lb, gl, by omega, ⟨by omega, by omega, by omega, by omega, by omega⟩, g1.trans (Grown.app _ _)⟩
      have lp := plays_loop (n := n) SV (by omega) (by omega) ((Value.bool false)) rfl ops.length 0 a b _ _ _ (by omega) P (by simp)
      simp only [go_sem, Nat.reduceAdd, Nat.reduceLeDiff, Nat.reduceMul, Int.reduceBEq, Int.reduceBNe, Int.reduceLT, Int.reduceLE, Int.reduceGT, len, gt_iff_lt, h80, e1, z0, z2, aBin_gtr, bne_self_eq_false, aBin_eqlP u53, e2, aBin_neq, hmk, repL_int']
      exact lp
end Go.Det.Cell

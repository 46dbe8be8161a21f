/- Scanning: the rune that begins at a byte. -/
import Derived.Test.YthhlflpeibdfmaaDoorQ1
import Derived.Lib.DecodeN
set_option autoImplicit false
set_option linter.unusedVariables false
set_option linter.unusedSimpArgs false
namespace Go.Det.E
open Go.Proofs Go.Det
attribute [local congr] bind_c cond_c
variable {md : Md} {h h0 : Heap} {s : ByteArray} {i n : Nat}
/-- A byte of a text. -/
abbrev by' (s : ByteArray) (i : Nat) : Nat := (s.get! i).toNat
theorem by_lt (s : ByteArray) (i : Nat) : by' s i < 256 := (s.get! i).toNat_lt
theorem get_S (hi : i < s.size) : s[i]? = some (s.get! i) := by
  rw [getElem?_pos s i hi]
  congr 1
  show s.data[i] = s.data[i]!
  exact (getElem!_pos s.data i hi).symm
theorem ix_S {α : Type} (hi : i < s.size) (k : Value → Option α) : aIndex Tryd.prog 9 (.string s) ((Value.int .i64 ((i : Int)))) k = k (.int .u8 ((by' s i : Nat) : Int)) := by
  unfold aIndex
  have u : Tryd.prog.underlying 9 = some .string := by kernel_rfl
  simp only [u]
  rw [if_pos (by omega), Int.toNat_natCast, get_S hi]
/-- Is a byte there, from one to another one? -/
abbrev Btw (s : ByteArray) (i lo hi : Nat) : Prop := i < s.size ∧ lo ≤ by' s i ∧ by' s i ≤ hi
theorem between_s (md : Md) (h : Heap) (s : ByteArray) (i lo hi : Nat) (hs : s.size ≤ 140737488355328) (hi' : i ≤ 281474976710656) : C md 31 [.string s, (Value.int .i64 ((i : Int))), .int .u8 ((lo : Nat) : Int), .int .u8 ((hi : Nat) : Int)] h = some (.bool (decide (Btw s i lo hi)), h) := by
  rw [C, call_eq, F31_eq]
  unfold F31
  have len := fun {α : Type} (k : Value → Option α) => (rfl : lenT (.string s) k = k ((Value.int .i64 (((s.size : Nat) : Int)))))
  by_cases h1 : (i : Int) < ((s.size : Nat) : Int)
  · have ix := fun {α : Type} (k : Value → Option α) => ix_S (s := s) (i := i) (by omega) k
    by_cases h2 : (lo : Int) ≤ ((by' s i : Nat) : Int)
    · by_cases h3 : ((by' s i : Nat) : Int) ≤ (hi : Int)
      · have e : decide (Btw s i lo hi) = true := decide_eq_true ⟨by omega, by omega, by omega⟩
        rw [e]
        simp only [go_sem, Nat.reduceAdd, Nat.reduceLeDiff, Nat.reduceMul, Int.reduceBEq, Int.reduceBNe, Int.reduceLT, Int.reduceLE, Int.reduceGT, len, h1, ix, aBin_geq, ge_iff_le, h2, aBin_leq, h3]
      · have e : ¬ Btw s i lo hi := fun e => h3 (by have := e.2.2; omega)
        simp only [go_sem, Nat.reduceAdd, Nat.reduceLeDiff, Nat.reduceMul, Int.reduceBEq, Int.reduceBNe, Int.reduceLT, Int.reduceLE, Int.reduceGT, len, h1, ix, aBin_geq, ge_iff_le, h2, aBin_leq, h3, e]
    · have e : ¬ Btw s i lo hi := fun e => h2 (by have := e.2.1; omega)
      simp only [go_sem, Nat.reduceAdd, Nat.reduceLeDiff, Nat.reduceMul, Int.reduceBEq, Int.reduceBNe, Int.reduceLT, Int.reduceLE, Int.reduceGT, len, h1, ix, aBin_geq, ge_iff_le, h2, aBin_leq, e]
  · have e : ¬ Btw s i lo hi := fun e => h1 (by have := e.1; omega)
    simp only [go_sem, Nat.reduceAdd, Nat.reduceLeDiff, Nat.reduceMul, Int.reduceBEq, Int.reduceBNe, Int.reduceLT, Int.reduceLE, Int.reduceGT, len, h1, e]
abbrev Ln4 (s : ByteArray) (i lo hi : Nat) : Prop := (240 ≤ by' s i ∧ by' s i ≤ 244) ∧ Btw s (i + 1) lo hi ∧ Btw s (i + 2) 128 191 ∧ Btw s (i + 3) 128 191
abbrev Ln3 (s : ByteArray) (i lo hi : Nat) : Prop := (224 ≤ by' s i ∧ by' s i ≤ 239) ∧ Btw s (i + 1) lo hi ∧ Btw s (i + 2) 128 191
theorem sub8 {a b : Nat} (ha : a < 256) (hb : b ≤ a) : IntKind.wrap .u8 ((a : Int) - (b : Int)) = ((a - b : Nat) : Int) := by rw [IntKind.wrap_u8]; omega
theorem w64 {a : Nat} (ha : a < 9223372036854775808) : IntKind.wrap .i64 (a : Int) = (a : Int) := by rw [IntKind.wrap_i64]; omega
theorem dec8 {a : Nat} (h : 128 ≤ a) (ha : a < 256) : IntKind.wrap .i64 (IntKind.wrap .u8 ((a : Int) - 128)) = ((a - 128 : Nat) : Int) := by rw [IntKind.wrap_u8, IntKind.wrap_i64]; omega
theorem m64 {a : Nat} (ha : a < 100000000) : IntKind.wrap .i64 ((a : Int) * 64) = ((a * 64 : Nat) : Int) := by rw [IntKind.wrap_i64]; omega
theorem a64 {a b : Nat} (ha : a < 4611686018427387904) (hb : b < 4611686018427387904) : IntKind.wrap .i64 ((a : Int) + (b : Int)) = ((a + b : Nat) : Int) := by rw [IntKind.wrap_i64]; omega
theorem cv_u8 {α : Type} {n : Nat} (hn : n < 256) (k : Value → Option α) : aConv Tryd.prog 5 3 (.int .u8 (n : Int)) k = k ((Value.int .i64 ((n : Int)))) := by
  have : aConv Tryd.prog 5 3 (.int .u8 (n : Int)) k = k (.int .i64 (IntKind.wrap .i64 (n : Int))) := by kernel_rfl
  rw [this, w64 (by omega)]
theorem j3_s (hs : s.size ≤ 140737488355328) (hi : i < s.size) (lo hi' : Nat) (hlo : 128 ≤ lo) :
    J22_3 C md h0 (.string s) ((Value.int .i64 ((i : Int)))) (.int .u8 ((by' s i : Nat) : Int)) (.int .u8 ((lo : Nat) : Int)) (.int .u8 ((hi' : Nat) : Int)) h =
      if Ln4 s i lo hi' then some (.tuple #[(Value.int .i64 (((((by' s i - 240) * 64 + (by' s (i + 1) - 128)) * 64 + (by' s (i + 2) - 128)) * 64 + (by' s (i + 3) - 128) : Nat))), (Value.int .i64 4)], h0) else some (.tuple #[(Value.int .i64 65533), (Value.int .i64 1)], h0) := by
  have n1 : IntKind.wrap .i64 ((i : Int) + 1) = ((i + 1 : Nat) : Int) := by rw [IntKind.wrap_i64]; omega
  have n2 : IntKind.wrap .i64 ((i : Int) + 2) = ((i + 2 : Nat) : Int) := by rw [IntKind.wrap_i64]; omega
  have n3 : IntKind.wrap .i64 ((i : Int) + 3) = ((i + 3 : Nat) : Int) := by rw [IntKind.wrap_i64]; omega
  have t1 := fun (m : Md) (g : Heap) => between_s m g s (i + 1) lo hi' hs (by omega)
  have t2 := fun (m : Md) (g : Heap) => between_s m g s (i + 2) 128 191 hs (by omega)
  have t3 := fun (m : Md) (g : Heap) => between_s m g s (i + 3) 128 191 hs (by omega)
  have z1 : ((128 : Nat) : Int) = 128 := rfl
  have z2 : ((191 : Nat) : Int) = 191 := rfl
  rw [z1, z2] at t2 t3
  have bi := by_lt s i
  unfold J22_3
  by_cases h1 : (240 : Int) ≤ ((by' s i : Nat) : Int)
  · by_cases h2 : ((by' s i : Nat) : Int) ≤ 244
    · by_cases h3 : Btw s (i + 1) lo hi'
      · have q1 := decide_eq_true h3
        rw [q1] at t1
        by_cases h4 : Btw s (i + 2) 128 191
        · have q2 := decide_eq_true h4
          rw [q2] at t2
          by_cases h5 : Btw s (i + 3) 128 191
          · have q3 := decide_eq_true h5
            rw [q3] at t3
            rw [if_pos ⟨⟨by omega, by omega⟩, h3, h4, h5⟩]
            have x1 := fun {α : Type} (k : Value → Option α) => ix_S (s := s) (i := i + 1) h3.1 k
            have x2 := fun {α : Type} (k : Value → Option α) => ix_S (s := s) (i := i + 2) h4.1 k
            have x3 := fun {α : Type} (k : Value → Option α) => ix_S (s := s) (i := i + 3) h5.1 k
            have b1 := by_lt s (i + 1)
            have b2 := by_lt s (i + 2)
            have b3 := by_lt s (i + 3)
            have s0 : IntKind.wrap .u8 (((by' s i : Nat) : Int) - 240) = ((by' s i - 240 : Nat) : Int) := by rw [IntKind.wrap_u8]; omega
            have s1 := dec8 (Nat.le_trans hlo h3.2.1) b1
            have s2 := dec8 h4.2.1 b2
            have s3 := dec8 h5.2.1 b3
            obtain ⟨v0, e0⟩ : ∃ v, v = by' s i - 240 := ⟨_, rfl⟩
            obtain ⟨v1, e1⟩ : ∃ v, v = by' s (i + 1) - 128 := ⟨_, rfl⟩
            obtain ⟨v2, e2⟩ : ∃ v, v = by' s (i + 2) - 128 := ⟨_, rfl⟩
            obtain ⟨v3, e3⟩ : ∃ v, v = by' s (i + 3) - 128 := ⟨_, rfl⟩
            rw [← e0] at s0
            rw [← e1] at s1
            rw [← e2] at s2
            rw [← e3] at s3
            have cv := fun {α : Type} (k : Value → Option α) => cv_u8 (n := v0) (by omega) k
            have m1 := m64 (a := v0) (by omega)
            have p1 := a64 (a := v0 * 64) (b := v1) (by omega) (by omega)
            have m2 := m64 (a := v0 * 64 + v1) (by omega)
            have p2 := a64 (a := (v0 * 64 + v1) * 64) (b := v2) (by omega) (by omega)
            have m3 := m64 (a := (v0 * 64 + v1) * 64 + v2) (by omega)
            have p3 := a64 (a := ((v0 * 64 + v1) * 64 + v2) * 64) (b := v3) (by omega) (by omega)
            rw [← e0, ← e1, ← e2, ← e3]
            simp only [go_sem, Nat.reduceAdd, Nat.reduceLeDiff, Nat.reduceMul, Int.reduceBEq, Int.reduceBNe, Int.reduceLT, Int.reduceLE, Int.reduceGT, aBin_geq, aBin_leq, ge_iff_le, h1, h2, aBin_add, n1, n2, n3, t1, t2, t3, aBin_sub, s0, cv, aBin_mul, m1, x1, s1, p1, m2, x2, s2, p2, m3, x3, s3, p3]
          · have q3 := decide_eq_false h5
            rw [q3] at t3
            rw [if_neg (fun q => h5 q.2.2.2)]
            simp only [go_sem, Nat.reduceAdd, Nat.reduceLeDiff, Nat.reduceMul, Int.reduceBEq, Int.reduceBNe, Int.reduceLT, Int.reduceLE, Int.reduceGT, aBin_geq, aBin_leq, ge_iff_le, h1, h2, aBin_add, n1, n2, n3, t1, t2, t3]
        · have q2 := decide_eq_false h4
          rw [q2] at t2
          rw [if_neg (fun q => h4 q.2.2.1)]
          simp only [go_sem, Nat.reduceAdd, Nat.reduceLeDiff, Nat.reduceMul, Int.reduceBEq, Int.reduceBNe, Int.reduceLT, Int.reduceLE, Int.reduceGT, aBin_geq, aBin_leq, ge_iff_le, h1, h2, aBin_add, n1, n2, t1, t2]
      · have q1 := decide_eq_false h3
        rw [q1] at t1
        rw [if_neg (fun q => h3 q.2.1)]
        simp only [go_sem, Nat.reduceAdd, Nat.reduceLeDiff, Nat.reduceMul, Int.reduceBEq, Int.reduceBNe, Int.reduceLT, Int.reduceLE, Int.reduceGT, aBin_geq, aBin_leq, ge_iff_le, h1, h2, aBin_add, n1, t1]
    · rw [if_neg (fun q => h2 (by have := q.1.2; omega))]
      simp only [go_sem, Nat.reduceAdd, Nat.reduceLeDiff, Nat.reduceMul, Int.reduceBEq, Int.reduceBNe, Int.reduceLT, Int.reduceLE, Int.reduceGT, aBin_geq, aBin_leq, ge_iff_le, h1, h2]
  · rw [if_neg (fun q => h1 (by have := q.1.1; omega))]
    simp only [go_sem, Nat.reduceAdd, Nat.reduceLeDiff, Nat.reduceMul, Int.reduceBEq, Int.reduceBNe, Int.reduceLT, Int.reduceLE, Int.reduceGT, aBin_geq, ge_iff_le, h1]
theorem j1_s (hs : s.size ≤ 140737488355328) (hi : i < s.size) (lo hi' : Nat) (hlo : 128 ≤ lo) :
    J22_1 C md h0 (.string s) ((Value.int .i64 ((i : Int)))) (.int .u8 ((by' s i : Nat) : Int)) (.int .u8 ((lo : Nat) : Int)) (.int .u8 ((hi' : Nat) : Int)) h =
      if Ln3 s i lo hi' then some (.tuple #[(Value.int .i64 ((((by' s i - 224) * 64 + (by' s (i + 1) - 128)) * 64 + (by' s (i + 2) - 128) : Nat))), (Value.int .i64 3)], h0)
      else J22_2 C md h0 (.string s) ((Value.int .i64 ((i : Int)))) (.int .u8 ((by' s i : Nat) : Int)) (.int .u8 (((if by' s i = 240 then 144 else lo : Nat) : Int))) (.int .u8 ((hi' : Nat) : Int)) h := by
  have n1 : IntKind.wrap .i64 ((i : Int) + 1) = ((i + 1 : Nat) : Int) := by rw [IntKind.wrap_i64]; omega
  have n2 : IntKind.wrap .i64 ((i : Int) + 2) = ((i + 2 : Nat) : Int) := by rw [IntKind.wrap_i64]; omega
  have t1 := fun (m : Md) (g : Heap) => between_s m g s (i + 1) lo hi' hs (by omega)
  have t2 := fun (m : Md) (g : Heap) => between_s m g s (i + 2) 128 191 hs (by omega)
  have z1 : ((128 : Nat) : Int) = 128 := rfl
  have z2 : ((191 : Nat) : Int) = 191 := rfl
  rw [z1, z2] at t2
  have bi := by_lt s i
  have last : ∀ (g : Heap), (bif (((by' s i : Nat) : Int) == 240) then J22_2 C md h0 (.string s) ((Value.int .i64 ((i : Int)))) (.int .u8 ((by' s i : Nat) : Int)) (.int .u8 144) (.int .u8 ((hi' : Nat) : Int)) g else J22_2 C md h0 (.string s) ((Value.int .i64 ((i : Int)))) (.int .u8 ((by' s i : Nat) : Int)) (.int .u8 ((lo : Nat) : Int)) (.int .u8 ((hi' : Nat) : Int)) g) =
      J22_2 C md h0 (.string s) ((Value.int .i64 ((i : Int)))) (.int .u8 ((by' s i : Nat) : Int)) (.int .u8 (((if by' s i = 240 then 144 else lo : Nat) : Int))) (.int .u8 ((hi' : Nat) : Int)) g := fun g => by
    by_cases q : by' s i = 240
    · have : (((by' s i : Nat) : Int) == 240) = true := by simp; omega
      rw [this, if_pos q]; rfl
    · have : (((by' s i : Nat) : Int) == 240) = false := by simp; omega
      rw [this, if_neg q]; rfl
  unfold J22_1
  by_cases h1 : (224 : Int) ≤ ((by' s i : Nat) : Int)
  · by_cases h2 : ((by' s i : Nat) : Int) ≤ 239
    · by_cases h3 : Btw s (i + 1) lo hi'
      · have q1 := decide_eq_true h3
        rw [q1] at t1
        by_cases h4 : Btw s (i + 2) 128 191
        · have q2 := decide_eq_true h4
          rw [q2] at t2
          rw [if_pos ⟨⟨by omega, by omega⟩, h3, h4⟩]
          have x1 := fun {α : Type} (k : Value → Option α) => ix_S (s := s) (i := i + 1) h3.1 k
          have x2 := fun {α : Type} (k : Value → Option α) => ix_S (s := s) (i := i + 2) h4.1 k
          have b1 := by_lt s (i + 1)
          have b2 := by_lt s (i + 2)
          have s0 : IntKind.wrap .u8 (((by' s i : Nat) : Int) - 224) = ((by' s i - 224 : Nat) : Int) := by rw [IntKind.wrap_u8]; omega
          have s1 := dec8 (Nat.le_trans hlo h3.2.1) b1
          have s2 := dec8 h4.2.1 b2
          obtain ⟨v0, e0⟩ : ∃ v, v = by' s i - 224 := ⟨_, rfl⟩
          obtain ⟨v1, e1⟩ : ∃ v, v = by' s (i + 1) - 128 := ⟨_, rfl⟩
          obtain ⟨v2, e2⟩ : ∃ v, v = by' s (i + 2) - 128 := ⟨_, rfl⟩
          rw [← e0] at s0
          rw [← e1] at s1
          rw [← e2] at s2
          have cv := fun {α : Type} (k : Value → Option α) => cv_u8 (n := v0) (by omega) k
          have m1 := m64 (a := v0) (by omega)
          have p1 := a64 (a := v0 * 64) (b := v1) (by omega) (by omega)
          have m2 := m64 (a := v0 * 64 + v1) (by omega)
          have p2 := a64 (a := (v0 * 64 + v1) * 64) (b := v2) (by omega) (by omega)
          rw [← e0, ← e1, ← e2]
          simp only [go_sem, Nat.reduceAdd, Nat.reduceLeDiff, Nat.reduceMul, Int.reduceBEq, Int.reduceBNe, Int.reduceLT, Int.reduceLE, Int.reduceGT, aBin_geq, aBin_leq, ge_iff_le, h1, h2, aBin_add, n1, n2, t1, t2, aBin_sub, s0, cv, aBin_mul, m1, x1, s1, p1, m2, x2, s2, p2]
        · have q2 := decide_eq_false h4
          rw [q2] at t2
          rw [if_neg (fun q => h4 q.2.2)]
          simp only [go_sem, Nat.reduceAdd, Nat.reduceLeDiff, Nat.reduceMul, Int.reduceBEq, Int.reduceBNe, Int.reduceLT, Int.reduceLE, Int.reduceGT, aBin_geq, aBin_leq, ge_iff_le, h1, h2, aBin_add, n1, n2, t1, t2, aBin_eql]
          exact last _
      · have q1 := decide_eq_false h3
        rw [q1] at t1
        rw [if_neg (fun q => h3 q.2.1)]
        simp only [go_sem, Nat.reduceAdd, Nat.reduceLeDiff, Nat.reduceMul, Int.reduceBEq, Int.reduceBNe, Int.reduceLT, Int.reduceLE, Int.reduceGT, aBin_geq, aBin_leq, ge_iff_le, h1, h2, aBin_add, n1, t1, aBin_eql]
        exact last _
    · rw [if_neg (fun q => h2 (by have := q.1.2; omega))]
      simp only [go_sem, Nat.reduceAdd, Nat.reduceLeDiff, Nat.reduceMul, Int.reduceBEq, Int.reduceBNe, Int.reduceLT, Int.reduceLE, Int.reduceGT, aBin_geq, aBin_leq, ge_iff_le, h1, h2, aBin_eql]
      exact last _
  · rw [if_neg (fun q => h1 (by have := q.1.1; omega))]
    simp only [go_sem, Nat.reduceAdd, Nat.reduceLeDiff, Nat.reduceMul, Int.reduceBEq, Int.reduceBNe, Int.reduceLT, Int.reduceLE, Int.reduceGT, aBin_geq, ge_iff_le, h1, aBin_eql]
    exact last _
/-- What begins at a byte that more than one other follow. -/
def d34 (n b0 b1 b2 b3 : Nat) : Nat × Nat :=
    if (224 ≤ b0 ∧ b0 ≤ 239) ∧ (1 < n ∧ (if b0 = 224 then 160 else 128) ≤ b1 ∧ b1 ≤ (if b0 = 237 then 159 else 191)) ∧ (2 < n ∧ 128 ≤ b2 ∧ b2 ≤ 191) then (((b0 - 224) * 64 + (b1 - 128)) * 64 + (b2 - 128), 3)
    else if (240 ≤ b0 ∧ b0 ≤ 244) ∧ (1 < n ∧ (if b0 = 240 then 144 else 128) ≤ b1 ∧ b1 ≤ (if b0 = 244 then 143 else 191)) ∧ (2 < n ∧ 128 ≤ b2 ∧ b2 ≤ 191) ∧ (3 < n ∧ 128 ≤ b3 ∧ b3 ≤ 191) then ((((b0 - 240) * 64 + (b1 - 128)) * 64 + (b2 - 128)) * 64 + (b3 - 128), 4)
    else (65533, 1)
theorem pr2 {a b c d : Nat} (h1 : a = c) (h2 : b = d) : (a, b) = (c, d) := by rw [h1, h2]
set_option maxHeartbeats 1000000 in
theorem dn (n b0 b1 b2 b3 : Nat) (h0 : b0 < 256) (h1 : b1 < 256) (h2 : b2 < 256) (h3 : b3 < 256) : Lib.decodeN n b0 b1 b2 b3 =
    if b0 < 128 then (b0, 1)
    else if (194 ≤ b0 ∧ b0 ≤ 223) ∧ (1 < n ∧ 128 ≤ b1 ∧ b1 ≤ 191) then ((b0 - 192) * 64 + (b1 - 128), 2)
    else d34 n b0 b1 b2 b3 := by
  unfold Lib.decodeN d34
  have d1 : (b1 / 64 = 2) = (128 ≤ b1 ∧ b1 ≤ 191) := by apply propext; omega
  have d2 : (b2 / 64 = 2) = (128 ≤ b2 ∧ b2 ≤ 191) := by apply propext; omega
  have d3 : (b3 / 64 = 2) = (128 ≤ b3 ∧ b3 ≤ 191) := by apply propext; omega
  simp only [d1, d2, d3]
  by_cases c0 : b0 < 128
  · rw [if_pos c0, if_pos c0]
  rw [if_neg c0, if_neg c0]
  by_cases c1 : b0 / 32 = 6
  · have r1 : 192 ≤ b0 ∧ b0 ≤ 223 := by omega
    have r2 : ¬ b0 / 16 = 14 := by omega
    have r3 : ¬ b0 / 8 = 30 := by omega
    have r4 : ¬ (224 ≤ b0 ∧ b0 ≤ 239) := by omega
    have r5 : ¬ (240 ≤ b0 ∧ b0 ≤ 244) := by omega
    simp only [c1, r2, r3, r4, r5, true_and, false_and, if_false]
    repeat' split
    all_goals first | omega | exact pr2 (by omega) (by omega)
  by_cases c2 : b0 / 16 = 14
  · have r1 : 224 ≤ b0 ∧ b0 ≤ 239 := by omega
    have r2 : ¬ (194 ≤ b0 ∧ b0 ≤ 223) := by omega
    have r3 : ¬ b0 / 8 = 30 := by omega
    have r5 : ¬ (240 ≤ b0 ∧ b0 ≤ 244) := by omega
    simp only [c1, c2, r1, r2, r3, r5, true_and, and_self, false_and, if_false]
    repeat' split
    all_goals first | omega | exact pr2 (by omega) (by omega)
  by_cases c3 : b0 / 8 = 30
  · have r1 : 240 ≤ b0 ∧ b0 ≤ 247 := by omega
    have r2 : ¬ (194 ≤ b0 ∧ b0 ≤ 223) := by omega
    have r4 : ¬ (224 ≤ b0 ∧ b0 ≤ 239) := by omega
    simp only [c1, c2, c3, r2, r4, true_and, false_and, if_false]
    repeat' split
    all_goals first | omega | exact pr2 (by omega) (by omega)
  · have r2 : ¬ (194 ≤ b0 ∧ b0 ≤ 223) := by omega
    have r4 : ¬ (224 ≤ b0 ∧ b0 ≤ 239) := by omega
    have r5 : ¬ (240 ≤ b0 ∧ b0 ≤ 244) := by omega
    simp only [c1, c2, c3, r2, r4, r5, false_and, if_false]
theorem j0_s (hs : s.size ≤ 140737488355328) (hi : i < s.size) (lo : Nat) :
    J22_0 C md h0 (.string s) ((Value.int .i64 ((i : Int)))) (.int .u8 ((by' s i : Nat) : Int)) (.int .u8 ((lo : Nat) : Int)) (.int .u8 191) h =
      J22_1 C md h0 (.string s) ((Value.int .i64 ((i : Int)))) (.int .u8 ((by' s i : Nat) : Int)) (.int .u8 ((lo : Nat) : Int)) (.int .u8 (((if by' s i = 237 then 159 else 191 : Nat) : Int))) h := by
  unfold J22_0
  by_cases q : by' s i = 237
  · have e : (((by' s i : Nat) : Int) == 237) = true := by simp; omega
    rw [if_pos q]; simp only [go_sem, Nat.reduceAdd, Nat.reduceLeDiff, Nat.reduceMul, Int.reduceBEq, Int.reduceBNe, Int.reduceLT, Int.reduceLE, Int.reduceGT, aBin_eql, e]; rfl
  · have e : (((by' s i : Nat) : Int) == 237) = false := by simp; omega
    rw [if_neg q]; simp only [go_sem, Nat.reduceAdd, Nat.reduceLeDiff, Nat.reduceMul, Int.reduceBEq, Int.reduceBNe, Int.reduceLT, Int.reduceLE, Int.reduceGT, aBin_eql, e]; rfl
theorem j2_s (hs : s.size ≤ 140737488355328) (hi : i < s.size) (lo hi' : Nat) :
    J22_2 C md h0 (.string s) ((Value.int .i64 ((i : Int)))) (.int .u8 ((by' s i : Nat) : Int)) (.int .u8 ((lo : Nat) : Int)) (.int .u8 ((hi' : Nat) : Int)) h =
      J22_3 C md h0 (.string s) ((Value.int .i64 ((i : Int)))) (.int .u8 ((by' s i : Nat) : Int)) (.int .u8 ((lo : Nat) : Int)) (.int .u8 (((if by' s i = 244 then 143 else hi' : Nat) : Int))) h := by
  unfold J22_2
  by_cases q : by' s i = 244
  · have e : (((by' s i : Nat) : Int) == 244) = true := by simp; omega
    rw [if_pos q]; simp only [go_sem, Nat.reduceAdd, Nat.reduceLeDiff, Nat.reduceMul, Int.reduceBEq, Int.reduceBNe, Int.reduceLT, Int.reduceLE, Int.reduceGT, aBin_eql, e]; rfl
  · have e : (((by' s i : Nat) : Int) == 244) = false := by simp; omega
    rw [if_neg q]; simp only [go_sem, Nat.reduceAdd, Nat.reduceLeDiff, Nat.reduceMul, Int.reduceBEq, Int.reduceBNe, Int.reduceLT, Int.reduceLE, Int.reduceGT, aBin_eql, e]
theorem rest_s (hs : s.size ≤ 140737488355328) (hi : i < s.size) {p : Nat × Nat} (hp : p = d34 (s.size - i) (by' s i) (by' s (i + 1)) (by' s (i + 2)) (by' s (i + 3))) (lo : Nat) (hl : lo = if by' s i = 224 then 160 else 128) :
    J22_0 C md h0 (.string s) ((Value.int .i64 ((i : Int)))) (.int .u8 ((by' s i : Nat) : Int)) (.int .u8 ((lo : Nat) : Int)) (.int .u8 191) h = some (.tuple #[(Value.int .i64 (((p.1 : Nat) : Int))), (Value.int .i64 (((p.2 : Nat) : Int)))], h0) := by
  have l1 : 128 ≤ lo := by rw [hl]; split <;> omega
  have l2 : 128 ≤ (if by' s i = 240 then 144 else lo) := by split <;> omega
  rw [j0_s hs hi, j1_s hs hi _ _ l1, j2_s hs hi, j3_s hs hi _ _ l2]
  have c3 : ((224 ≤ by' s i ∧ by' s i ≤ 239) ∧ (1 < s.size - i ∧ (if by' s i = 224 then 160 else 128) ≤ by' s (i + 1) ∧ by' s (i + 1) ≤ (if by' s i = 237 then 159 else 191)) ∧ (2 < s.size - i ∧ 128 ≤ by' s (i + 2) ∧ by' s (i + 2) ≤ 191)) ↔ Ln3 s i lo (if by' s i = 237 then 159 else 191) := by
    rw [← hl]; unfold Ln3 Btw; omega
  have c4 : ((240 ≤ by' s i ∧ by' s i ≤ 244) ∧ (1 < s.size - i ∧ (if by' s i = 240 then 144 else 128) ≤ by' s (i + 1) ∧ by' s (i + 1) ≤ (if by' s i = 244 then 143 else 191)) ∧ (2 < s.size - i ∧ 128 ≤ by' s (i + 2) ∧ by' s (i + 2) ≤ 191) ∧ (3 < s.size - i ∧ 128 ≤ by' s (i + 3) ∧ by' s (i + 3) ≤ 191)) ↔ Ln4 s i (if by' s i = 240 then 144 else lo) (if by' s i = 244 then 143 else (if by' s i = 237 then 159 else 191)) := by
    by_cases q : 240 ≤ by' s i ∧ by' s i ≤ 244
    · have e1 : lo = 128 := by rw [hl, if_neg (by omega)]
      have e2 : (if by' s i = 237 then 159 else 191) = 191 := if_neg (by omega)
      rw [e1, e2]; unfold Ln4 Btw; omega
    · exact ⟨fun z => absurd z.1 q, fun z => absurd z.1 q⟩
  by_cases h3 : Ln3 s i lo (if by' s i = 237 then 159 else 191)
  · have e : p = (((by' s i - 224) * 64 + (by' s (i + 1) - 128)) * 64 + (by' s (i + 2) - 128), 3) := by rw [hp, d34, if_pos (c3.2 h3)]
    rw [if_pos h3, e]; rfl
  · rw [if_neg h3]
    by_cases h4 : Ln4 s i (if by' s i = 240 then 144 else lo) (if by' s i = 244 then 143 else (if by' s i = 237 then 159 else 191))
    · have e : p = ((((by' s i - 240) * 64 + (by' s (i + 1) - 128)) * 64 + (by' s (i + 2) - 128)) * 64 + (by' s (i + 3) - 128), 4) := by rw [hp, d34, if_neg (fun z => h3 (c3.1 z)), if_pos (c4.2 h4)]
      rw [if_pos h4, e]; rfl
    · have e : p = (65533, 1) := by rw [hp, d34, if_neg (fun z => h3 (c3.1 z)), if_neg (fun z => h4 (c4.1 z))]
      rw [if_neg h4, e]; rfl
/-- The rune that begins at a byte. -/
theorem rune_s (hs : s.size ≤ 140737488355328) (hi : i < s.size) (md : Md) (h : Heap) : C md 22 [.string s, (Value.int .i64 ((i : Int)))] h = some (.tuple #[(Value.int .i64 ((((Utf8.decode s i).1 : Nat) : Int))), (Value.int .i64 ((((Utf8.decode s i).2 : Nat) : Int)))], h) := by
  have n1 : IntKind.wrap .i64 ((i : Int) + 1) = ((i + 1 : Nat) : Int) := by rw [IntKind.wrap_i64]; omega
  have ix := fun {α : Type} (k : Value → Option α) => ix_S hi k
  have bi := by_lt s i
  have b1 := by_lt s (i + 1)
  have t1 := fun (m : Md) (g : Heap) => between_s m g s (i + 1) 128 191 hs (by omega)
  have z1 : ((128 : Nat) : Int) = 128 := rfl
  have z2 : ((191 : Nat) : Int) = 191 := rfl
  rw [z1, z2] at t1
  rw [Lib.decode_at, dn _ _ _ _ _ bi b1 (by_lt s (i + 2)) (by_lt s (i + 3))]
  rw [C, call_eq, F22_eq]
  unfold F22
  by_cases c0 : by' s i < 128
  · have c0' : ((by' s i : Nat) : Int) < 128 := by omega
    have w := w64 (a := by' s i) (by omega)
    rw [if_pos c0]
    simp only [go_sem, Nat.reduceAdd, Nat.reduceLeDiff, Nat.reduceMul, Int.reduceBEq, Int.reduceBNe, Int.reduceLT, Int.reduceLE, Int.reduceGT, ix, c0', w]
    rfl
  have c0' : ¬ ((by' s i : Nat) : Int) < 128 := by omega
  rw [if_neg c0]
  obtain ⟨p, hp⟩ : ∃ p, p = d34 (s.size - i) (by' s i) (by' s (i + 1)) (by' s (i + 2)) (by' s (i + 3)) := ⟨_, rfl⟩
  have rest : ∀ (md : Md) (h g : Heap), (bif (((by' s i : Nat) : Int) == 224) then J22_0 C md h (.string s) ((Value.int .i64 ((i : Int)))) (.int .u8 ((by' s i : Nat) : Int)) (.int .u8 160) (.int .u8 191) g else J22_0 C md h (.string s) ((Value.int .i64 ((i : Int)))) (.int .u8 ((by' s i : Nat) : Int)) (.int .u8 128) (.int .u8 191) g) =
      some (.tuple #[(Value.int .i64 (((p.1 : Nat) : Int))), (Value.int .i64 (((p.2 : Nat) : Int)))], h) := by
    intro md h g
    by_cases q : by' s i = 224
    · have e : (((by' s i : Nat) : Int) == 224) = true := by simp; omega
      rw [e]
      exact rest_s hs hi hp 160 (by rw [if_pos q])
    · have e : (((by' s i : Nat) : Int) == 224) = false := by simp; omega
      rw [e]
      exact rest_s hs hi hp 128 (by rw [if_neg q])
  rw [← hp]
  by_cases c1 : 194 ≤ by' s i ∧ by' s i ≤ 223
  · have c2 : (194 : Int) ≤ ((by' s i : Nat) : Int) := by omega
    have c3 : ((by' s i : Nat) : Int) ≤ 223 := by omega
    by_cases c4 : Btw s (i + 1) 128 191
    · have q := decide_eq_true c4
      rw [q] at t1
      rw [if_pos ⟨c1, by omega, c4.2⟩]
      have x1 := fun {α : Type} (k : Value → Option α) => ix_S (s := s) (i := i + 1) c4.1 k
      have s0 : IntKind.wrap .i64 (IntKind.wrap .u8 (((by' s i : Nat) : Int) - 192)) = ((by' s i - 192 : Nat) : Int) := by rw [IntKind.wrap_u8, IntKind.wrap_i64]; omega
      have s1 := dec8 c4.2.1 b1
      have m1 := m64 (a := by' s i - 192) (by omega)
      have p1 := a64 (a := (by' s i - 192) * 64) (b := by' s (i + 1) - 128) (by omega) (by omega)
      simp only [go_sem, Nat.reduceAdd, Nat.reduceLeDiff, Nat.reduceMul, Int.reduceBEq, Int.reduceBNe, Int.reduceLT, Int.reduceLE, Int.reduceGT, ix, c0', ge_iff_le, c2, c3, aBin_leq, aBin_add, n1, t1, x1, s0, m1, s1, p1]
      rfl
    · have q := decide_eq_false c4
      rw [q] at t1
      rw [if_neg (fun z => c4 ⟨by omega, z.2.2⟩)]
      simp only [go_sem, Nat.reduceAdd, Nat.reduceLeDiff, Nat.reduceMul, Int.reduceBEq, Int.reduceBNe, Int.reduceLT, Int.reduceLE, Int.reduceGT, ix, c0', ge_iff_le, c2, c3, aBin_leq, aBin_add, n1, t1]
      rw [rest]; rfl
  · rw [if_neg (fun z => c1 z.1)]
    by_cases c2 : (194 : Int) ≤ ((by' s i : Nat) : Int)
    · have c3 : ¬ ((by' s i : Nat) : Int) ≤ 223 := by omega
      simp only [go_sem, Nat.reduceAdd, Nat.reduceLeDiff, Nat.reduceMul, Int.reduceBEq, Int.reduceBNe, Int.reduceLT, Int.reduceLE, Int.reduceGT, ix, c0', ge_iff_le, c2, c3, aBin_leq]
      rw [rest]; rfl
    · simp only [go_sem, Nat.reduceAdd, Nat.reduceLeDiff, Nat.reduceMul, Int.reduceBEq, Int.reduceBNe, Int.reduceLT, Int.reduceLE, Int.reduceGT, ix, c0', ge_iff_le, c2]
      rw [rest]; rfl
end Go.Det.E

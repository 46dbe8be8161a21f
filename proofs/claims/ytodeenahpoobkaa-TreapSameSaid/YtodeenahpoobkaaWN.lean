/- What the functions of the words answer. -/
import Derived.Test.YtodeenahpoobkaaE1
import Derived.Test.YtodeenahpoobkaaDetU
import Derived.Test.YtodeenahpoobkaaDetY
import Derived.Laws.Bits64b
import Derived.Laws.BitsLemmas
set_option autoImplicit false
set_option linter.unusedVariables false
set_option linter.unusedSimpArgs false
namespace Go.Det.E.W
open Go.Proofs Go.Det Go.Det.E
attribute [local congr] bind_c cond_c

def inW (a b : Int) : Bool := decide (0 ≤ a ∧ a ≤ b)
theorem u3 : Try.prog.underlying 3 = some (.int .i64) := by kernel_rfl
theorem u4 : Try.prog.underlying 4 = some .bool := by kernel_rfl
theorem u24 : Try.prog.underlying 103 = some (.int .u64) := by kernel_rfl
theorem eq23 {α : Type} {k : Value → Option α} {a b c d a' b' c' d' : Int} : aBin Try.prog .eql 138 (.agg #[.int .i64 a, .int .i64 b, .int .i64 c, .int .i64 d]) (.agg #[.int .i64 a', .int .i64 b', .int .i64 c', .int .i64 d']) k = k (.bool (a == a' && (b == b' && (c == c' && (d == d' && true))))) :=
  aBin_eqlA (xs := [_, _, _, _]) (ys := [_, _, _, _]) (ks := [.i, .i, .i, .i]) (by kernel_rfl) (by kernel_rfl) (by kernel_rfl) rfl rfl (cellsEq_i (cellsEq_i (cellsEq_i (cellsEq_i cellsEq_n))))
theorem eq29 {α : Type} {k : Value → Option α} {a b c d a' b' c' d' : Int} : aBin Try.prog .eql 129 (.agg #[.int .i64 a, .int .i64 b, .int .i64 c, .int .i64 d]) (.agg #[.int .i64 a', .int .i64 b', .int .i64 c', .int .i64 d']) k = k (.bool (a == a' && (b == b' && (c == c' && (d == d' && true))))) :=
  aBin_eqlA (xs := [_, _, _, _]) (ys := [_, _, _, _]) (ks := [.i, .i, .i, .i]) (by kernel_rfl) (by kernel_rfl) (by kernel_rfl) rfl rfl (cellsEq_i (cellsEq_i (cellsEq_i (cellsEq_i cellsEq_n))))

theorem wu {x : Int} (h0 : 0 ≤ x) (h1 : x < 18446744073709551616) : IntKind.wrap .u64 x = x := by rw [IntKind.wrap_u64]; omega
theorem wi {x : Int} (h0 : -9223372036854775808 ≤ x) (h1 : x < 9223372036854775808) : IntKind.wrap .i64 x = x := by rw [IntKind.wrap_i64]; omega
theorem or_add (i : Nat) (a b : Int) (ha : 0 ≤ a) (hai : a < 2 ^ i) (hb : 0 ≤ b) (hs : a + b * 2 ^ i < 18446744073709551616) : bOr .u64 a (b * 2 ^ i) = a + b * 2 ^ i := by
  obtain ⟨x, rfl⟩ := Int.eq_ofNat_of_zero_le ha
  obtain ⟨y, rfl⟩ := Int.eq_ofNat_of_zero_le hb
  have e : (y : Int) * 2 ^ i = ((y * 2 ^ i : Nat) : Int) := by push_cast; rfl
  rw [e] at hs ⊢
  have hx : x < 2 ^ i := by exact_mod_cast hai
  have h := bits_or_u64_nat x (y * 2 ^ i) (by omega) (by omega)
  refine Eq.trans h ?_
  rw [Nat.or_comm, Nat.mul_comm, ← Nat.two_pow_add_eq_or_of_lt hx]
  push_cast
  omega

theorem within_s (md : Md) (a b : Int) (h : Heap) : C md 102 [.int .i64 a, .int .i64 b] h = some (.bool (inW a b), h) := by
  rw [C, call_eq, F102_eq]
  unfold F102
  by_cases h0 : 0 ≤ a
  · simp only [go_sem, Nat.reduceAdd, Nat.reduceLeDiff, Nat.reduceMul, Int.reduceBEq, Int.reduceBNe, Int.reduceLT, Int.reduceLE, Int.reduceGT, h0, ge_iff_le, aBin_leq, inW, true_and]
  · simp only [go_sem, Nat.reduceAdd, Nat.reduceLeDiff, Nat.reduceMul, Int.reduceBEq, Int.reduceBNe, Int.reduceLT, Int.reduceLE, Int.reduceGT, h0, ge_iff_le, inW, false_and]
theorem plain_s (md : Md) (a b c d : Int) (h : Heap) : C md 103 [.agg #[.int .i64 a, .int .i64 b, .int .i64 c, .int .i64 d]] h = some (.bool (c == 0), h) := by
  rw [C, call_eq, F103_eq]
  unfold F103
  simp only [go_sem, Nat.reduceAdd, Nat.reduceLeDiff, Nat.reduceMul, Int.reduceBEq, Int.reduceBNe, Int.reduceLT, Int.reduceLE, Int.reduceGT]
def rightW (o n t g : Int) : Bool := inW o 65535 && inW n 65535 && inW t 8 && inW g 16777215 && (t != 0 || (o == n && g == 0))
theorem rightW_iff {o n t g : Int} : rightW o n t g = true ↔ (0 ≤ o ∧ o ≤ 65535) ∧ (0 ≤ n ∧ n ≤ 65535) ∧ (0 ≤ t ∧ t ≤ 8) ∧ (0 ≤ g ∧ g ≤ 16777215) ∧ (t ≠ 0 ∨ o = n ∧ g = 0) := by
  simp [rightW, inW, and_assoc]
theorem right_s (md : Md) (o n t g : Int) (h : Heap) : C md 99 [.agg #[.int .i64 o, .int .i64 n, .int .i64 t, .int .i64 g]] h = some (.bool (rightW o n t g), h) := by
  rw [C, call_eq, F99_eq]
  unfold F99
  rw [rightW]
  cases h1 : inW o 65535
  · simp only [go_sem, Nat.reduceAdd, Nat.reduceLeDiff, Nat.reduceMul, Int.reduceBEq, Int.reduceBNe, Int.reduceLT, Int.reduceLE, Int.reduceGT, within_s, plain_s, h1]
  cases h2 : inW n 65535
  · simp only [go_sem, Nat.reduceAdd, Nat.reduceLeDiff, Nat.reduceMul, Int.reduceBEq, Int.reduceBNe, Int.reduceLT, Int.reduceLE, Int.reduceGT, within_s, plain_s, h1, h2, aUn_not]
  cases h3 : inW t 8
  · simp only [go_sem, Nat.reduceAdd, Nat.reduceLeDiff, Nat.reduceMul, Int.reduceBEq, Int.reduceBNe, Int.reduceLT, Int.reduceLE, Int.reduceGT, within_s, plain_s, h1, h2, h3, aUn_not]
  cases h4 : inW g 16777215
  · simp only [go_sem, Nat.reduceAdd, Nat.reduceLeDiff, Nat.reduceMul, Int.reduceBEq, Int.reduceBNe, Int.reduceLT, Int.reduceLE, Int.reduceGT, within_s, plain_s, h1, h2, h3, h4, aUn_not]
  cases h5 : (t == 0)
  · simp only [go_sem, Nat.reduceAdd, Nat.reduceLeDiff, Nat.reduceMul, Int.reduceBEq, Int.reduceBNe, Int.reduceLT, Int.reduceLE, Int.reduceGT, within_s, plain_s, h1, h2, h3, h4, h5, aUn_not, bne]
  cases h6 : (o == n)
  · simp only [go_sem, Nat.reduceAdd, Nat.reduceLeDiff, Nat.reduceMul, Int.reduceBEq, Int.reduceBNe, Int.reduceLT, Int.reduceLE, Int.reduceGT, within_s, plain_s, h1, h2, h3, h4, h5, h6, aUn_not, aBin_eql, bne]
  · simp only [go_sem, Nat.reduceAdd, Nat.reduceLeDiff, Nat.reduceMul, Int.reduceBEq, Int.reduceBNe, Int.reduceLT, Int.reduceLE, Int.reduceGT, within_s, plain_s, h1, h2, h3, h4, h5, h6, aUn_not, aBin_eql, bne]
def bitsW (o n t g : Int) : Int := ((g * 256 + t) * 65536 + o) * 65536 + n
theorem pack_s (md : Md) (o n t g : Int) (h : Heap) : C md 100 [.agg #[.int .i64 o, .int .i64 n, .int .i64 t, .int .i64 g]] h =
    some (.tuple #[.int .u64 (bif rightW o n t g then bitsW o n t g else 0), .int .i64 (bif rightW o n t g then 0 else 11)], h) := by
  rw [C, call_eq, F100_eq]
  unfold F100
  cases hr : rightW o n t g
  · simp only [go_sem, Nat.reduceAdd, Nat.reduceLeDiff, Nat.reduceMul, Int.reduceBEq, Int.reduceBNe, Int.reduceLT, Int.reduceLE, Int.reduceGT, right_s, hr]
  · simp only [go_sem, Nat.reduceAdd, Nat.reduceLeDiff, Nat.reduceMul, Int.reduceBEq, Int.reduceBNe, Int.reduceLT, Int.reduceLE, Int.reduceGT, right_s, hr]
    obtain ⟨ho, hn, ht, hg, _⟩ := rightW_iff.1 hr
    refine congrArg some (congrArg (fun x => (Value.tuple #[Value.int .u64 x, Value.int .i64 0], h)) ?_)
    rw [wu hn.1 (by omega), wu ho.1 (by omega), wu ht.1 (by omega), wu hg.1 (by omega)]
    rw [wu (x := o * 2 ^ 16) (by omega) (by omega), or_add 16 n o hn.1 (by omega) ho.1 (by omega)]
    rw [wu (x := t * 2 ^ 32) (by omega) (by omega), or_add 32 _ t (by omega) (by omega) ht.1 (by omega)]
    rw [wu (x := g * 2 ^ 40) (by omega) (by omega), or_add 40 _ g (by omega) (by omega) hg.1 (by omega)]
    unfold bitsW
    omega
theorem bits_s (md : Md) (v f n : Nat) (hv : v < 18446744073709551616) (hf : f ≤ 64) (hn : n < 64) (h : Heap) : C md 98 [.int .u64 v, .int .i64 f, .int .i64 n] h = some (.int .i64 (IntKind.wrap .i64 ((v / 2 ^ f % 2 ^ n : Nat) : Int)), h) := by
  rw [C, call_eq, F98_eq]
  unfold F98
  have hp : (2 : Nat) ^ n < 18446744073709551616 := by
    calc 2 ^ n < 2 ^ 64 := Nat.pow_lt_pow_right (by omega) hn
      _ = _ := by decide
  have hp1 : 0 < (2 : Nat) ^ n := Nat.two_pow_pos n
  have e1 : shOp .shr (v : Int) (f : Int) .u64 = some (.int .u64 ((v / 2 ^ f : Nat) : Int)) := by
    unfold shOp
    rw [if_neg (by omega)]
    simp only [Int.toNat_natCast, IntKind.bits, Nat.min_eq_left hf]
    rw [Int.fdiv_eq_ediv_of_nonneg _ (Int.le_of_lt (Int.pow_pos (by decide)))]
    push_cast
    rfl
  have e2 : shOp .shl 1 (n : Int) .u64 = some (.int .u64 ((2 ^ n : Nat) : Int)) := by
    unfold shOp
    rw [if_neg (by omega)]
    simp only [Int.toNat_natCast, IntKind.bits, Nat.min_eq_left (Nat.le_of_lt hn)]
    rw [Int.one_mul, show (2 : Int) ^ n = ((2 ^ n : Nat) : Int) by push_cast; rfl, wu (by omega) (by omega)]
  have hq : v / 2 ^ f < 18446744073709551616 := Nat.lt_of_le_of_lt (Nat.div_le_self _ _) hv
  have e3 : bAnd .u64 ((v / 2 ^ f : Nat) : Int) (IntKind.wrap .u64 (((2 ^ n : Nat) : Int) - 1)) = ((v / 2 ^ f % 2 ^ n : Nat) : Int) := by
    rw [wu (by omega) (by omega), show (((2 ^ n : Nat) : Int) - 1) = ((2 ^ n - 1 : Nat) : Int) by omega]
    refine Eq.trans (bits_and_u64_nat _ _ hq (by omega)) ?_
    rw [Nat.and_two_pow_sub_one_eq_mod]
  simp only [go_sem, Nat.reduceAdd, Nat.reduceLeDiff, Nat.reduceMul, Int.reduceBEq, Int.reduceBNe, Int.reduceLT, Int.reduceLE, Int.reduceGT, e1, e2, aBin_sub, aBin_and, aConv_int u24 u3, e3]
theorem bits0_s {v : Int} (h0 : 0 ≤ v) (h1 : v < 18446744073709551616) (md : Md) (h : Heap) : C md 98 [.int .u64 v, .int .i64 0, .int .i64 16] h = some (.int .i64 (v % 65536), h) := by
  obtain ⟨x, rfl⟩ := Int.eq_ofNat_of_zero_le h0
  refine Eq.trans (bits_s md x 0 16 (by omega) (by decide) (by decide) h) ?_
  rw [wi (by omega) (by omega), Nat.pow_zero, Nat.div_one]
  rfl
theorem bits16_s {v : Int} (h0 : 0 ≤ v) (h1 : v < 18446744073709551616) (md : Md) (h : Heap) : C md 98 [.int .u64 v, .int .i64 16, .int .i64 16] h = some (.int .i64 (v / 65536 % 65536), h) := by
  obtain ⟨x, rfl⟩ := Int.eq_ofNat_of_zero_le h0
  refine Eq.trans (bits_s md x 16 16 (by omega) (by decide) (by decide) h) ?_
  rw [wi (by omega) (by omega)]
  congr 4
theorem bits32_s {v : Int} (h0 : 0 ≤ v) (h1 : v < 18446744073709551616) (md : Md) (h : Heap) : C md 98 [.int .u64 v, .int .i64 32, .int .i64 8] h = some (.int .i64 (v / 4294967296 % 256), h) := by
  obtain ⟨x, rfl⟩ := Int.eq_ofNat_of_zero_le h0
  refine Eq.trans (bits_s md x 32 8 (by omega) (by decide) (by decide) h) ?_
  rw [wi (by omega) (by omega)]
  congr 4
def rightB (v : Int) : Bool := rightW (v / 65536 % 65536) (v % 65536) (v / 4294967296 % 256) (v / 1099511627776)
theorem unpack_s {v : Int} (h0 : 0 ≤ v) (h1 : v < 18446744073709551616) (md : Md) (h : Heap) : C md 94 [.int .u64 v] h =
    some (.tuple #[bif rightB v then .agg #[.int .i64 (v / 65536 % 65536), .int .i64 (v % 65536), .int .i64 (v / 4294967296 % 256), .int .i64 (v / 1099511627776)] else .agg #[.int .i64 0, .int .i64 0, .int .i64 0, .int .i64 0], .int .i64 (bif rightB v then 0 else 21)], h) := by
  rw [C, call_eq, F94_eq]
  unfold F94
  have e : IntKind.wrap .i64 (Int.fdiv v (2 ^ 40)) = v / 1099511627776 := by
    rw [Int.fdiv_eq_ediv_of_nonneg _ (by decide), wi (by omega) (by omega)]; rfl
  cases hr : rightB v
  · have hr' := hr
    unfold rightB at hr'
    simp only [go_sem, Nat.reduceAdd, Nat.reduceLeDiff, Nat.reduceMul, Int.reduceBEq, Int.reduceBNe, Int.reduceLT, Int.reduceLE, Int.reduceGT, bits0_s h0 h1, bits16_s h0 h1, bits32_s h0 h1, e, right_s, hr']
  · have hr' := hr
    unfold rightB at hr'
    simp only [go_sem, Nat.reduceAdd, Nat.reduceLeDiff, Nat.reduceMul, Int.reduceBEq, Int.reduceBNe, Int.reduceLT, Int.reduceLE, Int.reduceGT, bits0_s h0 h1, bits16_s h0 h1, bits32_s h0 h1, e, right_s, hr']
def bI (b : Bool) : Int := bif b then 1 else 0
def stW (g : Int) (d : Bool) : Int := 2 * g + bI d
theorem inW_iff {a b : Int} : inW a b = true ↔ 0 ≤ a ∧ a ≤ b := by simp [inW]
theorem and1 {v : Int} (h0 : 0 ≤ v) (h1 : v < 18446744073709551616) : bAnd .u64 v 1 = v % 2 := by
  obtain ⟨x, rfl⟩ := Int.eq_ofNat_of_zero_le h0
  refine Eq.trans (bits_and_u64_nat x 1 (by omega) (by decide)) ?_
  rw [Nat.and_one_is_mod]
  rfl
def meansW (o n t g tag : Int) (d : Bool) : Int := bif t == 0 || (decide (g < tag) || (tag == g && d)) then n else o
theorem parts_s {v : Int} (h0 : 0 ≤ v) (h1 : v < 18446744073709551616) (md : Md) (h : Heap) : C md 84 [.int .u64 v] h =
    some (.agg #[.int .i64 (v / 65536 % 65536), .int .i64 (v % 65536), .int .i64 (v / 4294967296 % 256), .int .i64 (v / 1099511627776)], h) := by
  rw [C, call_eq, F84_eq]
  unfold F84
  have q1 : Int.tdiv v 65536 = v / 65536 := Int.tdiv_eq_ediv_of_nonneg h0
  have w1 : IntKind.wrap .u64 (v / 65536) = v / 65536 := wu (by omega) (by omega)
  have q2 : Int.tdiv (v / 65536) 65536 = v / 4294967296 := by rw [Int.tdiv_eq_ediv_of_nonneg (by omega)]; omega
  have w2 : IntKind.wrap .u64 (v / 4294967296) = v / 4294967296 := wu (by omega) (by omega)
  have q3 : Int.tdiv (v / 4294967296) 256 = v / 1099511627776 := by rw [Int.tdiv_eq_ediv_of_nonneg (by omega)]; omega
  have w3 : IntKind.wrap .u64 (v / 1099511627776) = v / 1099511627776 := wu (by omega) (by omega)
  have w3' : IntKind.wrap .i64 (v / 1099511627776) = v / 1099511627776 := wi (by omega) (by omega)
  have m0 : IntKind.wrap .i64 (Int.tmod v 65536) = v % 65536 := by rw [Int.tmod_eq_emod_of_nonneg h0, wi (by omega) (by omega)]
  have m1 : IntKind.wrap .i64 (Int.tmod (v / 65536) 65536) = v / 65536 % 65536 := by rw [Int.tmod_eq_emod_of_nonneg (by omega), wi (by omega) (by omega)]
  have m2 : IntKind.wrap .i64 (Int.tmod (v / 4294967296) 256) = v / 4294967296 % 256 := by rw [Int.tmod_eq_emod_of_nonneg (by omega), wi (by omega) (by omega)]
  simp only [go_sem, Nat.reduceAdd, Nat.reduceLeDiff, Nat.reduceMul, Int.reduceBEq, Int.reduceBNe, Int.reduceLT, Int.reduceLE, Int.reduceGT, q1, w1, q2, w2, q3, w3, w3', m0, m1, m2]
def cutW (x : Int) : Int := if 65535 < (if 0 > x then 0 else x) then 65535 else (if 0 > x then 0 else x)
theorem cutW_in (x : Int) : 0 ≤ cutW x ∧ cutW x ≤ 65535 := by unfold cutW; split <;> split <;> omega
theorem inW_or (a b : Int) : (decide (a < 0) || decide (b < a)) = !inW a b := by
  unfold inW
  by_cases h0 : a < 0 <;> by_cases h1 : b < a <;> simp [h0, h1] <;> omega
end Go.Det.E.W

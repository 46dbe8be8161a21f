/- What the functions of the words answer. -/
import Derived.Test.YtfckdafeeoibhaaE1
import Derived.Test.YtfckdafeeoibhaaDetU
import Derived.Test.YtfckdafeeoibhaaDetY
import Derived.Laws.Bits64b
import Derived.Laws.BitsLemmas
set_option autoImplicit false
set_option linter.unusedVariables false
set_option linter.unusedSimpArgs false
namespace Go.Det.E.W
open Go.Proofs Go.Det Go.Det.E
attribute [local congr] bind_c cond_c

def inW (a b : Int) : Bool := decide (0 ≤ a ∧ a ≤ b)
theorem u3 : Try.prog.underlying 3 = some (.int .i64) := by kernel_rfl
theorem u4 : Try.prog.underlying 4 = some .bool := by kernel_rfl
theorem u24 : Try.prog.underlying 64 = some (.int .u64) := by kernel_rfl
theorem eq23 {α : Type} {k : Value → Option α} {a b c d a' b' c' d' : Int} : aBin Try.prog .eql 140 (.agg #[.int .i64 a, .int .i64 b, .int .i64 c, .int .i64 d]) (.agg #[.int .i64 a', .int .i64 b', .int .i64 c', .int .i64 d']) k = k (.bool (a == a' && (b == b' && (c == c' && (d == d' && true))))) :=
  aBin_eqlA (xs := [_, _, _, _]) (ys := [_, _, _, _]) (ks := [.i, .i, .i, .i]) (by kernel_rfl) (by kernel_rfl) (by kernel_rfl) rfl rfl (cellsEq_i (cellsEq_i (cellsEq_i (cellsEq_i cellsEq_n))))
theorem eq29 {α : Type} {k : Value → Option α} {a b c d a' b' c' d' : Int} : aBin Try.prog .eql 92 (.agg #[.int .i64 a, .int .i64 b, .int .i64 c, .int .i64 d]) (.agg #[.int .i64 a', .int .i64 b', .int .i64 c', .int .i64 d']) k = k (.bool (a == a' && (b == b' && (c == c' && (d == d' && true))))) :=
  aBin_eqlA (xs := [_, _, _, _]) (ys := [_, _, _, _]) (ks := [.i, .i, .i, .i]) (by kernel_rfl) (by kernel_rfl) (by kernel_rfl) rfl rfl (cellsEq_i (cellsEq_i (cellsEq_i (cellsEq_i cellsEq_n))))

theorem wu {x : Int} (h0 : 0 ≤ x) (h1 : x < 18446744073709551616) : IntKind.wrap .u64 x = x := by rw [IntKind.wrap_u64]; omega
theorem wi {x : Int} (h0 : -9223372036854775808 ≤ x) (h1 : x < 9223372036854775808) : IntKind.wrap .i64 x = x := by rw [IntKind.wrap_i64]; omega
theorem or_add (i : Nat) (a b : Int) (ha : 0 ≤ a) (hai : a < 2 ^ i) (hb : 0 ≤ b) (hs : a + b * 2 ^ i < 18446744073709551616) : bOr .u64 a (b * 2 ^ i) = a + b * 2 ^ i := by
  obtain ⟨x, rfl⟩ := Int.eq_ofNat_of_zero_le ha
  obtain ⟨y, rfl⟩ := Int.eq_ofNat_of_zero_le hb
  have e : (y : Int) * 2 ^ i = ((y * 2 ^ i : Nat) : Int) := by push_cast; rfl
  rw [e] at hs ⊢
  have hx : x < 2 ^ i := by exact_mod_cast hai
  have h := bits_or_u64_nat x (y * 2 ^ i) (by omega) (by omega)
  refine Eq.trans h ?_
  rw [Nat.or_comm, Nat.mul_comm, ← Nat.two_pow_add_eq_or_of_lt hx]
  push_cast
  omega

theorem within_s (md : Md) (a b : Int) (h : Heap) : C md 107 [.int .i64 a, .int .i64 b] h = some (.bool (inW a b), h) := by
  rw [C, call_eq, F107_eq]
  unfold F107
  by_cases h0 : 0 ≤ a
  · simp only [go_sem, Nat.reduceAdd, Nat.reduceLeDiff, Nat.reduceMul, Int.reduceBEq, Int.reduceBNe, Int.reduceLT, Int.reduceLE, Int.reduceGT, h0, ge_iff_le, aBin_leq, inW, true_and]
  · simp only [go_sem, Nat.reduceAdd, Nat.reduceLeDiff, Nat.reduceMul, Int.reduceBEq, Int.reduceBNe, Int.reduceLT, Int.reduceLE, Int.reduceGT, h0, ge_iff_le, inW, false_and]
theorem plain_s (md : Md) (a b c d : Int) (h : Heap) : C md 85 [.agg #[.int .i64 a, .int .i64 b, .int .i64 c, .int .i64 d]] h = some (.bool (c == 0), h) := by
  rw [C, call_eq, F85_eq]
  unfold F85
  simp only [go_sem, Nat.reduceAdd, Nat.reduceLeDiff, Nat.reduceMul, Int.reduceBEq, Int.reduceBNe, Int.reduceLT, Int.reduceLE, Int.reduceGT]
def rightW (o n t g : Int) : Bool := inW o 65535 && inW n 65535 && inW t 8 && inW g 16777215 && (t != 0 || (o == n && g == 0))
theorem rightW_iff {o n t g : Int} : rightW o n t g = true ↔ (0 ≤ o ∧ o ≤ 65535) ∧ (0 ≤ n ∧ n ≤ 65535) ∧ (0 ≤ t ∧ t ≤ 8) ∧ (0 ≤ g ∧ g ≤ 16777215) ∧ (t ≠ 0 ∨ o = n ∧ g = 0) := by
  simp [rightW, inW, and_assoc]
theorem right_s (md : Md) (o n t g : Int) (h : Heap) : C md 99 [.agg #[.int .i64 o, .int .i64 n, .int .i64 t, .int .i64 g]] h = some (.bool (rightW o n t g), h) := by
  rw [C, call_eq, F99_eq]
  unfold F99
  rw [rightW]
  cases h1 : inW o 65535
  · simp only [go_sem, Nat.reduceAdd, Nat.reduceLeDiff, Nat.reduceMul, Int.reduceBEq, Int.reduceBNe, Int.reduceLT, Int.reduceLE, Int.reduceGT, within_s, plain_s, h1]
  cases h2 : inW n 65535
  · simp only [go_sem, Nat.reduceAdd, Nat.reduceLeDiff, Nat.reduceMul, Int.reduceBEq, Int.reduceBNe, Int.reduceLT, Int.reduceLE, Int.reduceGT, within_s, plain_s, h1, h2, aUn_not]
  cases h3 : inW t 8
  · simp only [go_sem, Nat.reduceAdd, Nat.reduceLeDiff, Nat.reduceMul, Int.reduceBEq, Int.reduceBNe, Int.reduceLT, Int.reduceLE, Int.reduceGT, within_s, plain_s, h1, h2, h3, aUn_not]
  cases h4 : inW g 16777215
  · simp only [go_sem, Nat.reduceAdd, Nat.reduceLeDiff, Nat.reduceMul, Int.reduceBEq, Int.reduceBNe, Int.reduceLT, Int.reduceLE, Int.reduceGT, within_s, plain_s, h1, h2, h3, h4, aUn_not]
  cases h5 : (t == 0)
  · simp only [go_sem, Nat.reduceAdd, Nat.reduceLeDiff, Nat.reduceMul, Int.reduceBEq, Int.reduceBNe, Int.reduceLT, Int.reduceLE, Int.reduceGT, within_s, plain_s, h1, h2, h3, h4, h5, aUn_not, bne]
  cases h6 : (o == n)
  · simp only [go_sem, Nat.reduceAdd, Nat.reduceLeDiff, Nat.reduceMul, Int.reduceBEq, Int.reduceBNe, Int.reduceLT, Int.reduceLE, Int.reduceGT, within_s, plain_s, h1, h2, h3, h4, h5, h6, aUn_not, aBin_eql, bne]
  · simp only [go_sem, Nat.reduceAdd, Nat.reduceLeDiff, Nat.reduceMul, Int.reduceBEq, Int.reduceBNe, Int.reduceLT, Int.reduceLE, Int.reduceGT, within_s, plain_s, h1, h2, h3, h4, h5, h6, aUn_not, aBin_eql, bne]
def bitsW (o n t g : Int) : Int := ((g * 256 + t) * 65536 + o) * 65536 + n
theorem pack_s (md : Md) (o n t g : Int) (h : Heap) : C md 97 [.agg #[.int .i64 o, .int .i64 n, .int .i64 t, .int .i64 g]] h =
    some (.tuple #[.int .u64 (bif rightW o n t g then bitsW o n t g else 0), .int .i64 (bif rightW o n t g then 0 else 11)], h) := by
  rw [C, call_eq, F97_eq]
  unfold F97
  cases hr : rightW o n t g
  · simp only [go_sem, Nat.reduceAdd, Nat.reduceLeDiff, Nat.reduceMul, Int.reduceBEq, Int.reduceBNe, Int.reduceLT, Int.reduceLE, Int.reduceGT, right_s, hr]
  · simp only [go_sem, Nat.reduceAdd, Nat.reduceLeDiff, Nat.reduceMul, Int.reduceBEq, Int.reduceBNe, Int.reduceLT, Int.reduceLE, Int.reduceGT, right_s, hr]
    obtain ⟨ho, hn, ht, hg, _⟩ := rightW_iff.1 hr
    refine congrArg some (congrArg (fun x => (Value.tuple #[Value.int .u64 x, Value.int .i64 0], h)) ?_)
    rw [wu hn.1 (by omega), wu ho.1 (by omega), wu ht.1 (by omega), wu hg.1 (by omega)]
    rw [wu (x := o * 2 ^ 16) (by omega) (by omega), or_add 16 n o hn.1 (by omega) ho.1 (by omega)]
    rw [wu (x := t * 2 ^ 32) (by omega) (by omega), or_add 32 _ t (by omega) (by omega) ht.1 (by omega)]
    rw [wu (x := g * 2 ^ 40) (by omega) (by omega), or_add 40 _ g (by omega) (by omega) hg.1 (by omega)]
    unfold bitsW
    omega
theorem bits_s (md : Md) (v f n : Nat) (hv : v < 18446744073709551616) (hf : f ≤ 64) (hn : n < 64) (h : Heap) : C md 98 [.int .u64 v, .int .i64 f, .int .i64 n] h = some (.int .i64 (IntKind.wrap .i64 ((v / 2 ^ f % 2 ^ n : Nat) : Int)), h) := by
  rw [C, call_eq, F98_eq]
  unfold F98
  have hp : (2 : Nat) ^ n < 18446744073709551616 := by
    calc 2 ^ n < 2 ^ 64 := Nat.pow_lt_pow_right (by omega) hn
      _ = _ := by decide
  have hp1 : 0 < (2 : Nat) ^ n := Nat.two_pow_pos n
  have e1 : shOp .shr (v : Int) (f : Int) .u64 = some (.int .u64 ((v / 2 ^ f : Nat) : Int)) := by
    unfold shOp
    rw [if_neg (by omega)]
    simp only [Int.toNat_natCast, IntKind.bits, Nat.min_eq_left hf]
    rw [Int.fdiv_eq_ediv_of_nonneg _ (Int.le_of_lt (Int.pow_pos (by decide)))]
    push_cast
    rfl
  have e2 : shOp .shl 1 (n : Int) .u64 = some (.int .u64 ((2 ^ n : Nat) : Int)) := by
    unfold shOp
    rw [if_neg (by omega)]
    simp only [Int.toNat_natCast, IntKind.bits, Nat.min_eq_left (Nat.le_of_lt hn)]
    rw [Int.one_mul, show (2 : Int) ^ n = ((2 ^ n : Nat) : Int) by push_cast; rfl, wu (by omega) (by omega)]
  have hq : v / 2 ^ f < 18446744073709551616 := Nat.lt_of_le_of_lt (Nat.div_le_self _ _) hv
  have e3 : bAnd .u64 ((v / 2 ^ f : Nat) : Int) (IntKind.wrap .u64 (((2 ^ n : Nat) : Int) - 1)) = ((v / 2 ^ f % 2 ^ n : Nat) : Int) := by
    rw [wu (by omega) (by omega), show (((2 ^ n : Nat) : Int) - 1) = ((2 ^ n - 1 : Nat) : Int) by omega]
    refine Eq.trans (bits_and_u64_nat _ _ hq (by omega)) ?_
    rw [Nat.and_two_pow_sub_one_eq_mod]
  simp only [go_sem, Nat.reduceAdd, Nat.reduceLeDiff, Nat.reduceMul, Int.reduceBEq, Int.reduceBNe, Int.reduceLT, Int.reduceLE, Int.reduceGT, e1, e2, aBin_sub, aBin_and, aConv_int u24 u3, e3]
theorem bits0_s {v : Int} (h0 : 0 ≤ v) (h1 : v < 18446744073709551616) (md : Md) (h : Heap) : C md 98 [.int .u64 v, .int .i64 0, .int .i64 16] h = some (.int .i64 (v % 65536), h) := by
  obtain ⟨x, rfl⟩ := Int.eq_ofNat_of_zero_le h0
  refine Eq.trans (bits_s md x 0 16 (by omega) (by decide) (by decide) h) ?_
  rw [wi (by omega) (by omega), Nat.pow_zero, Nat.div_one]
  rfl
theorem bits16_s {v : Int} (h0 : 0 ≤ v) (h1 : v < 18446744073709551616) (md : Md) (h : Heap) : C md 98 [.int .u64 v, .int .i64 16, .int .i64 16] h = some (.int .i64 (v / 65536 % 65536), h) := by
  obtain ⟨x, rfl⟩ := Int.eq_ofNat_of_zero_le h0
  refine Eq.trans (bits_s md x 16 16 (by omega) (by decide) (by decide) h) ?_
  rw [wi (by omega) (by omega)]
  congr 4
theorem bits32_s {v : Int} (h0 : 0 ≤ v) (h1 : v < 18446744073709551616) (md : Md) (h : Heap) : C md 98 [.int .u64 v, .int .i64 32, .int .i64 8] h = some (.int .i64 (v / 4294967296 % 256), h) := by
  obtain ⟨x, rfl⟩ := Int.eq_ofNat_of_zero_le h0
  refine Eq.trans (bits_s md x 32 8 (by omega) (by decide) (by decide) h) ?_
  rw [wi (by omega) (by omega)]
  congr 4
def rightB (v : Int) : Bool := rightW (v / 65536 % 65536) (v % 65536) (v / 4294967296 % 256) (v / 1099511627776)
theorem unpack_s {v : Int} (h0 : 0 ≤ v) (h1 : v < 18446744073709551616) (md : Md) (h : Heap) : C md 84 [.int .u64 v] h =
    some (.tuple #[bif rightB v then .agg #[.int .i64 (v / 65536 % 65536), .int .i64 (v % 65536), .int .i64 (v / 4294967296 % 256), .int .i64 (v / 1099511627776)] else .agg #[.int .i64 0, .int .i64 0, .int .i64 0, .int .i64 0], .int .i64 (bif rightB v then 0 else 21)], h) := by
  rw [C, call_eq, F84_eq]
  unfold F84
  have e : IntKind.wrap .i64 (Int.fdiv v (2 ^ 40)) = v / 1099511627776 := by
    rw [Int.fdiv_eq_ediv_of_nonneg _ (by decide), wi (by omega) (by omega)]; rfl
  cases hr : rightB v
  · have hr' := hr
    unfold rightB at hr'
    simp only [go_sem, Nat.reduceAdd, Nat.reduceLeDiff, Nat.reduceMul, Int.reduceBEq, Int.reduceBNe, Int.reduceLT, Int.reduceLE, Int.reduceGT, bits0_s h0 h1, bits16_s h0 h1, bits32_s h0 h1, e, right_s, hr']
  · have hr' := hr
    unfold rightB at hr'
    simp only [go_sem, Nat.reduceAdd, Nat.reduceLeDiff, Nat.reduceMul, Int.reduceBEq, Int.reduceBNe, Int.reduceLT, Int.reduceLE, Int.reduceGT, bits0_s h0 h1, bits16_s h0 h1, bits32_s h0 h1, e, right_s, hr']
def bI (b : Bool) : Int := bif b then 1 else 0
def stW (g : Int) (d : Bool) : Int := 2 * g + bI d
theorem inW_iff {a b : Int} : inW a b = true ↔ 0 ≤ a ∧ a ≤ b := by simp [inW]
theorem state_s (md : Md) (g : Int) (d : Bool) (h : Heap) : C md 96 [.int .i64 g, .bool d] h = some (.tuple #[.int .u64 (bif inW g 16777215 then stW g d else 0), .int .i64 (bif inW g 16777215 then 0 else 11)], h) := by
  rw [C, call_eq, F96_eq]
  unfold F96
  cases hr : inW g 16777215
  · simp only [go_sem, Nat.reduceAdd, Nat.reduceLeDiff, Nat.reduceMul, Int.reduceBEq, Int.reduceBNe, Int.reduceLT, Int.reduceLE, Int.reduceGT, within_s, hr]
  · obtain ⟨h0, h1⟩ := inW_iff.1 hr
    have e : IntKind.wrap .u64 (IntKind.wrap .u64 g * 2 ^ 1) = 2 * g := by rw [wu (x := g) (by omega) (by omega), wu (by omega) (by omega)]; omega
    have e2 : bOr .u64 (2 * g) 1 = 2 * g + 1 := by
      obtain ⟨x, rfl⟩ := Int.eq_ofNat_of_zero_le h0
      have h := bits_or_u64_nat (2 * x) 1 (by omega) (by decide)
      refine Eq.trans h ?_
      have h3 := Nat.two_pow_add_eq_or_of_lt (i := 1) (b := 1) (by decide) x
      rw [show 2 * x ||| 1 = 2 * x + 1 from h3.symm]
      push_cast
      rfl
    cases d
    · simp only [go_sem, Nat.reduceAdd, Nat.reduceLeDiff, Nat.reduceMul, Int.reduceBEq, Int.reduceBNe, Int.reduceLT, Int.reduceLE, Int.reduceGT, within_s, hr, e, stW, bI, Int.add_zero]
    · simp only [go_sem, Nat.reduceAdd, Nat.reduceLeDiff, Nat.reduceMul, Int.reduceBEq, Int.reduceBNe, Int.reduceLT, Int.reduceLE, Int.reduceGT, within_s, hr, e, e2, stW, bI]
theorem and1 {v : Int} (h0 : 0 ≤ v) (h1 : v < 18446744073709551616) : bAnd .u64 v 1 = v % 2 := by
  obtain ⟨x, rfl⟩ := Int.eq_ofNat_of_zero_le h0
  refine Eq.trans (bits_and_u64_nat x 1 (by omega) (by decide)) ?_
  rw [Nat.and_one_is_mod]
  rfl
theorem tag_s {v : Int} (h0 : 0 ≤ v) (h1 : v < 18446744073709551616) (md : Md) (h : Heap) : C md 100 [.int .u64 v] h =
    some (.tuple #[.int .i64 (bif decide (v < 33554432) then v / 2 else 0), .bool (decide (v < 33554432) && v % 2 == 1), .int .i64 (bif decide (v < 33554432) then 0 else 21)], h) := by
  rw [C, call_eq, F100_eq]
  unfold F100
  have e : Int.fdiv v (2 ^ 1) = v / 2 := by rw [Int.fdiv_eq_ediv_of_nonneg _ (by decide)]; rfl
  by_cases hr : v < 33554432
  · have hr' : ¬ v / 2 > 16777215 := by omega
    simp only [go_sem, Nat.reduceAdd, Nat.reduceLeDiff, Nat.reduceMul, Int.reduceBEq, Int.reduceBNe, Int.reduceLT, Int.reduceLE, Int.reduceGT, e, hr, hr', and1 h0 h1, wi (x := v / 2) (by omega) (by omega)]
  · have hr' : v / 2 > 16777215 := by omega
    simp only [go_sem, Nat.reduceAdd, Nat.reduceLeDiff, Nat.reduceMul, Int.reduceBEq, Int.reduceBNe, Int.reduceLT, Int.reduceLE, Int.reduceGT, e, hr, hr']
theorem refstate_s {g : Int} (h0 : 0 ≤ g) (h1 : g ≤ 16777215) (md : Md) (d : Bool) (h : Heap) : C md 55 [.int .i64 g, .bool d] h = some (.int .u64 (stW g d), h) := by
  rw [C, call_eq, F55_eq]
  unfold F55
  have e : IntKind.wrap .u64 (2 * IntKind.wrap .u64 g) = 2 * g := by rw [wu (x := g) (by omega) (by omega), wu (by omega) (by omega)]
  cases d
  · simp only [go_sem, Nat.reduceAdd, Nat.reduceLeDiff, Nat.reduceMul, Int.reduceBEq, Int.reduceBNe, Int.reduceLT, Int.reduceLE, Int.reduceGT, e, stW, bI, Int.add_zero]
  · simp only [go_sem, Nat.reduceAdd, Nat.reduceLeDiff, Nat.reduceMul, Int.reduceBEq, Int.reduceBNe, Int.reduceLT, Int.reduceLE, Int.reduceGT, e, stW, bI]
    rw [wu (by omega) (by omega)]
def meansW (o n t g tag : Int) (d : Bool) : Int := bif t == 0 || (decide (g < tag) || (tag == g && d)) then n else o
theorem means_s (md : Md) (o n t g tag : Int) (d : Bool) (h : Heap) : C md 101 [.agg #[.int .i64 o, .int .i64 n, .int .i64 t, .int .i64 g], .int .i64 tag, .bool d] h = some (.int .i64 (meansW o n t g tag d), h) := by
  rw [C, call_eq, F101_eq]
  unfold F101 meansW
  cases h1 : t == 0
  · by_cases h2 : g < tag
    · simp only [go_sem, Nat.reduceAdd, Nat.reduceLeDiff, Nat.reduceMul, Int.reduceBEq, Int.reduceBNe, Int.reduceLT, Int.reduceLE, Int.reduceGT, plain_s, h1, h2, aBin_gtr]
    · cases h3 : tag == g
      · simp only [go_sem, Nat.reduceAdd, Nat.reduceLeDiff, Nat.reduceMul, Int.reduceBEq, Int.reduceBNe, Int.reduceLT, Int.reduceLE, Int.reduceGT, plain_s, h1, h2, h3, aBin_gtr, aBin_eql]
      · cases d <;> simp only [go_sem, Nat.reduceAdd, Nat.reduceLeDiff, Nat.reduceMul, Int.reduceBEq, Int.reduceBNe, Int.reduceLT, Int.reduceLE, Int.reduceGT, plain_s, h1, h2, h3, aBin_gtr, aBin_eql]
  · simp only [go_sem, Nat.reduceAdd, Nat.reduceLeDiff, Nat.reduceMul, Int.reduceBEq, Int.reduceBNe, Int.reduceLT, Int.reduceLE, Int.reduceGT, plain_s, h1]
theorem parts_s {v : Int} (h0 : 0 ≤ v) (h1 : v < 18446744073709551616) (md : Md) (h : Heap) : C md 47 [.int .u64 v] h =
    some (.agg #[.int .i64 (v / 65536 % 65536), .int .i64 (v % 65536), .int .i64 (v / 4294967296 % 256), .int .i64 (v / 1099511627776)], h) := by
  rw [C, call_eq, F47_eq]
  unfold F47
  have q1 : Int.tdiv v 65536 = v / 65536 := Int.tdiv_eq_ediv_of_nonneg h0
  have w1 : IntKind.wrap .u64 (v / 65536) = v / 65536 := wu (by omega) (by omega)
  have q2 : Int.tdiv (v / 65536) 65536 = v / 4294967296 := by rw [Int.tdiv_eq_ediv_of_nonneg (by omega)]; omega
  have w2 : IntKind.wrap .u64 (v / 4294967296) = v / 4294967296 := wu (by omega) (by omega)
  have q3 : Int.tdiv (v / 4294967296) 256 = v / 1099511627776 := by rw [Int.tdiv_eq_ediv_of_nonneg (by omega)]; omega
  have w3 : IntKind.wrap .u64 (v / 1099511627776) = v / 1099511627776 := wu (by omega) (by omega)
  have w3' : IntKind.wrap .i64 (v / 1099511627776) = v / 1099511627776 := wi (by omega) (by omega)
  have m0 : IntKind.wrap .i64 (Int.tmod v 65536) = v % 65536 := by rw [Int.tmod_eq_emod_of_nonneg h0, wi (by omega) (by omega)]
  have m1 : IntKind.wrap .i64 (Int.tmod (v / 65536) 65536) = v / 65536 % 65536 := by rw [Int.tmod_eq_emod_of_nonneg (by omega), wi (by omega) (by omega)]
  have m2 : IntKind.wrap .i64 (Int.tmod (v / 4294967296) 256) = v / 4294967296 % 256 := by rw [Int.tmod_eq_emod_of_nonneg (by omega), wi (by omega) (by omega)]
  simp only [go_sem, Nat.reduceAdd, Nat.reduceLeDiff, Nat.reduceMul, Int.reduceBEq, Int.reduceBNe, Int.reduceLT, Int.reduceLE, Int.reduceGT, q1, w1, q2, w2, q3, w3, w3', m0, m1, m2]
theorem refmeans_s {v s : Int} (h0 : 0 ≤ v) (h1 : v < 18446744073709551616) (s0 : 0 ≤ s) (s1 : s < 18446744073709551616) (md : Md) (h : Heap) : C md 51 [.int .u64 v, .int .u64 s] h =
    some (.int .i64 (meansW (v / 65536 % 65536) (v % 65536) (v / 4294967296 % 256) (v / 1099511627776) (s / 2) (s % 2 == 1)), h) := by
  rw [C, call_eq, F51_eq]
  unfold F51 meansW
  have q1 : Int.tdiv s 2 = s / 2 := Int.tdiv_eq_ediv_of_nonneg s0
  have w1 : IntKind.wrap .u64 (s / 2) = s / 2 := wu (by omega) (by omega)
  have w2 : IntKind.wrap .i64 (s / 2) = s / 2 := wi (by omega) (by omega)
  have m1 : Int.tmod s 2 = s % 2 := Int.tmod_eq_emod_of_nonneg s0
  have n2 : ¬ (2 : Int) = 0 := by decide
  cases h1' : v / 4294967296 % 256 == 0
  · by_cases h2 : v / 1099511627776 < s / 2
    · simp only [go_sem, Nat.reduceAdd, Nat.reduceLeDiff, Nat.reduceMul, Int.reduceBEq, Int.reduceBNe, Int.reduceLT, Int.reduceLE, Int.reduceGT, parts_s h0 h1, h1', h2, aBin_gtr, aBin_quo n2, q1, w1, aConv_int u24 u3, w2]
    · cases h3 : s / 2 == v / 1099511627776
      · simp only [go_sem, Nat.reduceAdd, Nat.reduceLeDiff, Nat.reduceMul, Int.reduceBEq, Int.reduceBNe, Int.reduceLT, Int.reduceLE, Int.reduceGT, parts_s h0 h1, h1', h2, h3, aBin_gtr, aBin_quo n2, q1, w1, aConv_int u24 u3, w2, aBin_eql]
      · cases h4 : s % 2 == 1 <;> simp only [go_sem, Nat.reduceAdd, Nat.reduceLeDiff, Nat.reduceMul, Int.reduceBEq, Int.reduceBNe, Int.reduceLT, Int.reduceLE, Int.reduceGT, parts_s h0 h1, h1', h2, h3, h4, aBin_gtr, aBin_quo n2, aBin_rem n2, m1, q1, w1, aConv_int u24 u3, w2, aBin_eql]
  · simp only [go_sem, Nat.reduceAdd, Nat.reduceLeDiff, Nat.reduceMul, Int.reduceBEq, Int.reduceBNe, Int.reduceLT, Int.reduceLE, Int.reduceGT, parts_s h0 h1, h1']
def cutW (x : Int) : Int := if 65535 < (if 0 > x then 0 else x) then 65535 else (if 0 > x then 0 else x)
theorem cutW_in (x : Int) : 0 ≤ cutW x ∧ cutW x ≤ 65535 := by unfold cutW; split <;> split <;> omega
theorem of_s (md : Md) (x : Int) (h : Heap) : C md 83 [.int .i64 x] h = some (.agg #[.int .i64 (cutW x), .int .i64 (cutW x), .int .i64 0, .int .i64 0], h) := by
  rw [C, call_eq, F83_eq]
  unfold F83
  simp only [go_sem, Nat.reduceAdd, Nat.reduceLeDiff, Nat.reduceMul, Int.reduceBEq, Int.reduceBNe, Int.reduceLT, Int.reduceLE, Int.reduceGT, cutW]
theorem refbits_s {o n t g : Int} (hr : rightW o n t g = true) (md : Md) (h : Heap) : C md 54 [.agg #[.int .i64 o, .int .i64 n, .int .i64 t, .int .i64 g]] h = some (.int .u64 (bitsW o n t g), h) := by
  rw [C, call_eq, F54_eq]
  unfold F54
  obtain ⟨ho, hn, ht, hg, _⟩ := rightW_iff.1 hr
  simp only [go_sem, Nat.reduceAdd, Nat.reduceLeDiff, Nat.reduceMul, Int.reduceBEq, Int.reduceBNe, Int.reduceLT, Int.reduceLE, Int.reduceGT]
  rw [wu hn.1 (by omega), wu ho.1 (by omega), wu ht.1 (by omega), wu hg.1 (by omega)]
  rw [wu (x := g * 256) (by omega) (by omega), wu (x := g * 256 + t) (by omega) (by omega), wu (x := (g * 256 + t) * 65536) (by omega) (by omega), wu (x := (g * 256 + t) * 65536 + o) (by omega) (by omega)]
  rw [wu (x := ((g * 256 + t) * 65536 + o) * 65536) (by omega) (by omega), wu (by omega) (by omega)]
  rfl
theorem refplain_s {x : Int} (h0 : 0 ≤ x) (h1 : x ≤ 65535) (md : Md) (h : Heap) : C md 35 [.int .i64 x] h = some (.int .u64 (x * 65537), h) := by
  rw [C, call_eq, F35_eq]
  unfold F35
  rw [wu (x := x) (by omega) (by omega), wu (by omega) (by omega)]
  simp only [go_sem, Nat.reduceAdd, Nat.reduceLeDiff, Nat.reduceMul, Int.reduceBEq, Int.reduceBNe, Int.reduceLT, Int.reduceLE, Int.reduceGT]
theorem inW_or (a b : Int) : (decide (a < 0) || decide (b < a)) = !inW a b := by
  unfold inW
  by_cases h0 : a < 0 <;> by_cases h1 : b < a <;> simp [h0, h1] <;> omega
theorem refright_s (md : Md) (o n t g : Int) (h : Heap) : C md 48 [.agg #[.int .i64 o, .int .i64 n, .int .i64 t, .int .i64 g]] h = some (.bool (rightW o n t g), h) := by
  rw [C, call_eq, F48_eq]
  unfold F48
  rw [rightW]
  have k : ∀ {a b : Int}, inW a b = (!decide (a < 0) && !decide (b < a)) := by intro a b; rw [← Bool.not_or, inW_or, Bool.not_not]
  rw [k, k, k, k]
  by_cases h1 : o < 0
  · simp only [go_sem, Nat.reduceAdd, Nat.reduceLeDiff, Nat.reduceMul, Int.reduceBEq, Int.reduceBNe, Int.reduceLT, Int.reduceLE, Int.reduceGT, h1, aBin_gtr, aBin_lss]
  by_cases h2 : 65535 < o
  · simp only [go_sem, Nat.reduceAdd, Nat.reduceLeDiff, Nat.reduceMul, Int.reduceBEq, Int.reduceBNe, Int.reduceLT, Int.reduceLE, Int.reduceGT, h1, h2, aBin_gtr, aBin_lss]
  by_cases h3 : n < 0
  · simp only [go_sem, Nat.reduceAdd, Nat.reduceLeDiff, Nat.reduceMul, Int.reduceBEq, Int.reduceBNe, Int.reduceLT, Int.reduceLE, Int.reduceGT, h1, h2, h3, aBin_gtr, aBin_lss]
  by_cases h4 : 65535 < n
  · simp only [go_sem, Nat.reduceAdd, Nat.reduceLeDiff, Nat.reduceMul, Int.reduceBEq, Int.reduceBNe, Int.reduceLT, Int.reduceLE, Int.reduceGT, h1, h2, h3, h4, aBin_gtr, aBin_lss]
  by_cases h5 : t < 0
  · simp only [go_sem, Nat.reduceAdd, Nat.reduceLeDiff, Nat.reduceMul, Int.reduceBEq, Int.reduceBNe, Int.reduceLT, Int.reduceLE, Int.reduceGT, h1, h2, h3, h4, h5, aBin_gtr, aBin_lss]
  by_cases h6 : 8 < t
  · simp only [go_sem, Nat.reduceAdd, Nat.reduceLeDiff, Nat.reduceMul, Int.reduceBEq, Int.reduceBNe, Int.reduceLT, Int.reduceLE, Int.reduceGT, h1, h2, h3, h4, h5, h6, aBin_gtr, aBin_lss]
  by_cases h7 : g < 0
  · simp only [go_sem, Nat.reduceAdd, Nat.reduceLeDiff, Nat.reduceMul, Int.reduceBEq, Int.reduceBNe, Int.reduceLT, Int.reduceLE, Int.reduceGT, h1, h2, h3, h4, h5, h6, h7, aBin_gtr, aBin_lss]
  by_cases h8 : 16777215 < g
  · simp only [go_sem, Nat.reduceAdd, Nat.reduceLeDiff, Nat.reduceMul, Int.reduceBEq, Int.reduceBNe, Int.reduceLT, Int.reduceLE, Int.reduceGT, h1, h2, h3, h4, h5, h6, h7, h8, aBin_gtr, aBin_lss]
  cases h9 : (t != 0)
  · cases ha : (o == n)
    · simp only [go_sem, Nat.reduceAdd, Nat.reduceLeDiff, Nat.reduceMul, Int.reduceBEq, Int.reduceBNe, Int.reduceLT, Int.reduceLE, Int.reduceGT, h1, h2, h3, h4, h5, h6, h7, h8, h9, ha, aBin_gtr, aBin_lss, aBin_eql]
    · simp only [go_sem, Nat.reduceAdd, Nat.reduceLeDiff, Nat.reduceMul, Int.reduceBEq, Int.reduceBNe, Int.reduceLT, Int.reduceLE, Int.reduceGT, h1, h2, h3, h4, h5, h6, h7, h8, h9, ha, aBin_gtr, aBin_lss, aBin_eql]
  · simp only [go_sem, Nat.reduceAdd, Nat.reduceLeDiff, Nat.reduceMul, Int.reduceBEq, Int.reduceBNe, Int.reduceLT, Int.reduceLE, Int.reduceGT, h1, h2, h3, h4, h5, h6, h7, h8, h9, aBin_gtr, aBin_lss]
end Go.Det.E.W

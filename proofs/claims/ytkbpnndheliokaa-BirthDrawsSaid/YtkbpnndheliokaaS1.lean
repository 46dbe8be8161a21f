/- Free slots, taken and given by steps: what its functions answer. -/
import Derived.Test.YtkbpnndheliokaaE3
import Derived.Test.YtkbpnndheliokaaP5
import Derived.Laws.BitsAllLaws
set_option autoImplicit false
set_option linter.unusedVariables false
set_option linter.unusedSimpArgs false
namespace Go.Det.E
open Go.Proofs Go.Det
attribute [local congr] bind_c cond_c
variable {md : Md} {h hh h' : Heap} {a b k : Nat} {l c : List Int} {V S T : Int}
theorem and16 {v : Int} (h0 : 0 ≤ v) (h1 : v < 18446744073709551616) : bAnd .u64 v 65535 = v % 65536 := by
  obtain ⟨x, rfl⟩ := Int.eq_ofNat_of_zero_le h0
  refine Eq.trans (bits_and_u64_nat x 65535 (by omega) (by decide)) ?_
  rw [show (65535 : Nat) = 2 ^ 16 - 1 from rfl, Nat.and_two_pow_sub_one_eq_mod]
  show ((x % 65536 : Nat) : Int) = (x : Int) % 65536
  omega
theorem nand16 (x : Nat) (hx : x < 2 ^ 64) : x &&& 18446744073709486080 = x / 65536 * 65536 := by
  have e : (18446744073709486080 : Nat) = (2 ^ 48 - 1) <<< 16 := by decide
  have e2 : x / 65536 * 65536 = (x >>> 16) <<< 16 := by rw [Nat.shiftLeft_eq, Nat.shiftRight_eq_div_pow]
  rw [e, e2]
  apply Nat.eq_of_testBit_eq
  intro i
  rw [Nat.testBit_and, Nat.testBit_shiftLeft, Nat.testBit_two_pow_sub_one, Nat.testBit_shiftLeft, Nat.testBit_shiftRight]
  by_cases hi : 16 ≤ i
  · rw [show 16 + (i - 16) = i by omega]
    by_cases h64 : i < 64
    · simp [hi, show i - 16 < 48 by omega]
    · have : x.testBit i = false := Nat.testBit_lt_two_pow (Nat.lt_of_lt_of_le hx (Nat.pow_le_pow_right (by decide) (by omega)))
      simp [this]
  · simp [hi]
theorem nand {v : Int} (h0 : 0 ≤ v) (h1 : v < 18446744073709551616) : bAndNot .u64 v 65535 = v / 65536 * 65536 := by
  obtain ⟨x, rfl⟩ := Int.eq_ofNat_of_zero_le h0
  refine Eq.trans (u64_andNot_nat x 65535 (by omega) (by decide)) ?_
  rw [show (18446744073709551615 : Nat) - 65535 = 18446744073709486080 from rfl, nand16 x (by omega)]
  show ((x / 65536 * 65536 : Nat) : Int) = (x : Int) / 65536 * 65536
  omega
/-- A head with another slot, a tag on. -/
def withW (hd nx : Int) : Int := (hd / 65536 * 65536 + 65536) % 18446744073709551616 + nx % 65536
theorem withW_in (hd nx : Int) : 0 ≤ withW hd nx ∧ withW hd nx < 18446744073709551616 := by unfold withW; omega
theorem withW_first {hd nx : Int} : withW hd nx % 65536 = nx % 65536 := by unfold withW; omega
theorem first_s {x : Int} (h0 : 0 ≤ x) (h1 : x < 18446744073709551616) (md : Md) (h : Heap) : C md 55 [(Value.int .u64 x)] h = some ((Value.int .u64 (x % 65536)), h) := by
  rw [C, call_eq, F55_eq]
  unfold F55
  simp only [go_sem, Nat.reduceAdd, Nat.reduceLeDiff, Nat.reduceMul, Int.reduceBEq, Int.reduceBNe, Int.reduceLT, Int.reduceLE, Int.reduceGT, and16 h0 h1]
/-- A program that takes, at its block. -/
abbrev tkC (V S T at' hd nx : Int) : List Value := [(Value.int .i64 V), (Value.int .i64 S), (Value.int .i64 T), (Value.int .i64 at'), (Value.int .u64 hd), (Value.int .u64 nx)]
abbrev gvC (V S T slot at' hd : Int) : List Value := [(Value.int .i64 V), (Value.int .i64 S), (Value.int .i64 T), (Value.int .i64 slot), (Value.int .i64 at'), (Value.int .u64 hd)]
end Go.Det.E

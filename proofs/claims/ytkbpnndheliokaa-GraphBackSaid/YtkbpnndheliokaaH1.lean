/- A graph's bits, and ways in it: in plain Lean. -/
import Derived.Test.YtkbpnndheliokaaM1
set_option autoImplicit false
set_option linter.unusedVariables false
set_option linter.unusedSimpArgs false
namespace Go.Det.E
open Go.Proofs Go.Det
/-- A way from one vertex to another one. -/
inductive Way (E : Nat → Nat → Bool) (u : Nat) : Nat → Prop
  | here : Way E u u
  | step {v w : Nat} (h : Way E u v) (e : E v w = true) : Way E u w
theorem Way.closed {E : Nat → Nat → Bool} {u : Nat} {p : Nat → Prop} (hu : p u) (hc : ∀ v w, p v → E v w = true → p w) : ∀ {w}, Way E u w → p w := by
  intro w h
  induction h with
  | here => exact hu
  | step _ e ih => exact hc _ _ ih e
theorem Way.congr {E E' : Nat → Nat → Bool} (h : ∀ v w, E v w = E' v w) {u w : Nat} (x : Way E u w) : Way E' u w := by
  induction x with
  | here => exact .here
  | step _ e ih => exact .step ih (by rw [← h]; exact e)
theorem w32 {x : Int} (h0 : 0 ≤ x) (h1 : x < 4294967296) : IntKind.wrap .u32 x = x := by
  simp only [IntKind.wrap, IntKind.bits, IntKind.signed, Bool.false_and, Bool.false_eq_true, if_false]
  omega
theorem bv32 {x : Nat} (h : x < 2 ^ 32) : (BitVec.ofInt 32 (x : Int)).toNat = x := by
  rw [BitVec.ofInt_natCast, BitVec.toNat_ofNat]; exact Nat.mod_eq_of_lt h
theorem bOr32 {x y : Nat} (hx : x < 2 ^ 32) (hy : y < 2 ^ 32) : bOr .u32 (x : Int) (y : Int) = ((x ||| y : Nat) : Int) := by
  have := Nat.or_lt_two_pow hx hy
  show IntKind.u32.wrap ((BitVec.ofInt 32 (x : Int) ||| BitVec.ofInt 32 (y : Int)).toNat : Int) = _
  rw [BitVec.toNat_or, bv32 hx, bv32 hy, w32 (by omega) (by omega)]
theorem bXor32 {x y : Nat} (hx : x < 2 ^ 32) (hy : y < 2 ^ 32) : bXor .u32 (x : Int) (y : Int) = ((x ^^^ y : Nat) : Int) := by
  have := Nat.xor_lt_two_pow hx hy
  show IntKind.u32.wrap ((BitVec.ofInt 32 (x : Int) ^^^ BitVec.ofInt 32 (y : Int)).toNat : Int) = _
  rw [BitVec.toNat_xor, bv32 hx, bv32 hy, w32 (by omega) (by omega)]
theorem bAnd32 {x : Nat} (hx : x < 2 ^ 32) : bAnd .u32 (x : Int) 1 = ((x % 2 : Nat) : Int) := by
  show IntKind.u32.wrap ((BitVec.ofInt 32 (x : Int) &&& BitVec.ofInt 32 ((1 : Nat) : Int)).toNat : Int) = _
  rw [BitVec.toNat_and, bv32 hx, bv32 (by decide), Nat.and_one_is_mod, w32 (by omega) (by omega)]
theorem sh32 {v : Int} (h0 : 0 ≤ v) (h1 : v < 32) : shOp .shl 1 v .u32 = some (.int .u32 ((2 ^ v.toNat : Nat) : Int)) := by
  unfold shOp
  rw [if_neg (by omega)]
  have hm : min v.toNat (IntKind.u32).bits = v.toNat := Nat.min_eq_left (by show v.toNat ≤ 32; omega)
  have hp : (2 : Nat) ^ v.toNat < 2 ^ 32 := Nat.pow_lt_pow_right (by omega) (by omega)
  simp only [hm]
  rw [Int.one_mul, show (2 : Int) ^ v.toNat = ((2 ^ v.toNat : Nat) : Int) by push_cast; rfl]
  generalize (2 : Nat) ^ v.toNat = p at hp ⊢
  rw [w32 (by omega) (by omega)]
/-- A bit, as the program takes it. -/
theorem bit32 {x : Nat} (hx : x < 2 ^ 32) {v : Int} (h0 : 0 ≤ v) (h1 : v < 32) : shOp .shr (x : Int) v .u32 = some (.int .u32 ((x / 2 ^ v.toNat : Nat) : Int)) ∧ (bAnd .u32 ((x / 2 ^ v.toNat : Nat) : Int) 1 == 1) = x.testBit v.toNat := by
  constructor
  · unfold shOp
    rw [if_neg (by omega)]
    have hm : min v.toNat (IntKind.u32).bits = v.toNat := Nat.min_eq_left (by show v.toNat ≤ 32; omega)
    simp only [hm]
    rw [Int.fdiv_eq_ediv_of_nonneg _ (Int.le_of_lt (Int.pow_pos (by decide)))]
    push_cast
    rfl
  · rw [bAnd32 (Nat.lt_of_le_of_lt (Nat.div_le_self _ _) hx), Nat.testBit_eq_decide_div_mod_eq]
    by_cases h : x / 2 ^ v.toNat % 2 = 1
    · simp [h]
    · have : x / 2 ^ v.toNat % 2 = 0 := by omega
      simp [this]
/-- The neighbours' bits of those that are seen. -/
def mo (nb : List Nat) (seen : Nat) : Nat → Nat
  | 0 => seen
  | k + 1 => if seen.testBit k then mo nb seen k ||| nb.getD k 0 else mo nb seen k
theorem mo_bit (nb : List Nat) (seen : Nat) : ∀ k w, (mo nb seen k).testBit w = true ↔ seen.testBit w = true ∨ ∃ v, v < k ∧ seen.testBit v = true ∧ (nb.getD v 0).testBit w = true := by
  intro k
  induction k with
  | zero => intro w; simp [mo]
  | succ k ih =>
    intro w
    rw [mo]
    split
    · rename_i hk
      rw [Nat.testBit_or, Bool.or_eq_true, ih]
      constructor
      · rintro ((h | ⟨v, h1, h2⟩) | h)
        · exact .inl h
        · exact .inr ⟨v, by omega, h2⟩
        · exact .inr ⟨k, by omega, hk, h⟩
      · rintro (h | ⟨v, h1, h2, h3⟩)
        · exact .inl (.inl h)
        · by_cases e : v = k
          · subst e; exact .inr h3
          · exact .inl (.inr ⟨v, by omega, h2, h3⟩)
    · rename_i hk
      rw [ih]
      constructor
      · rintro (h | ⟨v, h1, h2⟩)
        · exact .inl h
        · exact .inr ⟨v, by omega, h2⟩
      · rintro (h | ⟨v, h1, h2, h3⟩)
        · exact .inl h
        · by_cases e : v = k
          · subst e; exact absurd h2 hk
          · exact .inr ⟨v, by omega, h2, h3⟩
/-- Bits of so many vertices. -/
structure Nb (n : Nat) (nb : List Nat) : Prop where
  len : nb.length = 16
  lt : ∀ v : Nat, nb.getD v 0 < 2 ^ n
theorem Nb.bit {n : Nat} {nb : List Nat} (N : Nb n nb) {v w : Nat} (h : (nb.getD v 0).testBit w = true) : w < n := by
  rcases Nat.lt_or_ge w n with h1 | h1
  · exact h1
  · have := Nat.testBit_lt_two_pow (Nat.lt_of_lt_of_le (N.lt v) (Nat.pow_le_pow_right (by omega) h1))
    rw [this] at h; cases h
theorem mo_lt {n : Nat} {nb : List Nat} (N : Nb n nb) {seen : Nat} (hs : seen < 2 ^ n) : ∀ k, mo nb seen k < 2 ^ n := by
  intro k
  induction k with
  | zero => exact hs
  | succ k ih =>
    rw [mo]
    split
    · exact Nat.or_lt_two_pow ih (N.lt k)
    · exact ih
/-- Edges by bits. -/
def eB (n : Nat) (nb : List Nat) (v w : Nat) : Bool := decide (v < n) && (nb.getD v 0).testBit w
def unseen (n seen : Nat) : Nat := ((List.range n).filter fun w => !seen.testBit w).length
theorem filter_less {p q : Nat → Bool} : ∀ (l : List Nat), (∀ w ∈ l, q w = true → p w = true) → (∃ w ∈ l, p w = true ∧ q w = false) → (l.filter q).length < (l.filter p).length := by
  have le : ∀ (l : List Nat), (∀ w ∈ l, q w = true → p w = true) → (l.filter q).length ≤ (l.filter p).length := by
    intro l
    induction l with
    | nil => intro _; exact Nat.le_refl _
    | cons x l ih =>
      intro h
      have := ih fun w hw => h w (by simp [hw])
      have hx := h x (by simp)
      simp only [List.filter_cons]
      cases hq : q x
      · cases hp : p x <;> simp <;> omega
      · rw [hq] at hx; rw [hx rfl]; simp; omega
  intro l
  induction l with
  | nil => intro _ ⟨w, hw, _⟩; simp at hw
  | cons x l ih =>
    intro h ⟨w, hw, h1, h2⟩
    have hx := h x (by simp)
    simp only [List.filter_cons]
    rcases List.mem_cons.1 hw with rfl | hw
    · rw [h1, h2]
      have := le l fun w hw => h w (by simp [hw])
      simp; omega
    · have := ih (fun w hw => h w (by simp [hw])) ⟨w, hw, h1, h2⟩
      cases hq : q x
      · cases hp : p x <;> simp <;> omega
      · rw [hq] at hx; rw [hx rfl]; simp; omega
/-- What is not yet the whole becomes more. -/
theorem more_less {n : Nat} {nb : List Nat} (N : Nb n nb) {seen : Nat} (hs : seen < 2 ^ n) (hne : mo nb seen n ≠ seen) : unseen n (mo nb seen n) < unseen n seen := by
  obtain ⟨w, hw⟩ : ∃ w, (mo nb seen n).testBit w ≠ seen.testBit w := by
    refine Classical.byContradiction fun h => hne (Nat.eq_of_testBit_eq fun w => Classical.byContradiction fun q => h ⟨w, q⟩)
  have sub : ∀ w, seen.testBit w = true → (mo nb seen n).testBit w = true := fun w h => (mo_bit nb seen n w).2 (.inl h)
  have h1 : seen.testBit w = false := by
    cases h : seen.testBit w
    · rfl
    · exact absurd ((sub w h).trans h.symm) hw
  have h2 : (mo nb seen n).testBit w = true := by
    cases h : (mo nb seen n).testBit w
    · exact absurd (h.trans h1.symm) hw
    · rfl
  have hwn : w < n := by
    rcases (mo_bit nb seen n w).1 h2 with h | ⟨v, _, _, h⟩
    · rw [h1] at h; cases h
    · exact N.bit h
  refine filter_less _ (fun x _ hx => ?_) ⟨w, List.mem_range.2 hwn, by rw [h1]; rfl, by rw [h2]; rfl⟩
  cases h : seen.testBit x
  · rfl
  · rw [sub x h] at hx; cases hx
/-- A whole is all to which there is a way. -/
theorem whole_way {n : Nat} {nb : List Nat} {seen u : Nat} (hu : seen.testBit u = true) (hw : ∀ w, seen.testBit w = true → Way (eB n nb) u w) (he : mo nb seen n = seen) (w : Nat) : seen.testBit w = true ↔ Way (eB n nb) u w := by
  refine ⟨hw w, fun h => ?_⟩
  refine Way.closed (p := fun w => seen.testBit w = true) hu (fun v w h1 h2 => ?_) h
  unfold eB at h2
  simp only [Bool.and_eq_true, decide_eq_true_eq] at h2
  rw [← he]
  exact (mo_bit nb seen n w).2 (.inr ⟨v, h2.1, h1, h2.2⟩)
theorem more_way {n : Nat} {nb : List Nat} {seen u : Nat} (hw : ∀ w, seen.testBit w = true → Way (eB n nb) u w) (w : Nat) (h : (mo nb seen n).testBit w = true) : Way (eB n nb) u w := by
  rcases (mo_bit nb seen n w).1 h with h | ⟨v, h1, h2, h3⟩
  · exact hw w h
  · exact .step (hw v h2) (by unfold eB; rw [h3]; simp [h1])
end Go.Det.E

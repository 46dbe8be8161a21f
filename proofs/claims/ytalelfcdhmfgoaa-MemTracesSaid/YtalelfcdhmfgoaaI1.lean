/- Slices of whole numbers and of pairs: what is read of them. -/
import Derived.Test.YtalelfcdhmfgoaaN1
set_option autoImplicit false
set_option linter.unusedVariables false
set_option linter.unusedSimpArgs false
namespace Go.Det
abbrev eZ (x : Int) : List Value := [(Value.int .i64 x)]
theorem eZ_len (x : Int) : (eZ x).length = 1 := rfl
abbrev eZ2 (x : Int × Int) : List Value := [(Value.int .i64 x.1), (Value.int .i64 x.2)]
theorem eZ2_len (x : Int × Int) : (eZ2 x).length = 2 := rfl
variable {h : Heap} {v : Value}
theorem Sl.getI {xs : List Int} (S : Sl h 1 eZ v xs) {k : Nat} {x : Int} (hx : xs[k]? = some x) :
    (∀ {α : Type} (kk : Value → Option α), ixS 1 v (k : Int) kk = kk ((Value.pointer (some ⟨slB v, slO v + k, none⟩)))) ∧ rd h (slB v) (slO v + k) = some ((Value.int .i64 x)) := by
  have h1 : k < xs.length := (List.getElem?_eq_some_iff.1 hx).1
  refine ⟨fun kk => ?_, ?_⟩
  · rw [S.ix (by omega) (by omega) kk, Nat.mul_one, Int.toNat_natCast]
  · have := S.cell hx (j := 0) (by decide)
    rw [Nat.mul_one, Nat.add_zero] at this
    exact this
theorem Sl.getE {xs : List (Int × Int)} (S : Sl h 2 eZ2 v xs) {k : Nat} {x : Int × Int} (hx : xs[k]? = some x) :
    (∀ {α : Type} (kk : Value → Option α), ixS 2 v (k : Int) kk = kk ((Value.pointer (some ⟨slB v, slO v + k * 2, none⟩)))) ∧ rd h (slB v) (slO v + k * 2) = some ((Value.int .i64 x.1)) ∧ rd h (slB v) (slO v + k * 2 + 1) = some ((Value.int .i64 x.2)) := by
  have h1 : k < xs.length := (List.getElem?_eq_some_iff.1 hx).1
  refine ⟨fun kk => ?_, ?_, ?_⟩
  · rw [S.ix (by omega) (by omega) kk, Int.toNat_natCast]
  · have := S.cell hx (j := 0) (by decide)
    rw [Nat.add_zero] at this
    exact this
  · have := S.cell hx (j := 1) (by decide)
    exact this
end Go.Det

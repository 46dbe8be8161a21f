/- A row, replayed on any memory, goes on up to the first load that tells another number. -/
import Derived.Test.YtalelfcdhmfgoaaT1
set_option autoImplicit false
set_option linter.unusedVariables false
set_option linter.unusedSimpArgs false
namespace Go.Det.E
open Go.Proofs Go.Det
attribute [local congr] bind_c cond_c
set_option maxRecDepth 100000 in
theorem awake06 (md : Md) (h : Heap) : C md 4 [] h = some ((Value.bool true), h) := free_ok 200 200 (by kernel_rfl) (by kernel_rfl) md h
variable {h hh h' : Heap} {a b k n0 : Nat} {l c cells : List Int} {v sv rv : Value} {row : List Acc}
theorem getI_at {l : List Int} {i : Int} (hi : 0 ≤ i ∧ i < l.length) : l[i.toNat]? = some (getI l i) := by
  rw [getI_in hi, List.getD, List.getElem?_eq_getElem (by omega)]; rfl
/-- A number of one's own list. -/
theorem Sl.ureadI {v : Value} (S : Sl h 1 encU v l) {i : Int} (hi : 0 ≤ i ∧ i < l.length) :
    (∀ {α : Type} (kk : Value → Option α), ixS 1 v i kk = kk ((Value.pointer (some ⟨slB v, slO v + i.toNat, none⟩)))) ∧ rd h (slB v) (slO v + i.toNat) = some ((Value.int .u64 (getI l i))) := by
  refine ⟨fun kk => ?_, ?_⟩
  · rw [S.ix hi.1 hi.2 kk, Nat.mul_one]
  · have := S.cell (getI_at hi) (j := 0) (by decide)
    rw [Nat.mul_one, Nat.add_zero] at this
    exact this
theorem SlO.uput {md : Md} {v : Value} (S : SlO h n0 1 encU v l) (hro : md.ro ≤ n0) {i : Int} (hi : 0 ≤ i ∧ i < l.length) (x : Int) :
    ∃ h', wrN md h (slB v) (slO v + i.toNat) [(Value.int .u64 x)] = some h' ∧ SlO h' n0 1 encU v (putI l i x) ∧ (∀ b, b ≠ slB v → h'[b]? = h[b]?) ∧ h'.length = h.length := by
  obtain ⟨h', e, S', f, l', _⟩ := S.write hro (getI_at hi) (j := 0) (x' := x) (w := (Value.int .u64 x)) (by decide) rfl rfl
  rw [Nat.mul_one, Nat.add_zero] at e
  rw [putI_in hi]
  exact ⟨h', e, S', f, l'⟩
end Go.Det.E

/- Two traces over one arena know nothing of each other. -/
import Derived.Test.YtalelfcdhmfgoaaT4
set_option autoImplicit false
set_option linter.unusedVariables false
set_option linter.unusedSimpArgs false
namespace Go.Det.E
open Go.Proofs Go.Det
attribute [local congr] bind_c cond_c
/-- The three traces of the law: one, the other, and one alone. -/
structure Th (h hh : Heap) (k1 a1 b1 k2 a2 b2 k3 a3 b3 : Nat) (l1 l2 : List Int) (r1 r2 r3 : Value) (w1 w2 : List Acc) : Prop where
  T1 : Tr hh h.length k1 a1 b1 l1 r1 w1
  T2 : Tr hh h.length k2 a2 b2 l2 r2 w2
  T3 : Tr hh h.length k3 a3 b3 l1 r3 w1
  d12 : ∀ y, ft a1 b1 k1 r1 y → ¬ ft a2 b2 k2 r2 y
  d13 : ∀ y, ft a1 b1 k1 r1 y → ¬ ft a3 b3 k3 r3 y
  d23 : ∀ y, ft a2 b2 k2 r2 y → ¬ ft a3 b3 k3 r3 y
  O : Old h.length h hh
variable {h hh h' : Heap} {k1 a1 b1 k2 a2 b2 k3 a3 b3 n : Nat} {l1 l2 : List Int} {r1 r2 r3 v v' s0 s4 : Value} {w1 w2 ops1 ops2 : List Acc}
theorem Sl.xcell {h : Heap} {v : Value} {xs : List Acc} (S : Sl h 3 encX v xs) {k : Nat} {x : Acc} (hx : xs[k]? = some x) :
    (∀ {α : Type} (kk : Value → Option α), ixS 3 v (k : Int) kk = kk ((Value.pointer (some ⟨slB v, slO v + k * 3, none⟩)))) ∧ rd h (slB v) (slO v + k * 3) = some ((Value.bool x.s)) ∧ rd h (slB v) (slO v + k * 3 + 1) = some ((Value.int .i64 x.i)) ∧ rd h (slB v) (slO v + k * 3 + 2) = some ((Value.int .u64 x.v)) ∧ rdN h (slB v) (slO v + k * 3) 3 = some (encX x) := by
  have h1 : k < xs.length := (List.getElem?_eq_some_iff.1 hx).1
  refine ⟨fun kk => ?_, ?_, ?_, ?_, S.elem hx⟩
  · rw [S.ix (by omega) (by omega) kk]; rfl
  · have := S.cell hx (j := 0) (by decide)
    rw [Nat.add_zero] at this; exact this
  · exact S.cell hx (j := 1) (by decide)
  · exact S.cell hx (j := 2) (by decide)
/-- An act of the second. -/
theorem Th.two {l2' : List Int} {r2' : Value} {w2' : List Acc} (P : Th h hh k1 a1 b1 k2 a2 b2 k3 a3 b3 l1 l2 r1 r2 r3 w1 w2) (T : Tr h' h.length k2 a2 b2 l2' r2' w2') (hl : hh.length ≤ h'.length)
    (f : ∀ y, y < hh.length → ¬ ft a2 b2 k2 r2 y → h'[y]? = hh[y]?) (g : ∀ y, ft a2 b2 k2 r2' y → ft a2 b2 k2 r2 y ∨ hh.length ≤ y) : Th h h' k1 a1 b1 k2 a2 b2 k3 a3 b3 l1 l2' r1 r2' r3 w1 w2' := by
  have gl := P.O.len
  refine ⟨P.T1.keep fun y hy => f y (P.T1.lt y hy) (P.d12 y hy), T, P.T3.keep fun y hy => f y (P.T3.lt y hy) fun q => P.d23 y q hy, fun y h1 h2 => ?_, P.d13, fun y h1 h2 => ?_, ⟨by omega, fun y hy => ?_⟩⟩
  · rcases g y h2 with q | q
    · exact P.d12 y h1 q
    · have := P.T1.lt y h1; omega
  · rcases g y h1 with q | q
    · exact P.d23 y q h2
    · have := P.T3.lt y h2; omega
  · rw [f y (by omega) (fun q => by have := P.T2.ge y q; omega)]; exact P.O.old y hy
/-- An act of the first, and the same of the one alone. -/
theorem Th.one {hm : Heap} {l1' : List Int} {r1' r3' : Value} {w1' : List Acc} (P : Th h hh k1 a1 b1 k2 a2 b2 k3 a3 b3 l1 l2 r1 r2 r3 w1 w2) (T1 : Tr hm h.length k1 a1 b1 l1' r1' w1') (hl : hh.length ≤ hm.length)
    (f : ∀ y, y < hh.length → ¬ ft a1 b1 k1 r1 y → hm[y]? = hh[y]?) (g : ∀ y, ft a1 b1 k1 r1' y → ft a1 b1 k1 r1 y ∨ hh.length ≤ y) (T3 : Tr h' h.length k3 a3 b3 l1' r3' w1') (hl' : hm.length ≤ h'.length)
    (f' : ∀ y, y < hm.length → ¬ ft a3 b3 k3 r3 y → h'[y]? = hm[y]?) (g' : ∀ y, ft a3 b3 k3 r3' y → ft a3 b3 k3 r3 y ∨ hm.length ≤ y) : Th h h' k1 a1 b1 k2 a2 b2 k3 a3 b3 l1' l2 r1' r2 r3' w1' w2 := by
  have gl := P.O.len
  have d13' : ∀ y, ft a1 b1 k1 r1' y → ¬ ft a3 b3 k3 r3 y := fun y h1 h2 => by
    rcases g y h1 with q | q
    · exact P.d13 y q h2
    · have := P.T3.lt y h2; omega
  refine ⟨T1.keep fun y hy => f' y (T1.lt y hy) (d13' y hy), P.T2.keep fun y hy => ?_, T3, fun y h1 h2 => ?_, fun y h1 h2 => ?_, fun y h1 h2 => ?_, ⟨by omega, fun y hy => ?_⟩⟩
  · have := P.T2.lt y hy
    rw [f' y (by omega) (P.d23 y hy), f y this fun q => P.d12 y q hy]
  · rcases g y h1 with q | q
    · exact P.d12 y q h2
    · have := P.T2.lt y h2; omega
  · rcases g' y h2 with q | q
    · exact d13' y h1 q
    · have := T1.lt y h1; omega
  · rcases g' y h2 with q | q
    · exact P.d23 y h1 q
    · have := P.T2.lt y h1; omega
  · rw [f' y (by omega) (fun q => by have := P.T3.ge y q; omega), f y (by omega) (fun q => by have := P.T1.ge y q; omega)]; exact P.O.old y hy
theorem neX {α : Type} (x : Acc) (k : Value → Option α) : aBin Try.prog .neq 37 ((Value.agg #[(Value.bool x.s), (Value.int .i64 x.i), (Value.int .u64 x.v)])) ((Value.agg #[(Value.bool x.s), (Value.int .i64 x.i), (Value.int .u64 x.v)])) k = k (.bool false) := by
  have e : ∀ k : Value → Option α, aBin Try.prog .neq 37 ((Value.agg #[(Value.bool x.s), (Value.int .i64 x.i), (Value.int .u64 x.v)])) ((Value.agg #[(Value.bool x.s), (Value.int .i64 x.i), (Value.int .u64 x.v)])) k = k (.bool (!(x.s == x.s && (x.i == x.i && (x.v == x.v && true))))) := fun k =>
    aBin_neqA (xs := [_, _, _]) (ys := [_, _, _]) (ks := [.b, .i, .i]) (by kernel_rfl) (by kernel_rfl) (by kernel_rfl) rfl rfl (cellsEq_b (cellsEq_i (cellsEq_i cellsEq_n)))
  rw [e]
  simp
end Go.Det.E

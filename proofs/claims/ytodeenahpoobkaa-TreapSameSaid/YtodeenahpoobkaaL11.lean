/- The document's cells: all of them. -/
import Derived.Test.YtodeenahpoobkaaL10
set_option autoImplicit false
set_option linter.unusedVariables false
set_option linter.unusedSimpArgs false
namespace Go.Det.E
open Go.Proofs Go.Det
attribute [local congr] bind_c cond_c
variable {md : Md} {n0 b0 : Nat} {n l sn tn : Nat}
theorem cEd_len (n k : Nat) (hn : n ≤ 16) (hk : k ≤ n) : (cEd n k).length ≤ 16 * k := by
  induction k with
  | zero => simp [cEd]
  | succ k ih => rw [cEd_s, List.length_append]; have := ih (by omega); simp [cEr]; omega
theorem _root_.Go.Det.SlO.old {ε : Type} {h h' : Heap} {n0 sz : Nat} {enc : ε → List Value} {v : Value} {xs : List ε} (S : SlO h n0 sz enc v xs) (O : Old h.length h h') : SlO h' n0 sz enc v xs :=
  ⟨S.sl.heap fun hb => O.old _ hb, S.own.imp id fun ⟨h1, cs, h2⟩ => ⟨h1, cs, (O.old _ (List.getElem?_eq_some_iff.1 h2).1).trans h2⟩⟩
/-- All cells' names, in order. -/
def cellL (n sn tn l nn : Nat) : List N4 := ((((cSt tn ++ [(2, 0, 0, 0)]) ++ cSl sn) ++ cHe l n) ++ cEd n n) ++ cFi nn
end Go.Det.E

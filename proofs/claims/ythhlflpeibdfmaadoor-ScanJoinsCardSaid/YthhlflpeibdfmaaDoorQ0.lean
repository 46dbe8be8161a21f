/- Scanning: what stands for the functions that are taken by their contracts. -/
import Derived.Test.YthhlflpeibdfmaaDoorDetR
import Derived.Shelf.Strconv.Itoa3
import Derived.Lib.Join
set_option autoImplicit false
namespace Go.Det.E
open Go.Proofs Go.Det
def digsF : Nat → Nat → List UInt8
  | 0, _ => []
  | k + 1, u => if u < 10 then [UInt8.ofNat (48 + u)] else digsF k (u / 10) ++ [UInt8.ofNat (48 + u % 10)]
theorem digsF_eq : ∀ (k u : Nat), u < 10 ^ (k + 1) → digsF (k + 1) u = Lib.decDigits u := by
  intro k
  induction k with
  | zero => intro u hu; rw [Lib.decDigits, dif_pos (by simpa using hu), digsF, if_pos (by simpa using hu)]
  | succ k ih =>
    intro u hu
    rw [Lib.decDigits, digsF]
    by_cases h : u < 10
    · rw [if_pos h, dif_pos h]
    · rw [if_neg h, dif_neg h, ih (u / 10) (by rw [Nat.pow_succ] at hu; omega)]
def itoaF (n : Int) : List UInt8 := if n < 0 then 45 :: digsF 20 n.natAbs else digsF 20 n.toNat
theorem itoaF_eq {n : Int} (h0 : -9223372036854775808 ≤ n) (h1 : n ≤ 9223372036854775807) : itoaF n = Lib.itoa n := by
  have p : (10 : Nat) ^ 20 = 100000000000000000000 := by decide
  unfold itoaF Lib.itoa
  split
  · rw [digsF_eq 19 _ (by rw [p]; omega)]
  · rw [digsF_eq 19 _ (by rw [p]; omega)]
def extItoa : Value → Option Value
  | .int .i64 n => if -9223372036854775808 ≤ n ∧ n ≤ 9223372036854775807 then some (.string ⟨(itoaF n).toArray⟩) else none
  | _ => none
def strsOf : List Value → Option (List ByteArray)
  | [] => some []
  | .string s :: r => match strsOf r with | some l => some (s :: l) | none => none
  | _ => none
def extJoin (h : Heap) : Value → Value → Option Value
  | .slice none 0 0, .string _ => some (.string ⟨#[]⟩)
  | .slice (some ⟨b, o, none⟩) n 1, .string s =>
    (match rdN h b o n with
    | some l => (match strsOf l with
      | some xs => if n ≤ 140737488355328 ∧ (Lib.join (xs.map (·.data.toList)) s.data.toList).length ≤ 140737488355328 then some (.string ⟨(Lib.join (xs.map (·.data.toList)) s.data.toList).toArray⟩) else none
      | none => none)
    | none => none)
  | _, _ => none
def extX : FuncId → List Value → Heap → Option Value := fun f args h =>
  match args with
  | [v] => bif Nat.beq f 29 then extItoa v else none
  | [v, s] => bif Nat.beq f 23 then extJoin h v s else none
  | _ => none
end Go.Det.E

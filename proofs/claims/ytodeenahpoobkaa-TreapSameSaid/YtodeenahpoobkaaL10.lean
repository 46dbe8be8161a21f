/- The document's cells. -/
import Derived.Test.YtodeenahpoobkaaL7
import Derived.Test.YtodeenahpoobkaaL5
set_option autoImplicit false
set_option linter.unusedVariables false
set_option linter.unusedSimpArgs false
namespace Go.Det.E
open Go.Proofs Go.Det
attribute [local congr] bind_c cond_c
abbrev N4 := Int × Int × Int × Int
def cSt (k : Nat) : List N4 := (List.range k).map fun i : Nat => (1, (i : Int) + 1, 0, 0)
def slot7 (s : Nat) : List N4 := [(3, (s : Int), 0, 0), (4, (s : Int), 0, 0), (5, (s : Int), 0, 0), (6, (s : Int), 0, 0), (6, (s : Int), 1, 0), (7, (s : Int), 0, 0), (7, (s : Int), 1, 0)]
def cSl (k : Nat) : List N4 := (List.range k).flatMap slot7
def cHr (v k : Nat) : List N4 := (List.range k).map fun i : Nat => (8, (v : Int), (i : Int), 0)
def cHe (l k : Nat) : List N4 := (List.range k).flatMap fun v => cHr v l
def cEr (a k : Nat) : List N4 := (List.range k).map fun d : Nat => (9, (a : Int), ((a + 1 + d : Nat) : Int), 0)
def cEd (n k : Nat) : List N4 := (List.range k).flatMap fun a => cEr a (n - 1 - a)
def cFr (x k : Nat) : List N4 := (List.range k).map fun f : Nat => (10, ((x + 1 : Nat) : Int), (f : Int), 0)
def cFi (k : Nat) : List N4 := (List.range k).flatMap fun x => cFr x 7
theorem cSt_s (k : Nat) : cSt (k + 1) = cSt k ++ [(1, (k : Int) + 1, 0, 0)] := by simp [cSt, List.range_succ]
theorem cSl_s (k : Nat) : cSl (k + 1) = cSl k ++ slot7 k := by simp [cSl, List.range_succ]
theorem cHr_s (v k : Nat) : cHr v (k + 1) = cHr v k ++ [(8, (v : Int), (k : Int), 0)] := by simp [cHr, List.range_succ]
theorem cHe_s (l k : Nat) : cHe l (k + 1) = cHe l k ++ cHr k l := by simp [cHe, List.range_succ]
theorem cEr_s (a k : Nat) : cEr a (k + 1) = cEr a k ++ [(9, (a : Int), ((a + 1 + k : Nat) : Int), 0)] := by simp [cEr, List.range_succ]
theorem cEd_s (n k : Nat) : cEd n (k + 1) = cEd n k ++ cEr k (n - 1 - k) := by simp [cEd, List.range_succ]
theorem cFr_s (x k : Nat) : cFr x (k + 1) = cFr x k ++ [(10, ((x + 1 : Nat) : Int), (k : Int), 0)] := by simp [cFr, List.range_succ]
theorem cFi_s (k : Nat) : cFi (k + 1) = cFi k ++ cFr k 7 := by simp [cFi, List.range_succ]
variable {md : Md} {n0 b0 : Nat} {n l sn tn : Nat}
end Go.Det.E

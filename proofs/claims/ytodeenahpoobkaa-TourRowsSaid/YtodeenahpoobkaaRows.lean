/-
  No cell of these rows narrows 'for every input' (looked for: loops, veiled, ifaces, maps, wideKeys, modest, calm, conditions, laid).
  DERIVED. THE GIVEN ROWS OF THIS SEAT. 10 by the template 'for every input the law returns true; each argument reads behind the call as it read before'; 0 by the template 'total and deterministic' (their statements: YtodeenahpoobkaaTotals.lean).
  GIVEN WITH THE SEED: the statements are not yours to turn. If you find one false, say at which input.
  Laid BY PROGRAM, IN A SANDBOX (cutbox-rows.mjs): the forced cells as the released guide's own fill.sh prints them over the translation 1f5b0bcff6cc85ec… (all of the seat's roots in one cut). By AI agents, Wed Nov 11 2026. No macro, syntax, notation, axiom, sorry.
-/
import Derived.Test.YtodeenahpoobkaaChecked
import GoSem.Claim
import GoSem.ClaimJoined
import GoSem.ClaimMapViews
import Derived.JoinedTies
import Derived.KernelRfl
namespace Go.Proofs.Ytodeenahpoobkaa
/- THE CELL 'sum', in the pinned program and in every row, IS THE sha256 OF THE DUMP (.gsa) THAT YtodeenahpoobkaaProg.lean LOADS. Nothing in Lean hashes anything: it is a label: what it is worth is what the hold of that sum in a sandbox is worth. -/
noncomputable def Try.pinned : Pinned := { name := "ytodeenahpoobkaa", sum := "1f5b0bcff6cc85ecf33bf9f9768d937397b3373103e46c17656a9c06c1621430", checked := Try.checked }
namespace Rows
def none {H : Type} : Left H := { results := [], args := [] }

/-- 'tombololaw09.TreapPlays': WHATEVER THE INPUT: true; the input reads as it did. -/
def treapPlaysSpec : ChangeSpec := { name := "treapPlays", fn := fun _ => fun
  | [d] => { results := [.lit (.bool true)], args := [d] }
  | _ => none }
def treapPlaysRow : OpenClaim := { program := "ytodeenahpoobkaa", sum := "1f5b0bcff6cc85ecf33bf9f9768d937397b3373103e46c17656a9c06c1621430", func := "tombolo/tombololaw09.TreapPlays", spec := "treapPlays", unfollowed := true, recurses := true, apart := false }
def TreapPlaysSaid : Prop := treapPlaysRow.holds Try.pinned (OpenSpec.ofChange treapPlaysSpec)

/-- ITS FALSE NEIGHBOUR: 'it returns false'. Refute it at one input. -/
def treapPlaysWrong : ChangeSpec := { name := "treapPlays", fn := fun _ => fun
  | [d] => { results := [.lit (.bool false)], args := [d] }
  | _ => none }
def TreapPlaysWrongFalsely : Prop := treapPlaysRow.holds Try.pinned (OpenSpec.ofChange treapPlaysWrong)

/-- 'tombololaw09.TreapTells': WHATEVER THE INPUT: true; the input reads as it did. -/
def treapTellsSpec : ChangeSpec := { name := "treapTells", fn := fun _ => fun
  | [d] => { results := [.lit (.bool true)], args := [d] }
  | _ => none }
def treapTellsRow : OpenClaim := { program := "ytodeenahpoobkaa", sum := "1f5b0bcff6cc85ecf33bf9f9768d937397b3373103e46c17656a9c06c1621430", func := "tombolo/tombololaw09.TreapTells", spec := "treapTells", unfollowed := true, recurses := true, apart := false }
def TreapTellsSaid : Prop := treapTellsRow.holds Try.pinned (OpenSpec.ofChange treapTellsSpec)

/-- ITS FALSE NEIGHBOUR: 'it returns false'. Refute it at one input. -/
def treapTellsWrong : ChangeSpec := { name := "treapTells", fn := fun _ => fun
  | [d] => { results := [.lit (.bool false)], args := [d] }
  | _ => none }
def TreapTellsWrongFalsely : Prop := treapTellsRow.holds Try.pinned (OpenSpec.ofChange treapTellsWrong)

/-- 'tombololaw09.TreapBack': WHATEVER THE INPUT: true; the input reads as it did. -/
def treapBackSpec : ChangeSpec := { name := "treapBack", fn := fun _ => fun
  | [d1, d2, d3] => { results := [.lit (.bool true)], args := [d1, d2, d3] }
  | _ => none }
def treapBackRow : OpenClaim := { program := "ytodeenahpoobkaa", sum := "1f5b0bcff6cc85ecf33bf9f9768d937397b3373103e46c17656a9c06c1621430", func := "tombolo/tombololaw09.TreapBack", spec := "treapBack", unfollowed := true, recurses := true, apart := false }
def TreapBackSaid : Prop := treapBackRow.holds Try.pinned (OpenSpec.ofChange treapBackSpec)

/-- ITS FALSE NEIGHBOUR: 'it returns false'. Refute it at one input. -/
def treapBackWrong : ChangeSpec := { name := "treapBack", fn := fun _ => fun
  | [d1, d2, d3] => { results := [.lit (.bool false)], args := [d1, d2, d3] }
  | _ => none }
def TreapBackWrongFalsely : Prop := treapBackRow.holds Try.pinned (OpenSpec.ofChange treapBackWrong)

/-- 'tombololaw09.TreapSame': WHATEVER THE INPUT: true; the input reads as it did. -/
def treapSameSpec : ChangeSpec := { name := "treapSame", fn := fun _ => fun
  | [d] => { results := [.lit (.bool true)], args := [d] }
  | _ => none }
def treapSameRow : OpenClaim := { program := "ytodeenahpoobkaa", sum := "1f5b0bcff6cc85ecf33bf9f9768d937397b3373103e46c17656a9c06c1621430", func := "tombolo/tombololaw09.TreapSame", spec := "treapSame", unfollowed := true, recurses := true, apart := false }
def TreapSameSaid : Prop := treapSameRow.holds Try.pinned (OpenSpec.ofChange treapSameSpec)

/-- ITS FALSE NEIGHBOUR: 'it returns false'. Refute it at one input. -/
def treapSameWrong : ChangeSpec := { name := "treapSame", fn := fun _ => fun
  | [d] => { results := [.lit (.bool false)], args := [d] }
  | _ => none }
def TreapSameWrongFalsely : Prop := treapSameRow.holds Try.pinned (OpenSpec.ofChange treapSameWrong)

/-- 'tombololaw09.TreapFirst': WHATEVER THE INPUT: true; the input reads as it did. -/
def treapFirstSpec : ChangeSpec := { name := "treapFirst", fn := fun _ => fun
  | [d1, d2] => { results := [.lit (.bool true)], args := [d1, d2] }
  | _ => none }
def treapFirstRow : OpenClaim := { program := "ytodeenahpoobkaa", sum := "1f5b0bcff6cc85ecf33bf9f9768d937397b3373103e46c17656a9c06c1621430", func := "tombolo/tombololaw09.TreapFirst", spec := "treapFirst", unfollowed := true, recurses := true, apart := false }
def TreapFirstSaid : Prop := treapFirstRow.holds Try.pinned (OpenSpec.ofChange treapFirstSpec)

/-- ITS FALSE NEIGHBOUR: 'it returns false'. Refute it at one input. -/
def treapFirstWrong : ChangeSpec := { name := "treapFirst", fn := fun _ => fun
  | [d1, d2] => { results := [.lit (.bool false)], args := [d1, d2] }
  | _ => none }
def TreapFirstWrongFalsely : Prop := treapFirstRow.holds Try.pinned (OpenSpec.ofChange treapFirstWrong)

/-- 'tombololaw10.TourPlays': WHATEVER THE INPUT: true; the input reads as it did. -/
def tourPlaysSpec : ChangeSpec := { name := "tourPlays", fn := fun _ => fun
  | [d] => { results := [.lit (.bool true)], args := [d] }
  | _ => none }
def tourPlaysRow : OpenClaim := { program := "ytodeenahpoobkaa", sum := "1f5b0bcff6cc85ecf33bf9f9768d937397b3373103e46c17656a9c06c1621430", func := "tombolo/tombololaw10.TourPlays", spec := "tourPlays", unfollowed := true, recurses := true, apart := false }
def TourPlaysSaid : Prop := tourPlaysRow.holds Try.pinned (OpenSpec.ofChange tourPlaysSpec)

/-- ITS FALSE NEIGHBOUR: 'it returns false'. Refute it at one input. -/
def tourPlaysWrong : ChangeSpec := { name := "tourPlays", fn := fun _ => fun
  | [d] => { results := [.lit (.bool false)], args := [d] }
  | _ => none }
def TourPlaysWrongFalsely : Prop := tourPlaysRow.holds Try.pinned (OpenSpec.ofChange tourPlaysWrong)

/-- 'tombololaw10.TourJoins': WHATEVER THE INPUT: true; the input reads as it did. -/
def tourJoinsSpec : ChangeSpec := { name := "tourJoins", fn := fun _ => fun
  | [d] => { results := [.lit (.bool true)], args := [d] }
  | _ => none }
def tourJoinsRow : OpenClaim := { program := "ytodeenahpoobkaa", sum := "1f5b0bcff6cc85ecf33bf9f9768d937397b3373103e46c17656a9c06c1621430", func := "tombolo/tombololaw10.TourJoins", spec := "tourJoins", unfollowed := true, recurses := true, apart := false }
def TourJoinsSaid : Prop := tourJoinsRow.holds Try.pinned (OpenSpec.ofChange tourJoinsSpec)

/-- ITS FALSE NEIGHBOUR: 'it returns false'. Refute it at one input. -/
def tourJoinsWrong : ChangeSpec := { name := "tourJoins", fn := fun _ => fun
  | [d] => { results := [.lit (.bool false)], args := [d] }
  | _ => none }
def TourJoinsWrongFalsely : Prop := tourJoinsRow.holds Try.pinned (OpenSpec.ofChange tourJoinsWrong)

/-- 'tombololaw10.TourRows': WHATEVER THE INPUT: true; the input reads as it did. -/
def tourRowsSpec : ChangeSpec := { name := "tourRows", fn := fun _ => fun
  | [d] => { results := [.lit (.bool true)], args := [d] }
  | _ => none }
def tourRowsRow : OpenClaim := { program := "ytodeenahpoobkaa", sum := "1f5b0bcff6cc85ecf33bf9f9768d937397b3373103e46c17656a9c06c1621430", func := "tombolo/tombololaw10.TourRows", spec := "tourRows", unfollowed := true, recurses := true, apart := false }
def TourRowsSaid : Prop := tourRowsRow.holds Try.pinned (OpenSpec.ofChange tourRowsSpec)

/-- ITS FALSE NEIGHBOUR: 'it returns false'. Refute it at one input. -/
def tourRowsWrong : ChangeSpec := { name := "tourRows", fn := fun _ => fun
  | [d] => { results := [.lit (.bool false)], args := [d] }
  | _ => none }
def TourRowsWrongFalsely : Prop := tourRowsRow.holds Try.pinned (OpenSpec.ofChange tourRowsWrong)

/-- 'tombololaw10.TourBack': WHATEVER THE INPUT: true; the input reads as it did. -/
def tourBackSpec : ChangeSpec := { name := "tourBack", fn := fun _ => fun
  | [d1, d2] => { results := [.lit (.bool true)], args := [d1, d2] }
  | _ => none }
def tourBackRow : OpenClaim := { program := "ytodeenahpoobkaa", sum := "1f5b0bcff6cc85ecf33bf9f9768d937397b3373103e46c17656a9c06c1621430", func := "tombolo/tombololaw10.TourBack", spec := "tourBack", unfollowed := true, recurses := true, apart := false }
def TourBackSaid : Prop := tourBackRow.holds Try.pinned (OpenSpec.ofChange tourBackSpec)

/-- ITS FALSE NEIGHBOUR: 'it returns false'. Refute it at one input. -/
def tourBackWrong : ChangeSpec := { name := "tourBack", fn := fun _ => fun
  | [d1, d2] => { results := [.lit (.bool false)], args := [d1, d2] }
  | _ => none }
def TourBackWrongFalsely : Prop := tourBackRow.holds Try.pinned (OpenSpec.ofChange tourBackWrong)

/-- 'tombololaw10.TourBegins': WHATEVER THE INPUT: true; the input reads as it did. -/
def tourBeginsSpec : ChangeSpec := { name := "tourBegins", fn := fun _ => fun
  | [d1, d2, d3] => { results := [.lit (.bool true)], args := [d1, d2, d3] }
  | _ => none }
def tourBeginsRow : OpenClaim := { program := "ytodeenahpoobkaa", sum := "1f5b0bcff6cc85ecf33bf9f9768d937397b3373103e46c17656a9c06c1621430", func := "tombolo/tombololaw10.TourBegins", spec := "tourBegins", unfollowed := true, recurses := true, apart := false }
def TourBeginsSaid : Prop := tourBeginsRow.holds Try.pinned (OpenSpec.ofChange tourBeginsSpec)

/-- ITS FALSE NEIGHBOUR: 'it returns false'. Refute it at one input. -/
def tourBeginsWrong : ChangeSpec := { name := "tourBegins", fn := fun _ => fun
  | [d1, d2, d3] => { results := [.lit (.bool false)], args := [d1, d2, d3] }
  | _ => none }
def TourBeginsWrongFalsely : Prop := tourBeginsRow.holds Try.pinned (OpenSpec.ofChange tourBeginsWrong)

/- THE SECOND FORM. 'bulk': how many values and letters a reading holds, each counted each time it is reached (what is shared counts as often as it is met; a slice's spare places count too). A statement '..UptoSaid' is the law's where the arguments, and the package variables that the reading takes, are together of bulk at most 1048576: NARROWER than '..Said'. Prove '..Said' where nothing that the law and all that it calls make is longer than what came in: it says more and counts as full. Else prove '..UptoSaid'. A law counts once. -/
mutual
def uptoBulk {H : Type} : DataW H → Nat
  | .lit (.string bytes) => bytes.length + 1
  | .lit _ => 1
  | .nil => 1
  | .ptr d => uptoBulk d + 1
  | .slice elems spare => uptoBulkAll elems + uptoBulkAll spare + 1
  | .agg parts => uptoBulkAll parts + 1
  | .iface _ d => uptoBulk d + 1
  | .map entries => uptoBulkEntries entries + 1
  | .held _ => 1
def uptoBulkAll {H : Type} : List (DataW H) → Nat
  | [] => 0
  | d :: r => uptoBulk d + uptoBulkAll r
def uptoBulkEntries {H : Type} : List (Lit × DataW H) → Nat
  | [] => 0
  | x :: r => uptoBulkEntry x + uptoBulkEntries r
def uptoBulkEntry {H : Type} : Lit × DataW H → Nat
  | (.string bytes, d) => bytes.length + uptoBulk d + 1
  | (_, d) => uptoBulk d + 1
 end
def uptoSmall : (H : Type) → List (DataW H) → Bool := fun _ ds => decide (uptoBulkAll ds ≤ 1048576)
def OpenSpec.upto (s : _root_.Go.ChangeSpec) : _root_.Go.OpenSpec := { _root_.Go.OpenSpec.ofChange s with cond := some uptoSmall }

/-- 'tombololaw09.TreapPlays', WHERE WHAT IT READS IS OF BULK AT MOST 1048576: true; the input reads as it did. -/
def treapPlaysUptoRow : OpenClaim := { program := "ytodeenahpoobkaa", sum := "1f5b0bcff6cc85ecf33bf9f9768d937397b3373103e46c17656a9c06c1621430", func := "tombolo/tombololaw09.TreapPlays", spec := "treapPlays", unfollowed := true, recurses := true, apart := false, narrowed := true }
def TreapPlaysUptoSaid : Prop := treapPlaysUptoRow.holds Try.pinned (OpenSpec.upto treapPlaysSpec)

/-- 'tombololaw09.TreapTells', WHERE WHAT IT READS IS OF BULK AT MOST 1048576: true; the input reads as it did. -/
def treapTellsUptoRow : OpenClaim := { program := "ytodeenahpoobkaa", sum := "1f5b0bcff6cc85ecf33bf9f9768d937397b3373103e46c17656a9c06c1621430", func := "tombolo/tombololaw09.TreapTells", spec := "treapTells", unfollowed := true, recurses := true, apart := false, narrowed := true }
def TreapTellsUptoSaid : Prop := treapTellsUptoRow.holds Try.pinned (OpenSpec.upto treapTellsSpec)

/-- 'tombololaw09.TreapBack', WHERE WHAT IT READS IS OF BULK AT MOST 1048576: true; the input reads as it did. -/
def treapBackUptoRow : OpenClaim := { program := "ytodeenahpoobkaa", sum := "1f5b0bcff6cc85ecf33bf9f9768d937397b3373103e46c17656a9c06c1621430", func := "tombolo/tombololaw09.TreapBack", spec := "treapBack", unfollowed := true, recurses := true, apart := false, narrowed := true }
def TreapBackUptoSaid : Prop := treapBackUptoRow.holds Try.pinned (OpenSpec.upto treapBackSpec)

/-- 'tombololaw09.TreapSame', WHERE WHAT IT READS IS OF BULK AT MOST 1048576: true; the input reads as it did. -/
def treapSameUptoRow : OpenClaim := { program := "ytodeenahpoobkaa", sum := "1f5b0bcff6cc85ecf33bf9f9768d937397b3373103e46c17656a9c06c1621430", func := "tombolo/tombololaw09.TreapSame", spec := "treapSame", unfollowed := true, recurses := true, apart := false, narrowed := true }
def TreapSameUptoSaid : Prop := treapSameUptoRow.holds Try.pinned (OpenSpec.upto treapSameSpec)

/-- 'tombololaw09.TreapFirst', WHERE WHAT IT READS IS OF BULK AT MOST 1048576: true; the input reads as it did. -/
def treapFirstUptoRow : OpenClaim := { program := "ytodeenahpoobkaa", sum := "1f5b0bcff6cc85ecf33bf9f9768d937397b3373103e46c17656a9c06c1621430", func := "tombolo/tombololaw09.TreapFirst", spec := "treapFirst", unfollowed := true, recurses := true, apart := false, narrowed := true }
def TreapFirstUptoSaid : Prop := treapFirstUptoRow.holds Try.pinned (OpenSpec.upto treapFirstSpec)

/-- 'tombololaw10.TourPlays', WHERE WHAT IT READS IS OF BULK AT MOST 1048576: true; the input reads as it did. -/
def tourPlaysUptoRow : OpenClaim := { program := "ytodeenahpoobkaa", sum := "1f5b0bcff6cc85ecf33bf9f9768d937397b3373103e46c17656a9c06c1621430", func := "tombolo/tombololaw10.TourPlays", spec := "tourPlays", unfollowed := true, recurses := true, apart := false, narrowed := true }
def TourPlaysUptoSaid : Prop := tourPlaysUptoRow.holds Try.pinned (OpenSpec.upto tourPlaysSpec)

/-- 'tombololaw10.TourJoins', WHERE WHAT IT READS IS OF BULK AT MOST 1048576: true; the input reads as it did. -/
def tourJoinsUptoRow : OpenClaim := { program := "ytodeenahpoobkaa", sum := "1f5b0bcff6cc85ecf33bf9f9768d937397b3373103e46c17656a9c06c1621430", func := "tombolo/tombololaw10.TourJoins", spec := "tourJoins", unfollowed := true, recurses := true, apart := false, narrowed := true }
def TourJoinsUptoSaid : Prop := tourJoinsUptoRow.holds Try.pinned (OpenSpec.upto tourJoinsSpec)

/-- 'tombololaw10.TourRows', WHERE WHAT IT READS IS OF BULK AT MOST 1048576: true; the input reads as it did. -/
def tourRowsUptoRow : OpenClaim := { program := "ytodeenahpoobkaa", sum := "1f5b0bcff6cc85ecf33bf9f9768d937397b3373103e46c17656a9c06c1621430", func := "tombolo/tombololaw10.TourRows", spec := "tourRows", unfollowed := true, recurses := true, apart := false, narrowed := true }
def TourRowsUptoSaid : Prop := tourRowsUptoRow.holds Try.pinned (OpenSpec.upto tourRowsSpec)

/-- 'tombololaw10.TourBack', WHERE WHAT IT READS IS OF BULK AT MOST 1048576: true; the input reads as it did. -/
def tourBackUptoRow : OpenClaim := { program := "ytodeenahpoobkaa", sum := "1f5b0bcff6cc85ecf33bf9f9768d937397b3373103e46c17656a9c06c1621430", func := "tombolo/tombololaw10.TourBack", spec := "tourBack", unfollowed := true, recurses := true, apart := false, narrowed := true }
def TourBackUptoSaid : Prop := tourBackUptoRow.holds Try.pinned (OpenSpec.upto tourBackSpec)

/-- 'tombololaw10.TourBegins', WHERE WHAT IT READS IS OF BULK AT MOST 1048576: true; the input reads as it did. -/
def tourBeginsUptoRow : OpenClaim := { program := "ytodeenahpoobkaa", sum := "1f5b0bcff6cc85ecf33bf9f9768d937397b3373103e46c17656a9c06c1621430", func := "tombolo/tombololaw10.TourBegins", spec := "tourBegins", unfollowed := true, recurses := true, apart := false, narrowed := true }
def TourBeginsUptoSaid : Prop := tourBeginsUptoRow.holds Try.pinned (OpenSpec.upto tourBeginsSpec)

end Rows
end Go.Proofs.Ytodeenahpoobkaa

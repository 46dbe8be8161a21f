/-
  No cell of these rows narrows 'for every input' (looked for: loops, veiled, ifaces, maps, wideKeys, modest, calm, conditions, laid).
  DERIVED. THE GIVEN ROWS OF THIS SEAT. 7 by the template 'for every input the law returns true; each argument reads behind the call as it read before'; 0 by the template 'total and deterministic' (their statements: YtkbpnndheliokaaTotals.lean).
  GIVEN WITH THE SEED: the statements are not yours to turn. If you find one false, say at which input.
  Laid BY PROGRAM, IN A SANDBOX (cutbox-rows.mjs): the forced cells as the released guide's own fill.sh prints them over the translation f9573560087fc770… (all of the seat's roots in one cut). By AI agents, Wed Nov 11 2026. No macro, syntax, notation, axiom, sorry.
-/
import Derived.Test.YtkbpnndheliokaaChecked
import GoSem.Claim
import GoSem.ClaimJoined
import GoSem.ClaimMapViews
import Derived.JoinedTies
import Derived.KernelRfl
namespace Go.Proofs.Ytkbpnndheliokaa
/- THE CELL 'sum', in the pinned program and in every row, IS THE sha256 OF THE DUMP (.gsa) THAT YtkbpnndheliokaaProg.lean LOADS. Nothing in Lean hashes anything: it is a label: what it is worth is what the hold of that sum in a sandbox is worth. -/
noncomputable def Try.pinned : Pinned := { name := "ytkbpnndheliokaa", sum := "f9573560087fc770c76e594b4cf99941f41a2cf4c931be65a89da380b7d4ca8c", checked := Try.checked }
namespace Rows
def none {H : Type} : Left H := { results := [], args := [] }

/-- 'tombololaw24.GraphPlays': WHATEVER THE INPUT: true; the input reads as it did. -/
def graphPlaysSpec : ChangeSpec := { name := "graphPlays", fn := fun _ => fun
  | [d1, d2] => { results := [.lit (.bool true)], args := [d1, d2] }
  | _ => none }
def graphPlaysRow : OpenClaim := { program := "ytkbpnndheliokaa", sum := "f9573560087fc770c76e594b4cf99941f41a2cf4c931be65a89da380b7d4ca8c", func := "tombolo/tombololaw24.GraphPlays", spec := "graphPlays", unfollowed := true, recurses := true, plainKeys := false, apart := false }
def GraphPlaysSaid : Prop := graphPlaysRow.holds Try.pinned (OpenSpec.ofChange graphPlaysSpec)

/-- ITS FALSE NEIGHBOUR: 'it returns false'. Refute it at one input. -/
def graphPlaysWrong : ChangeSpec := { name := "graphPlays", fn := fun _ => fun
  | [d1, d2] => { results := [.lit (.bool false)], args := [d1, d2] }
  | _ => none }
def GraphPlaysWrongFalsely : Prop := graphPlaysRow.holds Try.pinned (OpenSpec.ofChange graphPlaysWrong)

/-- 'tombololaw24.GraphParts': WHATEVER THE INPUT: true; the input reads as it did. -/
def graphPartsSpec : ChangeSpec := { name := "graphParts", fn := fun _ => fun
  | [d1, d2] => { results := [.lit (.bool true)], args := [d1, d2] }
  | _ => none }
def graphPartsRow : OpenClaim := { program := "ytkbpnndheliokaa", sum := "f9573560087fc770c76e594b4cf99941f41a2cf4c931be65a89da380b7d4ca8c", func := "tombolo/tombololaw24.GraphParts", spec := "graphParts", unfollowed := true, recurses := true, plainKeys := false, apart := false }
def GraphPartsSaid : Prop := graphPartsRow.holds Try.pinned (OpenSpec.ofChange graphPartsSpec)

/-- ITS FALSE NEIGHBOUR: 'it returns false'. Refute it at one input. -/
def graphPartsWrong : ChangeSpec := { name := "graphParts", fn := fun _ => fun
  | [d1, d2] => { results := [.lit (.bool false)], args := [d1, d2] }
  | _ => none }
def GraphPartsWrongFalsely : Prop := graphPartsRow.holds Try.pinned (OpenSpec.ofChange graphPartsWrong)

/-- 'tombololaw24.GraphCopies': WHATEVER THE INPUT: true; the input reads as it did. -/
def graphCopiesSpec : ChangeSpec := { name := "graphCopies", fn := fun _ => fun
  | [d1, d2, d3] => { results := [.lit (.bool true)], args := [d1, d2, d3] }
  | _ => none }
def graphCopiesRow : OpenClaim := { program := "ytkbpnndheliokaa", sum := "f9573560087fc770c76e594b4cf99941f41a2cf4c931be65a89da380b7d4ca8c", func := "tombolo/tombololaw24.GraphCopies", spec := "graphCopies", unfollowed := true, recurses := true, plainKeys := false, apart := false }
def GraphCopiesSaid : Prop := graphCopiesRow.holds Try.pinned (OpenSpec.ofChange graphCopiesSpec)

/-- ITS FALSE NEIGHBOUR: 'it returns false'. Refute it at one input. -/
def graphCopiesWrong : ChangeSpec := { name := "graphCopies", fn := fun _ => fun
  | [d1, d2, d3] => { results := [.lit (.bool false)], args := [d1, d2, d3] }
  | _ => none }
def GraphCopiesWrongFalsely : Prop := graphCopiesRow.holds Try.pinned (OpenSpec.ofChange graphCopiesWrong)

/-- 'tombololaw24.GraphBack': WHATEVER THE INPUT: true; the input reads as it did. -/
def graphBackSpec : ChangeSpec := { name := "graphBack", fn := fun _ => fun
  | [d1, d2, d3] => { results := [.lit (.bool true)], args := [d1, d2, d3] }
  | _ => none }
def graphBackRow : OpenClaim := { program := "ytkbpnndheliokaa", sum := "f9573560087fc770c76e594b4cf99941f41a2cf4c931be65a89da380b7d4ca8c", func := "tombolo/tombololaw24.GraphBack", spec := "graphBack", unfollowed := true, recurses := true, plainKeys := false, apart := false }
def GraphBackSaid : Prop := graphBackRow.holds Try.pinned (OpenSpec.ofChange graphBackSpec)

/-- ITS FALSE NEIGHBOUR: 'it returns false'. Refute it at one input. -/
def graphBackWrong : ChangeSpec := { name := "graphBack", fn := fun _ => fun
  | [d1, d2, d3] => { results := [.lit (.bool false)], args := [d1, d2, d3] }
  | _ => none }
def GraphBackWrongFalsely : Prop := graphBackRow.holds Try.pinned (OpenSpec.ofChange graphBackWrong)

/-- 'tombololaw15.BirthCells': WHATEVER THE INPUT: true; the input reads as it did. -/
def birthCellsSpec : ChangeSpec := { name := "birthCells", fn := fun _ => fun
  | [d1, d2] => { results := [.lit (.bool true)], args := [d1, d2] }
  | _ => none }
def birthCellsRow : OpenClaim := { program := "ytkbpnndheliokaa", sum := "f9573560087fc770c76e594b4cf99941f41a2cf4c931be65a89da380b7d4ca8c", func := "tombolo/tombololaw15.BirthCells", spec := "birthCells", unfollowed := true, recurses := true, plainKeys := false, apart := false }
def BirthCellsSaid : Prop := birthCellsRow.holds Try.pinned (OpenSpec.ofChange birthCellsSpec)

/-- ITS FALSE NEIGHBOUR: 'it returns false'. Refute it at one input. -/
def birthCellsWrong : ChangeSpec := { name := "birthCells", fn := fun _ => fun
  | [d1, d2] => { results := [.lit (.bool false)], args := [d1, d2] }
  | _ => none }
def BirthCellsWrongFalsely : Prop := birthCellsRow.holds Try.pinned (OpenSpec.ofChange birthCellsWrong)

/-- 'tombololaw15.BirthSound': WHATEVER THE INPUT: true; the input reads as it did. -/
def birthSoundSpec : ChangeSpec := { name := "birthSound", fn := fun _ => fun
  | [d1, d2] => { results := [.lit (.bool true)], args := [d1, d2] }
  | _ => none }
def birthSoundRow : OpenClaim := { program := "ytkbpnndheliokaa", sum := "f9573560087fc770c76e594b4cf99941f41a2cf4c931be65a89da380b7d4ca8c", func := "tombolo/tombololaw15.BirthSound", spec := "birthSound", unfollowed := true, recurses := true, plainKeys := false, apart := false }
def BirthSoundSaid : Prop := birthSoundRow.holds Try.pinned (OpenSpec.ofChange birthSoundSpec)

/-- ITS FALSE NEIGHBOUR: 'it returns false'. Refute it at one input. -/
def birthSoundWrong : ChangeSpec := { name := "birthSound", fn := fun _ => fun
  | [d1, d2] => { results := [.lit (.bool false)], args := [d1, d2] }
  | _ => none }
def BirthSoundWrongFalsely : Prop := birthSoundRow.holds Try.pinned (OpenSpec.ofChange birthSoundWrong)

/-- 'tombololaw15.BirthDraws': WHATEVER THE INPUT: true; the input reads as it did. -/
def birthDrawsSpec : ChangeSpec := { name := "birthDraws", fn := fun _ => fun
  | [d1, d2] => { results := [.lit (.bool true)], args := [d1, d2] }
  | _ => none }
def birthDrawsRow : OpenClaim := { program := "ytkbpnndheliokaa", sum := "f9573560087fc770c76e594b4cf99941f41a2cf4c931be65a89da380b7d4ca8c", func := "tombolo/tombololaw15.BirthDraws", spec := "birthDraws", unfollowed := true, recurses := true, plainKeys := false, apart := false }
def BirthDrawsSaid : Prop := birthDrawsRow.holds Try.pinned (OpenSpec.ofChange birthDrawsSpec)

/-- ITS FALSE NEIGHBOUR: 'it returns false'. Refute it at one input. -/
def birthDrawsWrong : ChangeSpec := { name := "birthDraws", fn := fun _ => fun
  | [d1, d2] => { results := [.lit (.bool false)], args := [d1, d2] }
  | _ => none }
def BirthDrawsWrongFalsely : Prop := birthDrawsRow.holds Try.pinned (OpenSpec.ofChange birthDrawsWrong)

/- THE SECOND FORM. 'bulk': how many values and letters a reading holds, each counted each time it is reached (what is shared counts as often as it is met; a slice's spare places count too). A statement '..UptoSaid' is the law's where the arguments, and the package variables that the reading takes, are together of bulk at most 1048576: NARROWER than '..Said'. Prove '..Said' where nothing that the law and all that it calls make is longer than what came in: it says more and counts as full. Else prove '..UptoSaid'. A law counts once. -/
mutual
def uptoBulk {H : Type} : DataW H → Nat
  | .lit (.string bytes) => bytes.length + 1
  | .lit _ => 1
  | .nil => 1
  | .ptr d => uptoBulk d + 1
  | .slice elems spare => uptoBulkAll elems + uptoBulkAll spare + 1
  | .agg parts => uptoBulkAll parts + 1
  | .iface _ d => uptoBulk d + 1
  | .map entries => uptoBulkEntries entries + 1
  | .held _ => 1
def uptoBulkAll {H : Type} : List (DataW H) → Nat
  | [] => 0
  | d :: r => uptoBulk d + uptoBulkAll r
def uptoBulkEntries {H : Type} : List (Lit × DataW H) → Nat
  | [] => 0
  | x :: r => uptoBulkEntry x + uptoBulkEntries r
def uptoBulkEntry {H : Type} : Lit × DataW H → Nat
  | (.string bytes, d) => bytes.length + uptoBulk d + 1
  | (_, d) => uptoBulk d + 1
 end
def uptoSmall : (H : Type) → List (DataW H) → Bool := fun _ ds => decide (uptoBulkAll ds ≤ 1048576)
def OpenSpec.upto (s : _root_.Go.ChangeSpec) : _root_.Go.OpenSpec := { _root_.Go.OpenSpec.ofChange s with cond := some uptoSmall }

/-- 'tombololaw24.GraphPlays', WHERE WHAT IT READS IS OF BULK AT MOST 1048576: true; the input reads as it did. -/
def graphPlaysUptoRow : OpenClaim := { program := "ytkbpnndheliokaa", sum := "f9573560087fc770c76e594b4cf99941f41a2cf4c931be65a89da380b7d4ca8c", func := "tombolo/tombololaw24.GraphPlays", spec := "graphPlays", unfollowed := true, recurses := true, plainKeys := false, apart := false, narrowed := true }
def GraphPlaysUptoSaid : Prop := graphPlaysUptoRow.holds Try.pinned (OpenSpec.upto graphPlaysSpec)

/-- 'tombololaw24.GraphParts', WHERE WHAT IT READS IS OF BULK AT MOST 1048576: true; the input reads as it did. -/
def graphPartsUptoRow : OpenClaim := { program := "ytkbpnndheliokaa", sum := "f9573560087fc770c76e594b4cf99941f41a2cf4c931be65a89da380b7d4ca8c", func := "tombolo/tombololaw24.GraphParts", spec := "graphParts", unfollowed := true, recurses := true, plainKeys := false, apart := false, narrowed := true }
def GraphPartsUptoSaid : Prop := graphPartsUptoRow.holds Try.pinned (OpenSpec.upto graphPartsSpec)

/-- 'tombololaw24.GraphCopies', WHERE WHAT IT READS IS OF BULK AT MOST 1048576: true; the input reads as it did. -/
def graphCopiesUptoRow : OpenClaim := { program := "ytkbpnndheliokaa", sum := "f9573560087fc770c76e594b4cf99941f41a2cf4c931be65a89da380b7d4ca8c", func := "tombolo/tombololaw24.GraphCopies", spec := "graphCopies", unfollowed := true, recurses := true, plainKeys := false, apart := false, narrowed := true }
def GraphCopiesUptoSaid : Prop := graphCopiesUptoRow.holds Try.pinned (OpenSpec.upto graphCopiesSpec)

/-- 'tombololaw24.GraphBack', WHERE WHAT IT READS IS OF BULK AT MOST 1048576: true; the input reads as it did. -/
def graphBackUptoRow : OpenClaim := { program := "ytkbpnndheliokaa", sum := "f9573560087fc770c76e594b4cf99941f41a2cf4c931be65a89da380b7d4ca8c", func := "tombolo/tombololaw24.GraphBack", spec := "graphBack", unfollowed := true, recurses := true, plainKeys := false, apart := false, narrowed := true }
def GraphBackUptoSaid : Prop := graphBackUptoRow.holds Try.pinned (OpenSpec.upto graphBackSpec)

/-- 'tombololaw15.BirthCells', WHERE WHAT IT READS IS OF BULK AT MOST 1048576: true; the input reads as it did. -/
def birthCellsUptoRow : OpenClaim := { program := "ytkbpnndheliokaa", sum := "f9573560087fc770c76e594b4cf99941f41a2cf4c931be65a89da380b7d4ca8c", func := "tombolo/tombololaw15.BirthCells", spec := "birthCells", unfollowed := true, recurses := true, plainKeys := false, apart := false, narrowed := true }
def BirthCellsUptoSaid : Prop := birthCellsUptoRow.holds Try.pinned (OpenSpec.upto birthCellsSpec)

/-- 'tombololaw15.BirthSound', WHERE WHAT IT READS IS OF BULK AT MOST 1048576: true; the input reads as it did. -/
def birthSoundUptoRow : OpenClaim := { program := "ytkbpnndheliokaa", sum := "f9573560087fc770c76e594b4cf99941f41a2cf4c931be65a89da380b7d4ca8c", func := "tombolo/tombololaw15.BirthSound", spec := "birthSound", unfollowed := true, recurses := true, plainKeys := false, apart := false, narrowed := true }
def BirthSoundUptoSaid : Prop := birthSoundUptoRow.holds Try.pinned (OpenSpec.upto birthSoundSpec)

/-- 'tombololaw15.BirthDraws', WHERE WHAT IT READS IS OF BULK AT MOST 1048576: true; the input reads as it did. -/
def birthDrawsUptoRow : OpenClaim := { program := "ytkbpnndheliokaa", sum := "f9573560087fc770c76e594b4cf99941f41a2cf4c931be65a89da380b7d4ca8c", func := "tombolo/tombololaw15.BirthDraws", spec := "birthDraws", unfollowed := true, recurses := true, plainKeys := false, apart := false, narrowed := true }
def BirthDrawsUptoSaid : Prop := birthDrawsUptoRow.holds Try.pinned (OpenSpec.upto birthDrawsSpec)

end Rows
end Go.Proofs.Ytkbpnndheliokaa

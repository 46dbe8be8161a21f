/-
  No cell of these rows narrows 'for every input' (looked for: loops, veiled, ifaces, maps, wideKeys, modest, calm, conditions, laid).
  DERIVED. THE GIVEN ROWS OF THIS SEAT. 9 by the template 'for every input the law returns true; each argument reads behind the call as it read before'; 0 by the template 'total and deterministic' (their statements: YtocjphligodnfaaTotals.lean).
  GIVEN WITH THE SEED: the statements are not yours to turn. If you find one false, say at which input.
  Laid BY PROGRAM, IN A SANDBOX (cutbox-rows.mjs): the forced cells as the released guide's own fill.sh prints them over the translation 1913fa2adc998b4f… (all of the seat's roots in one cut). By AI agents, Wed Nov 11 2026. No macro, syntax, notation, axiom, sorry.
-/
import Derived.Test.YtocjphligodnfaaChecked
import GoSem.Claim
import GoSem.ClaimJoined
import GoSem.ClaimMapViews
import Derived.JoinedTies
import Derived.KernelRfl
namespace Go.Proofs.Ytocjphligodnfaa
/- THE CELL 'sum', in the pinned program and in every row, IS THE sha256 OF THE DUMP (.gsa) THAT YtocjphligodnfaaProg.lean LOADS. Nothing in Lean hashes anything: it is a label: what it is worth is what the hold of that sum in a sandbox is worth. -/
noncomputable def Try.pinned : Pinned := { name := "ytocjphligodnfaa", sum := "1913fa2adc998b4f403cae834ab6e8a89e5c49f670d9616fedec7bf40dbbb1a5", checked := Try.checked }
namespace Rows
def none {H : Type} : Left H := { results := [], args := [] }

/-- 'tombololaw05.LayNodes': WHATEVER THE INPUT: true; the input reads as it did. -/
def layNodesSpec : ChangeSpec := { name := "layNodes", fn := fun _ => fun
  | [d1, d2] => { results := [.lit (.bool true)], args := [d1, d2] }
  | _ => none }
def layNodesRow : OpenClaim := { program := "ytocjphligodnfaa", sum := "1913fa2adc998b4f403cae834ab6e8a89e5c49f670d9616fedec7bf40dbbb1a5", func := "tombolo/tombololaw05.LayNodes", spec := "layNodes", apart := false }
def LayNodesSaid : Prop := layNodesRow.holds Try.pinned (OpenSpec.ofChange layNodesSpec)

/-- ITS FALSE NEIGHBOUR: 'it returns false'. Refute it at one input. -/
def layNodesWrong : ChangeSpec := { name := "layNodes", fn := fun _ => fun
  | [d1, d2] => { results := [.lit (.bool false)], args := [d1, d2] }
  | _ => none }
def LayNodesWrongFalsely : Prop := layNodesRow.holds Try.pinned (OpenSpec.ofChange layNodesWrong)

/-- 'tombololaw05.LayCounts': WHATEVER THE INPUT: true; the input reads as it did. -/
def layCountsSpec : ChangeSpec := { name := "layCounts", fn := fun _ => fun
  | [d] => { results := [.lit (.bool true)], args := [d] }
  | _ => none }
def layCountsRow : OpenClaim := { program := "ytocjphligodnfaa", sum := "1913fa2adc998b4f403cae834ab6e8a89e5c49f670d9616fedec7bf40dbbb1a5", func := "tombolo/tombololaw05.LayCounts", spec := "layCounts", apart := false }
def LayCountsSaid : Prop := layCountsRow.holds Try.pinned (OpenSpec.ofChange layCountsSpec)

/-- ITS FALSE NEIGHBOUR: 'it returns false'. Refute it at one input. -/
def layCountsWrong : ChangeSpec := { name := "layCounts", fn := fun _ => fun
  | [d] => { results := [.lit (.bool false)], args := [d] }
  | _ => none }
def LayCountsWrongFalsely : Prop := layCountsRow.holds Try.pinned (OpenSpec.ofChange layCountsWrong)

/-- 'tombololaw05.LayCells': WHATEVER THE INPUT: true; the input reads as it did. -/
def layCellsSpec : ChangeSpec := { name := "layCells", fn := fun _ => fun
  | [d] => { results := [.lit (.bool true)], args := [d] }
  | _ => none }
def layCellsRow : OpenClaim := { program := "ytocjphligodnfaa", sum := "1913fa2adc998b4f403cae834ab6e8a89e5c49f670d9616fedec7bf40dbbb1a5", func := "tombolo/tombololaw05.LayCells", spec := "layCells", apart := false }
def LayCellsSaid : Prop := layCellsRow.holds Try.pinned (OpenSpec.ofChange layCellsSpec)

/-- ITS FALSE NEIGHBOUR: 'it returns false'. Refute it at one input. -/
def layCellsWrong : ChangeSpec := { name := "layCells", fn := fun _ => fun
  | [d] => { results := [.lit (.bool false)], args := [d] }
  | _ => none }
def LayCellsWrongFalsely : Prop := layCellsRow.holds Try.pinned (OpenSpec.ofChange layCellsWrong)

/-- 'tombololaw05.LayNowhere': WHATEVER THE INPUT: true; the input reads as it did. -/
def layNowhereSpec : ChangeSpec := { name := "layNowhere", fn := fun _ => fun
  | [d1, d2, d3] => { results := [.lit (.bool true)], args := [d1, d2, d3] }
  | _ => none }
def layNowhereRow : OpenClaim := { program := "ytocjphligodnfaa", sum := "1913fa2adc998b4f403cae834ab6e8a89e5c49f670d9616fedec7bf40dbbb1a5", func := "tombolo/tombololaw05.LayNowhere", spec := "layNowhere", unfollowed := true, recurses := true, apart := false }
def LayNowhereSaid : Prop := layNowhereRow.holds Try.pinned (OpenSpec.ofChange layNowhereSpec)

/-- ITS FALSE NEIGHBOUR: 'it returns false'. Refute it at one input. -/
def layNowhereWrong : ChangeSpec := { name := "layNowhere", fn := fun _ => fun
  | [d1, d2, d3] => { results := [.lit (.bool false)], args := [d1, d2, d3] }
  | _ => none }
def LayNowhereWrongFalsely : Prop := layNowhereRow.holds Try.pinned (OpenSpec.ofChange layNowhereWrong)

/-- 'tombololaw05.LayApart': WHATEVER THE INPUT: true; the input reads as it did. -/
def layApartSpec : ChangeSpec := { name := "layApart", fn := fun _ => fun
  | [d1, d2] => { results := [.lit (.bool true)], args := [d1, d2] }
  | _ => none }
def layApartRow : OpenClaim := { program := "ytocjphligodnfaa", sum := "1913fa2adc998b4f403cae834ab6e8a89e5c49f670d9616fedec7bf40dbbb1a5", func := "tombolo/tombololaw05.LayApart", spec := "layApart", apart := false }
def LayApartSaid : Prop := layApartRow.holds Try.pinned (OpenSpec.ofChange layApartSpec)

/-- ITS FALSE NEIGHBOUR: 'it returns false'. Refute it at one input. -/
def layApartWrong : ChangeSpec := { name := "layApart", fn := fun _ => fun
  | [d1, d2] => { results := [.lit (.bool false)], args := [d1, d2] }
  | _ => none }
def LayApartWrongFalsely : Prop := layApartRow.holds Try.pinned (OpenSpec.ofChange layApartWrong)

/-- 'tombololaw11.EdgePlays': WHATEVER THE INPUT: true; the input reads as it did. -/
def edgePlaysSpec : ChangeSpec := { name := "edgePlays", fn := fun _ => fun
  | [d1, d2] => { results := [.lit (.bool true)], args := [d1, d2] }
  | _ => none }
def edgePlaysRow : OpenClaim := { program := "ytocjphligodnfaa", sum := "1913fa2adc998b4f403cae834ab6e8a89e5c49f670d9616fedec7bf40dbbb1a5", func := "tombolo/tombololaw11.EdgePlays", spec := "edgePlays", unfollowed := true, recurses := true, apart := false }
def EdgePlaysSaid : Prop := edgePlaysRow.holds Try.pinned (OpenSpec.ofChange edgePlaysSpec)

/-- ITS FALSE NEIGHBOUR: 'it returns false'. Refute it at one input. -/
def edgePlaysWrong : ChangeSpec := { name := "edgePlays", fn := fun _ => fun
  | [d1, d2] => { results := [.lit (.bool false)], args := [d1, d2] }
  | _ => none }
def EdgePlaysWrongFalsely : Prop := edgePlaysRow.holds Try.pinned (OpenSpec.ofChange edgePlaysWrong)

/-- 'tombololaw11.EdgeAll': WHATEVER THE INPUT: true; the input reads as it did. -/
def edgeAllSpec : ChangeSpec := { name := "edgeAll", fn := fun _ => fun
  | [d1, d2] => { results := [.lit (.bool true)], args := [d1, d2] }
  | _ => none }
def edgeAllRow : OpenClaim := { program := "ytocjphligodnfaa", sum := "1913fa2adc998b4f403cae834ab6e8a89e5c49f670d9616fedec7bf40dbbb1a5", func := "tombolo/tombololaw11.EdgeAll", spec := "edgeAll", unfollowed := true, recurses := true, apart := false }
def EdgeAllSaid : Prop := edgeAllRow.holds Try.pinned (OpenSpec.ofChange edgeAllSpec)

/-- ITS FALSE NEIGHBOUR: 'it returns false'. Refute it at one input. -/
def edgeAllWrong : ChangeSpec := { name := "edgeAll", fn := fun _ => fun
  | [d1, d2] => { results := [.lit (.bool false)], args := [d1, d2] }
  | _ => none }
def EdgeAllWrongFalsely : Prop := edgeAllRow.holds Try.pinned (OpenSpec.ofChange edgeAllWrong)

/-- 'tombololaw11.EdgeApart': WHATEVER THE INPUT: true; the input reads as it did. -/
def edgeApartSpec : ChangeSpec := { name := "edgeApart", fn := fun _ => fun
  | [d1, d2, d3] => { results := [.lit (.bool true)], args := [d1, d2, d3] }
  | _ => none }
def edgeApartRow : OpenClaim := { program := "ytocjphligodnfaa", sum := "1913fa2adc998b4f403cae834ab6e8a89e5c49f670d9616fedec7bf40dbbb1a5", func := "tombolo/tombololaw11.EdgeApart", spec := "edgeApart", unfollowed := true, recurses := true, apart := false }
def EdgeApartSaid : Prop := edgeApartRow.holds Try.pinned (OpenSpec.ofChange edgeApartSpec)

/-- ITS FALSE NEIGHBOUR: 'it returns false'. Refute it at one input. -/
def edgeApartWrong : ChangeSpec := { name := "edgeApart", fn := fun _ => fun
  | [d1, d2, d3] => { results := [.lit (.bool false)], args := [d1, d2, d3] }
  | _ => none }
def EdgeApartWrongFalsely : Prop := edgeApartRow.holds Try.pinned (OpenSpec.ofChange edgeApartWrong)

/-- 'tombololaw11.EdgeTurns': WHATEVER THE INPUT: true; the input reads as it did. -/
def edgeTurnsSpec : ChangeSpec := { name := "edgeTurns", fn := fun _ => fun
  | [d1, d2, d3] => { results := [.lit (.bool true)], args := [d1, d2, d3] }
  | _ => none }
def edgeTurnsRow : OpenClaim := { program := "ytocjphligodnfaa", sum := "1913fa2adc998b4f403cae834ab6e8a89e5c49f670d9616fedec7bf40dbbb1a5", func := "tombolo/tombololaw11.EdgeTurns", spec := "edgeTurns", unfollowed := true, recurses := true, apart := false }
def EdgeTurnsSaid : Prop := edgeTurnsRow.holds Try.pinned (OpenSpec.ofChange edgeTurnsSpec)

/-- ITS FALSE NEIGHBOUR: 'it returns false'. Refute it at one input. -/
def edgeTurnsWrong : ChangeSpec := { name := "edgeTurns", fn := fun _ => fun
  | [d1, d2, d3] => { results := [.lit (.bool false)], args := [d1, d2, d3] }
  | _ => none }
def EdgeTurnsWrongFalsely : Prop := edgeTurnsRow.holds Try.pinned (OpenSpec.ofChange edgeTurnsWrong)

/- THE SECOND FORM. 'bulk': how many values and letters a reading holds, each counted each time it is reached (what is shared counts as often as it is met; a slice's spare places count too). A statement '..UptoSaid' is the law's where the arguments, and the package variables that the reading takes, are together of bulk at most 1048576: NARROWER than '..Said'. Prove '..Said' where nothing that the law and all that it calls make is longer than what came in: it says more and counts as full. Else prove '..UptoSaid'. A law counts once. -/
mutual
def uptoBulk {H : Type} : DataW H → Nat
  | .lit (.string bytes) => bytes.length + 1
  | .lit _ => 1
  | .nil => 1
  | .ptr d => uptoBulk d + 1
  | .slice elems spare => uptoBulkAll elems + uptoBulkAll spare + 1
  | .agg parts => uptoBulkAll parts + 1
  | .iface _ d => uptoBulk d + 1
  | .map entries => uptoBulkEntries entries + 1
  | .held _ => 1
def uptoBulkAll {H : Type} : List (DataW H) → Nat
  | [] => 0
  | d :: r => uptoBulk d + uptoBulkAll r
def uptoBulkEntries {H : Type} : List (Lit × DataW H) → Nat
  | [] => 0
  | x :: r => uptoBulkEntry x + uptoBulkEntries r
def uptoBulkEntry {H : Type} : Lit × DataW H → Nat
  | (.string bytes, d) => bytes.length + uptoBulk d + 1
  | (_, d) => uptoBulk d + 1
 end
def uptoSmall : (H : Type) → List (DataW H) → Bool := fun _ ds => decide (uptoBulkAll ds ≤ 1048576)
def OpenSpec.upto (s : _root_.Go.ChangeSpec) : _root_.Go.OpenSpec := { _root_.Go.OpenSpec.ofChange s with cond := some uptoSmall }

/-- 'tombololaw05.LayNodes', WHERE WHAT IT READS IS OF BULK AT MOST 1048576: true; the input reads as it did. -/
def layNodesUptoRow : OpenClaim := { program := "ytocjphligodnfaa", sum := "1913fa2adc998b4f403cae834ab6e8a89e5c49f670d9616fedec7bf40dbbb1a5", func := "tombolo/tombololaw05.LayNodes", spec := "layNodes", apart := false, narrowed := true }
def LayNodesUptoSaid : Prop := layNodesUptoRow.holds Try.pinned (OpenSpec.upto layNodesSpec)

/-- 'tombololaw05.LayCounts', WHERE WHAT IT READS IS OF BULK AT MOST 1048576: true; the input reads as it did. -/
def layCountsUptoRow : OpenClaim := { program := "ytocjphligodnfaa", sum := "1913fa2adc998b4f403cae834ab6e8a89e5c49f670d9616fedec7bf40dbbb1a5", func := "tombolo/tombololaw05.LayCounts", spec := "layCounts", apart := false, narrowed := true }
def LayCountsUptoSaid : Prop := layCountsUptoRow.holds Try.pinned (OpenSpec.upto layCountsSpec)

/-- 'tombololaw05.LayCells', WHERE WHAT IT READS IS OF BULK AT MOST 1048576: true; the input reads as it did. -/
def layCellsUptoRow : OpenClaim := { program := "ytocjphligodnfaa", sum := "1913fa2adc998b4f403cae834ab6e8a89e5c49f670d9616fedec7bf40dbbb1a5", func := "tombolo/tombololaw05.LayCells", spec := "layCells", apart := false, narrowed := true }
def LayCellsUptoSaid : Prop := layCellsUptoRow.holds Try.pinned (OpenSpec.upto layCellsSpec)

/-- 'tombololaw05.LayNowhere', WHERE WHAT IT READS IS OF BULK AT MOST 1048576: true; the input reads as it did. -/
def layNowhereUptoRow : OpenClaim := { program := "ytocjphligodnfaa", sum := "1913fa2adc998b4f403cae834ab6e8a89e5c49f670d9616fedec7bf40dbbb1a5", func := "tombolo/tombololaw05.LayNowhere", spec := "layNowhere", unfollowed := true, recurses := true, apart := false, narrowed := true }
def LayNowhereUptoSaid : Prop := layNowhereUptoRow.holds Try.pinned (OpenSpec.upto layNowhereSpec)

/-- 'tombololaw05.LayApart', WHERE WHAT IT READS IS OF BULK AT MOST 1048576: true; the input reads as it did. -/
def layApartUptoRow : OpenClaim := { program := "ytocjphligodnfaa", sum := "1913fa2adc998b4f403cae834ab6e8a89e5c49f670d9616fedec7bf40dbbb1a5", func := "tombolo/tombololaw05.LayApart", spec := "layApart", apart := false, narrowed := true }
def LayApartUptoSaid : Prop := layApartUptoRow.holds Try.pinned (OpenSpec.upto layApartSpec)

/-- 'tombololaw11.EdgePlays', WHERE WHAT IT READS IS OF BULK AT MOST 1048576: true; the input reads as it did. -/
def edgePlaysUptoRow : OpenClaim := { program := "ytocjphligodnfaa", sum := "1913fa2adc998b4f403cae834ab6e8a89e5c49f670d9616fedec7bf40dbbb1a5", func := "tombolo/tombololaw11.EdgePlays", spec := "edgePlays", unfollowed := true, recurses := true, apart := false, narrowed := true }
def EdgePlaysUptoSaid : Prop := edgePlaysUptoRow.holds Try.pinned (OpenSpec.upto edgePlaysSpec)

/-- 'tombololaw11.EdgeAll', WHERE WHAT IT READS IS OF BULK AT MOST 1048576: true; the input reads as it did. -/
def edgeAllUptoRow : OpenClaim := { program := "ytocjphligodnfaa", sum := "1913fa2adc998b4f403cae834ab6e8a89e5c49f670d9616fedec7bf40dbbb1a5", func := "tombolo/tombololaw11.EdgeAll", spec := "edgeAll", unfollowed := true, recurses := true, apart := false, narrowed := true }
def EdgeAllUptoSaid : Prop := edgeAllUptoRow.holds Try.pinned (OpenSpec.upto edgeAllSpec)

/-- 'tombololaw11.EdgeApart', WHERE WHAT IT READS IS OF BULK AT MOST 1048576: true; the input reads as it did. -/
def edgeApartUptoRow : OpenClaim := { program := "ytocjphligodnfaa", sum := "1913fa2adc998b4f403cae834ab6e8a89e5c49f670d9616fedec7bf40dbbb1a5", func := "tombolo/tombololaw11.EdgeApart", spec := "edgeApart", unfollowed := true, recurses := true, apart := false, narrowed := true }
def EdgeApartUptoSaid : Prop := edgeApartUptoRow.holds Try.pinned (OpenSpec.upto edgeApartSpec)

/-- 'tombololaw11.EdgeTurns', WHERE WHAT IT READS IS OF BULK AT MOST 1048576: true; the input reads as it did. -/
def edgeTurnsUptoRow : OpenClaim := { program := "ytocjphligodnfaa", sum := "1913fa2adc998b4f403cae834ab6e8a89e5c49f670d9616fedec7bf40dbbb1a5", func := "tombolo/tombololaw11.EdgeTurns", spec := "edgeTurns", unfollowed := true, recurses := true, apart := false, narrowed := true }
def EdgeTurnsUptoSaid : Prop := edgeTurnsUptoRow.holds Try.pinned (OpenSpec.upto edgeTurnsSpec)

end Rows
end Go.Proofs.Ytocjphligodnfaa

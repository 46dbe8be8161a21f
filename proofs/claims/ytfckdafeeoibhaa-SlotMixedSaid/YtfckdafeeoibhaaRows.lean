/-
  No cell of these rows narrows 'for every input' (looked for: loops, veiled, ifaces, maps, wideKeys, modest, calm, conditions, laid).
  DERIVED. THE GIVEN ROWS OF THIS SEAT. 12 by the template 'for every input the law returns true; each argument reads behind the call as it read before'; 0 by the template 'total and deterministic' (their statements: YtfckdafeeoibhaaTotals.lean).
  GIVEN WITH THE SEED: the statements are not yours to turn. If you find one false, say at which input.
  Laid BY PROGRAM, IN A SANDBOX (cutbox-rows.mjs): the forced cells as the released guide's own fill.sh prints them over the translation 923cf2bbbd4262b8… (all of the seat's roots in one cut). By AI agents, Wed Nov 11 2026. No macro, syntax, notation, axiom, sorry.
-/
import Derived.Test.YtfckdafeeoibhaaChecked
import GoSem.Claim
import GoSem.ClaimJoined
import GoSem.ClaimMapViews
import Derived.JoinedTies
import Derived.KernelRfl
namespace Go.Proofs.Ytfckdafeeoibhaa
/- THE CELL 'sum', in the pinned program and in every row, IS THE sha256 OF THE DUMP (.gsa) THAT YtfckdafeeoibhaaProg.lean LOADS. Nothing in Lean hashes anything: it is a label: what it is worth is what the hold of that sum in a sandbox is worth. -/
noncomputable def Try.pinned : Pinned := { name := "ytfckdafeeoibhaa", sum := "923cf2bbbd4262b81e00004384dfc66d9325f2cd9051287add3be0019dc371fc", checked := Try.checked }
namespace Rows
def none {H : Type} : Left H := { results := [], args := [] }

/-- 'tombololaw07.SlotSeries': WHATEVER THE INPUT: true; the input reads as it did. -/
def slotSeriesSpec : ChangeSpec := { name := "slotSeries", fn := fun _ => fun
  | [d1, d2] => { results := [.lit (.bool true)], args := [d1, d2] }
  | _ => none }
def slotSeriesRow : OpenClaim := { program := "ytfckdafeeoibhaa", sum := "923cf2bbbd4262b81e00004384dfc66d9325f2cd9051287add3be0019dc371fc", func := "tombolo/tombololaw07.SlotSeries", spec := "slotSeries", unfollowed := true, recurses := true, apart := false }
def SlotSeriesSaid : Prop := slotSeriesRow.holds Try.pinned (OpenSpec.ofChange slotSeriesSpec)

/-- ITS FALSE NEIGHBOUR: 'it returns false'. Refute it at one input. -/
def slotSeriesWrong : ChangeSpec := { name := "slotSeries", fn := fun _ => fun
  | [d1, d2] => { results := [.lit (.bool false)], args := [d1, d2] }
  | _ => none }
def SlotSeriesWrongFalsely : Prop := slotSeriesRow.holds Try.pinned (OpenSpec.ofChange slotSeriesWrong)

/-- 'tombololaw07.SlotMixed': WHATEVER THE INPUT: true; the input reads as it did. -/
def slotMixedSpec : ChangeSpec := { name := "slotMixed", fn := fun _ => fun
  | [d1, d2, d3] => { results := [.lit (.bool true)], args := [d1, d2, d3] }
  | _ => none }
def slotMixedRow : OpenClaim := { program := "ytfckdafeeoibhaa", sum := "923cf2bbbd4262b81e00004384dfc66d9325f2cd9051287add3be0019dc371fc", func := "tombolo/tombololaw07.SlotMixed", spec := "slotMixed", unfollowed := true, recurses := true, apart := false }
def SlotMixedSaid : Prop := slotMixedRow.holds Try.pinned (OpenSpec.ofChange slotMixedSpec)

/-- ITS FALSE NEIGHBOUR: 'it returns false'. Refute it at one input. -/
def slotMixedWrong : ChangeSpec := { name := "slotMixed", fn := fun _ => fun
  | [d1, d2, d3] => { results := [.lit (.bool false)], args := [d1, d2, d3] }
  | _ => none }
def SlotMixedWrongFalsely : Prop := slotMixedRow.holds Try.pinned (OpenSpec.ofChange slotMixedWrong)

/-- 'tombololaw07.SlotMisses': WHATEVER THE INPUT: true; the input reads as it did. -/
def slotMissesSpec : ChangeSpec := { name := "slotMisses", fn := fun _ => fun
  | [d1, d2, d3] => { results := [.lit (.bool true)], args := [d1, d2, d3] }
  | _ => none }
def slotMissesRow : OpenClaim := { program := "ytfckdafeeoibhaa", sum := "923cf2bbbd4262b81e00004384dfc66d9325f2cd9051287add3be0019dc371fc", func := "tombolo/tombololaw07.SlotMisses", spec := "slotMisses", unfollowed := true, recurses := true, apart := false }
def SlotMissesSaid : Prop := slotMissesRow.holds Try.pinned (OpenSpec.ofChange slotMissesSpec)

/-- ITS FALSE NEIGHBOUR: 'it returns false'. Refute it at one input. -/
def slotMissesWrong : ChangeSpec := { name := "slotMisses", fn := fun _ => fun
  | [d1, d2, d3] => { results := [.lit (.bool false)], args := [d1, d2, d3] }
  | _ => none }
def SlotMissesWrongFalsely : Prop := slotMissesRow.holds Try.pinned (OpenSpec.ofChange slotMissesWrong)

/-- 'tombololaw07.SlotRows': WHATEVER THE INPUT: true; the input reads as it did. -/
def slotRowsSpec : ChangeSpec := { name := "slotRows", fn := fun _ => fun
  | [d1, d2, d3] => { results := [.lit (.bool true)], args := [d1, d2, d3] }
  | _ => none }
def slotRowsRow : OpenClaim := { program := "ytfckdafeeoibhaa", sum := "923cf2bbbd4262b81e00004384dfc66d9325f2cd9051287add3be0019dc371fc", func := "tombolo/tombololaw07.SlotRows", spec := "slotRows", unfollowed := true, recurses := true, apart := false }
def SlotRowsSaid : Prop := slotRowsRow.holds Try.pinned (OpenSpec.ofChange slotRowsSpec)

/-- ITS FALSE NEIGHBOUR: 'it returns false'. Refute it at one input. -/
def slotRowsWrong : ChangeSpec := { name := "slotRows", fn := fun _ => fun
  | [d1, d2, d3] => { results := [.lit (.bool false)], args := [d1, d2, d3] }
  | _ => none }
def SlotRowsWrongFalsely : Prop := slotRowsRow.holds Try.pinned (OpenSpec.ofChange slotRowsWrong)

/-- 'tombololaw08.PtrPens': WHATEVER THE INPUT: true; the input reads as it did. -/
def ptrPensSpec : ChangeSpec := { name := "ptrPens", fn := fun _ => fun
  | [d1, d2] => { results := [.lit (.bool true)], args := [d1, d2] }
  | _ => none }
def ptrPensRow : OpenClaim := { program := "ytfckdafeeoibhaa", sum := "923cf2bbbd4262b81e00004384dfc66d9325f2cd9051287add3be0019dc371fc", func := "tombolo/tombololaw08.PtrPens", spec := "ptrPens", unfollowed := true, recurses := true, apart := false }
def PtrPensSaid : Prop := ptrPensRow.holds Try.pinned (OpenSpec.ofChange ptrPensSpec)

/-- ITS FALSE NEIGHBOUR: 'it returns false'. Refute it at one input. -/
def ptrPensWrong : ChangeSpec := { name := "ptrPens", fn := fun _ => fun
  | [d1, d2] => { results := [.lit (.bool false)], args := [d1, d2] }
  | _ => none }
def PtrPensWrongFalsely : Prop := ptrPensRow.holds Try.pinned (OpenSpec.ofChange ptrPensWrong)

/-- 'tombololaw08.PtrSeen': WHATEVER THE INPUT: true; the input reads as it did. -/
def ptrSeenSpec : ChangeSpec := { name := "ptrSeen", fn := fun _ => fun
  | [d1, d2, d3] => { results := [.lit (.bool true)], args := [d1, d2, d3] }
  | _ => none }
def ptrSeenRow : OpenClaim := { program := "ytfckdafeeoibhaa", sum := "923cf2bbbd4262b81e00004384dfc66d9325f2cd9051287add3be0019dc371fc", func := "tombolo/tombololaw08.PtrSeen", spec := "ptrSeen", unfollowed := true, recurses := true, apart := false }
def PtrSeenSaid : Prop := ptrSeenRow.holds Try.pinned (OpenSpec.ofChange ptrSeenSpec)

/-- ITS FALSE NEIGHBOUR: 'it returns false'. Refute it at one input. -/
def ptrSeenWrong : ChangeSpec := { name := "ptrSeen", fn := fun _ => fun
  | [d1, d2, d3] => { results := [.lit (.bool false)], args := [d1, d2, d3] }
  | _ => none }
def PtrSeenWrongFalsely : Prop := ptrSeenRow.holds Try.pinned (OpenSpec.ofChange ptrSeenWrong)

/-- 'tombololaw08.PtrLooks': WHATEVER THE INPUT: true; the input reads as it did. -/
def ptrLooksSpec : ChangeSpec := { name := "ptrLooks", fn := fun _ => fun
  | [d1, d2, d3] => { results := [.lit (.bool true)], args := [d1, d2, d3] }
  | _ => none }
def ptrLooksRow : OpenClaim := { program := "ytfckdafeeoibhaa", sum := "923cf2bbbd4262b81e00004384dfc66d9325f2cd9051287add3be0019dc371fc", func := "tombolo/tombololaw08.PtrLooks", spec := "ptrLooks", unfollowed := true, recurses := true, apart := false }
def PtrLooksSaid : Prop := ptrLooksRow.holds Try.pinned (OpenSpec.ofChange ptrLooksSpec)

/-- ITS FALSE NEIGHBOUR: 'it returns false'. Refute it at one input. -/
def ptrLooksWrong : ChangeSpec := { name := "ptrLooks", fn := fun _ => fun
  | [d1, d2, d3] => { results := [.lit (.bool false)], args := [d1, d2, d3] }
  | _ => none }
def PtrLooksWrongFalsely : Prop := ptrLooksRow.holds Try.pinned (OpenSpec.ofChange ptrLooksWrong)

/-- 'tombololaw08.PtrWrites': WHATEVER THE INPUT: true; the input reads as it did. -/
def ptrWritesSpec : ChangeSpec := { name := "ptrWrites", fn := fun _ => fun
  | [d1, d2, d3] => { results := [.lit (.bool true)], args := [d1, d2, d3] }
  | _ => none }
def ptrWritesRow : OpenClaim := { program := "ytfckdafeeoibhaa", sum := "923cf2bbbd4262b81e00004384dfc66d9325f2cd9051287add3be0019dc371fc", func := "tombolo/tombololaw08.PtrWrites", spec := "ptrWrites", unfollowed := true, recurses := true, apart := false }
def PtrWritesSaid : Prop := ptrWritesRow.holds Try.pinned (OpenSpec.ofChange ptrWritesSpec)

/-- ITS FALSE NEIGHBOUR: 'it returns false'. Refute it at one input. -/
def ptrWritesWrong : ChangeSpec := { name := "ptrWrites", fn := fun _ => fun
  | [d1, d2, d3] => { results := [.lit (.bool false)], args := [d1, d2, d3] }
  | _ => none }
def PtrWritesWrongFalsely : Prop := ptrWritesRow.holds Try.pinned (OpenSpec.ofChange ptrWritesWrong)

/-- 'tombololaw06.MemReplays': WHATEVER THE INPUT: true; the input reads as it did. -/
def memReplaysSpec : ChangeSpec := { name := "memReplays", fn := fun _ => fun
  | [d1, d2] => { results := [.lit (.bool true)], args := [d1, d2] }
  | _ => none }
def memReplaysRow : OpenClaim := { program := "ytfckdafeeoibhaa", sum := "923cf2bbbd4262b81e00004384dfc66d9325f2cd9051287add3be0019dc371fc", func := "tombolo/tombololaw06.MemReplays", spec := "memReplays", unfollowed := true, recurses := true, apart := false }
def MemReplaysSaid : Prop := memReplaysRow.holds Try.pinned (OpenSpec.ofChange memReplaysSpec)

/-- ITS FALSE NEIGHBOUR: 'it returns false'. Refute it at one input. -/
def memReplaysWrong : ChangeSpec := { name := "memReplays", fn := fun _ => fun
  | [d1, d2] => { results := [.lit (.bool false)], args := [d1, d2] }
  | _ => none }
def MemReplaysWrongFalsely : Prop := memReplaysRow.holds Try.pinned (OpenSpec.ofChange memReplaysWrong)

/-- 'tombololaw06.MemStops': WHATEVER THE INPUT: true; the input reads as it did. -/
def memStopsSpec : ChangeSpec := { name := "memStops", fn := fun _ => fun
  | [d1, d2] => { results := [.lit (.bool true)], args := [d1, d2] }
  | _ => none }
def memStopsRow : OpenClaim := { program := "ytfckdafeeoibhaa", sum := "923cf2bbbd4262b81e00004384dfc66d9325f2cd9051287add3be0019dc371fc", func := "tombolo/tombololaw06.MemStops", spec := "memStops", unfollowed := true, recurses := true, apart := false }
def MemStopsSaid : Prop := memStopsRow.holds Try.pinned (OpenSpec.ofChange memStopsSpec)

/-- ITS FALSE NEIGHBOUR: 'it returns false'. Refute it at one input. -/
def memStopsWrong : ChangeSpec := { name := "memStops", fn := fun _ => fun
  | [d1, d2] => { results := [.lit (.bool false)], args := [d1, d2] }
  | _ => none }
def MemStopsWrongFalsely : Prop := memStopsRow.holds Try.pinned (OpenSpec.ofChange memStopsWrong)

/-- 'tombololaw06.MemApart': WHATEVER THE INPUT: true; the input reads as it did. -/
def memApartSpec : ChangeSpec := { name := "memApart", fn := fun _ => fun
  | [d1, d2, d3] => { results := [.lit (.bool true)], args := [d1, d2, d3] }
  | _ => none }
def memApartRow : OpenClaim := { program := "ytfckdafeeoibhaa", sum := "923cf2bbbd4262b81e00004384dfc66d9325f2cd9051287add3be0019dc371fc", func := "tombolo/tombololaw06.MemApart", spec := "memApart", unfollowed := true, recurses := true, apart := false }
def MemApartSaid : Prop := memApartRow.holds Try.pinned (OpenSpec.ofChange memApartSpec)

/-- ITS FALSE NEIGHBOUR: 'it returns false'. Refute it at one input. -/
def memApartWrong : ChangeSpec := { name := "memApart", fn := fun _ => fun
  | [d1, d2, d3] => { results := [.lit (.bool false)], args := [d1, d2, d3] }
  | _ => none }
def MemApartWrongFalsely : Prop := memApartRow.holds Try.pinned (OpenSpec.ofChange memApartWrong)

/-- 'tombololaw06.MemTraces': WHATEVER THE INPUT: true; the input reads as it did. -/
def memTracesSpec : ChangeSpec := { name := "memTraces", fn := fun _ => fun
  | [d1, d2] => { results := [.lit (.bool true)], args := [d1, d2] }
  | _ => none }
def memTracesRow : OpenClaim := { program := "ytfckdafeeoibhaa", sum := "923cf2bbbd4262b81e00004384dfc66d9325f2cd9051287add3be0019dc371fc", func := "tombolo/tombololaw06.MemTraces", spec := "memTraces", unfollowed := true, recurses := true, apart := false }
def MemTracesSaid : Prop := memTracesRow.holds Try.pinned (OpenSpec.ofChange memTracesSpec)

/-- ITS FALSE NEIGHBOUR: 'it returns false'. Refute it at one input. -/
def memTracesWrong : ChangeSpec := { name := "memTraces", fn := fun _ => fun
  | [d1, d2] => { results := [.lit (.bool false)], args := [d1, d2] }
  | _ => none }
def MemTracesWrongFalsely : Prop := memTracesRow.holds Try.pinned (OpenSpec.ofChange memTracesWrong)

/- THE SECOND FORM. 'bulk': how many values and letters a reading holds, each counted each time it is reached (what is shared counts as often as it is met; a slice's spare places count too). A statement '..UptoSaid' is the law's where the arguments, and the package variables that the reading takes, are together of bulk at most 1048576: NARROWER than '..Said'. Prove '..Said' where nothing that the law and all that it calls make is longer than what came in: it says more and counts as full. Else prove '..UptoSaid'. A law counts once. -/
mutual
def uptoBulk {H : Type} : DataW H → Nat
  | .lit (.string bytes) => bytes.length + 1
  | .lit _ => 1
  | .nil => 1
  | .ptr d => uptoBulk d + 1
  | .slice elems spare => uptoBulkAll elems + uptoBulkAll spare + 1
  | .agg parts => uptoBulkAll parts + 1
  | .iface _ d => uptoBulk d + 1
  | .map entries => uptoBulkEntries entries + 1
  | .held _ => 1
def uptoBulkAll {H : Type} : List (DataW H) → Nat
  | [] => 0
  | d :: r => uptoBulk d + uptoBulkAll r
def uptoBulkEntries {H : Type} : List (Lit × DataW H) → Nat
  | [] => 0
  | x :: r => uptoBulkEntry x + uptoBulkEntries r
def uptoBulkEntry {H : Type} : Lit × DataW H → Nat
  | (.string bytes, d) => bytes.length + uptoBulk d + 1
  | (_, d) => uptoBulk d + 1
 end
def uptoSmall : (H : Type) → List (DataW H) → Bool := fun _ ds => decide (uptoBulkAll ds ≤ 1048576)
def OpenSpec.upto (s : _root_.Go.ChangeSpec) : _root_.Go.OpenSpec := { _root_.Go.OpenSpec.ofChange s with cond := some uptoSmall }

/-- 'tombololaw07.SlotSeries', WHERE WHAT IT READS IS OF BULK AT MOST 1048576: true; the input reads as it did. -/
def slotSeriesUptoRow : OpenClaim := { program := "ytfckdafeeoibhaa", sum := "923cf2bbbd4262b81e00004384dfc66d9325f2cd9051287add3be0019dc371fc", func := "tombolo/tombololaw07.SlotSeries", spec := "slotSeries", unfollowed := true, recurses := true, apart := false, narrowed := true }
def SlotSeriesUptoSaid : Prop := slotSeriesUptoRow.holds Try.pinned (OpenSpec.upto slotSeriesSpec)

/-- 'tombololaw07.SlotMixed', WHERE WHAT IT READS IS OF BULK AT MOST 1048576: true; the input reads as it did. -/
def slotMixedUptoRow : OpenClaim := { program := "ytfckdafeeoibhaa", sum := "923cf2bbbd4262b81e00004384dfc66d9325f2cd9051287add3be0019dc371fc", func := "tombolo/tombololaw07.SlotMixed", spec := "slotMixed", unfollowed := true, recurses := true, apart := false, narrowed := true }
def SlotMixedUptoSaid : Prop := slotMixedUptoRow.holds Try.pinned (OpenSpec.upto slotMixedSpec)

/-- 'tombololaw07.SlotMisses', WHERE WHAT IT READS IS OF BULK AT MOST 1048576: true; the input reads as it did. -/
def slotMissesUptoRow : OpenClaim := { program := "ytfckdafeeoibhaa", sum := "923cf2bbbd4262b81e00004384dfc66d9325f2cd9051287add3be0019dc371fc", func := "tombolo/tombololaw07.SlotMisses", spec := "slotMisses", unfollowed := true, recurses := true, apart := false, narrowed := true }
def SlotMissesUptoSaid : Prop := slotMissesUptoRow.holds Try.pinned (OpenSpec.upto slotMissesSpec)

/-- 'tombololaw07.SlotRows', WHERE WHAT IT READS IS OF BULK AT MOST 1048576: true; the input reads as it did. -/
def slotRowsUptoRow : OpenClaim := { program := "ytfckdafeeoibhaa", sum := "923cf2bbbd4262b81e00004384dfc66d9325f2cd9051287add3be0019dc371fc", func := "tombolo/tombololaw07.SlotRows", spec := "slotRows", unfollowed := true, recurses := true, apart := false, narrowed := true }
def SlotRowsUptoSaid : Prop := slotRowsUptoRow.holds Try.pinned (OpenSpec.upto slotRowsSpec)

/-- 'tombololaw08.PtrPens', WHERE WHAT IT READS IS OF BULK AT MOST 1048576: true; the input reads as it did. -/
def ptrPensUptoRow : OpenClaim := { program := "ytfckdafeeoibhaa", sum := "923cf2bbbd4262b81e00004384dfc66d9325f2cd9051287add3be0019dc371fc", func := "tombolo/tombololaw08.PtrPens", spec := "ptrPens", unfollowed := true, recurses := true, apart := false, narrowed := true }
def PtrPensUptoSaid : Prop := ptrPensUptoRow.holds Try.pinned (OpenSpec.upto ptrPensSpec)

/-- 'tombololaw08.PtrSeen', WHERE WHAT IT READS IS OF BULK AT MOST 1048576: true; the input reads as it did. -/
def ptrSeenUptoRow : OpenClaim := { program := "ytfckdafeeoibhaa", sum := "923cf2bbbd4262b81e00004384dfc66d9325f2cd9051287add3be0019dc371fc", func := "tombolo/tombololaw08.PtrSeen", spec := "ptrSeen", unfollowed := true, recurses := true, apart := false, narrowed := true }
def PtrSeenUptoSaid : Prop := ptrSeenUptoRow.holds Try.pinned (OpenSpec.upto ptrSeenSpec)

/-- 'tombololaw08.PtrLooks', WHERE WHAT IT READS IS OF BULK AT MOST 1048576: true; the input reads as it did. -/
def ptrLooksUptoRow : OpenClaim := { program := "ytfckdafeeoibhaa", sum := "923cf2bbbd4262b81e00004384dfc66d9325f2cd9051287add3be0019dc371fc", func := "tombolo/tombololaw08.PtrLooks", spec := "ptrLooks", unfollowed := true, recurses := true, apart := false, narrowed := true }
def PtrLooksUptoSaid : Prop := ptrLooksUptoRow.holds Try.pinned (OpenSpec.upto ptrLooksSpec)

/-- 'tombololaw08.PtrWrites', WHERE WHAT IT READS IS OF BULK AT MOST 1048576: true; the input reads as it did. -/
def ptrWritesUptoRow : OpenClaim := { program := "ytfckdafeeoibhaa", sum := "923cf2bbbd4262b81e00004384dfc66d9325f2cd9051287add3be0019dc371fc", func := "tombolo/tombololaw08.PtrWrites", spec := "ptrWrites", unfollowed := true, recurses := true, apart := false, narrowed := true }
def PtrWritesUptoSaid : Prop := ptrWritesUptoRow.holds Try.pinned (OpenSpec.upto ptrWritesSpec)

/-- 'tombololaw06.MemReplays', WHERE WHAT IT READS IS OF BULK AT MOST 1048576: true; the input reads as it did. -/
def memReplaysUptoRow : OpenClaim := { program := "ytfckdafeeoibhaa", sum := "923cf2bbbd4262b81e00004384dfc66d9325f2cd9051287add3be0019dc371fc", func := "tombolo/tombololaw06.MemReplays", spec := "memReplays", unfollowed := true, recurses := true, apart := false, narrowed := true }
def MemReplaysUptoSaid : Prop := memReplaysUptoRow.holds Try.pinned (OpenSpec.upto memReplaysSpec)

/-- 'tombololaw06.MemStops', WHERE WHAT IT READS IS OF BULK AT MOST 1048576: true; the input reads as it did. -/
def memStopsUptoRow : OpenClaim := { program := "ytfckdafeeoibhaa", sum := "923cf2bbbd4262b81e00004384dfc66d9325f2cd9051287add3be0019dc371fc", func := "tombolo/tombololaw06.MemStops", spec := "memStops", unfollowed := true, recurses := true, apart := false, narrowed := true }
def MemStopsUptoSaid : Prop := memStopsUptoRow.holds Try.pinned (OpenSpec.upto memStopsSpec)

/-- 'tombololaw06.MemApart', WHERE WHAT IT READS IS OF BULK AT MOST 1048576: true; the input reads as it did. -/
def memApartUptoRow : OpenClaim := { program := "ytfckdafeeoibhaa", sum := "923cf2bbbd4262b81e00004384dfc66d9325f2cd9051287add3be0019dc371fc", func := "tombolo/tombololaw06.MemApart", spec := "memApart", unfollowed := true, recurses := true, apart := false, narrowed := true }
def MemApartUptoSaid : Prop := memApartUptoRow.holds Try.pinned (OpenSpec.upto memApartSpec)

/-- 'tombololaw06.MemTraces', WHERE WHAT IT READS IS OF BULK AT MOST 1048576: true; the input reads as it did. -/
def memTracesUptoRow : OpenClaim := { program := "ytfckdafeeoibhaa", sum := "923cf2bbbd4262b81e00004384dfc66d9325f2cd9051287add3be0019dc371fc", func := "tombolo/tombololaw06.MemTraces", spec := "memTraces", unfollowed := true, recurses := true, apart := false, narrowed := true }
def MemTracesUptoSaid : Prop := memTracesUptoRow.holds Try.pinned (OpenSpec.upto memTracesSpec)

end Rows
end Go.Proofs.Ytfckdafeeoibhaa

/-
  DERIVED. GIVEN WITH THE SEED: THE CARDS: each row of YthhlflpeibdfmaaDoorRows.lean that lists a variable, with what it lists TIED to the program's text (the seventh form; the later family's looks); each row that meets fmt, with fmt's text TOLD by the authors' own Lean function (tested against real Go, not proved from fmt's source: count such statements apart). THE CARD IS WHAT COUNTS. Prove the row's statement (the work); the ties are given (YthhlflpeibdfmaaDoorTie.lean); close each card by the builder's one call (the guide's Derived/Test/ToyasCard.lean, 'card_holds'). Laid BY PROGRAM, IN A SANDBOX (cutbox-door.mjs). By AI agents, Wed Nov 11 2026. No macro, syntax, notation, axiom, sorry.
-/
import Derived.Test.YthhlflpeibdfmaaDoorRows
import GoSem.ClaimSeven
namespace Go.Proofs.YthhlflpeibdfmaaDoor
namespace Rows

/-- THE TIED CARD OF 'tombololaw04.ScanTells'. -/
def scanTellsCard : Claim7 := { stood := { row := scanTellsRow, standIns := [], harness := (true, "c644c9ca1f7b23c38ca4470b974c0d015f5f931dbcde06c4b5879cf7c24ca0db"), looks := true }, kinds := [], alts := [], laidByText := true, laidKinds := [.data, .data, .data], laidTests := true, laidLooks := .later }
def ScanTellsCardSaid : Prop := Claim7.holds Tryd.pinned (.plain (OpenSpec.ofChange scanTellsSpec)) scanTellsCard

/-- THE TIED CARD OF 'tombololaw04.ScanClasses'. -/
def scanClassesCard : Claim7 := { stood := { row := scanClassesRow, standIns := [], harness := (true, "c644c9ca1f7b23c38ca4470b974c0d015f5f931dbcde06c4b5879cf7c24ca0db"), looks := true }, kinds := [], alts := [], laidByText := true, laidKinds := [.data, .data, .data], laidTests := true, laidLooks := .later }
def ScanClassesCardSaid : Prop := Claim7.holds Tryd.pinned (.plain (OpenSpec.ofChange scanClassesSpec)) scanClassesCard

/-- THE TIED CARD OF 'tombololaw04.ScanCounts'. -/
def scanCountsCard : Claim7 := { stood := { row := scanCountsRow, standIns := [], harness := (true, "c644c9ca1f7b23c38ca4470b974c0d015f5f931dbcde06c4b5879cf7c24ca0db"), looks := true }, kinds := [], alts := [], laidByText := true, laidKinds := [.data, .data, .data], laidTests := true, laidLooks := .later }
def ScanCountsCardSaid : Prop := Claim7.holds Tryd.pinned (.plain (OpenSpec.ofChange scanCountsSpec)) scanCountsCard

/-- THE TIED CARD OF 'tombololaw04.ScanJoins'. -/
def scanJoinsCard : Claim7 := { stood := { row := scanJoinsRow, standIns := [], harness := (true, "c644c9ca1f7b23c38ca4470b974c0d015f5f931dbcde06c4b5879cf7c24ca0db"), looks := true }, kinds := [], alts := [], laidByText := true, laidKinds := [.data, .data, .data], laidTests := true, laidLooks := .later }
def ScanJoinsCardSaid : Prop := Claim7.holds Tryd.pinned (.plain (OpenSpec.ofChange scanJoinsSpec)) scanJoinsCard

/-- THE TIED CARD OF 'tombololaw04.ScanParts'. -/
def scanPartsCard : Claim7 := { stood := { row := scanPartsRow, standIns := [], harness := (true, "c644c9ca1f7b23c38ca4470b974c0d015f5f931dbcde06c4b5879cf7c24ca0db"), looks := true }, kinds := [], alts := [], laidByText := true, laidKinds := [.data, .data, .data], laidTests := true, laidLooks := .later }
def ScanPartsCardSaid : Prop := Claim7.holds Tryd.pinned (.plain (OpenSpec.ofChange scanPartsSpec)) scanPartsCard

/-- THE TIED CARD OF 'tombololaw04.ScanBlanks'. -/
def scanBlanksCard : Claim7 := { stood := { row := scanBlanksRow, standIns := [], harness := (true, "c644c9ca1f7b23c38ca4470b974c0d015f5f931dbcde06c4b5879cf7c24ca0db"), looks := true }, kinds := [], alts := [], laidByText := true, laidKinds := [.data, .data, .data], laidTests := true, laidLooks := .later }
def ScanBlanksCardSaid : Prop := Claim7.holds Tryd.pinned (.plain (OpenSpec.ofChange scanBlanksSpec)) scanBlanksCard

/-- THE TIED CARD OF 'tombololaw04.ScanNumbers'. -/
def scanNumbersCard : Claim7 := { stood := { row := scanNumbersRow, standIns := [], harness := (true, "c644c9ca1f7b23c38ca4470b974c0d015f5f931dbcde06c4b5879cf7c24ca0db"), looks := true }, kinds := [], alts := [], laidByText := true, laidKinds := [.data, .data, .data], laidTests := true, laidLooks := .later }
def ScanNumbersCardSaid : Prop := Claim7.holds Tryd.pinned (.plain (OpenSpec.ofChange scanNumbersSpec)) scanNumbersCard

/-- THE SECOND FORM's CARD OF 'tombololaw04.ScanTells'. -/
def scanTellsUptoCard : Claim7 := { stood := { row := scanTellsUptoRow, standIns := [], harness := (true, "c644c9ca1f7b23c38ca4470b974c0d015f5f931dbcde06c4b5879cf7c24ca0db"), looks := true }, kinds := [], alts := [], laidByText := true, laidKinds := [.data, .data, .data], laidTests := true, laidLooks := .later }
def ScanTellsUptoCardSaid : Prop := Claim7.holds Tryd.pinned (.plain (OpenSpec.upto scanTellsSpec)) scanTellsUptoCard

/-- THE SECOND FORM's CARD OF 'tombololaw04.ScanClasses'. -/
def scanClassesUptoCard : Claim7 := { stood := { row := scanClassesUptoRow, standIns := [], harness := (true, "c644c9ca1f7b23c38ca4470b974c0d015f5f931dbcde06c4b5879cf7c24ca0db"), looks := true }, kinds := [], alts := [], laidByText := true, laidKinds := [.data, .data, .data], laidTests := true, laidLooks := .later }
def ScanClassesUptoCardSaid : Prop := Claim7.holds Tryd.pinned (.plain (OpenSpec.upto scanClassesSpec)) scanClassesUptoCard

/-- THE SECOND FORM's CARD OF 'tombololaw04.ScanCounts'. -/
def scanCountsUptoCard : Claim7 := { stood := { row := scanCountsUptoRow, standIns := [], harness := (true, "c644c9ca1f7b23c38ca4470b974c0d015f5f931dbcde06c4b5879cf7c24ca0db"), looks := true }, kinds := [], alts := [], laidByText := true, laidKinds := [.data, .data, .data], laidTests := true, laidLooks := .later }
def ScanCountsUptoCardSaid : Prop := Claim7.holds Tryd.pinned (.plain (OpenSpec.upto scanCountsSpec)) scanCountsUptoCard

/-- THE SECOND FORM's CARD OF 'tombololaw04.ScanJoins'. -/
def scanJoinsUptoCard : Claim7 := { stood := { row := scanJoinsUptoRow, standIns := [], harness := (true, "c644c9ca1f7b23c38ca4470b974c0d015f5f931dbcde06c4b5879cf7c24ca0db"), looks := true }, kinds := [], alts := [], laidByText := true, laidKinds := [.data, .data, .data], laidTests := true, laidLooks := .later }
def ScanJoinsUptoCardSaid : Prop := Claim7.holds Tryd.pinned (.plain (OpenSpec.upto scanJoinsSpec)) scanJoinsUptoCard

/-- THE SECOND FORM's CARD OF 'tombololaw04.ScanParts'. -/
def scanPartsUptoCard : Claim7 := { stood := { row := scanPartsUptoRow, standIns := [], harness := (true, "c644c9ca1f7b23c38ca4470b974c0d015f5f931dbcde06c4b5879cf7c24ca0db"), looks := true }, kinds := [], alts := [], laidByText := true, laidKinds := [.data, .data, .data], laidTests := true, laidLooks := .later }
def ScanPartsUptoCardSaid : Prop := Claim7.holds Tryd.pinned (.plain (OpenSpec.upto scanPartsSpec)) scanPartsUptoCard

/-- THE SECOND FORM's CARD OF 'tombololaw04.ScanBlanks'. -/
def scanBlanksUptoCard : Claim7 := { stood := { row := scanBlanksUptoRow, standIns := [], harness := (true, "c644c9ca1f7b23c38ca4470b974c0d015f5f931dbcde06c4b5879cf7c24ca0db"), looks := true }, kinds := [], alts := [], laidByText := true, laidKinds := [.data, .data, .data], laidTests := true, laidLooks := .later }
def ScanBlanksUptoCardSaid : Prop := Claim7.holds Tryd.pinned (.plain (OpenSpec.upto scanBlanksSpec)) scanBlanksUptoCard

/-- THE SECOND FORM's CARD OF 'tombololaw04.ScanNumbers'. -/
def scanNumbersUptoCard : Claim7 := { stood := { row := scanNumbersUptoRow, standIns := [], harness := (true, "c644c9ca1f7b23c38ca4470b974c0d015f5f931dbcde06c4b5879cf7c24ca0db"), looks := true }, kinds := [], alts := [], laidByText := true, laidKinds := [.data, .data, .data], laidTests := true, laidLooks := .later }
def ScanNumbersUptoCardSaid : Prop := Claim7.holds Tryd.pinned (.plain (OpenSpec.upto scanNumbersSpec)) scanNumbersUptoCard
end Rows
end Go.Proofs.YthhlflpeibdfmaaDoor

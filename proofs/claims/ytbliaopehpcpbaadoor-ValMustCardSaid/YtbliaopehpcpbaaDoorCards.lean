/-
  DERIVED. GIVEN WITH THE SEED: THE CARDS: each row of YtbliaopehpcpbaaDoorRows.lean that lists a variable, with what it lists TIED to the program's text (the seventh form; the later family's looks); each row that meets fmt, with fmt's text TOLD by the authors' own Lean function (tested against real Go, not proved from fmt's source: count such statements apart). THE CARD IS WHAT COUNTS. Prove the row's statement (the work); the ties are given (YtbliaopehpcpbaaDoorTie.lean); close each card by the builder's one call (the guide's Derived/Test/ToyasCard.lean, 'card_holds'). Laid BY PROGRAM, IN A SANDBOX (cutbox-door.mjs). By AI agents, Wed Nov 11 2026. No macro, syntax, notation, axiom, sorry.
-/
import Derived.Test.YtbliaopehpcpbaaDoorRows
import GoSem.ClaimSeven
namespace Go.Proofs.YtbliaopehpcpbaaDoor
namespace Rows

/-- THE TIED CARD OF 'tombololaw03.ValKinds'. -/
def valKindsCard : Claim7 := { stood := { row := valKindsRow, standIns := [], harness := (true, "ede373c93003e80e1bf21567f75d87a1b72cb0cbad81acfad1a10bf67adc1593"), looks := true }, kinds := [], alts := [], laidByText := true, laidKinds := [.data, .data, .data], laidTests := true, laidLooks := .later }
def ValKindsCardSaid : Prop := Claim7.holds Tryd.pinned (.plain (OpenSpec.ofChange valKindsSpec)) valKindsCard

/-- THE TIED CARD OF 'tombololaw03.ValMust'. -/
def valMustCard : Claim7 := { stood := { row := valMustRow, standIns := [], harness := (true, "ede373c93003e80e1bf21567f75d87a1b72cb0cbad81acfad1a10bf67adc1593"), looks := true }, kinds := [], alts := [], laidByText := true, laidKinds := [.data, .data, .data], laidTests := true, laidLooks := .later }
def ValMustCardSaid : Prop := Claim7.holds Tryd.pinned (.plain (OpenSpec.ofChange valMustSpec)) valMustCard

/-- THE TIED CARD OF 'tombololaw03.ValEquals'. -/
def valEqualsCard : Claim7 := { stood := { row := valEqualsRow, standIns := [], harness := (true, "ede373c93003e80e1bf21567f75d87a1b72cb0cbad81acfad1a10bf67adc1593"), looks := true }, kinds := [], alts := [], laidByText := true, laidKinds := [.data, .data, .data], laidTests := true, laidLooks := .later }
def ValEqualsCardSaid : Prop := Claim7.holds Tryd.pinned (.plain (OpenSpec.ofChange valEqualsSpec)) valEqualsCard

/-- THE TIED CARD OF 'tombololaw03.ValSays'. -/
def valSaysCard : Claim7 := { stood := { row := valSaysRow, standIns := [], harness := (true, "ede373c93003e80e1bf21567f75d87a1b72cb0cbad81acfad1a10bf67adc1593"), looks := true }, kinds := [], alts := [], laidByText := true, laidKinds := [.data, .data, .data], laidTests := true, laidLooks := .later }
def ValSaysCardSaid : Prop := Claim7.holds Tryd.pinned (.plain (OpenSpec.ofChange valSaysSpec)) valSaysCard

/-- THE TIED CARD OF 'tombololaw03.ValTurns'. -/
def valTurnsCard : Claim7 := { stood := { row := valTurnsRow, standIns := [], harness := (true, "ede373c93003e80e1bf21567f75d87a1b72cb0cbad81acfad1a10bf67adc1593"), looks := true }, kinds := [], alts := [], laidByText := true, laidKinds := [.data, .data, .data], laidTests := true, laidLooks := .later }
def ValTurnsCardSaid : Prop := Claim7.holds Tryd.pinned (.plain (OpenSpec.ofChange valTurnsSpec)) valTurnsCard

/-- THE SECOND FORM's CARD OF 'tombololaw03.ValKinds'. -/
def valKindsUptoCard : Claim7 := { stood := { row := valKindsUptoRow, standIns := [], harness := (true, "ede373c93003e80e1bf21567f75d87a1b72cb0cbad81acfad1a10bf67adc1593"), looks := true }, kinds := [], alts := [], laidByText := true, laidKinds := [.data, .data, .data], laidTests := true, laidLooks := .later }
def ValKindsUptoCardSaid : Prop := Claim7.holds Tryd.pinned (.plain (OpenSpec.upto valKindsSpec)) valKindsUptoCard

/-- THE SECOND FORM's CARD OF 'tombololaw03.ValMust'. -/
def valMustUptoCard : Claim7 := { stood := { row := valMustUptoRow, standIns := [], harness := (true, "ede373c93003e80e1bf21567f75d87a1b72cb0cbad81acfad1a10bf67adc1593"), looks := true }, kinds := [], alts := [], laidByText := true, laidKinds := [.data, .data, .data], laidTests := true, laidLooks := .later }
def ValMustUptoCardSaid : Prop := Claim7.holds Tryd.pinned (.plain (OpenSpec.upto valMustSpec)) valMustUptoCard

/-- THE SECOND FORM's CARD OF 'tombololaw03.ValEquals'. -/
def valEqualsUptoCard : Claim7 := { stood := { row := valEqualsUptoRow, standIns := [], harness := (true, "ede373c93003e80e1bf21567f75d87a1b72cb0cbad81acfad1a10bf67adc1593"), looks := true }, kinds := [], alts := [], laidByText := true, laidKinds := [.data, .data, .data], laidTests := true, laidLooks := .later }
def ValEqualsUptoCardSaid : Prop := Claim7.holds Tryd.pinned (.plain (OpenSpec.upto valEqualsSpec)) valEqualsUptoCard

/-- THE SECOND FORM's CARD OF 'tombololaw03.ValSays'. -/
def valSaysUptoCard : Claim7 := { stood := { row := valSaysUptoRow, standIns := [], harness := (true, "ede373c93003e80e1bf21567f75d87a1b72cb0cbad81acfad1a10bf67adc1593"), looks := true }, kinds := [], alts := [], laidByText := true, laidKinds := [.data, .data, .data], laidTests := true, laidLooks := .later }
def ValSaysUptoCardSaid : Prop := Claim7.holds Tryd.pinned (.plain (OpenSpec.upto valSaysSpec)) valSaysUptoCard

/-- THE SECOND FORM's CARD OF 'tombololaw03.ValTurns'. -/
def valTurnsUptoCard : Claim7 := { stood := { row := valTurnsUptoRow, standIns := [], harness := (true, "ede373c93003e80e1bf21567f75d87a1b72cb0cbad81acfad1a10bf67adc1593"), looks := true }, kinds := [], alts := [], laidByText := true, laidKinds := [.data, .data, .data], laidTests := true, laidLooks := .later }
def ValTurnsUptoCardSaid : Prop := Claim7.holds Tryd.pinned (.plain (OpenSpec.upto valTurnsSpec)) valTurnsUptoCard
end Rows
end Go.Proofs.YtbliaopehpcpbaaDoor

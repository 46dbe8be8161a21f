/-
  No cell of these rows narrows 'for every input' (looked for: loops, veiled, ifaces, maps, wideKeys, modest, calm, conditions, laid).
  DERIVED. THE GIVEN ROWS OF THIS SEAT. 11 by the template 'for every input the law returns true; each argument reads behind the call as it read before'; 0 by the template 'total and deterministic' (their statements: YtplfaagompkfcaaTotals.lean).
  GIVEN WITH THE SEED: the statements are not yours to turn. If you find one false, say at which input.
  Laid BY PROGRAM, IN A SANDBOX (cutbox-rows.mjs): the forced cells as the released guide's own fill.sh prints them over the translation 4f0eb248624903e2… (all of the seat's roots in one cut). By AI agents, Wed Nov 11 2026. No macro, syntax, notation, axiom, sorry.
-/
import Derived.Test.YtplfaagompkfcaaChecked
import GoSem.Claim
import GoSem.ClaimJoined
import GoSem.ClaimMapViews
import Derived.JoinedTies
import Derived.KernelRfl
namespace Go.Proofs.Ytplfaagompkfcaa
/- THE CELL 'sum', in the pinned program and in every row, IS THE sha256 OF THE DUMP (.gsa) THAT YtplfaagompkfcaaProg.lean LOADS. Nothing in Lean hashes anything: it is a label: what it is worth is what the hold of that sum in a sandbox is worth. -/
noncomputable def Try.pinned : Pinned := { name := "ytplfaagompkfcaa", sum := "4f0eb248624903e238644cb39d69d07b270a856758e077c39fb7e83314a9156a", checked := Try.checked }
namespace Rows
def none {H : Type} : Left H := { results := [], args := [] }

/-- 'tombololaw01.WordPacks': WHATEVER THE INPUT: true; the input reads as it did. -/
def wordPacksSpec : ChangeSpec := { name := "wordPacks", fn := fun _ => fun
  | [d] => { results := [.lit (.bool true)], args := [d] }
  | _ => none }
def wordPacksRow : OpenClaim := { program := "ytplfaagompkfcaa", sum := "4f0eb248624903e238644cb39d69d07b270a856758e077c39fb7e83314a9156a", func := "tombolo/tombololaw01.WordPacks", spec := "wordPacks", apart := false }
def WordPacksSaid : Prop := wordPacksRow.holds Try.pinned (OpenSpec.ofChange wordPacksSpec)

/-- ITS FALSE NEIGHBOUR: 'it returns false'. Refute it at one input. -/
def wordPacksWrong : ChangeSpec := { name := "wordPacks", fn := fun _ => fun
  | [d] => { results := [.lit (.bool false)], args := [d] }
  | _ => none }
def WordPacksWrongFalsely : Prop := wordPacksRow.holds Try.pinned (OpenSpec.ofChange wordPacksWrong)

/-- 'tombololaw01.WordUnpacks': WHATEVER THE INPUT: true; the input reads as it did. -/
def wordUnpacksSpec : ChangeSpec := { name := "wordUnpacks", fn := fun _ => fun
  | [d] => { results := [.lit (.bool true)], args := [d] }
  | _ => none }
def wordUnpacksRow : OpenClaim := { program := "ytplfaagompkfcaa", sum := "4f0eb248624903e238644cb39d69d07b270a856758e077c39fb7e83314a9156a", func := "tombolo/tombololaw01.WordUnpacks", spec := "wordUnpacks", apart := false }
def WordUnpacksSaid : Prop := wordUnpacksRow.holds Try.pinned (OpenSpec.ofChange wordUnpacksSpec)

/-- ITS FALSE NEIGHBOUR: 'it returns false'. Refute it at one input. -/
def wordUnpacksWrong : ChangeSpec := { name := "wordUnpacks", fn := fun _ => fun
  | [d] => { results := [.lit (.bool false)], args := [d] }
  | _ => none }
def WordUnpacksWrongFalsely : Prop := wordUnpacksRow.holds Try.pinned (OpenSpec.ofChange wordUnpacksWrong)

/-- 'tombololaw01.WordStates': WHATEVER THE INPUT: true; the input reads as it did. -/
def wordStatesSpec : ChangeSpec := { name := "wordStates", fn := fun _ => fun
  | [d1, d2, d3] => { results := [.lit (.bool true)], args := [d1, d2, d3] }
  | _ => none }
def wordStatesRow : OpenClaim := { program := "ytplfaagompkfcaa", sum := "4f0eb248624903e238644cb39d69d07b270a856758e077c39fb7e83314a9156a", func := "tombolo/tombololaw01.WordStates", spec := "wordStates", apart := false }
def WordStatesSaid : Prop := wordStatesRow.holds Try.pinned (OpenSpec.ofChange wordStatesSpec)

/-- ITS FALSE NEIGHBOUR: 'it returns false'. Refute it at one input. -/
def wordStatesWrong : ChangeSpec := { name := "wordStates", fn := fun _ => fun
  | [d1, d2, d3] => { results := [.lit (.bool false)], args := [d1, d2, d3] }
  | _ => none }
def WordStatesWrongFalsely : Prop := wordStatesRow.holds Try.pinned (OpenSpec.ofChange wordStatesWrong)

/-- 'tombololaw01.WordMeans': WHATEVER THE INPUT: true; the input reads as it did. -/
def wordMeansSpec : ChangeSpec := { name := "wordMeans", fn := fun _ => fun
  | [d1, d2, d3] => { results := [.lit (.bool true)], args := [d1, d2, d3] }
  | _ => none }
def wordMeansRow : OpenClaim := { program := "ytplfaagompkfcaa", sum := "4f0eb248624903e238644cb39d69d07b270a856758e077c39fb7e83314a9156a", func := "tombolo/tombololaw01.WordMeans", spec := "wordMeans", apart := false }
def WordMeansSaid : Prop := wordMeansRow.holds Try.pinned (OpenSpec.ofChange wordMeansSpec)

/-- ITS FALSE NEIGHBOUR: 'it returns false'. Refute it at one input. -/
def wordMeansWrong : ChangeSpec := { name := "wordMeans", fn := fun _ => fun
  | [d1, d2, d3] => { results := [.lit (.bool false)], args := [d1, d2, d3] }
  | _ => none }
def WordMeansWrongFalsely : Prop := wordMeansRow.holds Try.pinned (OpenSpec.ofChange wordMeansWrong)

/-- 'tombololaw01.WordOnce': WHATEVER THE INPUT: true; the input reads as it did. -/
def wordOnceSpec : ChangeSpec := { name := "wordOnce", fn := fun _ => fun
  | [d1, d2] => { results := [.lit (.bool true)], args := [d1, d2] }
  | _ => none }
def wordOnceRow : OpenClaim := { program := "ytplfaagompkfcaa", sum := "4f0eb248624903e238644cb39d69d07b270a856758e077c39fb7e83314a9156a", func := "tombolo/tombololaw01.WordOnce", spec := "wordOnce", apart := false }
def WordOnceSaid : Prop := wordOnceRow.holds Try.pinned (OpenSpec.ofChange wordOnceSpec)

/-- ITS FALSE NEIGHBOUR: 'it returns false'. Refute it at one input. -/
def wordOnceWrong : ChangeSpec := { name := "wordOnce", fn := fun _ => fun
  | [d1, d2] => { results := [.lit (.bool false)], args := [d1, d2] }
  | _ => none }
def WordOnceWrongFalsely : Prop := wordOnceRow.holds Try.pinned (OpenSpec.ofChange wordOnceWrong)

/-- 'tombololaw01.WordPlain': WHATEVER THE INPUT: true; the input reads as it did. -/
def wordPlainSpec : ChangeSpec := { name := "wordPlain", fn := fun _ => fun
  | [d1, d2, d3] => { results := [.lit (.bool true)], args := [d1, d2, d3] }
  | _ => none }
def wordPlainRow : OpenClaim := { program := "ytplfaagompkfcaa", sum := "4f0eb248624903e238644cb39d69d07b270a856758e077c39fb7e83314a9156a", func := "tombolo/tombololaw01.WordPlain", spec := "wordPlain", apart := false }
def WordPlainSaid : Prop := wordPlainRow.holds Try.pinned (OpenSpec.ofChange wordPlainSpec)

/-- ITS FALSE NEIGHBOUR: 'it returns false'. Refute it at one input. -/
def wordPlainWrong : ChangeSpec := { name := "wordPlain", fn := fun _ => fun
  | [d1, d2, d3] => { results := [.lit (.bool false)], args := [d1, d2, d3] }
  | _ => none }
def WordPlainWrongFalsely : Prop := wordPlainRow.holds Try.pinned (OpenSpec.ofChange wordPlainWrong)

/-- 'tombololaw01.WordApart': WHATEVER THE INPUT: true; the input reads as it did. -/
def wordApartSpec : ChangeSpec := { name := "wordApart", fn := fun _ => fun
  | [d1, d2] => { results := [.lit (.bool true)], args := [d1, d2] }
  | _ => none }
def wordApartRow : OpenClaim := { program := "ytplfaagompkfcaa", sum := "4f0eb248624903e238644cb39d69d07b270a856758e077c39fb7e83314a9156a", func := "tombolo/tombololaw01.WordApart", spec := "wordApart", apart := false }
def WordApartSaid : Prop := wordApartRow.holds Try.pinned (OpenSpec.ofChange wordApartSpec)

/-- ITS FALSE NEIGHBOUR: 'it returns false'. Refute it at one input. -/
def wordApartWrong : ChangeSpec := { name := "wordApart", fn := fun _ => fun
  | [d1, d2] => { results := [.lit (.bool false)], args := [d1, d2] }
  | _ => none }
def WordApartWrongFalsely : Prop := wordApartRow.holds Try.pinned (OpenSpec.ofChange wordApartWrong)

/-- 'tombololaw02.CellPlays': WHATEVER THE INPUT: true; the input reads as it did. -/
def cellPlaysSpec : ChangeSpec := { name := "cellPlays", fn := fun _ => fun
  | [d1, d2] => { results := [.lit (.bool true)], args := [d1, d2] }
  | _ => none }
def cellPlaysRow : OpenClaim := { program := "ytplfaagompkfcaa", sum := "4f0eb248624903e238644cb39d69d07b270a856758e077c39fb7e83314a9156a", func := "tombolo/tombololaw02.CellPlays", spec := "cellPlays", apart := false }
def CellPlaysSaid : Prop := cellPlaysRow.holds Try.pinned (OpenSpec.ofChange cellPlaysSpec)

/-- ITS FALSE NEIGHBOUR: 'it returns false'. Refute it at one input. -/
def cellPlaysWrong : ChangeSpec := { name := "cellPlays", fn := fun _ => fun
  | [d1, d2] => { results := [.lit (.bool false)], args := [d1, d2] }
  | _ => none }
def CellPlaysWrongFalsely : Prop := cellPlaysRow.holds Try.pinned (OpenSpec.ofChange cellPlaysWrong)

/-- 'tombololaw02.CellApart': WHATEVER THE INPUT: true; the input reads as it did. -/
def cellApartSpec : ChangeSpec := { name := "cellApart", fn := fun _ => fun
  | [d1, d2] => { results := [.lit (.bool true)], args := [d1, d2] }
  | _ => none }
def cellApartRow : OpenClaim := { program := "ytplfaagompkfcaa", sum := "4f0eb248624903e238644cb39d69d07b270a856758e077c39fb7e83314a9156a", func := "tombolo/tombololaw02.CellApart", spec := "cellApart", apart := false }
def CellApartSaid : Prop := cellApartRow.holds Try.pinned (OpenSpec.ofChange cellApartSpec)

/-- ITS FALSE NEIGHBOUR: 'it returns false'. Refute it at one input. -/
def cellApartWrong : ChangeSpec := { name := "cellApart", fn := fun _ => fun
  | [d1, d2] => { results := [.lit (.bool false)], args := [d1, d2] }
  | _ => none }
def CellApartWrongFalsely : Prop := cellApartRow.holds Try.pinned (OpenSpec.ofChange cellApartWrong)

/-- 'tombololaw02.CellOnce': WHATEVER THE INPUT: true; the input reads as it did. -/
def cellOnceSpec : ChangeSpec := { name := "cellOnce", fn := fun _ => fun
  | [d1, d2] => { results := [.lit (.bool true)], args := [d1, d2] }
  | _ => none }
def cellOnceRow : OpenClaim := { program := "ytplfaagompkfcaa", sum := "4f0eb248624903e238644cb39d69d07b270a856758e077c39fb7e83314a9156a", func := "tombolo/tombololaw02.CellOnce", spec := "cellOnce", apart := false }
def CellOnceSaid : Prop := cellOnceRow.holds Try.pinned (OpenSpec.ofChange cellOnceSpec)

/-- ITS FALSE NEIGHBOUR: 'it returns false'. Refute it at one input. -/
def cellOnceWrong : ChangeSpec := { name := "cellOnce", fn := fun _ => fun
  | [d1, d2] => { results := [.lit (.bool false)], args := [d1, d2] }
  | _ => none }
def CellOnceWrongFalsely : Prop := cellOnceRow.holds Try.pinned (OpenSpec.ofChange cellOnceWrong)

/-- 'tombololaw02.CellCopies': WHATEVER THE INPUT: true; the input reads as it did. -/
def cellCopiesSpec : ChangeSpec := { name := "cellCopies", fn := fun _ => fun
  | [d1, d2, d3] => { results := [.lit (.bool true)], args := [d1, d2, d3] }
  | _ => none }
def cellCopiesRow : OpenClaim := { program := "ytplfaagompkfcaa", sum := "4f0eb248624903e238644cb39d69d07b270a856758e077c39fb7e83314a9156a", func := "tombolo/tombololaw02.CellCopies", spec := "cellCopies", unfollowed := true, recurses := true, apart := false }
def CellCopiesSaid : Prop := cellCopiesRow.holds Try.pinned (OpenSpec.ofChange cellCopiesSpec)

/-- ITS FALSE NEIGHBOUR: 'it returns false'. Refute it at one input. -/
def cellCopiesWrong : ChangeSpec := { name := "cellCopies", fn := fun _ => fun
  | [d1, d2, d3] => { results := [.lit (.bool false)], args := [d1, d2, d3] }
  | _ => none }
def CellCopiesWrongFalsely : Prop := cellCopiesRow.holds Try.pinned (OpenSpec.ofChange cellCopiesWrong)

/- THE SECOND FORM. 'bulk': how many values and letters a reading holds, each counted each time it is reached (what is shared counts as often as it is met; a slice's spare places count too). A statement '..UptoSaid' is the law's where the arguments, and the package variables that the reading takes, are together of bulk at most 1048576: NARROWER than '..Said'. Prove '..Said' where nothing that the law and all that it calls make is longer than what came in: it says more and counts as full. Else prove '..UptoSaid'. A law counts once. -/
mutual
def uptoBulk {H : Type} : DataW H → Nat
  | .lit (.string bytes) => bytes.length + 1
  | .lit _ => 1
  | .nil => 1
  | .ptr d => uptoBulk d + 1
  | .slice elems spare => uptoBulkAll elems + uptoBulkAll spare + 1
  | .agg parts => uptoBulkAll parts + 1
  | .iface _ d => uptoBulk d + 1
  | .map entries => uptoBulkEntries entries + 1
  | .held _ => 1
def uptoBulkAll {H : Type} : List (DataW H) → Nat
  | [] => 0
  | d :: r => uptoBulk d + uptoBulkAll r
def uptoBulkEntries {H : Type} : List (Lit × DataW H) → Nat
  | [] => 0
  | x :: r => uptoBulkEntry x + uptoBulkEntries r
def uptoBulkEntry {H : Type} : Lit × DataW H → Nat
  | (.string bytes, d) => bytes.length + uptoBulk d + 1
  | (_, d) => uptoBulk d + 1
 end
def uptoSmall : (H : Type) → List (DataW H) → Bool := fun _ ds => decide (uptoBulkAll ds ≤ 1048576)
def OpenSpec.upto (s : _root_.Go.ChangeSpec) : _root_.Go.OpenSpec := { _root_.Go.OpenSpec.ofChange s with cond := some uptoSmall }

/-- 'tombololaw01.WordPacks', WHERE WHAT IT READS IS OF BULK AT MOST 1048576: true; the input reads as it did. -/
def wordPacksUptoRow : OpenClaim := { program := "ytplfaagompkfcaa", sum := "4f0eb248624903e238644cb39d69d07b270a856758e077c39fb7e83314a9156a", func := "tombolo/tombololaw01.WordPacks", spec := "wordPacks", apart := false, narrowed := true }
def WordPacksUptoSaid : Prop := wordPacksUptoRow.holds Try.pinned (OpenSpec.upto wordPacksSpec)

/-- 'tombololaw01.WordUnpacks', WHERE WHAT IT READS IS OF BULK AT MOST 1048576: true; the input reads as it did. -/
def wordUnpacksUptoRow : OpenClaim := { program := "ytplfaagompkfcaa", sum := "4f0eb248624903e238644cb39d69d07b270a856758e077c39fb7e83314a9156a", func := "tombolo/tombololaw01.WordUnpacks", spec := "wordUnpacks", apart := false, narrowed := true }
def WordUnpacksUptoSaid : Prop := wordUnpacksUptoRow.holds Try.pinned (OpenSpec.upto wordUnpacksSpec)

/-- 'tombololaw01.WordStates', WHERE WHAT IT READS IS OF BULK AT MOST 1048576: true; the input reads as it did. -/
def wordStatesUptoRow : OpenClaim := { program := "ytplfaagompkfcaa", sum := "4f0eb248624903e238644cb39d69d07b270a856758e077c39fb7e83314a9156a", func := "tombolo/tombololaw01.WordStates", spec := "wordStates", apart := false, narrowed := true }
def WordStatesUptoSaid : Prop := wordStatesUptoRow.holds Try.pinned (OpenSpec.upto wordStatesSpec)

/-- 'tombololaw01.WordMeans', WHERE WHAT IT READS IS OF BULK AT MOST 1048576: true; the input reads as it did. -/
def wordMeansUptoRow : OpenClaim := { program := "ytplfaagompkfcaa", sum := "4f0eb248624903e238644cb39d69d07b270a856758e077c39fb7e83314a9156a", func := "tombolo/tombololaw01.WordMeans", spec := "wordMeans", apart := false, narrowed := true }
def WordMeansUptoSaid : Prop := wordMeansUptoRow.holds Try.pinned (OpenSpec.upto wordMeansSpec)

/-- 'tombololaw01.WordOnce', WHERE WHAT IT READS IS OF BULK AT MOST 1048576: true; the input reads as it did. -/
def wordOnceUptoRow : OpenClaim := { program := "ytplfaagompkfcaa", sum := "4f0eb248624903e238644cb39d69d07b270a856758e077c39fb7e83314a9156a", func := "tombolo/tombololaw01.WordOnce", spec := "wordOnce", apart := false, narrowed := true }
def WordOnceUptoSaid : Prop := wordOnceUptoRow.holds Try.pinned (OpenSpec.upto wordOnceSpec)

/-- 'tombololaw01.WordPlain', WHERE WHAT IT READS IS OF BULK AT MOST 1048576: true; the input reads as it did. -/
def wordPlainUptoRow : OpenClaim := { program := "ytplfaagompkfcaa", sum := "4f0eb248624903e238644cb39d69d07b270a856758e077c39fb7e83314a9156a", func := "tombolo/tombololaw01.WordPlain", spec := "wordPlain", apart := false, narrowed := true }
def WordPlainUptoSaid : Prop := wordPlainUptoRow.holds Try.pinned (OpenSpec.upto wordPlainSpec)

/-- 'tombololaw01.WordApart', WHERE WHAT IT READS IS OF BULK AT MOST 1048576: true; the input reads as it did. -/
def wordApartUptoRow : OpenClaim := { program := "ytplfaagompkfcaa", sum := "4f0eb248624903e238644cb39d69d07b270a856758e077c39fb7e83314a9156a", func := "tombolo/tombololaw01.WordApart", spec := "wordApart", apart := false, narrowed := true }
def WordApartUptoSaid : Prop := wordApartUptoRow.holds Try.pinned (OpenSpec.upto wordApartSpec)

/-- 'tombololaw02.CellPlays', WHERE WHAT IT READS IS OF BULK AT MOST 1048576: true; the input reads as it did. -/
def cellPlaysUptoRow : OpenClaim := { program := "ytplfaagompkfcaa", sum := "4f0eb248624903e238644cb39d69d07b270a856758e077c39fb7e83314a9156a", func := "tombolo/tombololaw02.CellPlays", spec := "cellPlays", apart := false, narrowed := true }
def CellPlaysUptoSaid : Prop := cellPlaysUptoRow.holds Try.pinned (OpenSpec.upto cellPlaysSpec)

/-- 'tombololaw02.CellApart', WHERE WHAT IT READS IS OF BULK AT MOST 1048576: true; the input reads as it did. -/
def cellApartUptoRow : OpenClaim := { program := "ytplfaagompkfcaa", sum := "4f0eb248624903e238644cb39d69d07b270a856758e077c39fb7e83314a9156a", func := "tombolo/tombololaw02.CellApart", spec := "cellApart", apart := false, narrowed := true }
def CellApartUptoSaid : Prop := cellApartUptoRow.holds Try.pinned (OpenSpec.upto cellApartSpec)

/-- 'tombololaw02.CellOnce', WHERE WHAT IT READS IS OF BULK AT MOST 1048576: true; the input reads as it did. -/
def cellOnceUptoRow : OpenClaim := { program := "ytplfaagompkfcaa", sum := "4f0eb248624903e238644cb39d69d07b270a856758e077c39fb7e83314a9156a", func := "tombolo/tombololaw02.CellOnce", spec := "cellOnce", apart := false, narrowed := true }
def CellOnceUptoSaid : Prop := cellOnceUptoRow.holds Try.pinned (OpenSpec.upto cellOnceSpec)

/-- 'tombololaw02.CellCopies', WHERE WHAT IT READS IS OF BULK AT MOST 1048576: true; the input reads as it did. -/
def cellCopiesUptoRow : OpenClaim := { program := "ytplfaagompkfcaa", sum := "4f0eb248624903e238644cb39d69d07b270a856758e077c39fb7e83314a9156a", func := "tombolo/tombololaw02.CellCopies", spec := "cellCopies", unfollowed := true, recurses := true, apart := false, narrowed := true }
def CellCopiesUptoSaid : Prop := cellCopiesUptoRow.holds Try.pinned (OpenSpec.upto cellCopiesSpec)

end Rows
end Go.Proofs.Ytplfaagompkfcaa

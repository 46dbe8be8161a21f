/-
  No cell of these rows narrows 'for every input' (looked for: loops, veiled, ifaces, maps, wideKeys, modest, calm, conditions, laid).
  DERIVED. THE GIVEN ROWS OF THIS SEAT. 4 by the template 'for every input the law returns true; each argument reads behind the call as it read before'; 0 by the template 'total and deterministic' (their statements: YtibaodefgncbmaaTotals.lean).
  GIVEN WITH THE SEED: the statements are not yours to turn. If you find one false, say at which input.
  Laid BY PROGRAM, IN A SANDBOX (cutbox-rows.mjs): the forced cells as the released guide's own fill.sh prints them over the translation c750c258b8b48f75… (all of the seat's roots in one cut). By AI agents, Wed Nov 11 2026. No macro, syntax, notation, axiom, sorry.
-/
import Derived.Test.YtibaodefgncbmaaChecked
import GoSem.Claim
import GoSem.ClaimJoined
import GoSem.ClaimMapViews
import Derived.JoinedTies
import Derived.KernelRfl
namespace Go.Proofs.Ytibaodefgncbmaa
/- THE CELL 'sum', in the pinned program and in every row, IS THE sha256 OF THE DUMP (.gsa) THAT YtibaodefgncbmaaProg.lean LOADS. Nothing in Lean hashes anything: it is a label: what it is worth is what the hold of that sum in a sandbox is worth. -/
noncomputable def Try.pinned : Pinned := { name := "ytibaodefgncbmaa", sum := "c750c258b8b48f7526c80e64f2cda0a7526b96ce92396a6464baa216a37ac3aa", checked := Try.checked }
namespace Rows
def none {H : Type} : Left H := { results := [], args := [] }

/-- 'tombololaw12.AdjPlays': WHATEVER THE INPUT: true; the input reads as it did. -/
def adjPlaysSpec : ChangeSpec := { name := "adjPlays", fn := fun _ => fun
  | [d1, d2] => { results := [.lit (.bool true)], args := [d1, d2] }
  | _ => none }
def adjPlaysRow : OpenClaim := { program := "ytibaodefgncbmaa", sum := "c750c258b8b48f7526c80e64f2cda0a7526b96ce92396a6464baa216a37ac3aa", func := "tombolo/tombololaw12.AdjPlays", spec := "adjPlays", unfollowed := true, recurses := true, plainKeys := false, apart := false }
def AdjPlaysSaid : Prop := adjPlaysRow.holds Try.pinned (OpenSpec.ofChange adjPlaysSpec)

/-- ITS FALSE NEIGHBOUR: 'it returns false'. Refute it at one input. -/
def adjPlaysWrong : ChangeSpec := { name := "adjPlays", fn := fun _ => fun
  | [d1, d2] => { results := [.lit (.bool false)], args := [d1, d2] }
  | _ => none }
def AdjPlaysWrongFalsely : Prop := adjPlaysRow.holds Try.pinned (OpenSpec.ofChange adjPlaysWrong)

/-- 'tombololaw12.AdjLinks': WHATEVER THE INPUT: true; the input reads as it did. -/
def adjLinksSpec : ChangeSpec := { name := "adjLinks", fn := fun _ => fun
  | [d1, d2] => { results := [.lit (.bool true)], args := [d1, d2] }
  | _ => none }
def adjLinksRow : OpenClaim := { program := "ytibaodefgncbmaa", sum := "c750c258b8b48f7526c80e64f2cda0a7526b96ce92396a6464baa216a37ac3aa", func := "tombolo/tombololaw12.AdjLinks", spec := "adjLinks", unfollowed := true, recurses := true, plainKeys := false, apart := false }
def AdjLinksSaid : Prop := adjLinksRow.holds Try.pinned (OpenSpec.ofChange adjLinksSpec)

/-- ITS FALSE NEIGHBOUR: 'it returns false'. Refute it at one input. -/
def adjLinksWrong : ChangeSpec := { name := "adjLinks", fn := fun _ => fun
  | [d1, d2] => { results := [.lit (.bool false)], args := [d1, d2] }
  | _ => none }
def AdjLinksWrongFalsely : Prop := adjLinksRow.holds Try.pinned (OpenSpec.ofChange adjLinksWrong)

/-- 'tombololaw12.AdjBack': WHATEVER THE INPUT: true; the input reads as it did. -/
def adjBackSpec : ChangeSpec := { name := "adjBack", fn := fun _ => fun
  | [d1, d2, d3] => { results := [.lit (.bool true)], args := [d1, d2, d3] }
  | _ => none }
def adjBackRow : OpenClaim := { program := "ytibaodefgncbmaa", sum := "c750c258b8b48f7526c80e64f2cda0a7526b96ce92396a6464baa216a37ac3aa", func := "tombolo/tombololaw12.AdjBack", spec := "adjBack", unfollowed := true, recurses := true, plainKeys := false, apart := false }
def AdjBackSaid : Prop := adjBackRow.holds Try.pinned (OpenSpec.ofChange adjBackSpec)

/-- ITS FALSE NEIGHBOUR: 'it returns false'. Refute it at one input. -/
def adjBackWrong : ChangeSpec := { name := "adjBack", fn := fun _ => fun
  | [d1, d2, d3] => { results := [.lit (.bool false)], args := [d1, d2, d3] }
  | _ => none }
def AdjBackWrongFalsely : Prop := adjBackRow.holds Try.pinned (OpenSpec.ofChange adjBackWrong)

/-- 'tombololaw12.AdjLevels': WHATEVER THE INPUT: true; the input reads as it did. -/
def adjLevelsSpec : ChangeSpec := { name := "adjLevels", fn := fun _ => fun
  | [d1, d2] => { results := [.lit (.bool true)], args := [d1, d2] }
  | _ => none }
def adjLevelsRow : OpenClaim := { program := "ytibaodefgncbmaa", sum := "c750c258b8b48f7526c80e64f2cda0a7526b96ce92396a6464baa216a37ac3aa", func := "tombolo/tombololaw12.AdjLevels", spec := "adjLevels", unfollowed := true, recurses := true, plainKeys := false, apart := false }
def AdjLevelsSaid : Prop := adjLevelsRow.holds Try.pinned (OpenSpec.ofChange adjLevelsSpec)

/-- ITS FALSE NEIGHBOUR: 'it returns false'. Refute it at one input. -/
def adjLevelsWrong : ChangeSpec := { name := "adjLevels", fn := fun _ => fun
  | [d1, d2] => { results := [.lit (.bool false)], args := [d1, d2] }
  | _ => none }
def AdjLevelsWrongFalsely : Prop := adjLevelsRow.holds Try.pinned (OpenSpec.ofChange adjLevelsWrong)

/- THE SECOND FORM. 'bulk': how many values and letters a reading holds, each counted each time it is reached (what is shared counts as often as it is met; a slice's spare places count too). A statement '..UptoSaid' is the law's where the arguments, and the package variables that the reading takes, are together of bulk at most 1048576: NARROWER than '..Said'. Prove '..Said' where nothing that the law and all that it calls make is longer than what came in: it says more and counts as full. Else prove '..UptoSaid'. A law counts once. -/
mutual
def uptoBulk {H : Type} : DataW H → Nat
  | .lit (.string bytes) => bytes.length + 1
  | .lit _ => 1
  | .nil => 1
  | .ptr d => uptoBulk d + 1
  | .slice elems spare => uptoBulkAll elems + uptoBulkAll spare + 1
  | .agg parts => uptoBulkAll parts + 1
  | .iface _ d => uptoBulk d + 1
  | .map entries => uptoBulkEntries entries + 1
  | .held _ => 1
def uptoBulkAll {H : Type} : List (DataW H) → Nat
  | [] => 0
  | d :: r => uptoBulk d + uptoBulkAll r
def uptoBulkEntries {H : Type} : List (Lit × DataW H) → Nat
  | [] => 0
  | x :: r => uptoBulkEntry x + uptoBulkEntries r
def uptoBulkEntry {H : Type} : Lit × DataW H → Nat
  | (.string bytes, d) => bytes.length + uptoBulk d + 1
  | (_, d) => uptoBulk d + 1
 end
def uptoSmall : (H : Type) → List (DataW H) → Bool := fun _ ds => decide (uptoBulkAll ds ≤ 1048576)
def OpenSpec.upto (s : _root_.Go.ChangeSpec) : _root_.Go.OpenSpec := { _root_.Go.OpenSpec.ofChange s with cond := some uptoSmall }

/-- 'tombololaw12.AdjPlays', WHERE WHAT IT READS IS OF BULK AT MOST 1048576: true; the input reads as it did. -/
def adjPlaysUptoRow : OpenClaim := { program := "ytibaodefgncbmaa", sum := "c750c258b8b48f7526c80e64f2cda0a7526b96ce92396a6464baa216a37ac3aa", func := "tombolo/tombololaw12.AdjPlays", spec := "adjPlays", unfollowed := true, recurses := true, plainKeys := false, apart := false, narrowed := true }
def AdjPlaysUptoSaid : Prop := adjPlaysUptoRow.holds Try.pinned (OpenSpec.upto adjPlaysSpec)

/-- 'tombololaw12.AdjLinks', WHERE WHAT IT READS IS OF BULK AT MOST 1048576: true; the input reads as it did. -/
def adjLinksUptoRow : OpenClaim := { program := "ytibaodefgncbmaa", sum := "c750c258b8b48f7526c80e64f2cda0a7526b96ce92396a6464baa216a37ac3aa", func := "tombolo/tombololaw12.AdjLinks", spec := "adjLinks", unfollowed := true, recurses := true, plainKeys := false, apart := false, narrowed := true }
def AdjLinksUptoSaid : Prop := adjLinksUptoRow.holds Try.pinned (OpenSpec.upto adjLinksSpec)

/-- 'tombololaw12.AdjBack', WHERE WHAT IT READS IS OF BULK AT MOST 1048576: true; the input reads as it did. -/
def adjBackUptoRow : OpenClaim := { program := "ytibaodefgncbmaa", sum := "c750c258b8b48f7526c80e64f2cda0a7526b96ce92396a6464baa216a37ac3aa", func := "tombolo/tombololaw12.AdjBack", spec := "adjBack", unfollowed := true, recurses := true, plainKeys := false, apart := false, narrowed := true }
def AdjBackUptoSaid : Prop := adjBackUptoRow.holds Try.pinned (OpenSpec.upto adjBackSpec)

/-- 'tombololaw12.AdjLevels', WHERE WHAT IT READS IS OF BULK AT MOST 1048576: true; the input reads as it did. -/
def adjLevelsUptoRow : OpenClaim := { program := "ytibaodefgncbmaa", sum := "c750c258b8b48f7526c80e64f2cda0a7526b96ce92396a6464baa216a37ac3aa", func := "tombolo/tombololaw12.AdjLevels", spec := "adjLevels", unfollowed := true, recurses := true, plainKeys := false, apart := false, narrowed := true }
def AdjLevelsUptoSaid : Prop := adjLevelsUptoRow.holds Try.pinned (OpenSpec.upto adjLevelsSpec)

end Rows
end Go.Proofs.Ytibaodefgncbmaa

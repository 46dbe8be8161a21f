/- The row of the statement AdjLinks. -/
import Derived.Test.YtibaodefgncbmaaRows
import Derived.Test.YtibaodefgncbmaaQ7
import Derived.WalkKit
import Derived.ProofKit
import Derived.OpenShut
import Derived.ShutString
import Derived.ChangeOld
import Derived.Below
import Derived.SizedLaws
set_option linter.unusedVariables false
set_option linter.unusedSimpArgs false
namespace Go.Proofs.Ytibaodefgncbmaa.adjLinks
open Go.ChangeShapes Go.WideShapes Go.ChangeAt Go.RowKit
theorem own : ownKnob Try.prog.godebug = none := by kernel_rfl
theorem shapes : ((Try.f4.params.toList).all fun t => Try.prog.readableRec t && decide (t < Try.prog.types.size) && (Go.Det.shapesOf Try.prog 8 t).isSome) = true := by kernel_rfl
set_option maxRecDepth 100000 in
theorem lifted (os : Os) (started : os.Started) (H : Type) (enc : TypeId × Value → H) :
    ReturnsInHanded {} Try.checked os 4 .any (Rows.adjLinksSpec.pre6 enc Try.prog Try.f4 Rows.adjLinksRow.domain false) (Rows.adjLinksSpec.post enc Try.prog Try.f4 false true false false) := by
  refine returnsInHanded_of_change_sized (C := Try.checked) own started (by kernel_rfl) Try.func4
    (ChangeSpec.witness6 (enc := enc) (C := Try.checked) false ⟨#[], #[.agg #[.int .i64 0, .int .i64 0, .int .i64 0], .slice none 0 0], []⟩ 8 (by kernel_rfl) (by kernel_rfl) (by kernel_rfl) (by kernel_rfl)) ?_
  intro W base args ds gs before hval0 hW _ _ _
  refine Go.Det.law_contract (P := Try.prog) (tb := 4) (Checked.mixed Try.checked) (by kernel_rfl) rfl (by kernel_rfl) (by kernel_rfl) ?_ ?_ Go.Det.E.links12_law hval0 hW
  · intro t ht
    have := List.all_eq_true.1 shapes t ht
    simp only [Bool.and_eq_true, decide_eq_true_eq] at this
    exact ⟨this.1.1, this.1.2, this.2⟩
  · intro ds hd
    replace hd : ds.length = 2 := hd.trans (by kernel_rfl)
    rcases ds with _ | ⟨d0, _ | ⟨d1, _ | ⟨d2, ds⟩⟩⟩ <;> first | exact ⟨rfl, rfl, rfl⟩ | (simp only [List.length_cons, List.length_nil] at hd; omega)
theorem over : Rows.adjLinksRow.holds Try.pinned (OpenSpec.ofChange Rows.adjLinksSpec) :=
  OpenClaim.holds_of_wide 4 Try.f4 rfl rfl rfl rfl rfl rfl rfl ⟨rfl, rfl, rfl, rfl, rfl⟩ rfl rfl rfl rfl rfl (by kernel_rfl) Try.func4 (by kernel_rfl)
    (of_decide_eq_true (by kernel_rfl)) (by unfold Func.isWrapper; first | (rw [if_pos (by decide +kernel)]; kernel_rfl) | (rw [if_neg (by decide +kernel)]; exact ⟨rfl, rfl⟩))
    (fun os started H enc _ => lifted os started H enc)
theorem proved : Rows.AdjLinksSaid := over
#print axioms proved
end Go.Proofs.Ytibaodefgncbmaa.adjLinks
namespace Go.Proofs.Ytibaodefgncbmaa
/-- The row, under a short name, for the claim. -/
theorem adjLinks_holds : Rows.AdjLinksSaid := adjLinks.proved
end Go.Proofs.Ytibaodefgncbmaa

/- The row of the statement AdjLevels. -/
import Derived.Test.YtibaodefgncbmaaRows
import Derived.Test.YtibaodefgncbmaaQ7
import Derived.WalkKit
import Derived.ProofKit
import Derived.OpenShut
import Derived.ShutString
import Derived.ChangeOld
import Derived.Below
import Derived.SizedLaws
set_option linter.unusedVariables false
set_option linter.unusedSimpArgs false
namespace Go.Proofs.Ytibaodefgncbmaa.adjLevels
open Go.ChangeShapes Go.WideShapes Go.ChangeAt Go.RowKit
theorem own : ownKnob Try.prog.godebug = none := by kernel_rfl
theorem shapes : ((Try.f6.params.toList).all fun t => Try.prog.readableRec t && decide (t < Try.prog.types.size) && (Go.Det.shapesOf Try.prog 8 t).isSome) = true := by kernel_rfl
set_option maxRecDepth 100000 in
theorem lifted (os : Os) (started : os.Started) (H : Type) (enc : TypeId × Value → H) :
    ReturnsInHanded {} Try.checked os 6 .any (Rows.adjLevelsSpec.pre6 enc Try.prog Try.f6 Rows.adjLevelsRow.domain false) (Rows.adjLevelsSpec.post enc Try.prog Try.f6 false true false false) := by
  refine returnsInHanded_of_change_sized (C := Try.checked) own started (by kernel_rfl) Try.func6
    (ChangeSpec.witness6 (enc := enc) (C := Try.checked) false ⟨#[], #[.agg #[.int .i64 0, .int .i64 0, .int .i64 0], .slice none 0 0], []⟩ 8 (by kernel_rfl) (by kernel_rfl) (by kernel_rfl) (by kernel_rfl)) ?_
  intro W base args ds gs before hval0 hW _ _ _
  refine Go.Det.law_contract (P := Try.prog) (tb := 4) (Checked.mixed Try.checked) (by kernel_rfl) rfl (by kernel_rfl) (by kernel_rfl) ?_ ?_ Go.Det.E.levels12_law hval0 hW
  · intro t ht
    have := List.all_eq_true.1 shapes t ht
    simp only [Bool.and_eq_true, decide_eq_true_eq] at this
    exact ⟨this.1.1, this.1.2, this.2⟩
  · intro ds hd
    replace hd : ds.length = 2 := hd.trans (by kernel_rfl)
    rcases ds with _ | ⟨d0, _ | ⟨d1, _ | ⟨d2, ds⟩⟩⟩ <;> first | exact ⟨rfl, rfl, rfl⟩ | (simp only [List.length_cons, List.length_nil] at hd; omega)
theorem over : Rows.adjLevelsRow.holds Try.pinned (OpenSpec.ofChange Rows.adjLevelsSpec) :=
  OpenClaim.holds_of_wide 6 Try.f6 rfl rfl rfl rfl rfl rfl rfl ⟨rfl, rfl, rfl, rfl, rfl⟩ rfl rfl rfl rfl rfl (by kernel_rfl) Try.func6 (by kernel_rfl)
    (of_decide_eq_true (by kernel_rfl)) (by unfold Func.isWrapper; first | (rw [if_pos (by decide +kernel)]; kernel_rfl) | (rw [if_neg (by decide +kernel)]; exact ⟨rfl, rfl⟩))
    (fun os started H enc _ => lifted os started H enc)
theorem proved : Rows.AdjLevelsSaid := over
#print axioms proved
end Go.Proofs.Ytibaodefgncbmaa.adjLevels
namespace Go.Proofs.Ytibaodefgncbmaa
/-- The row, under a short name, for the claim. -/
theorem adjLevels_holds : Rows.AdjLevelsSaid := adjLevels.proved
end Go.Proofs.Ytibaodefgncbmaa

/- The row of the statement MemTraces. -/
import Derived.Test.YtalelfcdhmfgoaaRows
import Derived.Test.YtalelfcdhmfgoaaTE
import Derived.WalkKit
import Derived.ProofKit
import Derived.OpenShut
import Derived.ShutString
import Derived.ChangeOld
import Derived.Below
import Derived.SizedLaws
set_option linter.unusedVariables false
set_option linter.unusedSimpArgs false
namespace Go.Proofs.Ytalelfcdhmfgoaa.memTraces
open Go.ChangeShapes Go.WideShapes Go.ChangeAt Go.RowKit
theorem own : ownKnob Try.prog.godebug = none := by kernel_rfl
theorem shapes : ((Try.f3.params.toList).all fun t => Try.prog.readableRec t && decide (t < Try.prog.types.size) && (Go.Det.shapesOf Try.prog 8 t).isSome) = true := by kernel_rfl
set_option maxRecDepth 100000 in
theorem lifted (os : Os) (started : os.Started) (H : Type) (enc : TypeId × Value → H) :
    ReturnsInHanded {} Try.checked os 3 .any (Rows.memTracesSpec.pre6 enc Try.prog Try.f3 Rows.memTracesRow.domain false) (Rows.memTracesSpec.post enc Try.prog Try.f3 false true false false) := by
  refine returnsInHanded_of_change_sized (C := Try.checked) own started (by kernel_rfl) Try.func3
    (ChangeSpec.witness6 (enc := enc) (C := Try.checked) false ⟨#[], #[.slice none 0 0, .slice none 0 0], []⟩ 8 (by kernel_rfl) (by kernel_rfl) (by kernel_rfl) (by kernel_rfl)) ?_
  intro W base args ds gs before hval0 hW _ _ _
  refine Go.Det.law_contract (P := Try.prog) (tb := 4) (Checked.mixed Try.checked) (by kernel_rfl) rfl (by kernel_rfl) (by kernel_rfl) ?_ ?_ Go.Det.O.traces_law hval0 hW
  · intro t ht
    have := List.all_eq_true.1 shapes t ht
    simp only [Bool.and_eq_true, decide_eq_true_eq] at this
    exact ⟨this.1.1, this.1.2, this.2⟩
  · intro ds hd
    replace hd : ds.length = 2 := hd.trans (by kernel_rfl)
    rcases ds with _ | ⟨d0, _ | ⟨d1, _ | ⟨d2, ds⟩⟩⟩ <;> first | exact ⟨rfl, rfl, rfl⟩ | (simp only [List.length_cons, List.length_nil] at hd; omega)
theorem over : Rows.memTracesRow.holds Try.pinned (OpenSpec.ofChange Rows.memTracesSpec) :=
  OpenClaim.holds_of_wide 3 Try.f3 rfl rfl rfl rfl rfl rfl rfl ⟨rfl, rfl, rfl, rfl, rfl⟩ rfl rfl rfl rfl rfl (by kernel_rfl) Try.func3 (by kernel_rfl)
    (of_decide_eq_true (by kernel_rfl)) (by unfold Func.isWrapper; first | (rw [if_pos (by decide +kernel)]; kernel_rfl) | (rw [if_neg (by decide +kernel)]; exact ⟨rfl, rfl⟩))
    (fun os started H enc _ => lifted os started H enc)
theorem proved : Rows.MemTracesSaid := over
#print axioms proved
end Go.Proofs.Ytalelfcdhmfgoaa.memTraces
namespace Go.Proofs.Ytalelfcdhmfgoaa
/-- The row, under a short name, for the claim. -/
theorem memTraces_holds : Rows.MemTracesSaid := memTraces.proved
end Go.Proofs.Ytalelfcdhmfgoaa

/- The card of the statement ValMust. -/
import Derived.Test.YtbliaopehpcpbaaDoorCards
import Derived.Test.YtbliaopehpcpbaaDoorTie
import Derived.Test.YtbliaopehpcpbaaDoorK8
import Derived.Test.YtbliaopehpcpbaaDoorKG
import Derived.WalkKit
import Derived.ProofKit
import Derived.OpenShut
import Derived.ShutString
import Derived.ChangeOld
import Derived.Below
import Derived.SizedLaws
import Derived.LaidMore
import Derived.Stop.Joined
import Derived.SevenTiedAt
set_option linter.unusedVariables false
set_option linter.unusedSimpArgs false
namespace Go.Proofs.YtbliaopehpcpbaaDoor.valMust
open Go Go.ChangeShapes Go.WideShapes Go.ChangeAt Go.RowKit
theorem own : ownKnob Tryd.prog.godebug = none := by kernel_rfl
theorem shapes : ((Tryd.f4.params.toList).all fun t => Tryd.prog.readableRec t && decide (t < Tryd.prog.types.size) && (Go.Det.shapesOf Tryd.prog 8 t).isSome) = true := by kernel_rfl
/-- The heap that the door's own run leaves meets the condition. -/
theorem door_met (os : Os) (args : Array Value) : laidMetH Tryd.prog Rows.valMustRow.laid ((World.doorLaid Tryd.prog 4000 os).forCall (fun _ _ => 0) ⟨#[], args, []⟩).memory :=
  laidMetH_of_parts3 (fuel := 8) (laidMet_of_run' 8 (by kernel_rfl) (by kernel_rfl)) (by kernel_rfl) (by kernel_rfl)
theorem known {W : World} (h : laidMetH Tryd.prog Rows.valMustRow.laid W) : Go.Det.E.Gl03.p W.heap.size W.heap := by
  rw [MakeChecks.laidMetH_plain _ _ _ (by kernel_rfl)] at h
  exact Go.Det.E.tab_laid (by kernel_rfl) h
set_option maxRecDepth 100000 in
theorem lifted (os : Os) (started : os.Started) (H : Type) (enc : TypeId × Value → H) :
    ReturnsInHanded {} Tryd.checked os 4 .any (fun w args => (Rows.valMustSpec.pre enc Tryd.prog Tryd.f4 [] false w args ∧ laidMetH Tryd.prog Rows.valMustRow.laid w) ∧ sizedMet enc Tryd.prog Tryd.f4 (OpenSpec.ofChange Rows.valMustSpec) false w args)
      (Rows.valMustSpec.post enc Tryd.prog Tryd.f4 false true false false) := by
  refine returnsInHanded_of_change_and (C := Tryd.checked) (X := fun w _ => laidMetH Tryd.prog Rows.valMustRow.laid w) (fun _ _ _ hh h => h.of_heap hh) own started (by kernel_rfl) Tryd.func4
    (ChangeSpec.witness_shaped (enc := enc) (C := Tryd.checked) (os := os) (X := fun w _ => laidMetH Tryd.prog Rows.valMustRow.laid w) false (World.doorLaid Tryd.prog 4000 os) #[.agg #[.int .i64 0, .int .i64 0, .string ⟨#[]⟩, .int .i32 0]] 8 rfl (World.shaped_of_RefB (by kernel_rfl) (by kernel_rfl)) (by kernel_rfl) (by kernel_rfl) (by kernel_rfl) (door_met os _)) ?_
  intro W base args ds gs before hval0 hW _ hZ hL _
  letI := Go.Det.E.Gl03
  refine Go.Det.law_contract (P := Tryd.prog) (tb := 4) (Checked.mixed Tryd.checked) (by kernel_rfl) Go.Det.E.ext_ok rfl (by kernel_rfl) (by kernel_rfl) ?_ ?_ Go.Det.E.must_law (known hL) hval0 hW hZ
  · intro t ht
    have := List.all_eq_true.1 shapes t ht
    simp only [Bool.and_eq_true, decide_eq_true_eq] at this
    exact ⟨this.1.1, this.1.2, this.2⟩
  · intro ds hd
    replace hd : ds.length = 1 := hd.trans (by kernel_rfl)
    rcases ds with _ | ⟨d0, _ | ⟨d1, ds⟩⟩ <;> first | exact ⟨rfl, rfl, rfl⟩ | (simp only [List.length_cons, List.length_nil] at hd; omega)
theorem over : Rows.ValMustSaid :=
  OpenClaim.holds_of_wide 4 Tryd.f4 rfl rfl rfl rfl rfl rfl rfl ⟨rfl, rfl, rfl, rfl, rfl⟩ rfl rfl rfl rfl rfl (by kernel_rfl) Tryd.func4 (by kernel_rfl)
    (of_decide_eq_true (by kernel_rfl)) (by unfold Func.isWrapper; first | (rw [if_pos (by decide +kernel)]; kernel_rfl) | (rw [if_neg (by decide +kernel)]; exact ⟨rfl, rfl⟩))
    (fun os started H enc _ => lifted os started H enc)
theorem card : Rows.ValMustCardSaid :=
  Claim7.holds_tied_plain_at .later [] [.data, .data, .data] true (true, "ede373c93003e80e1bf21567f75d87a1b72cb0cbad81acfad1a10bf67adc1593") true
    over (fun _ h => by cases h) (by kernel_rfl) (fun _ h => by cases h) valMust_row_tie rfl ⟨rfl, rfl⟩ (by kernel_rfl) rfl
    (fun f fn hf hfn => by
      obtain rfl : f = 4 := Option.some.inj ((show Tryd.prog.funcNamed Rows.valMustRow.func = some 4 by kernel_rfl).symm.trans hf) |>.symm
      obtain rfl : fn = Tryd.f4 := (Option.some.inj (Tryd.func4.symm.trans hfn)).symm
      exact ⟨by kernel_rfl, fun j t ht => by
        have hm : t ∈ Tryd.f4.params.toList := by simpa using Array.mem_of_getElem? ht
        have hall : (Tryd.f4.params.toList.all fun u => !Tryd.prog.wantsStandIn u) = true := by kernel_rfl
        exact (show Tryd.prog.wantsStandIn t = false by simpa using List.all_eq_true.1 hall t hm)⟩)
    (by kernel_rfl)
#print axioms card
end Go.Proofs.YtbliaopehpcpbaaDoor.valMust
namespace Go.Proofs.YtbliaopehpcpbaaDoor
/-- The card, under a short name, for the claim. -/
theorem valMustCard_holds : Rows.ValMustCardSaid := valMust.card
end Go.Proofs.YtbliaopehpcpbaaDoor

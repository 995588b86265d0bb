/- TheoryRepairs of package sherdlaw18: the row: for every input the law returns true and leaves its arguments alone. Conditions: the row's own, nothing more. -/
import Derived.Test.YtnkglahiagigoaaL8
import Derived.Test.YtnkglahiagigoaaM0
namespace Go.Proofs.Ytnkglahiagigoaa
open Go.ChangeShapes Go.WideShapes Go.ChangeAt Go.WideMaps Go.WideElems Go.RowKit Go.Own Go.ChangeMaps Go.Theory
set_option maxRecDepth 100000 in
theorem theoryRepairs_lifted (os : Os) (started : os.Started) (H : Type) (enc : TypeId × Value → H) :
    ReturnsInHanded {} Try.checked os 10 .any (Rows.theoryRepairsSpec.pre6 enc Try.prog Try.f10 Rows.theoryRepairsRow.domain false) (Rows.theoryRepairsSpec.post enc Try.prog Try.f10 false true false false) := by
  refine returnsInHanded_of_change (C := Try.checked) ownK started (by kernel_rfl) Try.func10
    (ChangeSpec.witness6 (enc := enc) (C := Try.checked) false ⟨#[], #[.slice none 0 0], []⟩ 8 (by kernel_rfl) (by kernel_rfl) (by kernel_rfl) (by kernel_rfl)) ?_
  intro W base args ds gs before hval0 hW hcnd hSz
  have hval : ∀ (j : Nat) t v, Try.f10.params[j]? = some t → args[j]? = some v → Value.okWide Try.prog W .any base t v := hval0
  have hW' := hW
  obtain ⟨p, q, hA0, hV, rfl, hfz, hnd⟩ := hW
  have hA : DataW.TrodAll enc Try.prog W 0 (fun _ => true) true Try.f10.params.toList args.toList ds p := hA0
  rw [Try.params10] at hA hval
  obtain ⟨v0, d0, rfl, rfl, h0⟩ := trodAll_one hA
  obtain ⟨rfl, rfl⟩ := trodVars_none hV
  have k0 := hval 0 22 v0 rfl rfl
  obtain ⟨zs0, hz0, hm0, hw0⟩ := sl_of_ints Try.underlying22 Try.underlying3 cellsInt k0 h0
  obtain ⟨pa0, pc0, rfl, _⟩ := sl_slice hz0
  clear hA0 hval0
  have hw := law_repairs zs0 pa0 pc0 (fun z hz => rg_wf (hw0 z hz)) W hz0 hm0
  refine hw.mono fun e W' ⟨he, hb⟩ => ?_
  subst he
  exact ⟨_, rfl, law_post laidOutK (by kernel_rfl) (show Try.f10.resultTypes = #[4] by kernel_rfl) Try.underlying4 rfl ⟨rfl, rfl, rfl⟩ hW' hb⟩
/-- The row. -/
theorem theoryRepairs_holds : Rows.TheoryRepairsSaid :=
  OpenClaim.holds_of_wide 10 Try.f10 rfl rfl rfl rfl rfl rfl rfl ⟨rfl, rfl, rfl, rfl, rfl⟩ rfl rfl rfl rfl rfl (by kernel_rfl) Try.func10 (by kernel_rfl)
    (of_decide_eq_true (by kernel_rfl)) (by unfold Func.isWrapper; first | (rw [if_pos (by decide +kernel)]; kernel_rfl) | (rw [if_neg (by decide +kernel)]; exact ⟨rfl, rfl⟩))
    (fun os started H enc _ => theoryRepairs_lifted os started H enc)
#print axioms theoryRepairs_holds
end Go.Proofs.Ytnkglahiagigoaa

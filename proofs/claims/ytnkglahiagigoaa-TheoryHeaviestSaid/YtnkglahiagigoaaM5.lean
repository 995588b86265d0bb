/- TheoryHeaviest of package sherdlaw18: the row: for every input the law returns true and leaves its arguments alone. Conditions: the row's own, nothing more. -/
import Derived.Test.YtnkglahiagigoaaL5
import Derived.Test.YtnkglahiagigoaaM0
namespace Go.Proofs.Ytnkglahiagigoaa
open Go.ChangeShapes Go.WideShapes Go.ChangeAt Go.WideMaps Go.WideElems Go.RowKit Go.Own Go.ChangeMaps Go.Theory
set_option maxRecDepth 100000 in
theorem theoryHeaviest_lifted (os : Os) (started : os.Started) (H : Type) (enc : TypeId × Value → H) :
    ReturnsInHanded {} Try.checked os 7 .any (Rows.theoryHeaviestSpec.pre6 enc Try.prog Try.f7 Rows.theoryHeaviestRow.domain false) (Rows.theoryHeaviestSpec.post enc Try.prog Try.f7 false true false false) := by
  refine returnsInHanded_of_change (C := Try.checked) ownK started (by kernel_rfl) Try.func7
    (ChangeSpec.witness6 (enc := enc) (C := Try.checked) false ⟨#[], #[.slice none 0 0, .slice none 0 0], []⟩ 8 (by kernel_rfl) (by kernel_rfl) (by kernel_rfl) (by kernel_rfl)) ?_
  intro W base args ds gs before hval0 hW hcnd hSz
  have hval : ∀ (j : Nat) t v, Try.f7.params[j]? = some t → args[j]? = some v → Value.okWide Try.prog W .any base t v := hval0
  have hW' := hW
  obtain ⟨p, q, hA0, hV, rfl, hfz, hnd⟩ := hW
  have hA : DataW.TrodAll enc Try.prog W 0 (fun _ => true) true Try.f7.params.toList args.toList ds p := hA0
  rw [Try.params7] at hA hval
  obtain ⟨v0, v1, d0, d1, p0, p1, rfl, rfl, rfl, h0, h1⟩ := trodAll_two hA
  obtain ⟨rfl, rfl⟩ := trodVars_none hV
  have k0 := hval 0 22 v0 rfl rfl
  obtain ⟨zs0, hz0, hm0, hw0⟩ := sl_of_ints Try.underlying22 Try.underlying3 cellsInt k0 h0
  obtain ⟨pa0, pc0, rfl, _⟩ := sl_slice hz0
  have k1 := hval 1 22 v1 rfl rfl
  obtain ⟨zs1, hz1, hm1, hw1⟩ := sl_of_ints Try.underlying22 Try.underlying3 cellsInt k1 h1
  obtain ⟨pa1, pc1, rfl, _⟩ := sl_slice hz1
  clear hA0 hval0
  have hw := law_heaviest zs0 zs1 pa0 pa1 pc0 pc1 (fun z hz => rg_wf (hw0 z hz)) (fun z hz => rg_wf (hw1 z hz)) W hz0 hm0 hz1 hm1
  refine hw.mono fun e W' ⟨he, hb⟩ => ?_
  subst he
  exact ⟨_, rfl, law_post laidOutK (by kernel_rfl) (show Try.f7.resultTypes = #[4] by kernel_rfl) Try.underlying4 rfl ⟨rfl, rfl, rfl⟩ hW' hb⟩
/-- The row. -/
theorem theoryHeaviest_holds : Rows.TheoryHeaviestSaid :=
  OpenClaim.holds_of_wide 7 Try.f7 rfl rfl rfl rfl rfl rfl rfl ⟨rfl, rfl, rfl, rfl, rfl⟩ rfl rfl rfl rfl rfl (by kernel_rfl) Try.func7 (by kernel_rfl)
    (of_decide_eq_true (by kernel_rfl)) (by unfold Func.isWrapper; first | (rw [if_pos (by decide +kernel)]; kernel_rfl) | (rw [if_neg (by decide +kernel)]; exact ⟨rfl, rfl⟩))
    (fun os started H enc _ => theoryHeaviest_lifted os started H enc)
#print axioms theoryHeaviest_holds
end Go.Proofs.Ytnkglahiagigoaa

/- TopQuestions of package sherdtop: the row: for every input the law returns true and leaves its arguments alone. Conditions: the row's own, nothing more. -/
import Derived.Test.YtkccmpikeekceaaGreatTQ49
import Derived.Test.YtkccmpikeekceaaGreatTQ50
namespace Go.Proofs.YtkccmpikeekceaaGreat
open Go.ChangeShapes Go.WideShapes Go.ChangeAt Go.WideMaps Go.WideElems Go.RowKit Go.Own Go.ChangeMaps Go.Theory
set_option maxRecDepth 100000 in
theorem topQuestions_lifted (os : Os) (started : os.Started) (H : Type) (enc : TypeId × Value → H) :
    ReturnsInHanded {} Tryz.checked os 3 .any (Rows.topQuestionsSpec.pre6 enc Tryz.prog Tryz.f3 Rows.topQuestionsRow.domain false) (Rows.topQuestionsSpec.post enc Tryz.prog Tryz.f3 false true false false) := by
  refine returnsInHanded_of_change (C := Tryz.checked) ownK started (by kernel_rfl) Tryz.func3
    (ChangeSpec.witness6 (enc := enc) (C := Tryz.checked) false ⟨#[], #[.slice none 0 0, .slice none 0 0, .slice none 0 0], []⟩ 8 (by kernel_rfl) (by kernel_rfl) (by kernel_rfl) (by kernel_rfl)) ?_
  intro W base args ds gs before hval0 hW hcnd hSz
  have hval : ∀ (j : Nat) t v, Tryz.f3.params[j]? = some t → args[j]? = some v → Value.okWide Tryz.prog W .any base t v := hval0
  have hW' := hW
  obtain ⟨p, q, hA0, hV, rfl, hfz, hnd⟩ := hW
  have hA : DataW.TrodAll enc Tryz.prog W 0 (fun _ => true) true Tryz.f3.params.toList args.toList ds p := hA0
  rw [Tryz.params3] at hA hval
  obtain ⟨v0, v1, v2, d0, d1, d2, p0, p1, p2, rfl, rfl, rfl, h0, h1, h2⟩ := trodAll_three hA
  obtain ⟨rfl, rfl⟩ := trodVars_none hV
  have k0 := hval 0 22 v0 rfl rfl
  obtain ⟨zs0, hz0, hm0, hw0⟩ := sl_of_ints Tryz.underlying22 Tryz.underlying3 cellsInt k0 h0
  obtain ⟨pa0, pc0, rfl, _⟩ := sl_slice hz0
  have k1 := hval 1 22 v1 rfl rfl
  obtain ⟨zs1, hz1, hm1, hw1⟩ := sl_of_ints Tryz.underlying22 Tryz.underlying3 cellsInt k1 h1
  obtain ⟨pa1, pc1, rfl, _⟩ := sl_slice hz1
  have k2 := hval 2 22 v2 rfl rfl
  obtain ⟨zs2, hz2, hm2, hw2⟩ := sl_of_ints Tryz.underlying22 Tryz.underlying3 cellsInt k2 h2
  obtain ⟨pa2, pc2, rfl, _⟩ := sl_slice hz2
  clear hA0 hval0
  have hw := topQuestions_any zs0 zs1 zs2 pa0 pa1 pa2 pc0 pc1 pc2 (fun z hz => rg_wf (hw0 z hz)) (fun z hz => rg_wf (hw1 z hz)) (fun z hz => rg_wf (hw2 z hz)) hm0 hm1 hm2 W hz0 hz1 hz2
  refine hw.mono fun e W' ⟨he, hb⟩ => ?_
  subst he
  exact ⟨_, rfl, law_post laidOutK (by kernel_rfl) (show Tryz.f3.resultTypes = #[4] by kernel_rfl) Tryz.underlying4 rfl ⟨rfl, rfl, rfl⟩ hW' hb⟩
/-- The row. -/
theorem topQuestions_holds : Rows.TopQuestionsSaid :=
  OpenClaim.holds_of_wide 3 Tryz.f3 rfl rfl rfl rfl rfl rfl rfl ⟨rfl, rfl, rfl, rfl, rfl⟩ rfl rfl rfl rfl rfl (by kernel_rfl) Tryz.func3 (by kernel_rfl)
    (of_decide_eq_true (by kernel_rfl)) (by unfold Func.isWrapper; first | (rw [if_pos (by decide +kernel)]; kernel_rfl) | (rw [if_neg (by decide +kernel)]; exact ⟨rfl, rfl⟩))
    (fun os started H enc _ => topQuestions_lifted os started H enc)
#print axioms topQuestions_holds
end Go.Proofs.YtkccmpikeekceaaGreat

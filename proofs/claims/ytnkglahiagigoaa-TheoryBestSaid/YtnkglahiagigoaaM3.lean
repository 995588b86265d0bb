/- TheoryBest of package sherdlaw18: the row: for every input the law returns true and leaves its arguments alone. Conditions: the row's own, nothing more. -/
import Derived.Test.YtnkglahiagigoaaL3
import Derived.Test.YtnkglahiagigoaaM0
namespace Go.Proofs.Ytnkglahiagigoaa
open Go.ChangeShapes Go.WideShapes Go.ChangeAt Go.WideMaps Go.WideElems Go.RowKit Go.Own Go.ChangeMaps Go.Theory
set_option maxRecDepth 100000 in
theorem theoryBest_lifted (os : Os) (started : os.Started) (H : Type) (enc : TypeId × Value → H) :
    ReturnsInHanded {} Try.checked os 4 .any (Rows.theoryBestSpec.pre6 enc Try.prog Try.f4 Rows.theoryBestRow.domain false) (Rows.theoryBestSpec.post enc Try.prog Try.f4 false true false false) := by
  refine returnsInHanded_of_change (C := Try.checked) ownK started (by kernel_rfl) Try.func4
    (ChangeSpec.witness6 (enc := enc) (C := Try.checked) false ⟨#[], #[.slice none 0 0, .slice none 0 0, .int .i64 0, .int .i64 0, .int .i64 0], []⟩ 8 (by kernel_rfl) (by kernel_rfl) (by kernel_rfl) (by kernel_rfl)) ?_
  intro W base args ds gs before hval0 hW hcnd hSz
  have hval : ∀ (j : Nat) t v, Try.f4.params[j]? = some t → args[j]? = some v → Value.okWide Try.prog W .any base t v := hval0
  have hW' := hW
  obtain ⟨p, q, hA0, hV, rfl, hfz, hnd⟩ := hW
  have hA : DataW.TrodAll enc Try.prog W 0 (fun _ => true) true Try.f4.params.toList args.toList ds p := hA0
  rw [Try.params4] at hA hval
  obtain ⟨v0, v1, v2, v3, v4, d0, d1, d2, d3, d4, p0, p1, p2, p3, p4, rfl, rfl, rfl, h0, h1, h2, h3, h4⟩ := trodAll_five hA
  obtain ⟨rfl, rfl⟩ := trodVars_none hV
  have k0 := hval 0 22 v0 rfl rfl
  obtain ⟨zs0, hz0, hm0, hw0⟩ := sl_of_ints Try.underlying22 Try.underlying3 cellsInt k0 h0
  obtain ⟨pa0, pc0, rfl, _⟩ := sl_slice hz0
  have k1 := hval 1 22 v1 rfl rfl
  obtain ⟨zs1, hz1, hm1, hw1⟩ := sl_of_ints Try.underlying22 Try.underlying3 cellsInt k1 h1
  obtain ⟨pa1, pc1, rfl, _⟩ := sl_slice hz1
  have k2 := hval 2 3 v2 rfl rfl
  obtain ⟨z2, rfl, rfl, rfl, wf2⟩ := open_int Try.underlying3 k2 h2
  have k3 := hval 3 3 v3 rfl rfl
  obtain ⟨z3, rfl, rfl, rfl, wf3⟩ := open_int Try.underlying3 k3 h3
  have k4 := hval 4 3 v4 rfl rfl
  obtain ⟨z4, rfl, rfl, rfl, wf4⟩ := open_int Try.underlying3 k4 h4
  clear hA0 hval0
  have hw := law_best zs0 zs1 z2 z3 z4 pa0 pa1 pc0 pc1 (rg_wf wf2) (rg_wf wf3) (rg_wf wf4) (fun z hz => rg_wf (hw0 z hz)) (fun z hz => rg_wf (hw1 z hz)) W hz0 hm0 hz1 hm1
  refine hw.mono fun e W' ⟨he, hb⟩ => ?_
  subst he
  exact ⟨_, rfl, law_post laidOutK (by kernel_rfl) (show Try.f4.resultTypes = #[4] by kernel_rfl) Try.underlying4 rfl ⟨rfl, rfl, rfl⟩ hW' hb⟩
/-- The row. -/
theorem theoryBest_holds : Rows.TheoryBestSaid :=
  OpenClaim.holds_of_wide 4 Try.f4 rfl rfl rfl rfl rfl rfl rfl ⟨rfl, rfl, rfl, rfl, rfl⟩ rfl rfl rfl rfl rfl (by kernel_rfl) Try.func4 (by kernel_rfl)
    (of_decide_eq_true (by kernel_rfl)) (by unfold Func.isWrapper; first | (rw [if_pos (by decide +kernel)]; kernel_rfl) | (rw [if_neg (by decide +kernel)]; exact ⟨rfl, rfl⟩))
    (fun os started H enc _ => theoryBest_lifted os started H enc)
#print axioms theoryBest_holds
end Go.Proofs.Ytnkglahiagigoaa

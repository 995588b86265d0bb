/- OrderCosts of package sherdlaw27: the row: for every input the law returns true and leaves its arguments alone. Conditions: the row's own, nothing more. -/
import Derived.Test.YtnkinjilnccmfaaL6
import Derived.Test.YtnkinjilnccmfaaN3
namespace Go.Proofs.Ytnkinjilnccmfaa
open Go.ChangeShapes Go.WideShapes Go.ChangeAt Go.WideMaps Go.WideElems Go.RowKit Go.Own Go.ChangeMaps Go.Order
set_option maxRecDepth 100000 in
theorem orderCosts_lifted (os : Os) (started : os.Started) (H : Type) (enc : TypeId × Value → H) :
    ReturnsInHanded {} Try.checked os 6 .any (Rows.orderCostsSpec.pre6 enc Try.prog Try.f6 Rows.orderCostsRow.domain false) (Rows.orderCostsSpec.post enc Try.prog Try.f6 false true false false) := by
  refine returnsInHanded_of_change_sized (C := Try.checked) ownK started (by kernel_rfl) Try.func6
    (ChangeSpec.witness6 (enc := enc) (C := Try.checked) false ⟨#[], #[.slice none 0 0], []⟩ 8 (by kernel_rfl) (by kernel_rfl) (by kernel_rfl) (by kernel_rfl)) ?_
  intro W base args ds gs before hval0 hW hcnd hwt hSz
  have hval : ∀ (j : Nat) t v, Try.f6.params[j]? = some t → args[j]? = some v → Value.okWide Try.prog W .any base t v := hval0
  have hW' := hW
  obtain ⟨p, q, hA0, hV, rfl, hfz, hnd⟩ := hW
  have hA : DataW.TrodAll enc Try.prog W 0 (fun _ => true) true Try.f6.params.toList args.toList ds p := hA0
  have hwt2 : (DataW.weightsEach Try.prog (Try.f6.params.toList ++ Rows.orderCostsSpec.plain.varTypes Try.prog) (ds ++ gs)).all (· ≤ reachBytes) = true := hwt
  rw [Try.params6] at hA hval hwt2
  obtain ⟨v0, d0, rfl, rfl, h0⟩ := trodAll_one hA
  obtain ⟨rfl, rfl⟩ := trodVars_none hV
  have k0 := hval 0 23 v0 rfl rfl
  have hR : ∀ n ∈ d0.weights Try.prog 23, n ≤ reachBytes := fun n hn => by
    have := List.all_eq_true.1 hwt2 n (DataW.weights_mem_each (j := 0) rfl rfl n hn)
    exact of_decide_eq_true this
  obtain ⟨l, s, ca, rfl, hl, hl2⟩ := lst_of k0 h0 (Nat.le_refl _) hR
  clear hA0 hval0
  have hw := orderCosts_any l s ca W hl (by have : reachBytes = 140737488351232 := rfl; omega)
  refine hw.mono fun e W' ⟨he, hb⟩ => ?_
  subst he
  exact ⟨_, rfl, law_post laidOutK (by kernel_rfl) (show Try.f6.resultTypes = #[4] by kernel_rfl) Try.underlying4 rfl ⟨rfl, rfl, rfl⟩ hW' hb⟩
/-- The row. -/
theorem orderCosts_holds : Rows.OrderCostsSaid :=
  OpenClaim.holds_of_wide 6 Try.f6 rfl rfl rfl rfl rfl rfl rfl ⟨rfl, rfl, rfl, rfl, rfl⟩ rfl rfl rfl rfl rfl (by kernel_rfl) Try.func6 (by kernel_rfl)
    (of_decide_eq_true (by kernel_rfl)) (by unfold Func.isWrapper; first | (rw [if_pos (by decide +kernel)]; kernel_rfl) | (rw [if_neg (by decide +kernel)]; exact ⟨rfl, rfl⟩))
    (fun os started H enc _ => orderCosts_lifted os started H enc)
#print axioms orderCosts_holds
end Go.Proofs.Ytnkinjilnccmfaa

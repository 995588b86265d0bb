/- OrderFinds of package sherdlaw27: the row: for every input the law returns true and leaves its arguments alone. Conditions: the row's own, nothing more. -/
import Derived.Test.YtnkinjilnccmfaaL1
import Derived.Test.YtnkinjilnccmfaaN3
namespace Go.Proofs.Ytnkinjilnccmfaa
open Go.ChangeShapes Go.WideShapes Go.ChangeAt Go.WideMaps Go.WideElems Go.RowKit Go.Own Go.ChangeMaps Go.Order
set_option maxRecDepth 100000 in
theorem orderFinds_lifted (os : Os) (started : os.Started) (H : Type) (enc : TypeId × Value → H) :
    ReturnsInHanded {} Try.checked os 3 .any (Rows.orderFindsSpec.pre6 enc Try.prog Try.f3 Rows.orderFindsRow.domain false) (Rows.orderFindsSpec.post enc Try.prog Try.f3 false true false false) := by
  refine returnsInHanded_of_change_sized (C := Try.checked) ownK started (by kernel_rfl) Try.func3
    (ChangeSpec.witness6 (enc := enc) (C := Try.checked) false ⟨#[], #[.int .i64 0, .slice none 0 0, .slice none 0 0], []⟩ 8 (by kernel_rfl) (by kernel_rfl) (by kernel_rfl) (by kernel_rfl)) ?_
  intro W base args ds gs before hval0 hW hcnd hwt hSz
  have hval : ∀ (j : Nat) t v, Try.f3.params[j]? = some t → args[j]? = some v → Value.okWide Try.prog W .any base t v := hval0
  have hW' := hW
  obtain ⟨p, q, hA0, hV, rfl, hfz, hnd⟩ := hW
  have hA : DataW.TrodAll enc Try.prog W 0 (fun _ => true) true Try.f3.params.toList args.toList ds p := hA0
  have hwt2 : (DataW.weightsEach Try.prog (Try.f3.params.toList ++ Rows.orderFindsSpec.plain.varTypes Try.prog) (ds ++ gs)).all (· ≤ reachBytes) = true := hwt
  rw [Try.params3] at hA hval hwt2
  obtain ⟨v0, v1, v2, d0, d1, d2, p0, p1, p2, rfl, rfl, rfl, h0, h1, h2⟩ := trodAll_three hA
  obtain ⟨rfl, rfl⟩ := trodVars_none hV
  have k0 := hval 0 22 v0 rfl rfl
  have k1 := hval 1 23 v1 rfl rfl
  have k2 := hval 2 24 v2 rfl rfl
  have hR : ∀ n ∈ d1.weights Try.prog 23, n ≤ reachBytes := fun n hn => by
    have := List.all_eq_true.1 hwt2 n (DataW.weights_mem_each (j := 1) rfl rfl n hn)
    exact of_decide_eq_true this
  obtain ⟨z0, rfl, rfl, rfl, wf0⟩ := open_int Try.underlying22 k0 h0
  obtain ⟨l, s, ca, rfl, hl, hl2⟩ := lst_of k1 h1 (Nat.le_refl _) hR
  obtain ⟨st, t, cb, rfl, hst, _⟩ := sets_of k2 h2
  clear hA0 hval0
  have hw := orderFinds_any z0 l st s t ca cb W hl hst (by have : reachBytes = 140737488351232 := rfl; omega) (Nat.lt_trans (findV_l z0 l st) (by decide)) (Nat.lt_trans (findV_s z0 l st) (by decide))
  refine hw.mono fun e W' ⟨he, hb⟩ => ?_
  subst he
  exact ⟨_, rfl, law_post laidOutK (by kernel_rfl) (show Try.f3.resultTypes = #[4] by kernel_rfl) Try.underlying4 rfl ⟨rfl, rfl, rfl⟩ hW' hb⟩
/-- The row. -/
theorem orderFinds_holds : Rows.OrderFindsSaid :=
  OpenClaim.holds_of_wide 3 Try.f3 rfl rfl rfl rfl rfl rfl rfl ⟨rfl, rfl, rfl, rfl, rfl⟩ rfl rfl rfl rfl rfl (by kernel_rfl) Try.func3 (by kernel_rfl)
    (of_decide_eq_true (by kernel_rfl)) (by unfold Func.isWrapper; first | (rw [if_pos (by decide +kernel)]; kernel_rfl) | (rw [if_neg (by decide +kernel)]; exact ⟨rfl, rfl⟩))
    (fun os started H enc _ => orderFinds_lifted os started H enc)
#print axioms orderFinds_holds
end Go.Proofs.Ytnkinjilnccmfaa

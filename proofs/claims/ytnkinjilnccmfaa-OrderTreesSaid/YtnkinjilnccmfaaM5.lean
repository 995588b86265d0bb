/- OrderTrees of package sherdlaw27: the row: for every input the law returns true and leaves its arguments alone. Conditions: the row's own, nothing more. -/
import Derived.Test.YtnkinjilnccmfaaG7
namespace Go.Proofs.Ytnkinjilnccmfaa
open Go.ChangeShapes Go.WideShapes Go.ChangeAt Go.WideMaps Go.WideElems Go.RowKit Go.Own Go.ChangeMaps Go.Order
set_option maxRecDepth 100000 in
theorem orderTrees_lifted (os : Os) (started : os.Started) (H : Type) (enc : TypeId × Value → H) :
    ReturnsInHanded {} Try.checked os 7 .any (Rows.orderTreesSpec.pre6 enc Try.prog Try.f7 Rows.orderTreesRow.domain false) (Rows.orderTreesSpec.post enc Try.prog Try.f7 false true false false) := by
  refine returnsInHanded_of_change_sized (C := Try.checked) ownK started (by kernel_rfl) Try.func7
    (ChangeSpec.witness6 (enc := enc) (C := Try.checked) false ⟨#[], #[.int .i64 0, .slice none 0 0, .slice none 0 0], []⟩ 8 (by kernel_rfl) (by kernel_rfl) (by kernel_rfl) (by kernel_rfl)) ?_
  intro W base args ds gs before hval0 hW hcnd hwt hSz
  have hval : ∀ (j : Nat) t v, Try.f7.params[j]? = some t → args[j]? = some v → Value.okWide Try.prog W .any base t v := hval0
  have hW' := hW
  obtain ⟨p, q, hA0, hV, rfl, hfz, hnd⟩ := hW
  have hA : DataW.TrodAll enc Try.prog W 0 (fun _ => true) true Try.f7.params.toList args.toList ds p := hA0
  have hwt2 : (DataW.weightsEach Try.prog (Try.f7.params.toList ++ Rows.orderTreesSpec.plain.varTypes Try.prog) (ds ++ gs)).all (· ≤ reachBytes) = true := hwt
  rw [Try.params7] at hA hval hwt2
  obtain ⟨v0, vs0, d0, ds0, p0, q0, ha0, rfl, rfl, h0, r0⟩ := trodAll_cons hA
  obtain ⟨v1, vs1, d1, ds1, p1, q1, ha1, rfl, rfl, h1, r1⟩ := trodAll_cons r0
  obtain ⟨v2, vs2, d2, ds2, p2, q2, ha2, rfl, rfl, h2, r2⟩ := trodAll_cons r1
  obtain ⟨e1, rfl, rfl⟩ := trodAll_nil r2
  have hargs : args = #[v0, v1, v2] := by
    rw [e1] at ha2
    rw [ha2] at ha1
    rw [ha1] at ha0
    exact Array.toList_inj.1 ha0
  subst hargs
  obtain ⟨rfl, rfl⟩ := trodVars_none hV
  have k0 := hval 0 22 v0 rfl rfl
  obtain ⟨z0, hz0, _, _, wf0⟩ := open_int Try.underlying22 k0 h0
  subst hz0
  have k1 := hval 1 23 v1 rfl rfl
  have hR1 : ∀ n ∈ d1.weights Try.prog 23, n ≤ reachBytes := fun n hn => by
    have := List.all_eq_true.1 hwt2 n (DataW.weights_mem_each (j := 1) rfl rfl n hn)
    exact of_decide_eq_true this
  obtain ⟨l1, s1, c1, hv1, m1, b1⟩ := lst_of k1 h1 (Nat.le_refl _) hR1
  subst hv1
  have k2 := hval 2 24 v2 rfl rfl
  obtain ⟨l2, s2, c2, hv2, m2, b2⟩ := sets_of k2 h2
  subst hv2
  clear hA0 hval0
  have hreach : reachBytes = 140737488351232 := rfl
  have hw := orderTrees_any z0 l1 l2 s1 s2 c1 c2 W m1 m2 (by omega)
  refine hw.mono fun e W' ⟨he, hb⟩ => ?_
  subst he
  exact ⟨_, rfl, law_post laidOutK (by kernel_rfl) (show Try.f7.resultTypes = #[4] by kernel_rfl) Try.underlying4 rfl ⟨rfl, rfl, rfl⟩ hW' hb⟩
/-- The row. -/
theorem orderTrees_holds : Rows.OrderTreesSaid :=
  OpenClaim.holds_of_wide 7 Try.f7 rfl rfl rfl rfl rfl rfl rfl ⟨rfl, rfl, rfl, rfl, rfl⟩ rfl rfl rfl rfl rfl (by kernel_rfl) Try.func7 (by kernel_rfl)
    (of_decide_eq_true (by kernel_rfl)) (by unfold Func.isWrapper; first | (rw [if_pos (by decide +kernel)]; kernel_rfl) | (rw [if_neg (by decide +kernel)]; exact ⟨rfl, rfl⟩))
    (fun os started H enc _ => orderTrees_lifted os started H enc)
#print axioms orderTrees_holds
end Go.Proofs.Ytnkinjilnccmfaa

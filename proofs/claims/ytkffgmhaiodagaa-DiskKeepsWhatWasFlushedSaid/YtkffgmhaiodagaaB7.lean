/- DiskKeepsWhatWasFlushed of package sherdlaw38: the row: for every input the law returns true and leaves its arguments alone. Conditions: the row's own, nothing more. -/
import Derived.Test.YtkffgmhaiodagaaB2
import Derived.Test.YtkffgmhaiodagaaR16
namespace Go.Proofs.Ytkffgmhaiodagaa
open Go.ChangeShapes Go.WideShapes Go.ChangeAt Go.WideMaps Go.WideElems Go.RowKit Go.Own Go.ChangeMaps Go.Disk
set_option maxRecDepth 100000 in
theorem diskKeepsWhatWasFlushed_lifted (os : Os) (started : os.Started) (H : Type) (enc : TypeId × Value → H) :
    ReturnsInHanded {} Try.checked os 5 .any (Rows.diskKeepsWhatWasFlushedSpec.pre6 enc Try.prog Try.f5 Rows.diskKeepsWhatWasFlushedRow.domain false) (Rows.diskKeepsWhatWasFlushedSpec.post enc Try.prog Try.f5 false true false false) := by
  refine returnsInHanded_of_change (C := Try.checked) ownK started (by kernel_rfl) Try.func5
    (ChangeSpec.witness6 (enc := enc) (C := Try.checked) false ⟨#[], #[.int .i64 0, .slice none 0 0, .slice none 0 0], []⟩ 8 (by kernel_rfl) (by kernel_rfl) (by kernel_rfl) (by kernel_rfl)) ?_
  intro W base args ds gs before hval0 hW hcnd hSz
  have hval : ∀ (j : Nat) t v, Try.f5.params[j]? = some t → args[j]? = some v → Value.okWide Try.prog W .any base t v := hval0
  have hW' := hW
  obtain ⟨p, q, hA0, hV, rfl, hfz, hnd⟩ := hW
  have hA : DataW.TrodAll enc Try.prog W 0 (fun _ => true) true Try.f5.params.toList args.toList ds p := hA0
  rw [Try.params5] at hA hval
  obtain ⟨v0, v1, v2, d0, d1, d2, p0, p1, p2, rfl, rfl, rfl, h0, h1, h2⟩ := trodAll_three hA
  obtain ⟨rfl, rfl⟩ := trodVars_none hV
  have k0 := hval 0 3 v0 rfl rfl
  obtain ⟨z0, rfl, rfl, rfl, wf0⟩ := open_int Try.underlying3 k0 h0
  have k1 := hval 1 22 v1 rfl rfl
  obtain ⟨l1, sa1, ca1, rfl, hs1⟩ := scr_of k1 h1
  have k2 := hval 2 31 v2 rfl rfl
  obtain ⟨zs2, hz2, _, _⟩ := sl_of_ints Try.underlying31 Try.underlying3 cellsInt k2 h2
  obtain ⟨pa2, pc2, rfl, _⟩ := sl_slice hz2
  clear hA0 hval0
  have hw := keeps_any z0 l1 sa1 ca1 zs2 pa2 pc2 W hs1 hz2
  refine hw.mono fun e W' ⟨he, hb⟩ => ?_
  subst he
  exact ⟨_, rfl, law_post laidOutK (by kernel_rfl) (show Try.f5.resultTypes = #[4] by kernel_rfl) Try.underlying4 rfl ⟨rfl, rfl, rfl⟩ hW' hb⟩
/-- The row. -/
theorem diskKeepsWhatWasFlushed_holds : Rows.DiskKeepsWhatWasFlushedSaid :=
  OpenClaim.holds_of_wide 5 Try.f5 rfl rfl rfl rfl rfl rfl rfl ⟨rfl, rfl, rfl, rfl, rfl⟩ rfl rfl rfl rfl rfl (by kernel_rfl) Try.func5 (by kernel_rfl)
    (of_decide_eq_true (by kernel_rfl)) (by unfold Func.isWrapper; first | (rw [if_pos (by decide +kernel)]; kernel_rfl) | (rw [if_neg (by decide +kernel)]; exact ⟨rfl, rfl⟩))
    (fun os started H enc _ => diskKeepsWhatWasFlushed_lifted os started H enc)
#print axioms diskKeepsWhatWasFlushed_holds
end Go.Proofs.Ytkffgmhaiodagaa

/- LabelBelieves of package sherdlaw16: the row: for every input the law returns true and leaves its arguments alone. Conditions: the row's own, nothing more. -/
import Derived.Test.YtcbmifaobdamhaaL7
import Derived.Test.YtcbmifaobdamhaaN0
import Derived.Carry
namespace Go.Proofs.Ytcbmifaobdamhaa
open Go.ChangeShapes Go.WideShapes Go.ChangeAt Go.WideMaps Go.WideElems Go.RowKit Go.Own Go.ChangeMaps Go.Theory Go.Label
set_option maxRecDepth 100000 in
theorem labelBelieves_lifted (os : Os) (started : os.Started) (H : Type) (enc : TypeId × Value → H) :
    ReturnsInHanded {} Try.checked os 7 .any (Rows.labelBelievesSpec.pre6 enc Try.prog Try.f7 Rows.labelBelievesRow.domain false) (Rows.labelBelievesSpec.post enc Try.prog Try.f7 false true false false) := by
  refine returnsInHanded_of_change (C := Try.checked) ownK started (by kernel_rfl) Try.func7
    (ChangeSpec.witness6 (enc := enc) (C := Try.checked) false ⟨#[], #[.agg #[.int .i64 0, .slice none 0 0, .slice none 0 0], .int .i64 0, .int .i64 0, .slice none 0 0], []⟩ 8 (by kernel_rfl) (by kernel_rfl) (by kernel_rfl) (by kernel_rfl)) ?_
  intro W base args ds gs before hval0 hW hcnd hSz
  have hval : ∀ (j : Nat) t v, Try.f7.params[j]? = some t → args[j]? = some v → Value.okWide Try.prog W .any base t v := hval0
  have hW' := hW
  obtain ⟨p, q, hA0, hV, rfl, hfz, hnd⟩ := hW
  have hA : DataW.TrodAll enc Try.prog W 0 (fun _ => true) true Try.f7.params.toList args.toList ds p := hA0
  rw [Try.params7] at hA hval
  obtain ⟨v0, v1, v2, v3, d0, d1, d2, d3, p0, p1, p2, p3, rfl, rfl, rfl, h0, h1, h2, h3⟩ := trodAll_four hA
  obtain ⟨rfl, rfl⟩ := trodVars_none hV
  have k0 := hval 0 25 v0 rfl rfl
  obtain ⟨b, sa, sr, ca, cr, bs, rfl, hb0, hr0, hm0, hm1⟩ := base_of k0 h0
  have k1 := hval 1 26 v1 rfl rfl
  obtain ⟨z1, rfl, rfl, rfl, wf1⟩ := open_int Try.underlying26 k1 h1
  have k2 := hval 2 3 v2 rfl rfl
  obtain ⟨z2, rfl, rfl, rfl, wf2⟩ := open_int Try.underlying3 k2 h2
  have k3 := hval 3 22 v3 rfl rfl
  obtain ⟨zs, hs, hm, hz⟩ := sl_of_ints Try.underlying22 Try.underlying3 (by kernel_rfl) k3 h3
  obtain ⟨sp, cp, rfl, _, _⟩ := sl_slice hs
  clear hA0 hval0
  have hw := law_believes b z1 z2 zs sa sr sp ca cr cp bs hr0 W hb0 hs hm
  refine hw.mono fun e W' ⟨he, hb⟩ => ?_
  subst he
  exact ⟨_, rfl, law_post laidOutK (by kernel_rfl) (show Try.f7.resultTypes = #[4] by kernel_rfl) Try.underlying4 rfl ⟨rfl, rfl, rfl⟩ hW' hb⟩
/-- The row. -/
theorem labelBelieves_holds : Rows.LabelBelievesSaid :=
  OpenClaim.holds_of_wide 7 Try.f7 rfl rfl rfl rfl rfl rfl rfl ⟨rfl, rfl, rfl, rfl, rfl⟩ rfl rfl rfl rfl rfl (by kernel_rfl) Try.func7 (by kernel_rfl)
    (of_decide_eq_true (by kernel_rfl)) (by unfold Func.isWrapper; first | (rw [if_pos (by decide +kernel)]; kernel_rfl) | (rw [if_neg (by decide +kernel)]; exact ⟨rfl, rfl⟩))
    (fun os started H enc _ => labelBelieves_lifted os started H enc)
#print axioms labelBelieves_holds
end Go.Proofs.Ytcbmifaobdamhaa

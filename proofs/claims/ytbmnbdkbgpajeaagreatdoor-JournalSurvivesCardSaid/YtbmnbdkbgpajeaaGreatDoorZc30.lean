/- JournalSurvives: the row: for every input the law returns true and leaves its arguments alone. Conditions: the row's own, nothing more. -/
import Derived.Test.YtbmnbdkbgpajeaaGreatDoorZc24
import Derived.Test.YtbmnbdkbgpajeaaGreatDoorZc29
/- JournalSurvives: the row: for every input the law returns true and leaves its arguments alone. Conditions: the row's own, nothing more. -/
section
namespace Go.Proofs.YtbmnbdkbgpajeaaGreatDoor
open Go.ChangeShapes Go.WideShapes Go.ChangeAt Go.WideMaps Go.WideElems Go.RowKit Go.Sha Go.Own Go.ChangeMaps
set_option maxRecDepth 100000 in
theorem journalSurvives_lifted (os : Os) (started : os.Started) (H : Type) (enc : TypeId × Value → H) :
    ReturnsInHanded {} Tryz.checked os 5 .any (fun w args => (Rows.journalSurvivesSpec.pre enc Tryz.prog Tryz.f5 [] false w args ∧ laidMetH Tryz.prog lay2 w) ∧ sizedMet enc Tryz.prog Tryz.f5 (OpenSpec.ofChange Rows.journalSurvivesSpec) false w args)
      (Rows.journalSurvivesSpec.post enc Tryz.prog Tryz.f5 false true false false) := by
  refine returnsInHanded_of_change_and (C := Tryz.checked) (X := fun w _ => laidMetH Tryz.prog lay2 w) (fun _ _ _ hh h => h.of_heap hh) ownK started (by kernel_rfl) Tryz.func5
    (ChangeSpec.witness_shaped (enc := enc) (C := Tryz.checked) (os := os) (X := fun w _ => laidMetH Tryz.prog lay2 w) false (World.doorLaid Tryz.prog 4000 os) #[.int .i64 0, .slice none 0 0, .agg #[.int .i64 0, .int .i64 0, .int .i64 0, .int .i64 0, .int .u8 0, .slice none 0 0], .int .u8 0, .slice none 0 0] 8 rfl (World.shaped_of_RefB (by kernel_rfl) (by kernel_rfl)) (by kernel_rfl) (by kernel_rfl) (by kernel_rfl) (door_met2 os _)) ?_
  intro W base args ds gs before hval0 hW _ hq hL hSz
  have hval : ∀ (j : Nat) t v, Tryz.f5.params[j]? = some t → args[j]? = some v → Value.okWide Tryz.prog W .any base t v := hval0
  have hW' := hW
  obtain ⟨p, q, hA0, hV, rfl, hfz, hnd⟩ := hW
  have hA : DataW.TrodAll enc Tryz.prog W 0 (fun _ => true) true Tryz.f5.params.toList args.toList ds p := hA0
  rw [Tryz.params5] at hA hval
  obtain ⟨v0, v1, v2, v3, v4, d0, d1, d2, d3, d4, p0, p1, p2, p3, p4, rfl, rfl, rfl, h0, h1, h2, h3, h4⟩ := trodAll_five hA
  obtain ⟨rfl, rfl⟩ := trodVars_none hV
  have k0 := hval 0 3 v0 rfl rfl
  obtain ⟨z0, rfl, rfl, rfl, wf0⟩ := open_int Tryz.underlying3 k0 h0
  have k1 := hval 1 40 v1 rfl rfl
  obtain ⟨l1, sa1, ca1, rfl, hs1⟩ := st_of k1 h1
  have k2 := hval 2 56 v2 rfl rfl
  obtain ⟨x2, rfl, _⟩ := st1_of k2 h2
  have k3 := hval 3 5 v3 rfl rfl
  obtain ⟨z3, rfl, rfl, rfl, wf3⟩ := open_int Tryz.underlying5 k3 h3
  obtain ⟨u3, rfl⟩ := byte_of wf3
  have k4 := hval 4 51 v4 rfl rfl
  obtain ⟨l4, hs4, hl4, _⟩ := sl_of_ints Tryz.underlying51 Tryz.underlying3 cellsInt k4 h4
  obtain ⟨sa4, ca4, rfl, _⟩ := sl_slice hs4
  obtain ⟨⟨hR, hr⟩, hK, hk⟩ := of_laid2 hL
  have hw := survives_any W z0 l1 x2 u3 l4 sa1 sa4 ca1 ca4 hs1 hs4 hK hk hR hr
  refine hw.mono fun e W' ⟨he, hb⟩ => ?_
  subst he
  exact ⟨_, rfl, law_post laidOutK (by kernel_rfl) (show Tryz.f5.resultTypes = #[4] by kernel_rfl) Tryz.underlying4 rfl ⟨rfl, rfl, rfl⟩ hW' hb⟩
theorem survives_holds : Rows.JournalSurvivesSaid :=
  OpenClaim.holds_of_wide 5 Tryz.f5 rfl rfl rfl rfl rfl rfl rfl ⟨rfl, rfl, rfl, rfl, rfl⟩ rfl rfl rfl rfl rfl (by kernel_rfl) Tryz.func5 (by kernel_rfl)
    (of_decide_eq_true (by kernel_rfl)) (by unfold Func.isWrapper; first | (rw [if_pos (by decide +kernel)]; kernel_rfl) | (rw [if_neg (by decide +kernel)]; exact ⟨rfl, rfl⟩))
    (fun os started H enc _ => journalSurvives_lifted os started H enc)
#print axioms survives_holds
end Go.Proofs.YtbmnbdkbgpajeaaGreatDoor
end

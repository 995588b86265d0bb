/- HashOfMatchesSpec: the row. -/
import Derived.Test.YtcdgpkhfflehjaaDoorB2
import Derived.Test.YtcdgpkhfflehjaaDoorB1
import Derived.Test.YtcdgpkhfflehjaaDoorA23
namespace Go.Proofs.YtcdgpkhfflehjaaDoor
open Go.ChangeShapes Go.WideShapes Go.ChangeAt Go.WideMaps Go.WideElems Go.RowKit Go.Sha Go.Own Go.ChangeMaps
set_option maxRecDepth 100000 in
theorem hashOfMatchesSpec_lifted (os : Os) (started : os.Started) (H : Type) (enc : TypeId × Value → H) :
    ReturnsInHanded {} Tryd.checked os 7 .any (fun w args => (Rows.hashOfMatchesSpecSpec.pre enc Tryd.prog Tryd.f7 [] false w args ∧ laidMetH Tryd.prog lay2 w) ∧ sizedMet enc Tryd.prog Tryd.f7 (OpenSpec.ofChange Rows.hashOfMatchesSpecSpec) false w args)
      (Rows.hashOfMatchesSpecSpec.post enc Tryd.prog Tryd.f7 false true false false) := by
  refine returnsInHanded_of_change_and (C := Tryd.checked) (X := fun w _ => laidMetH Tryd.prog lay2 w) (fun _ _ _ hh h => h.of_heap hh) ownK started (by kernel_rfl) Tryd.func7
    (ChangeSpec.witness_shaped (enc := enc) (C := Tryd.checked) (os := os) (X := fun w _ => laidMetH Tryd.prog lay2 w) false (World.doorLaid Tryd.prog 4000 os) #[.int .i64 0, .slice none 0 0] 8 rfl (World.shaped_of_RefB (by kernel_rfl) (by kernel_rfl)) (by kernel_rfl) (by kernel_rfl) (by kernel_rfl) (door_met2 os _)) ?_
  intro W base args ds gs before hval0 hW _ _ hL hSz
  have hval : ∀ (j : Nat) t v, Tryd.f7.params[j]? = some t → args[j]? = some v → Value.okWide Tryd.prog W .any base t v := hval0
  have hW' := hW
  obtain ⟨p, q, hA0, hV, rfl, hfz, hnd⟩ := hW
  have hA : DataW.TrodAll enc Tryd.prog W 0 (fun _ => true) true Tryd.f7.params.toList args.toList ds p := hA0
  rw [Tryd.params7] at hA hval
  obtain ⟨v0, v1, d0, d1, p0, p1, rfl, rfl, rfl, h0, h1⟩ := trodAll_two hA
  obtain ⟨rfl, rfl⟩ := trodVars_none hV
  have k0 := hval 0 3 v0 rfl rfl
  obtain ⟨n0, rfl, rfl, rfl, zn0⟩ := open_int Tryd.underlying3 k0 h0
  have k1 := hval 1 27 v1 rfl rfl
  obtain ⟨l1, hs1, hl1, hls1⟩ := sl_of_strs Tryd.underlying27 Tryd.underlying9 cells9 k1 h1
  obtain ⟨sa1, cap1, rfl⟩ := sl_slice hs1
  obtain ⟨hC0, hC1, hg⟩ := of_laid2 hL
  have hn := bounds_i64 zn0
  have hw := ofLaw_any n0 hn.1 hn.2 l1 sa1 cap1 W hs1 hl1 hls1 hC0 hC1 hg
  refine hw.mono fun e W' ⟨he, hb⟩ => ?_
  subst he
  exact ⟨_, rfl, law_post laidOutK (by kernel_rfl) (show Tryd.f7.resultTypes = #[4] by kernel_rfl) Tryd.underlying4 rfl ⟨rfl, rfl, rfl⟩ hW' hb⟩
theorem of_holds : Rows.HashOfMatchesSpecSaid :=
  OpenClaim.holds_of_wide 7 Tryd.f7 rfl rfl rfl rfl rfl rfl rfl ⟨rfl, rfl, rfl, rfl, rfl⟩ rfl rfl rfl rfl rfl (by kernel_rfl) Tryd.func7 (by kernel_rfl)
    (of_decide_eq_true (by kernel_rfl)) (by unfold Func.isWrapper; first | (rw [if_pos (by decide +kernel)]; kernel_rfl) | (rw [if_neg (by decide +kernel)]; exact ⟨rfl, rfl⟩))
    (fun os started H enc _ => hashOfMatchesSpec_lifted os started H enc)
#print axioms of_holds
end Go.Proofs.YtcdgpkhfflehjaaDoor

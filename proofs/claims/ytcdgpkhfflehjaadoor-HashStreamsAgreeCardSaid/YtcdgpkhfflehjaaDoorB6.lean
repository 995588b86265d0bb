/- HashStreamsAgree: the row. -/
import Derived.Test.YtcdgpkhfflehjaaDoorB2
import Derived.Test.YtcdgpkhfflehjaaDoorB1
import Derived.Test.YtcdgpkhfflehjaaDoorA24
namespace Go.Proofs.YtcdgpkhfflehjaaDoor
open Go.ChangeShapes Go.WideShapes Go.ChangeAt Go.WideMaps Go.WideElems Go.RowKit Go.Sha Go.Own Go.ChangeMaps
set_option maxRecDepth 100000 in
theorem hashStreamsAgree_lifted (os : Os) (started : os.Started) (H : Type) (enc : TypeId × Value → H) :
    ReturnsInHanded {} Tryd.checked os 4 .any (fun w args => (Rows.hashStreamsAgreeSpec.pre enc Tryd.prog Tryd.f4 [] false w args ∧ laidMetH Tryd.prog lay2 w) ∧ sizedMet enc Tryd.prog Tryd.f4 (OpenSpec.ofChange Rows.hashStreamsAgreeSpec) false w args)
      (Rows.hashStreamsAgreeSpec.post enc Tryd.prog Tryd.f4 false true false false) := by
  refine returnsInHanded_of_change_and (C := Tryd.checked) (X := fun w _ => laidMetH Tryd.prog lay2 w) (fun _ _ _ hh h => h.of_heap hh) ownK started (by kernel_rfl) Tryd.func4
    (ChangeSpec.witness_shaped (enc := enc) (C := Tryd.checked) (os := os) (X := fun w _ => laidMetH Tryd.prog lay2 w) false (World.doorLaid Tryd.prog 4000 os) #[.slice none 0 0, .string ⟨#[]⟩, .int .u8 0] 8 rfl (World.shaped_of_RefB (by kernel_rfl) (by kernel_rfl)) (by kernel_rfl) (by kernel_rfl) (by kernel_rfl) (door_met2 os _)) ?_
  intro W base args ds gs before hval0 hW _ _ hL hSz
  have hval : ∀ (j : Nat) t v, Tryd.f4.params[j]? = some t → args[j]? = some v → Value.okWide Tryd.prog W .any base t v := hval0
  have hW' := hW
  obtain ⟨p, q, hA0, hV, rfl, hfz, hnd⟩ := hW
  have hA : DataW.TrodAll enc Tryd.prog W 0 (fun _ => true) true Tryd.f4.params.toList args.toList ds p := hA0
  rw [Tryd.params4] at hA hval
  obtain ⟨v0, v1, v2, d0, d1, d2, p0, p1, p2, rfl, rfl, rfl, h0, h1, h2⟩ := trodAll_three hA
  obtain ⟨rfl, rfl⟩ := trodVars_none hV
  have k0 := hval 0 27 v0 rfl rfl
  obtain ⟨l0, hs0, hl0, hls0⟩ := sl_of_strs Tryd.underlying27 Tryd.underlying9 cells9 k0 h0
  obtain ⟨sa0, cap0, rfl⟩ := sl_slice hs0
  have k1 := hval 1 9 v1 rfl rfl
  obtain ⟨s1, rfl, rfl, rfl, z1⟩ := open_string Tryd.underlying9 k1 h1
  have k2 := hval 2 5 v2 rfl rfl
  obtain ⟨n2, rfl, rfl, rfl, zn2⟩ := open_int Tryd.underlying5 k2 h2
  obtain ⟨hC0, hC1, hg⟩ := of_laid2 hL
  obtain ⟨a, rfl⟩ : ∃ a : UInt8, n2 = (a.toNat : Int) := ⟨UInt8.ofNat n2.toNat, by have := bounds_u8 zn2; simp; omega⟩
  have hw := streamsLaw_any l0 sa0 cap0 s1.data.toList a W hs0 hl0 hls0 z1 hC0 hC1 hg
  simp only [str, Array.toArray_toList] at hw
  refine hw.mono fun e W' ⟨he, hb⟩ => ?_
  subst he
  exact ⟨_, rfl, law_post laidOutK (by kernel_rfl) (show Tryd.f4.resultTypes = #[4] by kernel_rfl) Tryd.underlying4 rfl ⟨rfl, rfl, rfl⟩ hW' hb⟩
theorem streams_holds : Rows.HashStreamsAgreeSaid :=
  OpenClaim.holds_of_wide 4 Tryd.f4 rfl rfl rfl rfl rfl rfl rfl ⟨rfl, rfl, rfl, rfl, rfl⟩ rfl rfl rfl rfl rfl (by kernel_rfl) Tryd.func4 (by kernel_rfl)
    (of_decide_eq_true (by kernel_rfl)) (by unfold Func.isWrapper; first | (rw [if_pos (by decide +kernel)]; kernel_rfl) | (rw [if_neg (by decide +kernel)]; exact ⟨rfl, rfl⟩))
    (fun os started H enc _ => hashStreamsAgree_lifted os started H enc)
#print axioms streams_holds
end Go.Proofs.YtcdgpkhfflehjaaDoor

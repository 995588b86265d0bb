/- label: the walk over LabelFollows. -/
import Derived.Test.YtcbmifaobdamhaaA29
namespace Go.Proofs.Ytcbmifaobdamhaa
open Go.RowKit Go.Own Go.Theory Go.BigFrame Go.Ib Go.Label Go.Shelf
attribute [local irreducible] SqC.SqW
set_option maxRecDepth 100000 in
set_option maxHeartbeats 4000000 in
theorem law_follows (b : Lg) (s : Int) (sa sr : Option Addr) (ca cr : Nat) (bs : List Value) (hrg : LgRg b) (w : World) (h : LgAt w b sa sr ca cr bs) (hal : True) :
    Calls Try.prog 3 #[lgV b sa sr ca cr, .int .i64 s] w fun e w' => e = .returned (.bool true) ∧ Below w.heap.size w w' := by
  have hlgV : lgV b sa sr ca cr = .agg #[.int .i64 b.facts, .slice sa b.assume.length ca, .slice sr b.rules.length cr] := rfl
  have hbox := box_new w b sa sr ca cr 25
  obtain ⟨W1, hW1⟩ : ∃ W1, W1 = w.alloc (.cells #[.int .i64 b.facts, .slice sa b.assume.length ca, .slice sr b.rules.length cr] 25) := ⟨_, rfl⟩
  have hblk : Blk W1 w.heap.size [.int .i64 b.facts, .slice sa b.assume.length ca, .slice sr b.rules.length cr] 25 := by rw [hW1]; exact Blk.new w #[.int .i64 b.facts, .slice sa b.assume.length ca, .slice sr b.rules.length cr] 25
  rw [← hW1] at hbox
  have hH := h.below hbox.b1
  have h1 := pfollows_any b s sa sr ca cr bs hrg W1 hH hal
  rw [hlgV] at h1 ⊢
  have HBLK := Lib.hid hblk; clear hblk
  have HBOX := Lib.hid hbox; clear hbox
  have HH := Lib.hid hH; clear hH h
  have HW1 := Lib.hid hW1; clear hW1
  have H1 := Lib.hid h1; clear h1
  have HRG := Lib.hid hrg; clear hrg
  have HLV := Lib.hid hlgV; clear hlgV
  have hfl : (folsL b s).length ≤ 1000000 := by
    unfold folsL
    split
    · rename_i hc
      have := (valE_ok.1 hc.1).f64
      simp; omega
    · simp
  go_enter Try.func3, Try.ntmps3
  go_wp2_with (fail)
  rw [← HW1.out]
  refine H1.out.mono ?_
  clear H1
  rintro e w2 ⟨s1, k1, rfl, hs1, b2⟩
  obtain ⟨c0, c1, c2⟩ := HBOX.out.cell w2 b2
  have h2 := rfollows_any b s sa sr ca cr bs HRG.out w2 (HH.out.below b2)
  rw [HLV.out] at h2
  have H2 := Lib.hid h2; clear h2
  obtain ⟨la, hla⟩ : ∃ la, la = folsL b s := ⟨_, rfl⟩
  obtain ⟨fb, hfb⟩ : ∃ fb, fb = folsB b s := ⟨_, rfl⟩
  rw [← hla] at hs1 hfl H2 ⊢
  rw [← hfb] at H2 ⊢
  clear hla hfb
  have HS1 := Lib.hid hs1; clear hs1
  have HB2 := Lib.hid b2; clear b2
  go_wp2_with (fail)
  refine H2.out.mono ?_
  clear H2
  rintro e w3 ⟨s2, k2, rfl, hs2, b3⟩
  have hb3 : Below W1.heap.size W1 w3 := HB2.out.trans (b3.mono HB2.out.size)
  have hs1 := HS1.out.below b3
  clear HS1 c0 c1 c2
  have HB3 := Lib.hid hb3; clear hb3 b3
  have HSA := Lib.hid hs1; clear hs1
  have HSB := Lib.hid hs2; clear hs2
  go_wp2
  have eX : Below w3.heap.size w3 w3.drew := (Below.refl _ _).drew
  haveI : Nonempty (SqC.Come fun U => Below w3.heap.size w3 U) := ⟨⟨_, eX⟩⟩
  refine SqC.wp_region_sqc 19 [1, 3, 8, 16] (fun U => Below w3.heap.size w3 U) (by kernel_rfl) (by kernel_rfl) (by kernel_rfl) eX ?_
  obtain ⟨wd, hwd⟩ : ∃ wd : World, wd = w3.drew := ⟨_, rfl⟩
  rw [← hwd] at eX ⊢
  clear hwd
  have hld : ∀ U, Below w3.heap.size w3 U → (loadVar 25 ⟨w.heap.size, 0, none⟩).run Try.prog U = .ok (.agg #[.int .i64 b.facts, .slice sa b.assume.length ca, .slice sr b.rules.length cr]) U := fun U hU =>
    run_load_agg (P := Try.prog) (ty := 25) (HBLK.out.below (HB3.out.trans (hU.mono HB3.out.size)) HBLK.out.lt).cells0 aggB infoB
  have hHU : ∀ U, Below w3.heap.size w3 U → LgAt U b sa sr ca cr bs := fun U hU => HH.out.below (HB3.out.trans (hU.mono HB3.out.size))
  refine SqC.value (.agg #[.int .i64 b.facts, .slice sa b.assume.length ca, .slice sr b.rules.length cr]) rfl rfl (by intro U hU; exact load_agg_exec rfl rfl (hld U hU)) ?_
  simp only [Act.put, List.setIfInBounds_toArray, List.set_cons_zero, List.set_cons_succ]
  refine SqC.effect rfl rfl ?_
  have hcv := pvalid_any b sa sr ca cr bs HRG.out wd (hHU wd eX) hal
  rw [HLV.out] at hcv
  obtain ⟨E, hE⟩ : ∃ E, E = valE b := ⟨_, rfl⟩
  rw [← hE] at hcv
  refine yields_call rfl (by kernel_rfl) rfl rfl (hcv.mono ?_)
  rintro e w4 ⟨rfl, b4⟩
  have e4 : Below w3.heap.size w3 w4 := eX.trans (b4.mono eX.size)
  refine ⟨_, rfl, fun _ => e4, ?_⟩
  simp only [Act.put, List.setIfInBounds_toArray, List.set_cons_zero, List.set_cons_succ]
  refine SqC.value (.agg #[.int .i64 b.facts, .slice sa b.assume.length ca, .slice sr b.rules.length cr]) rfl rfl (by intro U hU; exact load_agg_exec rfl rfl (hld U hU)) ?_
  simp only [Act.put, List.setIfInBounds_toArray, List.set_cons_zero, List.set_cons_succ]
  refine SqC.effect rfl rfl ?_
  have hcr := rvalid_any b sa sr ca cr bs HRG.out w4 (hHU w4 e4)
  rw [HLV.out, ← hE] at hcr
  refine yields_call rfl (by kernel_rfl) rfl rfl (hcr.mono ?_)
  rintro e w5 ⟨rfl, b5⟩
  have e5 : Below w3.heap.size w3 w5 := e4.trans (b5.mono e4.size)
  refine ⟨_, rfl, fun _ => e5, ?_⟩
  clear hE hcr hcv hld hHU
  simp only [Act.put, List.setIfInBounds_toArray, List.set_cons_zero, List.set_cons_succ]
  iterate 4 (refine SqC.quiet rfl rfl ?_; go_big_quiet_step (fail); refine wpQuiet_nil ?_)
  refine SqC.effect rfl rfl ?_
  have hsb := sameBools_any la la s1 s2 k1 k2 w5 (HSA.out.below e5) (HSB.out.below e5) (.inl hfl)
  rw [beq_self_eq_true] at hsb
  refine yields_call rfl (by kernel_rfl) rfl rfl (hsb.mono ?_)
  rintro e w6 ⟨rfl, b6⟩
  have e6 : Below w3.heap.size w3 w6 := e5.trans (b6.mono e5.size)
  refine ⟨_, rfl, fun _ => e6, ?_⟩
  clear hsb
  simp only [Act.put, List.setIfInBounds_toArray, List.set_cons_zero, List.set_cons_succ]
  iterate 7 (refine SqC.quiet rfl rfl ?_; go_big_quiet_step (fail); refine wpQuiet_nil ?_)
  refine SqC.effect rfl rfl ?_
  refine yields_call rfl (by kernel_rfl) rfl rfl ((lives_any w6).mono ?_)
  rintro e w7 ⟨rfl, b7⟩
  have e7 : Below w3.heap.size w3 w7 := e6.trans (b7.mono e6.size)
  refine ⟨_, rfl, fun _ => e7, ?_⟩
  simp only [Act.put, List.setIfInBounds_toArray, List.set_cons_zero, List.set_cons_succ]
  iterate 2 (refine SqC.quiet rfl rfl ?_; go_big_quiet_step (fail); refine wpQuiet_nil ?_)
  refine SqC.nil ?_
  have hfin := HBOX.out.below (HB3.out.trans (e7.mono HB3.out.size))
  clear e4 e5 e6 e7 b4 b5 b6 b7 eX
  go_wp2
  go_ret
  exact ⟨rfl, hfin⟩
end Go.Proofs.Ytcbmifaobdamhaa

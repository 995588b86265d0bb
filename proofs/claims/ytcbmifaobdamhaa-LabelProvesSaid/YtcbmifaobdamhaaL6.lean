/- label: the walk over LabelProves. -/
import Derived.Test.YtcbmifaobdamhaaB4
import Derived.Test.YtcbmifaobdamhaaA29
namespace Go.Proofs.Ytcbmifaobdamhaa
open Go.RowKit Go.Own Go.Theory Go.BigFrame Go.Ib Go.Label Go.Shelf
attribute [local irreducible] SqC.SqW
set_option maxRecDepth 100000 in
set_option maxHeartbeats 4000000 in
theorem law_proves (b : Lg) (s fact : Int) (p : List Int) (sa sr sp : Option Addr) (ca cr cp : Nat) (bs : List Value) (hrg : LgRg b) (w : World) (h : LgAt w b sa sr ca cr bs) (hp : Sl w 1 (.slice sp p.length cp) p.length (p.map (.int .i64))) (hpm : p.length ≤ maxLen) :
    Calls Try.prog 5 #[lgV b sa sr ca cr, .int .i64 s, .int .i64 fact, .slice sp p.length cp] w fun e w' => e = .returned (.bool true) ∧ Below w.heap.size w w' := by
  have hlgV : lgV b sa sr ca cr = .agg #[.int .i64 b.facts, .slice sa b.assume.length ca, .slice sr b.rules.length cr] := rfl
  have hbox := box_new w b sa sr ca cr 25
  obtain ⟨W1, hW1⟩ : ∃ W1, W1 = w.alloc (.cells #[.int .i64 b.facts, .slice sa b.assume.length ca, .slice sr b.rules.length cr] 25) := ⟨_, rfl⟩
  have hblk : Blk W1 w.heap.size [.int .i64 b.facts, .slice sa b.assume.length ca, .slice sr b.rules.length cr] 25 := by rw [hW1]; exact Blk.new w #[.int .i64 b.facts, .slice sa b.assume.length ca, .slice sr b.rules.length cr] 25
  rw [← hW1] at hbox
  have hH := h.below hbox.b1
  have hpW := hp.below hbox.b1
  have hld : ∀ U, Below W1.heap.size W1 U → (loadVar 25 ⟨w.heap.size, 0, none⟩).run Try.prog U = .ok (.agg #[.int .i64 b.facts, .slice sa b.assume.length ca, .slice sr b.rules.length cr]) U := fun U hU =>
    run_load_agg (P := Try.prog) (ty := 25) (hblk.below hU hblk.lt).cells0 aggB infoB
  have hpw := fun U hU => pwhy_all b s fact sa sr ca cr bs hrg U (hH.below (w' := U) hU)
  have hrw := fun U hU => rwhy_all b s fact sa sr ca cr bs hrg U (hH.below (w' := U) hU)
  have hpc := fun U (hU : Below W1.heap.size W1 U) (q : List Int) sq cq hq hl => pcheck_any b s fact q sa sr sq ca cr cq bs hrg U (hH.below hU) trivial hq hl
  have hrc := fun U (hU : Below W1.heap.size W1 U) (q : List Int) sq cq hq hl => rcheck_any b s fact q sa sr sq ca cr cq bs hrg U (hH.below hU) hq hl
  have HLD := Lib.hid hld; clear hld hblk
  have HBOX := Lib.hid hbox; clear hbox
  have HP := Lib.hid hpW; clear hpW hp
  have HW1 := Lib.hid hW1; clear hW1 h hH hrg
  rw [hlgV] at hpw hrw ⊢
  rw [hlgV] at hpc hrc
  have HPW := Lib.hid hpw; clear hpw
  have HRW := Lib.hid hrw; clear hrw
  have HPC := Lib.hid hpc; clear hpc
  have HRC := Lib.hid hrc; clear hrc hlgV
  have hpm2 : (p.length : Int) ≤ 9223372036854775807 := by unfold maxLen at hpm; omega
  go_enter Try.func5, Try.ntmps5
  by_cases hl : 200 < p.length
  · have hl' : (200 : Int) < p.length := by omega
    go_wp2_with (fail)
    rw [← HW1.out]
    refine (lives_any _).mono ?_
    rintro e w3 ⟨rfl, b3⟩
    go_wp2
    go_ret
    exact ⟨rfl, HBOX.out.below b3⟩
  · have hl' : ((200 : Int) < p.length) = False := eq_false (by omega)
    obtain ⟨c0, c1, c2⟩ := HBOX.out.cell W1 (Below.refl _ _)
    go_wp2_with (fail)
    rw [← HW1.out]
    refine (HPW.out W1 (Below.refl _ _)).mono ?_
    clear HPW c0 c1 c2
    rintro e w2 ⟨so, co, out, E, rfl, hs2, hq2, b2⟩
    obtain ⟨c0, c1, c2⟩ := HBOX.out.cell w2 b2
    have HB2 := Lib.hid b2; clear b2
    have HS2 := Lib.hid hs2; clear hs2
    have HQ2 := Lib.hid hq2; clear hq2
    go_wp2_with (fail)
    refine (HRW.out w2 HB2.out).mono ?_
    clear HRW c0 c1 c2
    rintro e w3 ⟨so3, co3, out3, E3, rfl, hs3, hq3, b3⟩
    obtain ⟨e1, e2⟩ := why_all HQ2.out hq3
    subst e1 e2
    have hs2 := HS2.out.below b3
    have b3' : Below W1.heap.size W1 w3 := HB2.out.trans (b3.mono HB2.out.size)
    have hol : out.length ≤ 1000000 := by
      rcases HQ2.out with ⟨_, h, _⟩ | ⟨h0, j, _, _, h | h⟩
      · rw [h]; simp
      · rw [h.2.1]; simp
      · obtain ⟨_, _, ys, h3, _, h5⟩ := h
        obtain ⟨v1, v2, v3, v4⟩ := fits0 h0
        have h6 := need_len (valE_ok.1 v1) (rs := (rIter b s.toNat j).2) (fun f v h => ((rIter_ri b s.toNat j).a f v h).1) ⟨v3, v4⟩ 79
        have h7 := List.length_filterMap_le (rsI (rIter b s.toNat j).2) ys
        rw [h5]
        have h8 := h3.length_eq
        omega
    have HB3 := Lib.hid b3'; clear b3 b3'
    have HSA := Lib.hid hs2; clear hs2 HS2
    have HSB := Lib.hid hs3; clear hs3 hq3 HQ2
    have hee : (E == E) = true := by simp
    have hoo : (out == out) = true := by simp
    have hpl : p.length ≤ 1000000 := by omega
    have HPL := Lib.hid hpl; clear hpl
    have HOL := Lib.hid hol; clear hol
    have hsm : ∀ U, Below w3.heap.size w3 U → Calls Try.prog 26 #[.slice so out.length co, .slice so3 out.length co3] U fun e w' => e = .returned (.bool true) ∧ Below U.heap.size U w' := fun U hU => by
      have h1 := sameInts_any out out so so3 co co3 U (HSA.out.below hU) (HSB.out.below hU) (.inl HOL.out)
      rwa [hoo] at h1
    have HSM := Lib.hid hsm; clear hsm hoo
    obtain ⟨C1, hC1⟩ : ∃ C1, C1 = checkE b (isB b s) s.toNat fact p := ⟨_, rfl⟩
    obtain ⟨C2, hC2⟩ : ∃ C2, C2 = checkE b (isB b s) s.toNat fact out := ⟨_, rfl⟩
    have hp1 : ∀ U, Below w3.heap.size w3 U → Calls Try.prog 27 #[.agg #[.int .i64 b.facts, .slice sa b.assume.length ca, .slice sr b.rules.length cr], .int .i64 s, .int .i64 fact, .slice sp p.length cp] U fun e w' => e = .returned (.int .i64 C1) ∧ Below U.heap.size U w' := fun U hU => by
      rw [hC1]; exact HPC.out U (HB3.out.trans (hU.mono HB3.out.size)) p sp cp (HP.out.below ((HB3.out.trans (hU.mono HB3.out.size)))) HPL.out
    have hr1 : ∀ U, Below w3.heap.size w3 U → Calls Try.prog 28 #[.agg #[.int .i64 b.facts, .slice sa b.assume.length ca, .slice sr b.rules.length cr], .int .i64 s, .int .i64 fact, .slice sp p.length cp] U fun e w' => e = .returned (.int .i64 C1) ∧ Below U.heap.size U w' := fun U hU => by
      rw [hC1]; exact HRC.out U (HB3.out.trans (hU.mono HB3.out.size)) p sp cp (HP.out.below ((HB3.out.trans (hU.mono HB3.out.size)))) HPL.out
    have hp2 : ∀ U, Below w3.heap.size w3 U → Calls Try.prog 27 #[.agg #[.int .i64 b.facts, .slice sa b.assume.length ca, .slice sr b.rules.length cr], .int .i64 s, .int .i64 fact, .slice so3 out.length co3] U fun e w' => e = .returned (.int .i64 C2) ∧ Below U.heap.size U w' := fun U hU => by
      rw [hC2]; exact HPC.out U (HB3.out.trans (hU.mono HB3.out.size)) out so3 co3 (HSB.out.below hU) HOL.out
    have hr2 : ∀ U, Below w3.heap.size w3 U → Calls Try.prog 28 #[.agg #[.int .i64 b.facts, .slice sa b.assume.length ca, .slice sr b.rules.length cr], .int .i64 s, .int .i64 fact, .slice so3 out.length co3] U fun e w' => e = .returned (.int .i64 C2) ∧ Below U.heap.size U w' := fun U hU => by
      rw [hC2]; exact HRC.out U (HB3.out.trans (hU.mono HB3.out.size)) out so3 co3 (HSB.out.below hU) HOL.out
    have HP1 := Lib.hid hp1; clear hp1
    have HR1 := Lib.hid hr1; clear hr1
    have HP2 := Lib.hid hp2; clear hp2
    have HR2 := Lib.hid hr2; clear hr2 hC1 hC2
    have hld3 : ∀ U, Below w3.heap.size w3 U → (loadVar 25 ⟨w.heap.size, 0, none⟩).run Try.prog U = .ok (.agg #[.int .i64 b.facts, .slice sa b.assume.length ca, .slice sr b.rules.length cr]) U := fun U hU => HLD.out U (HB3.out.trans (hU.mono HB3.out.size))
    have HLE := Lib.hid hld3; clear hld3
    have eX : Below w3.heap.size w3 w3.drew := (Below.refl _ _).drew
    have hcc1 : (C1 == C1) = true := by simp
    have hcc2 : (C2 == C2) = true := by simp
    go_wp2
    haveI : Nonempty (SqC.Come fun U : World => Below w3.heap.size w3 U) := ⟨⟨_, eX⟩⟩
    refine SqC.wp_region_sqc 38 [6, 13, 18, 26, 31, 35] (fun U : World => Below w3.heap.size w3 U) (by kernel_rfl) (by kernel_rfl) (by kernel_rfl) eX ?_
    obtain ⟨wd, hwd⟩ : ∃ wd : World, wd = w3.drew := ⟨_, rfl⟩
    rw [← hwd] at eX ⊢
    clear hwd
    iterate 6 (refine SqC.quiet rfl rfl ?_; go_big_quiet_step (fail); refine wpQuiet_nil ?_)
    refine SqC.effect rfl rfl ?_
    refine yields_call rfl (by kernel_rfl) rfl rfl ((HSM.out wd eX).mono ?_)
    rintro e u1 ⟨rfl, d⟩
    have e1 : Below w3.heap.size w3 u1 := eX.trans (d.mono eX.size)
    clear d
    refine ⟨_, rfl, fun _ => e1, ?_⟩
    simp only [Act.put, List.setIfInBounds_toArray, List.set_cons_zero, List.set_cons_succ]
    iterate 2 (refine SqC.quiet rfl rfl ?_; go_big_quiet_step (fail); refine wpQuiet_nil ?_)
    refine SqC.value (.agg #[.int .i64 b.facts, .slice sa b.assume.length ca, .slice sr b.rules.length cr]) rfl rfl (by intro U hU; exact load_agg_exec rfl rfl (HLE.out U hU)) ?_
    simp only [Act.put, List.setIfInBounds_toArray, List.set_cons_zero, List.set_cons_succ]
    iterate 3 (refine SqC.quiet rfl rfl ?_; go_big_quiet_step (fail); refine wpQuiet_nil ?_)
    refine SqC.effect rfl rfl ?_
    refine yields_call rfl (by kernel_rfl) rfl rfl ((HP1.out u1 e1).mono ?_)
    rintro e u2 ⟨rfl, d⟩
    have e2 : Below w3.heap.size w3 u2 := e1.trans (d.mono e1.size)
    clear d
    refine ⟨_, rfl, fun _ => e2, ?_⟩
    simp only [Act.put, List.setIfInBounds_toArray, List.set_cons_zero, List.set_cons_succ]
    refine SqC.value (.agg #[.int .i64 b.facts, .slice sa b.assume.length ca, .slice sr b.rules.length cr]) rfl rfl (by intro U hU; exact load_agg_exec rfl rfl (HLE.out U hU)) ?_
    simp only [Act.put, List.setIfInBounds_toArray, List.set_cons_zero, List.set_cons_succ]
    iterate 3 (refine SqC.quiet rfl rfl ?_; go_big_quiet_step (fail); refine wpQuiet_nil ?_)
    refine SqC.effect rfl rfl ?_
    refine yields_call rfl (by kernel_rfl) rfl rfl ((HR1.out u2 e2).mono ?_)
    rintro e u3 ⟨rfl, d⟩
    have e3 : Below w3.heap.size w3 u3 := e2.trans (d.mono e2.size)
    clear d
    refine ⟨_, rfl, fun _ => e3, ?_⟩
    simp only [Act.put, List.setIfInBounds_toArray, List.set_cons_zero, List.set_cons_succ]
    iterate 3 (refine SqC.quiet rfl rfl ?_; go_big_quiet_step (fail); refine wpQuiet_nil ?_)
    refine SqC.value (.agg #[.int .i64 b.facts, .slice sa b.assume.length ca, .slice sr b.rules.length cr]) rfl rfl (by intro U hU; exact load_agg_exec rfl rfl (HLE.out U hU)) ?_
    simp only [Act.put, List.setIfInBounds_toArray, List.set_cons_zero, List.set_cons_succ]
    iterate 3 (refine SqC.quiet rfl rfl ?_; go_big_quiet_step (fail); refine wpQuiet_nil ?_)
    refine SqC.effect rfl rfl ?_
    refine yields_call rfl (by kernel_rfl) rfl rfl ((HP2.out u3 e3).mono ?_)
    rintro e u4 ⟨rfl, d⟩
    have e4 : Below w3.heap.size w3 u4 := e3.trans (d.mono e3.size)
    clear d
    refine ⟨_, rfl, fun _ => e4, ?_⟩
    simp only [Act.put, List.setIfInBounds_toArray, List.set_cons_zero, List.set_cons_succ]
    refine SqC.value (.agg #[.int .i64 b.facts, .slice sa b.assume.length ca, .slice sr b.rules.length cr]) rfl rfl (by intro U hU; exact load_agg_exec rfl rfl (HLE.out U hU)) ?_
    simp only [Act.put, List.setIfInBounds_toArray, List.set_cons_zero, List.set_cons_succ]
    iterate 3 (refine SqC.quiet rfl rfl ?_; go_big_quiet_step (fail); refine wpQuiet_nil ?_)
    refine SqC.effect rfl rfl ?_
    refine yields_call rfl (by kernel_rfl) rfl rfl ((HR2.out u4 e4).mono ?_)
    rintro e u5 ⟨rfl, d⟩
    have e5 : Below w3.heap.size w3 u5 := e4.trans (d.mono e4.size)
    clear d
    refine ⟨_, rfl, fun _ => e5, ?_⟩
    simp only [Act.put, List.setIfInBounds_toArray, List.set_cons_zero, List.set_cons_succ]
    iterate 3 (refine SqC.quiet rfl rfl ?_; go_big_quiet_step (fail); refine wpQuiet_nil ?_)
    refine SqC.effect rfl rfl ?_
    refine yields_call rfl (by kernel_rfl) rfl rfl ((lives_any u5).mono ?_)
    rintro e u6 ⟨rfl, d⟩
    have e6 : Below w3.heap.size w3 u6 := e5.trans (d.mono e5.size)
    clear d
    refine ⟨_, rfl, fun _ => e6, ?_⟩
    simp only [Act.put, List.setIfInBounds_toArray, List.set_cons_zero, List.set_cons_succ]
    iterate 2 (refine SqC.quiet rfl rfl ?_; go_big_quiet_step (fail); refine wpQuiet_nil ?_)
    refine SqC.nil ?_
    have HE := Lib.hid (HBOX.out.below (HB3.out.trans (e6.mono HB3.out.size)))
    clear e1 e2 e3 e4 e5 e6 eX
    go_wp2
    go_ret
    exact ⟨rfl, HE.out⟩
end Go.Proofs.Ytcbmifaobdamhaa

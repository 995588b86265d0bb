/- label: the walk over LabelBelieves. -/
import Derived.Test.YtcbmifaobdamhaaP11
import Derived.Test.YtcbmifaobdamhaaA29
namespace Go.Proofs.Ytcbmifaobdamhaa
open Go.RowKit Go.Own Go.Theory Go.BigFrame Go.Ib Go.Label Go.Shelf
attribute [local irreducible] SqC.SqW
set_option maxRecDepth 100000 in
set_option maxHeartbeats 4000000 in
theorem law_believes (b : Lg) (s fact : Int) (p : List Int) (sa sr sp : Option Addr) (ca cr cp : Nat) (bs : List Value) (hrg : LgRg b) (w : World) (h : LgAt w b sa sr ca cr bs) (hp : Sl w 1 (.slice sp p.length cp) p.length (p.map (.int .i64))) (hpm : p.length ≤ maxLen) :
    Calls Try.prog 7 #[lgV b sa sr ca cr, .int .i64 s, .int .i64 fact, .slice sp p.length cp] w fun e w' => e = .returned (.bool true) ∧ Below w.heap.size w w' := by
  have hlgV : lgV b sa sr ca cr = .agg #[.int .i64 b.facts, .slice sa b.assume.length ca, .slice sr b.rules.length cr] := rfl
  have hbox := box_new w b sa sr ca cr 25
  obtain ⟨W1, hW1⟩ : ∃ W1, W1 = w.alloc (.cells #[.int .i64 b.facts, .slice sa b.assume.length ca, .slice sr b.rules.length cr] 25) := ⟨_, rfl⟩
  rw [← hW1] at hbox
  have hH := h.below hbox.b1
  have hpW := hp.below hbox.b1
  have hv := rvalid_any b sa sr ca cr bs hrg W1 hH
  have hpw := fun U hU => pwhy_all b s fact sa sr ca cr bs hrg U (hH.below (w' := U) hU)
  have hfl := fun U hU => pfollows_any b s sa sr ca cr bs hrg U (hH.below (w' := U) hU) trivial
  have hpc := fun U (hU : Below W1.heap.size W1 U) (q : List Int) sq cq hq hl => pcheck_any b s fact q sa sr sq ca cr cq bs hrg U (hH.below hU) trivial hq hl
  have HBOX := Lib.hid hbox; clear hbox
  have HP := Lib.hid hpW; clear hpW hp
  have HW1 := Lib.hid hW1; clear hW1 h hH hrg
  rw [hlgV] at hpw hfl hv ⊢
  rw [hlgV] at hpc
  have HV := Lib.hid hv; clear hv
  have HPW := Lib.hid hpw; clear hpw
  have HFL := Lib.hid hfl; clear hfl
  have HPC := Lib.hid hpc; clear hpc
  have HLV := Lib.hid hlgV; clear hlgV
  have hpm2 : (p.length : Int) ≤ 9223372036854775807 := by unfold maxLen at hpm; omega
  have hlv : ∀ U, Below W1.heap.size W1 U → Calls Try.prog 15 #[] U fun e w' => e = .returned (.bool true) ∧ Below w.heap.size w w' := fun U hU => (lives_any U).mono (by rintro e w' ⟨rfl, hb⟩; exact ⟨rfl, HBOX.out.below (hU.trans (hb.mono hU.size))⟩)
  have HLI := Lib.hid hlv; clear hlv
  go_enter Try.func7, Try.ntmps7
  go_wp2_with (fail)
  rw [← HW1.out]
  refine HV.out.mono ?_
  clear HV
  rintro e w2 ⟨rfl, b2⟩
  obtain ⟨c0, c1, c2⟩ := HBOX.out.cell w2 b2
  have HB2 := Lib.hid b2; clear b2
  by_cases hval : valE b = 0
  · have HOK := Lib.hid (valE_ok.1 hval)
    have HVAL := Lib.hid hval
    rw [hval]
    clear hval
    have hpis := ris_any b s sa sr ca cr HOK.out.a16 w2
    rw [HLV.out] at hpis
    obtain ⟨isb, hisb⟩ : ∃ isb, isb = isB b s := ⟨_, rfl⟩
    rw [← hisb] at hpis
    have HIS := Lib.hid hisb; clear hisb
    have HPIS := Lib.hid hpis; clear hpis
    go_wp2_with (fail)
    refine HPIS.out.mono ?_
    clear HPIS c0 c1 c2
    rintro e w3 ⟨rfl, b3⟩
    have b3' : Below W1.heap.size W1 w3 := HB2.out.trans (b3.mono HB2.out.size)
    obtain ⟨c0, c1, c2⟩ := HBOX.out.cell w3 b3'
    have HB3 := Lib.hid b3'; clear b3 b3' HB2
    cases isb with
    | false =>
      go_wp2_with (fail)
      refine (HLI.out _ HB3.out).mono ?_
      rintro e u ⟨rfl, bu⟩
      go_wp2
      go_ret
      exact ⟨rfl, bu⟩
    | true =>
      by_cases f1 : fact < -1
      · go_wp2_with (fail)
        refine (HLI.out _ HB3.out).mono ?_
        rintro e u ⟨rfl, bu⟩
        go_wp2
        go_ret
        exact ⟨rfl, bu⟩
      · have f1' : (fact < -1) = False := eq_false f1
        by_cases f2 : b.facts ≤ fact
        · clear f1
          go_wp2_with (fail)
          refine (HLI.out _ HB3.out).mono ?_
          rintro e u ⟨rfl, bu⟩
          go_wp2
          go_ret
          exact ⟨rfl, bu⟩
        · have f2' : (b.facts ≤ fact) = False := eq_false f2
          by_cases f3 : 200 < p.length
          · have f3' : (200 : Int) < p.length := by omega
            clear f1 f2
            go_wp2_with (fail)
            refine (HLI.out _ HB3.out).mono ?_
            rintro e u ⟨rfl, bu⟩
            go_wp2
            go_ret
            exact ⟨rfl, bu⟩
          · have f3' : ((200 : Int) < p.length) = False := eq_false (by omega)
            have hfr : -1 ≤ fact ∧ fact < b.facts := ⟨by omega, by omega⟩
            have hfit : fitsE b (isB b s) fact = 0 := by rw [← HIS.out]; exact fits_good HVAL.out rfl hfr.1 hfr.2
            have HFIT := Lib.hid hfit; clear hfit
            have HFR := Lib.hid hfr; clear hfr
            have hpl : p.length ≤ 1000000 := by omega
            have HPL := Lib.hid hpl; clear hpl
            obtain ⟨m, rfl, hm⟩ := isB_nat HOK.out HIS.out.symm
            have hf64 := HOK.out.f64
            have hf0 := HOK.out.f0
            obtain ⟨F, hF⟩ : ∃ F : Nat, b.facts = F := ⟨b.facts.toNat, by omega⟩
            have HF := Lib.hid hF
            have e1 : folsL b m = (List.range F).map fun f => (fol b m).testBit f := by
              unfold folsL
              rw [if_pos ⟨HVAL.out, HIS.out.symm⟩, show b.facts.toNat = F by omega, Int.toNat_natCast]
            have e2 : folsB b m = badS b m := by unfold folsB; rw [decide_eq_true HVAL.out, ← HIS.out, Int.toNat_natCast]; rfl
            rw [hF] at c0 hf64 f2'
            have hff : fact < F := by have := HFR.out.2; omega
            have hflw := flw_rank HOK.out (m := m) HFR.out.1
            have hfl := HFL.out w3 HB3.out
            have e3 : (folsL b m).length = F := by rw [e1]; simp
            have E1 := Lib.hid e1; clear e1
            rw [e2, e3, hF] at hfl
            have hFF : ((F : Int) != F) = false := by simp
            have HFW := Lib.hid hfl; clear hfl HFL e2 hF hf0 f2
            obtain ⟨FO, hFO⟩ : ∃ FO, FO = flwB b m fact := ⟨_, rfl⟩
            have hfo : FO = if fact < 0 then badS b m else (fol b m).testBit fact.toNat := hFO
            have hsnd : ∀ q, checkE b (isB b (m : Int)) m fact q = 0 → FO = true := fun q h => by rw [hFO]; exact check_sound HOK.out HFIT.out h
            have HSND := Lib.hid hsnd; clear hsnd
            rw [← hFO] at hflw
            clear hFO
            have HFO := Lib.hid hfo; clear hfo
            have HFLW := Lib.hid hflw; clear hflw
            have E3 := Lib.hid e3; clear e3
            obtain ⟨BD, hBD⟩ : ∃ BD, BD = badS b m := ⟨_, rfl⟩
            rw [← hBD] at HFW HFO
            clear hBD
            rw [HF.out] at HPC HPW
            have f1n : -1 ≤ fact := HFR.out.1
            clear f1
            go_wp2_with (fail)
            rw [HF.out]
            refine HFW.out.mono ?_
            clear HFW c0 c1 c2
            rintro e w4 ⟨so, co, rfl, hsl, b4⟩
            have b4' : Below W1.heap.size W1 w4 := HB3.out.trans (b4.mono HB3.out.size)
            obtain ⟨c0, c1, c2⟩ := HBOX.out.cell w4 b4'
            rw [HF.out] at c0
            have HB4 := Lib.hid b4'; clear b4 b4' HB3
            have HSL := Lib.hid hsl; clear hsl
            by_cases hneg : fact < 0
            · have hFO : FO = BD := by rw [HFO.out, if_pos hneg]
              subst hFO
              have hneg' : ((0 : Int) ≤ fact) = False := eq_false (by omega)
              go_wp2_with (fail)
              refine (HPW.out w4 HB4.out).mono ?_
              clear HPW c0 c1 c2
              rintro e w5 ⟨so9, co9, out, E, rfl, hs5, hq5, b5⟩
              have b5' : Below W1.heap.size W1 w5 := HB4.out.trans (b5.mono HB4.out.size)
              have hp5 : WhyP b m fact 79 out E := by
                rcases hq5 with ⟨h, _⟩ | ⟨_, h⟩
                · exact absurd HFIT.out h
                · rw [Int.toNat_natCast] at h; exact h
              have hpr := prf_of HOK.out HFR.out hp5
              have HSO := Lib.hid hs5; clear hs5 hq5 hp5
              have HB5 := Lib.hid b5'; clear b5 b5'
              obtain ⟨c0, c1, c2⟩ := HBOX.out.cell w5 HB5.out
              rw [HF.out] at c0
              obtain ⟨C, hC⟩ : ∃ C, C = checkE b (isB b (m : Int)) m fact p := ⟨_, rfl⟩
              have hcp : ∀ U, Below W1.heap.size W1 U → Calls Try.prog 27 #[.agg #[.int .i64 F, .slice sa b.assume.length ca, .slice sr b.rules.length cr], .int .i64 m, .int .i64 fact, .slice sp p.length cp] U fun e w' => e = .returned (.int .i64 C) ∧ Below U.heap.size U w' := fun U hU => by
                have h1 := HPC.out U hU p sp cp (HP.out.below hU) HPL.out
                rw [Int.toNat_natCast] at h1
                rw [hC]; exact h1
              have hcs : C = 0 → FO = true := fun h => HSND.out p (by rw [← hC]; exact h)
              have HCP := Lib.hid hcp; clear hcp hC
              rcases hpr with ⟨r1, r2, r3⟩ | ⟨R, L, r1, r2, r3, r4⟩
              · subst r2 r3
                have hFO0 : FO = false := by rw [HFLW.out, r1]; rfl
                have hC0 : (C == 0) = false := by
                  simp only [beq_eq_false_iff_ne]
                  intro h; have := hcs h; rw [hFO0] at this; cases this
                have hC1 : (C = 0) = False := eq_false (by simpa using hC0)
                subst hFO0
                clear hcs r1
                go_wp2_with (fail)
                refine (HCP.out _ HB5.out).mono ?_
                rintro e w6 ⟨rfl, b6⟩
                have HB6 := Lib.hid (HB5.out.trans (b6.mono HB5.out.size)); clear b6 c0 c1 c2
                go_wp2
                go_loopw [14] (fun vi wq => vi = .int .i64 0 ∧ Below W1.heap.size W1 wq) (fun _ _ => 0)
                case atStart => exact ⟨rfl, HB6.out⟩
                case round =>
                  obtain ⟨rfl, hbq⟩ := hrel
                  have HBQ := Lib.hid hbq; clear hbq
                  go_wp2_with (fail)
                  refine (HLI.out _ HBQ.out).mono ?_
                  rintro e u ⟨rfl, bu⟩
                  go_wp2
                  go_ret
                  exact ⟨rfl, bu⟩
              · subst r2
                have hFO1 : FO = true := by rw [HFLW.out, r1]; rfl
                subst hFO1
                have hok := prf_ok HOK.out HFR.out r1 r3 HFIT.out
                have hmin : ∀ i, i < out.length → checkE b (isB b (m : Int)) m fact (out.take i ++ out.drop (i + 1)) = 22 := fun i hi => by
                  rw [r4] at hi ⊢
                  exact prf_min HOK.out HFR.out r1 r3 HFIT.out (by rwa [numL_len] at hi)
                have hol : out.length ≤ 1000 := by
                  rw [r4, numL_len]
                  have h1 := nodup_le 65 (L.map fun f => (f + 1).toNat) (by
                    refine List.nodup_iff_pairwise_ne.2 (List.pairwise_map.2 ?_)
                    refine List.Pairwise.imp_of_mem (fun {x y} hx hy (h : x ≠ y) => ?_) (List.nodup_iff_pairwise_ne.1 r3.nodup)
                    have q1 := rch_rg HOK.out (fun f v h => ((riE b m).a f v h).1) HFR.out ((r3.mem x).1 hx).1
                    have q2 := rch_rg HOK.out (fun f v h => ((riE b m).a f v h).1) HFR.out ((r3.mem y).1 hy).1
                    omega) (fun x hx => by
                    obtain ⟨y, hy, rfl⟩ := List.mem_map.1 hx
                    have q2 := rch_rg HOK.out (fun f v h => ((riE b m).a f v h).1) HFR.out ((r3.mem y).1 hy).1
                    have := HOK.out.f64
                    omega)
                  rw [List.length_map] at h1
                  omega
                rw [← r4] at hok
                have hcq := HPC.out w5 HB5.out out so9 co9 HSO.out (by omega)
                rw [Int.toNat_natCast, hok] at hcq
                have HCQ := Lib.hid hcq; clear hcq hok
                have HMIN := Lib.hid hmin; clear hmin
                have HOL := Lib.hid hol; clear hol r1 r3 r4 hcs
                go_wp2_with (fail)
                refine HCQ.out.mono ?_
                rintro e w6 ⟨rfl, b6⟩
                have b6' : Below W1.heap.size W1 w6 := HB5.out.trans (b6.mono HB5.out.size)
                have HB6 := Lib.hid b6'; clear b6' c0 c1 c2
                have HB65 := Lib.hid b6; clear b6
                obtain ⟨c0, c1, c2⟩ := HBOX.out.cell w6 HB6.out
                rw [HF.out] at c0
                go_wp2_with (fail)
                refine (HCP.out _ HB6.out).mono ?_
                rintro e w7 ⟨rfl, b7⟩
                have HB75 := Lib.hid (HB65.out.trans (b7.mono HB65.out.size))
                have HB7 := Lib.hid (HB6.out.trans (b7.mono HB6.out.size)); clear b7
                by_cases hC0 : C = 0
                · subst hC0
                  obtain ⟨n, hn⟩ : ∃ n, n = out.length := ⟨_, rfl⟩
                  rw [← hn]
                  have hn65 : n ≤ 1000 := by rw [hn]; exact HOL.out
                  have HN := Lib.hid hn; clear hn
                  go_wp2
                  clear c0 c1 c2
                  go_loopw [14] (fun vi wq => ∃ i : Nat, i ≤ n ∧ vi = .int .i64 i ∧ Below W1.heap.size W1 wq ∧ Below w5.heap.size w5 wq) (fun vi _ => n - (vInt vi).toNat)
                  case atStart => exact ⟨0, Nat.zero_le _, rfl, HB7.out, HB75.out⟩
                  case round =>
                    clear HB7 HB75
                    obtain ⟨i, hi, rfl, hbq, hb5⟩ := hrel
                    by_cases h1 : i < n
                    · have h1' : (i : Int) < n := by omega
                      have hnl : i < out.length := by have := HN.out; omega
                      have hmn := HMIN.out i hnl
                      have hal := HSO.out.below hb5
                      rw [← HN.out] at hal
                      obtain ⟨g, o, rfl, hnc, hcm, hCa, hgl⟩ := sl_at hal (by omega)
                      have eX : Below wr.heap.size wr wr.drew := (Below.refl _ _).drew
                      have HMN := Lib.hid hmn; clear hmn hal
                      have HBQ := Lib.hid hbq; clear hbq
                      have HB5 := Lib.hid hb5; clear hb5
                      have HCA := Lib.hid hCa; clear hCa
                      go_wp2
                      haveI : Nonempty (SqC.Come fun U : World => Below wr.heap.size wr U) := ⟨⟨_, eX⟩⟩
                      refine SqC.wp_region_sqc 11 [0, 4, 9] (fun U : World => Below wr.heap.size wr U) (by kernel_rfl) (by kernel_rfl) (by kernel_rfl) eX ?_
                      obtain ⟨wd, hwd⟩ : ∃ wd : World, wd = wr.drew := ⟨_, rfl⟩
                      rw [← hwd] at eX ⊢
                      clear hwd
                      obtain ⟨we, hwe⟩ : ∃ we, we = wd.alloc (.cells #[] 3) := ⟨_, rfl⟩
                      have ho0 : we.ownsRow wr.heap.size 3 1 (.slice (some ⟨wd.heap.size, 0, none⟩) 0 0) 0 [] := by rw [hwe]; exact own_new wd #[] 3 0 wr.heap.size rfl (by decide) eX.size
                      have ee : Below wr.heap.size wr we := by rw [hwe]; exact eX.alloc eX.size _
                      have HWE := Lib.hid hwe; clear hwe
                      have hsub : ∀ U, Below wr.heap.size wr U → Cells U g o (out.map (.int .i64)) ∧ g < U.heap.size := fun U hU => ⟨HCA.out.below hU hgl, Nat.lt_of_lt_of_le hgl hU.size⟩
                      have HSUB := Lib.hid hsub; clear hsub
                      have hic : (i : Int) ≤ co9 := by omega
                      have hi1 : ((i : Int) + 1) ≤ n := by omega
                      have h01 : (0 : Int) ≤ (i : Int) + 1 := by omega
                      refine SqC.effectW rfl rfl ?_
                      go_wp2
                      rw [← HWE.out]
                      refine SqC.here rfl (fun _ => ee) ?_
                      iterate 2 (refine SqC.quiet rfl rfl ?_; go_big_quiet_step (fail); refine wpQuiet_nil ?_)
                      refine SqC.value (.slice (some ⟨g, o, none⟩) i co9) rfl rfl (by intro U hU; go_simp) ?_
                      simp only [Act.put, List.setIfInBounds_toArray, List.set_cons_zero, List.set_cons_succ]
                      have slP : Sl we 1 (.slice (some ⟨g, o, none⟩) i co9) i ((out.take i).map (.int .i64)) :=
                        ⟨by simp; omega, .inr ⟨g, o, co9, rfl, by omega, hcm, fun k v hk => (HSUB.out we ee).1 k v (by
                          have hik : k < i := by
                            have := (List.getElem?_eq_some_iff.1 hk).1
                            simp at this
                            omega
                          rwa [List.map_take, List.getElem?_take_of_lt hik] at hk), (HSUB.out we ee).2⟩⟩
                      refine SqC.effectW rfl rfl ?_
                      refine wpList_append_sl rfl _ _ 22 rfl wr.heap.size 3 (.int .i64 0) 1 8 hTint infoInt rfl (by decide) _ 0 _ rfl ho0 _ i ((out.take i).map (.int .i64)) rfl slP (by intro u hu; obtain ⟨_, _, rfl⟩ := List.mem_map.1 hu; rfl) (by unfold maxLen; omega) (by omega) ee.size ?_
                      intro v' wf g1 g2
                      rw [Nat.zero_add, List.nil_append] at g1
                      have ef : Below wr.heap.size wr wf := grown_below ee ho0 g2 ee.size
                      obtain ⟨s1, c1, rfl, _⟩ := own_slice g1
                      refine SqC.here rfl (fun _ => ef) ?_
                      simp only [Act.put, List.setIfInBounds_toArray, List.set_cons_zero, List.set_cons_succ]
                      iterate 3 (refine SqC.quiet rfl rfl ?_; go_big_quiet_step (fail); refine wpQuiet_nil ?_)
                      obtain ⟨O2, hO2, hO3⟩ : ∃ O2, (if co9 = i + 1 then (some ⟨g, o, none⟩ : Option Addr) else some ⟨g, o + (i + 1), none⟩) = some ⟨g, O2, none⟩ ∧ (0 < n - (i + 1) → O2 = o + (i + 1)) := by
                        by_cases h : co9 = i + 1
                        · exact ⟨o, by rw [if_pos h], fun h2 => by omega⟩
                        · exact ⟨o + (i + 1), by rw [if_neg h], fun _ => rfl⟩
                      refine SqC.value (.slice (some ⟨g, O2, none⟩) (n - (i + 1)) (co9 - (i + 1))) rfl rfl (by intro U hU; go_simp) ?_
                      simp only [Act.put, List.setIfInBounds_toArray, List.set_cons_zero, List.set_cons_succ]
                      have slS : Sl wf 1 (.slice (some ⟨g, O2, none⟩) (n - (i + 1)) (co9 - (i + 1))) (n - (i + 1)) ((out.drop (i + 1)).map (.int .i64)) :=
                        ⟨by simp; have := HN.out; omega, .inr ⟨g, O2, co9 - (i + 1), rfl, by omega, by omega, fun k v hk => by
                          have hik : k < n - (i + 1) := by
                            have := (List.getElem?_eq_some_iff.1 hk).1
                            simp at this
                            have := HN.out
                            omega
                          rw [List.map_drop, List.getElem?_drop] at hk
                          have h5 := (HSUB.out wf ef).1 _ v hk
                          rw [hO3 (by omega), Nat.add_assoc]
                          exact h5, (HSUB.out wf ef).2⟩⟩
                      refine SqC.effectW rfl rfl ?_
                      refine wpList_append_sl rfl _ _ 22 rfl wr.heap.size 3 (.int .i64 0) 1 8 hTint infoInt rfl (by decide) _ i _ rfl g1 _ (n - (i + 1)) ((out.drop (i + 1)).map (.int .i64)) rfl slS (by intro u hu; obtain ⟨_, _, rfl⟩ := List.mem_map.1 hu; rfl) (by unfold maxLen; omega) (by omega) ef.size ?_
                      intro v2 wg g3 g4
                      have eg : Below wr.heap.size wr wg := grown_below ef g1 g4 ef.size
                      obtain ⟨ls, hls⟩ : ∃ ls, ls = out.take i ++ out.drop (i + 1) := ⟨_, rfl⟩
                      have hlen : i + (n - (i + 1)) = ls.length := by have := HN.out; rw [hls]; simp; omega
                      rw [← List.map_append, ← hls] at g3
                      rw [hlen] at g3
                      have hmn2 := HMN.out
                      rw [← hls] at hmn2
                      obtain ⟨s2, c2, rfl, _⟩ := own_slice g3
                      refine SqC.here rfl (fun _ => eg) ?_
                      simp only [Act.put, List.setIfInBounds_toArray, List.set_cons_zero, List.set_cons_succ]
                      iterate 1 (refine SqC.quiet rfl rfl ?_; go_big_quiet_step (fail); refine wpQuiet_nil ?_)
                      refine SqC.nil ?_
                      have hbg : Below W1.heap.size W1 wg := HBQ.out.trans (eg.mono HBQ.out.size)
                      have hck := HPC.out wg hbg ls s2 c2 (Sl.of_owns g3) (by rw [← hlen]; omega)
                      rw [Int.toNat_natCast, hmn2] at hck
                      have HCK := Lib.hid hck; clear hck
                      have hb5g : Below w5.heap.size w5 wg := HB5.out.trans (eg.mono HB5.out.size)
                      obtain ⟨c0, c1', c2'⟩ := HBOX.out.cell wg hbg
                      rw [HF.out] at c0
                      have HBG := Lib.hid hbg; clear hbg
                      have HB5G := Lib.hid hb5g; clear hb5g
                      clear g1 g2 g3 g4 slP slS ee ef eg eX ho0 hO2 hO3 hlen hmn2 hls
                      go_wp2_with (fail)
                      refine HCK.out.mono ?_
                      rintro e wh ⟨rfl, bh⟩
                      have HBH := Lib.hid (HBG.out.trans (bh.mono HBG.out.size))
                      have HB5H := Lib.hid (HB5G.out.trans (bh.mono HB5G.out.size)); clear bh
                      go_wp2
                      go_roundw
                      case rel => exact ⟨i + 1, by omega, by go_num, HBH.out, HB5H.out⟩
                      case measure => simp [vInt]; omega
                    · have h1' : ((i : Int) < n) = False := eq_false (by omega)
                      have HBQ := Lib.hid hbq; clear hbq hb5
                      go_wp2_with (fail)
                      refine (HLI.out _ HBQ.out).mono ?_
                      rintro e u ⟨rfl, bu⟩
                      go_wp2
                      go_ret
                      exact ⟨rfl, bu⟩
                · have hC1 : (C == 0) = false := by simpa using hC0
                  have hC2 : (C = 0) = False := eq_false hC0
                  clear hC0
                  obtain ⟨n, hn⟩ : ∃ n, n = out.length := ⟨_, rfl⟩
                  rw [← hn]
                  have hn65 : n ≤ 1000 := by rw [hn]; exact HOL.out
                  have HN := Lib.hid hn; clear hn
                  go_wp2
                  clear c0 c1 c2
                  go_loopw [14] (fun vi wq => ∃ i : Nat, i ≤ n ∧ vi = .int .i64 i ∧ Below W1.heap.size W1 wq ∧ Below w5.heap.size w5 wq) (fun vi _ => n - (vInt vi).toNat)
                  case atStart => exact ⟨0, Nat.zero_le _, rfl, HB7.out, HB75.out⟩
                  case round =>
                    clear HB7 HB75
                    obtain ⟨i, hi, rfl, hbq, hb5⟩ := hrel
                    by_cases h1 : i < n
                    · have h1' : (i : Int) < n := by omega
                      have hnl : i < out.length := by have := HN.out; omega
                      have hmn := HMIN.out i hnl
                      have hal := HSO.out.below hb5
                      rw [← HN.out] at hal
                      obtain ⟨g, o, rfl, hnc, hcm, hCa, hgl⟩ := sl_at hal (by omega)
                      have eX : Below wr.heap.size wr wr.drew := (Below.refl _ _).drew
                      have HMN := Lib.hid hmn; clear hmn hal
                      have HBQ := Lib.hid hbq; clear hbq
                      have HB5 := Lib.hid hb5; clear hb5
                      have HCA := Lib.hid hCa; clear hCa
                      go_wp2
                      haveI : Nonempty (SqC.Come fun U : World => Below wr.heap.size wr U) := ⟨⟨_, eX⟩⟩
                      refine SqC.wp_region_sqc 11 [0, 4, 9] (fun U : World => Below wr.heap.size wr U) (by kernel_rfl) (by kernel_rfl) (by kernel_rfl) eX ?_
                      obtain ⟨wd, hwd⟩ : ∃ wd : World, wd = wr.drew := ⟨_, rfl⟩
                      rw [← hwd] at eX ⊢
                      clear hwd
                      obtain ⟨we, hwe⟩ : ∃ we, we = wd.alloc (.cells #[] 3) := ⟨_, rfl⟩
                      have ho0 : we.ownsRow wr.heap.size 3 1 (.slice (some ⟨wd.heap.size, 0, none⟩) 0 0) 0 [] := by rw [hwe]; exact own_new wd #[] 3 0 wr.heap.size rfl (by decide) eX.size
                      have ee : Below wr.heap.size wr we := by rw [hwe]; exact eX.alloc eX.size _
                      have HWE := Lib.hid hwe; clear hwe
                      have hsub : ∀ U, Below wr.heap.size wr U → Cells U g o (out.map (.int .i64)) ∧ g < U.heap.size := fun U hU => ⟨HCA.out.below hU hgl, Nat.lt_of_lt_of_le hgl hU.size⟩
                      have HSUB := Lib.hid hsub; clear hsub
                      have hic : (i : Int) ≤ co9 := by omega
                      have hi1 : ((i : Int) + 1) ≤ n := by omega
                      have h01 : (0 : Int) ≤ (i : Int) + 1 := by omega
                      refine SqC.effectW rfl rfl ?_
                      go_wp2
                      rw [← HWE.out]
                      refine SqC.here rfl (fun _ => ee) ?_
                      iterate 2 (refine SqC.quiet rfl rfl ?_; go_big_quiet_step (fail); refine wpQuiet_nil ?_)
                      refine SqC.value (.slice (some ⟨g, o, none⟩) i co9) rfl rfl (by intro U hU; go_simp) ?_
                      simp only [Act.put, List.setIfInBounds_toArray, List.set_cons_zero, List.set_cons_succ]
                      have slP : Sl we 1 (.slice (some ⟨g, o, none⟩) i co9) i ((out.take i).map (.int .i64)) :=
                        ⟨by simp; omega, .inr ⟨g, o, co9, rfl, by omega, hcm, fun k v hk => (HSUB.out we ee).1 k v (by
                          have hik : k < i := by
                            have := (List.getElem?_eq_some_iff.1 hk).1
                            simp at this
                            omega
                          rwa [List.map_take, List.getElem?_take_of_lt hik] at hk), (HSUB.out we ee).2⟩⟩
                      refine SqC.effectW rfl rfl ?_
                      refine wpList_append_sl rfl _ _ 22 rfl wr.heap.size 3 (.int .i64 0) 1 8 hTint infoInt rfl (by decide) _ 0 _ rfl ho0 _ i ((out.take i).map (.int .i64)) rfl slP (by intro u hu; obtain ⟨_, _, rfl⟩ := List.mem_map.1 hu; rfl) (by unfold maxLen; omega) (by omega) ee.size ?_
                      intro v' wf g1 g2
                      rw [Nat.zero_add, List.nil_append] at g1
                      have ef : Below wr.heap.size wr wf := grown_below ee ho0 g2 ee.size
                      obtain ⟨s1, c1, rfl, _⟩ := own_slice g1
                      refine SqC.here rfl (fun _ => ef) ?_
                      simp only [Act.put, List.setIfInBounds_toArray, List.set_cons_zero, List.set_cons_succ]
                      iterate 3 (refine SqC.quiet rfl rfl ?_; go_big_quiet_step (fail); refine wpQuiet_nil ?_)
                      obtain ⟨O2, hO2, hO3⟩ : ∃ O2, (if co9 = i + 1 then (some ⟨g, o, none⟩ : Option Addr) else some ⟨g, o + (i + 1), none⟩) = some ⟨g, O2, none⟩ ∧ (0 < n - (i + 1) → O2 = o + (i + 1)) := by
                        by_cases h : co9 = i + 1
                        · exact ⟨o, by rw [if_pos h], fun h2 => by omega⟩
                        · exact ⟨o + (i + 1), by rw [if_neg h], fun _ => rfl⟩
                      refine SqC.value (.slice (some ⟨g, O2, none⟩) (n - (i + 1)) (co9 - (i + 1))) rfl rfl (by intro U hU; go_simp) ?_
                      simp only [Act.put, List.setIfInBounds_toArray, List.set_cons_zero, List.set_cons_succ]
                      have slS : Sl wf 1 (.slice (some ⟨g, O2, none⟩) (n - (i + 1)) (co9 - (i + 1))) (n - (i + 1)) ((out.drop (i + 1)).map (.int .i64)) :=
                        ⟨by simp; have := HN.out; omega, .inr ⟨g, O2, co9 - (i + 1), rfl, by omega, by omega, fun k v hk => by
                          have hik : k < n - (i + 1) := by
                            have := (List.getElem?_eq_some_iff.1 hk).1
                            simp at this
                            have := HN.out
                            omega
                          rw [List.map_drop, List.getElem?_drop] at hk
                          have h5 := (HSUB.out wf ef).1 _ v hk
                          rw [hO3 (by omega), Nat.add_assoc]
                          exact h5, (HSUB.out wf ef).2⟩⟩
                      refine SqC.effectW rfl rfl ?_
                      refine wpList_append_sl rfl _ _ 22 rfl wr.heap.size 3 (.int .i64 0) 1 8 hTint infoInt rfl (by decide) _ i _ rfl g1 _ (n - (i + 1)) ((out.drop (i + 1)).map (.int .i64)) rfl slS (by intro u hu; obtain ⟨_, _, rfl⟩ := List.mem_map.1 hu; rfl) (by unfold maxLen; omega) (by omega) ef.size ?_
                      intro v2 wg g3 g4
                      have eg : Below wr.heap.size wr wg := grown_below ef g1 g4 ef.size
                      obtain ⟨ls, hls⟩ : ∃ ls, ls = out.take i ++ out.drop (i + 1) := ⟨_, rfl⟩
                      have hlen : i + (n - (i + 1)) = ls.length := by have := HN.out; rw [hls]; simp; omega
                      rw [← List.map_append, ← hls] at g3
                      rw [hlen] at g3
                      have hmn2 := HMN.out
                      rw [← hls] at hmn2
                      obtain ⟨s2, c2, rfl, _⟩ := own_slice g3
                      refine SqC.here rfl (fun _ => eg) ?_
                      simp only [Act.put, List.setIfInBounds_toArray, List.set_cons_zero, List.set_cons_succ]
                      iterate 1 (refine SqC.quiet rfl rfl ?_; go_big_quiet_step (fail); refine wpQuiet_nil ?_)
                      refine SqC.nil ?_
                      have hbg : Below W1.heap.size W1 wg := HBQ.out.trans (eg.mono HBQ.out.size)
                      have hck := HPC.out wg hbg ls s2 c2 (Sl.of_owns g3) (by rw [← hlen]; omega)
                      rw [Int.toNat_natCast, hmn2] at hck
                      have HCK := Lib.hid hck; clear hck
                      have hb5g : Below w5.heap.size w5 wg := HB5.out.trans (eg.mono HB5.out.size)
                      obtain ⟨c0, c1', c2'⟩ := HBOX.out.cell wg hbg
                      rw [HF.out] at c0
                      have HBG := Lib.hid hbg; clear hbg
                      have HB5G := Lib.hid hb5g; clear hb5g
                      clear g1 g2 g3 g4 slP slS ee ef eg eX ho0 hO2 hO3 hlen hmn2 hls
                      go_wp2_with (fail)
                      refine HCK.out.mono ?_
                      rintro e wh ⟨rfl, bh⟩
                      have HBH := Lib.hid (HBG.out.trans (bh.mono HBG.out.size))
                      have HB5H := Lib.hid (HB5G.out.trans (bh.mono HB5G.out.size)); clear bh
                      go_wp2
                      go_roundw
                      case rel => exact ⟨i + 1, by omega, by go_num, HBH.out, HB5H.out⟩
                      case measure => simp [vInt]; omega
                    · have h1' : ((i : Int) < n) = False := eq_false (by omega)
                      have HBQ := Lib.hid hbq; clear hbq hb5
                      go_wp2_with (fail)
                      refine (HLI.out _ HBQ.out).mono ?_
                      rintro e u ⟨rfl, bu⟩
                      go_wp2
                      go_ret
                      exact ⟨rfl, bu⟩
            · obtain ⟨f, rfl⟩ : ∃ f : Nat, fact = f := ⟨fact.toNat, by omega⟩
              have hfF : f < F := by omega
              obtain ⟨gk, ok, rfl, _, _, hCk, _⟩ := sl_at HSL.out (by omega)
              have ck : w4.cell? ⟨gk, ok + f, none⟩ = some (.bool FO) := hCk f _ (by
                rw [E1.out, HFO.out, if_neg hneg]
                simp [hfF])
              clear hCk hneg
              go_wp2_with (fail)
              refine (HPW.out w4 HB4.out).mono ?_
              clear HPW c0 c1 c2 ck
              rintro e w5 ⟨so9, co9, out, E, rfl, hs5, hq5, b5⟩
              have b5' : Below W1.heap.size W1 w5 := HB4.out.trans (b5.mono HB4.out.size)
              have hp5 : WhyP b m (f : Int) 79 out E := by
                rcases hq5 with ⟨h, _⟩ | ⟨_, h⟩
                · exact absurd HFIT.out h
                · rw [Int.toNat_natCast] at h; exact h
              have hpr := prf_of HOK.out HFR.out hp5
              have HSO := Lib.hid hs5; clear hs5 hq5 hp5
              have HB5 := Lib.hid b5'; clear b5 b5'
              obtain ⟨c0, c1, c2⟩ := HBOX.out.cell w5 HB5.out
              rw [HF.out] at c0
              obtain ⟨C, hC⟩ : ∃ C, C = checkE b (isB b (m : Int)) m (f : Int) p := ⟨_, rfl⟩
              have hcp : ∀ U, Below W1.heap.size W1 U → Calls Try.prog 27 #[.agg #[.int .i64 F, .slice sa b.assume.length ca, .slice sr b.rules.length cr], .int .i64 m, .int .i64 (f : Int), .slice sp p.length cp] U fun e w' => e = .returned (.int .i64 C) ∧ Below U.heap.size U w' := fun U hU => by
                have h1 := HPC.out U hU p sp cp (HP.out.below hU) HPL.out
                rw [Int.toNat_natCast] at h1
                rw [hC]; exact h1
              have hcs : C = 0 → FO = true := fun h => HSND.out p (by rw [← hC]; exact h)
              have HCP := Lib.hid hcp; clear hcp hC
              rcases hpr with ⟨r1, r2, r3⟩ | ⟨R, L, r1, r2, r3, r4⟩
              · subst r2 r3
                have hFO0 : FO = false := by rw [HFLW.out, r1]; rfl
                have hC0 : (C == 0) = false := by
                  simp only [beq_eq_false_iff_ne]
                  intro h; have := hcs h; rw [hFO0] at this; cases this
                have hC1 : (C = 0) = False := eq_false (by simpa using hC0)
                subst hFO0
                clear hcs r1
                go_wp2_with (fail)
                refine (HCP.out _ HB5.out).mono ?_
                rintro e w6 ⟨rfl, b6⟩
                have HB6 := Lib.hid (HB5.out.trans (b6.mono HB5.out.size)); clear b6 c0 c1 c2
                go_wp2
                go_loopw [14] (fun vi wq => vi = .int .i64 0 ∧ Below W1.heap.size W1 wq) (fun _ _ => 0)
                case atStart => exact ⟨rfl, HB6.out⟩
                case round =>
                  obtain ⟨rfl, hbq⟩ := hrel
                  have HBQ := Lib.hid hbq; clear hbq
                  go_wp2_with (fail)
                  refine (HLI.out _ HBQ.out).mono ?_
                  rintro e u ⟨rfl, bu⟩
                  go_wp2
                  go_ret
                  exact ⟨rfl, bu⟩
              · subst r2
                have hFO1 : FO = true := by rw [HFLW.out, r1]; rfl
                subst hFO1
                have hok := prf_ok HOK.out HFR.out r1 r3 HFIT.out
                have hmin : ∀ i, i < out.length → checkE b (isB b (m : Int)) m (f : Int) (out.take i ++ out.drop (i + 1)) = 22 := fun i hi => by
                  rw [r4] at hi ⊢
                  exact prf_min HOK.out HFR.out r1 r3 HFIT.out (by rwa [numL_len] at hi)
                have hol : out.length ≤ 1000 := by
                  rw [r4, numL_len]
                  have h1 := nodup_le 65 (L.map fun f => (f + 1).toNat) (by
                    refine List.nodup_iff_pairwise_ne.2 (List.pairwise_map.2 ?_)
                    refine List.Pairwise.imp_of_mem (fun {x y} hx hy (h : x ≠ y) => ?_) (List.nodup_iff_pairwise_ne.1 r3.nodup)
                    have q1 := rch_rg HOK.out (fun f v h => ((riE b m).a f v h).1) HFR.out ((r3.mem x).1 hx).1
                    have q2 := rch_rg HOK.out (fun f v h => ((riE b m).a f v h).1) HFR.out ((r3.mem y).1 hy).1
                    omega) (fun x hx => by
                    obtain ⟨y, hy, rfl⟩ := List.mem_map.1 hx
                    have q2 := rch_rg HOK.out (fun f v h => ((riE b m).a f v h).1) HFR.out ((r3.mem y).1 hy).1
                    have := HOK.out.f64
                    omega)
                  rw [List.length_map] at h1
                  omega
                rw [← r4] at hok
                have hcq := HPC.out w5 HB5.out out so9 co9 HSO.out (by omega)
                rw [Int.toNat_natCast, hok] at hcq
                have HCQ := Lib.hid hcq; clear hcq hok
                have HMIN := Lib.hid hmin; clear hmin
                have HOL := Lib.hid hol; clear hol r1 r3 r4 hcs
                go_wp2_with (fail)
                refine HCQ.out.mono ?_
                rintro e w6 ⟨rfl, b6⟩
                have b6' : Below W1.heap.size W1 w6 := HB5.out.trans (b6.mono HB5.out.size)
                have HB6 := Lib.hid b6'; clear b6' c0 c1 c2
                have HB65 := Lib.hid b6; clear b6
                obtain ⟨c0, c1, c2⟩ := HBOX.out.cell w6 HB6.out
                rw [HF.out] at c0
                go_wp2_with (fail)
                refine (HCP.out _ HB6.out).mono ?_
                rintro e w7 ⟨rfl, b7⟩
                have HB75 := Lib.hid (HB65.out.trans (b7.mono HB65.out.size))
                have HB7 := Lib.hid (HB6.out.trans (b7.mono HB6.out.size)); clear b7
                by_cases hC0 : C = 0
                · subst hC0
                  obtain ⟨n, hn⟩ : ∃ n, n = out.length := ⟨_, rfl⟩
                  rw [← hn]
                  have hn65 : n ≤ 1000 := by rw [hn]; exact HOL.out
                  have HN := Lib.hid hn; clear hn
                  go_wp2
                  clear c0 c1 c2
                  go_loopw [14] (fun vi wq => ∃ i : Nat, i ≤ n ∧ vi = .int .i64 i ∧ Below W1.heap.size W1 wq ∧ Below w5.heap.size w5 wq) (fun vi _ => n - (vInt vi).toNat)
                  case atStart => exact ⟨0, Nat.zero_le _, rfl, HB7.out, HB75.out⟩
                  case round =>
                    clear HB7 HB75
                    obtain ⟨i, hi, rfl, hbq, hb5⟩ := hrel
                    by_cases h1 : i < n
                    · have h1' : (i : Int) < n := by omega
                      have hnl : i < out.length := by have := HN.out; omega
                      have hmn := HMIN.out i hnl
                      have hal := HSO.out.below hb5
                      rw [← HN.out] at hal
                      obtain ⟨g, o, rfl, hnc, hcm, hCa, hgl⟩ := sl_at hal (by omega)
                      have eX : Below wr.heap.size wr wr.drew := (Below.refl _ _).drew
                      have HMN := Lib.hid hmn; clear hmn hal
                      have HBQ := Lib.hid hbq; clear hbq
                      have HB5 := Lib.hid hb5; clear hb5
                      have HCA := Lib.hid hCa; clear hCa
                      go_wp2
                      haveI : Nonempty (SqC.Come fun U : World => Below wr.heap.size wr U) := ⟨⟨_, eX⟩⟩
                      refine SqC.wp_region_sqc 11 [0, 4, 9] (fun U : World => Below wr.heap.size wr U) (by kernel_rfl) (by kernel_rfl) (by kernel_rfl) eX ?_
                      obtain ⟨wd, hwd⟩ : ∃ wd : World, wd = wr.drew := ⟨_, rfl⟩
                      rw [← hwd] at eX ⊢
                      clear hwd
                      obtain ⟨we, hwe⟩ : ∃ we, we = wd.alloc (.cells #[] 3) := ⟨_, rfl⟩
                      have ho0 : we.ownsRow wr.heap.size 3 1 (.slice (some ⟨wd.heap.size, 0, none⟩) 0 0) 0 [] := by rw [hwe]; exact own_new wd #[] 3 0 wr.heap.size rfl (by decide) eX.size
                      have ee : Below wr.heap.size wr we := by rw [hwe]; exact eX.alloc eX.size _
                      have HWE := Lib.hid hwe; clear hwe
                      have hsub : ∀ U, Below wr.heap.size wr U → Cells U g o (out.map (.int .i64)) ∧ g < U.heap.size := fun U hU => ⟨HCA.out.below hU hgl, Nat.lt_of_lt_of_le hgl hU.size⟩
                      have HSUB := Lib.hid hsub; clear hsub
                      have hic : (i : Int) ≤ co9 := by omega
                      have hi1 : ((i : Int) + 1) ≤ n := by omega
                      have h01 : (0 : Int) ≤ (i : Int) + 1 := by omega
                      refine SqC.effectW rfl rfl ?_
                      go_wp2
                      rw [← HWE.out]
                      refine SqC.here rfl (fun _ => ee) ?_
                      iterate 2 (refine SqC.quiet rfl rfl ?_; go_big_quiet_step (fail); refine wpQuiet_nil ?_)
                      refine SqC.value (.slice (some ⟨g, o, none⟩) i co9) rfl rfl (by intro U hU; go_simp) ?_
                      simp only [Act.put, List.setIfInBounds_toArray, List.set_cons_zero, List.set_cons_succ]
                      have slP : Sl we 1 (.slice (some ⟨g, o, none⟩) i co9) i ((out.take i).map (.int .i64)) :=
                        ⟨by simp; omega, .inr ⟨g, o, co9, rfl, by omega, hcm, fun k v hk => (HSUB.out we ee).1 k v (by
                          have hik : k < i := by
                            have := (List.getElem?_eq_some_iff.1 hk).1
                            simp at this
                            omega
                          rwa [List.map_take, List.getElem?_take_of_lt hik] at hk), (HSUB.out we ee).2⟩⟩
                      refine SqC.effectW rfl rfl ?_
                      refine wpList_append_sl rfl _ _ 22 rfl wr.heap.size 3 (.int .i64 0) 1 8 hTint infoInt rfl (by decide) _ 0 _ rfl ho0 _ i ((out.take i).map (.int .i64)) rfl slP (by intro u hu; obtain ⟨_, _, rfl⟩ := List.mem_map.1 hu; rfl) (by unfold maxLen; omega) (by omega) ee.size ?_
                      intro v' wf g1 g2
                      rw [Nat.zero_add, List.nil_append] at g1
                      have ef : Below wr.heap.size wr wf := grown_below ee ho0 g2 ee.size
                      obtain ⟨s1, c1, rfl, _⟩ := own_slice g1
                      refine SqC.here rfl (fun _ => ef) ?_
                      simp only [Act.put, List.setIfInBounds_toArray, List.set_cons_zero, List.set_cons_succ]
                      iterate 3 (refine SqC.quiet rfl rfl ?_; go_big_quiet_step (fail); refine wpQuiet_nil ?_)
                      obtain ⟨O2, hO2, hO3⟩ : ∃ O2, (if co9 = i + 1 then (some ⟨g, o, none⟩ : Option Addr) else some ⟨g, o + (i + 1), none⟩) = some ⟨g, O2, none⟩ ∧ (0 < n - (i + 1) → O2 = o + (i + 1)) := by
                        by_cases h : co9 = i + 1
                        · exact ⟨o, by rw [if_pos h], fun h2 => by omega⟩
                        · exact ⟨o + (i + 1), by rw [if_neg h], fun _ => rfl⟩
                      refine SqC.value (.slice (some ⟨g, O2, none⟩) (n - (i + 1)) (co9 - (i + 1))) rfl rfl (by intro U hU; go_simp) ?_
                      simp only [Act.put, List.setIfInBounds_toArray, List.set_cons_zero, List.set_cons_succ]
                      have slS : Sl wf 1 (.slice (some ⟨g, O2, none⟩) (n - (i + 1)) (co9 - (i + 1))) (n - (i + 1)) ((out.drop (i + 1)).map (.int .i64)) :=
                        ⟨by simp; have := HN.out; omega, .inr ⟨g, O2, co9 - (i + 1), rfl, by omega, by omega, fun k v hk => by
                          have hik : k < n - (i + 1) := by
                            have := (List.getElem?_eq_some_iff.1 hk).1
                            simp at this
                            have := HN.out
                            omega
                          rw [List.map_drop, List.getElem?_drop] at hk
                          have h5 := (HSUB.out wf ef).1 _ v hk
                          rw [hO3 (by omega), Nat.add_assoc]
                          exact h5, (HSUB.out wf ef).2⟩⟩
                      refine SqC.effectW rfl rfl ?_
                      refine wpList_append_sl rfl _ _ 22 rfl wr.heap.size 3 (.int .i64 0) 1 8 hTint infoInt rfl (by decide) _ i _ rfl g1 _ (n - (i + 1)) ((out.drop (i + 1)).map (.int .i64)) rfl slS (by intro u hu; obtain ⟨_, _, rfl⟩ := List.mem_map.1 hu; rfl) (by unfold maxLen; omega) (by omega) ef.size ?_
                      intro v2 wg g3 g4
                      have eg : Below wr.heap.size wr wg := grown_below ef g1 g4 ef.size
                      obtain ⟨ls, hls⟩ : ∃ ls, ls = out.take i ++ out.drop (i + 1) := ⟨_, rfl⟩
                      have hlen : i + (n - (i + 1)) = ls.length := by have := HN.out; rw [hls]; simp; omega
                      rw [← List.map_append, ← hls] at g3
                      rw [hlen] at g3
                      have hmn2 := HMN.out
                      rw [← hls] at hmn2
                      obtain ⟨s2, c2, rfl, _⟩ := own_slice g3
                      refine SqC.here rfl (fun _ => eg) ?_
                      simp only [Act.put, List.setIfInBounds_toArray, List.set_cons_zero, List.set_cons_succ]
                      iterate 1 (refine SqC.quiet rfl rfl ?_; go_big_quiet_step (fail); refine wpQuiet_nil ?_)
                      refine SqC.nil ?_
                      have hbg : Below W1.heap.size W1 wg := HBQ.out.trans (eg.mono HBQ.out.size)
                      have hck := HPC.out wg hbg ls s2 c2 (Sl.of_owns g3) (by rw [← hlen]; omega)
                      rw [Int.toNat_natCast, hmn2] at hck
                      have HCK := Lib.hid hck; clear hck
                      have hb5g : Below w5.heap.size w5 wg := HB5.out.trans (eg.mono HB5.out.size)
                      obtain ⟨c0, c1', c2'⟩ := HBOX.out.cell wg hbg
                      rw [HF.out] at c0
                      have HBG := Lib.hid hbg; clear hbg
                      have HB5G := Lib.hid hb5g; clear hb5g
                      clear g1 g2 g3 g4 slP slS ee ef eg eX ho0 hO2 hO3 hlen hmn2 hls
                      go_wp2_with (fail)
                      refine HCK.out.mono ?_
                      rintro e wh ⟨rfl, bh⟩
                      have HBH := Lib.hid (HBG.out.trans (bh.mono HBG.out.size))
                      have HB5H := Lib.hid (HB5G.out.trans (bh.mono HB5G.out.size)); clear bh
                      go_wp2
                      go_roundw
                      case rel => exact ⟨i + 1, by omega, by go_num, HBH.out, HB5H.out⟩
                      case measure => simp [vInt]; omega
                    · have h1' : ((i : Int) < n) = False := eq_false (by omega)
                      have HBQ := Lib.hid hbq; clear hbq hb5
                      go_wp2_with (fail)
                      refine (HLI.out _ HBQ.out).mono ?_
                      rintro e u ⟨rfl, bu⟩
                      go_wp2
                      go_ret
                      exact ⟨rfl, bu⟩
                · have hC1 : (C == 0) = false := by simpa using hC0
                  have hC2 : (C = 0) = False := eq_false hC0
                  clear hC0
                  obtain ⟨n, hn⟩ : ∃ n, n = out.length := ⟨_, rfl⟩
                  rw [← hn]
                  have hn65 : n ≤ 1000 := by rw [hn]; exact HOL.out
                  have HN := Lib.hid hn; clear hn
                  go_wp2
                  clear c0 c1 c2
                  go_loopw [14] (fun vi wq => ∃ i : Nat, i ≤ n ∧ vi = .int .i64 i ∧ Below W1.heap.size W1 wq ∧ Below w5.heap.size w5 wq) (fun vi _ => n - (vInt vi).toNat)
                  case atStart => exact ⟨0, Nat.zero_le _, rfl, HB7.out, HB75.out⟩
                  case round =>
                    clear HB7 HB75
                    obtain ⟨i, hi, rfl, hbq, hb5⟩ := hrel
                    by_cases h1 : i < n
                    · have h1' : (i : Int) < n := by omega
                      have hnl : i < out.length := by have := HN.out; omega
                      have hmn := HMIN.out i hnl
                      have hal := HSO.out.below hb5
                      rw [← HN.out] at hal
                      obtain ⟨g, o, rfl, hnc, hcm, hCa, hgl⟩ := sl_at hal (by omega)
                      have eX : Below wr.heap.size wr wr.drew := (Below.refl _ _).drew
                      have HMN := Lib.hid hmn; clear hmn hal
                      have HBQ := Lib.hid hbq; clear hbq
                      have HB5 := Lib.hid hb5; clear hb5
                      have HCA := Lib.hid hCa; clear hCa
                      go_wp2
                      haveI : Nonempty (SqC.Come fun U : World => Below wr.heap.size wr U) := ⟨⟨_, eX⟩⟩
                      refine SqC.wp_region_sqc 11 [0, 4, 9] (fun U : World => Below wr.heap.size wr U) (by kernel_rfl) (by kernel_rfl) (by kernel_rfl) eX ?_
                      obtain ⟨wd, hwd⟩ : ∃ wd : World, wd = wr.drew := ⟨_, rfl⟩
                      rw [← hwd] at eX ⊢
                      clear hwd
                      obtain ⟨we, hwe⟩ : ∃ we, we = wd.alloc (.cells #[] 3) := ⟨_, rfl⟩
                      have ho0 : we.ownsRow wr.heap.size 3 1 (.slice (some ⟨wd.heap.size, 0, none⟩) 0 0) 0 [] := by rw [hwe]; exact own_new wd #[] 3 0 wr.heap.size rfl (by decide) eX.size
                      have ee : Below wr.heap.size wr we := by rw [hwe]; exact eX.alloc eX.size _
                      have HWE := Lib.hid hwe; clear hwe
                      have hsub : ∀ U, Below wr.heap.size wr U → Cells U g o (out.map (.int .i64)) ∧ g < U.heap.size := fun U hU => ⟨HCA.out.below hU hgl, Nat.lt_of_lt_of_le hgl hU.size⟩
                      have HSUB := Lib.hid hsub; clear hsub
                      have hic : (i : Int) ≤ co9 := by omega
                      have hi1 : ((i : Int) + 1) ≤ n := by omega
                      have h01 : (0 : Int) ≤ (i : Int) + 1 := by omega
                      refine SqC.effectW rfl rfl ?_
                      go_wp2
                      rw [← HWE.out]
                      refine SqC.here rfl (fun _ => ee) ?_
                      iterate 2 (refine SqC.quiet rfl rfl ?_; go_big_quiet_step (fail); refine wpQuiet_nil ?_)
                      refine SqC.value (.slice (some ⟨g, o, none⟩) i co9) rfl rfl (by intro U hU; go_simp) ?_
                      simp only [Act.put, List.setIfInBounds_toArray, List.set_cons_zero, List.set_cons_succ]
                      have slP : Sl we 1 (.slice (some ⟨g, o, none⟩) i co9) i ((out.take i).map (.int .i64)) :=
                        ⟨by simp; omega, .inr ⟨g, o, co9, rfl, by omega, hcm, fun k v hk => (HSUB.out we ee).1 k v (by
                          have hik : k < i := by
                            have := (List.getElem?_eq_some_iff.1 hk).1
                            simp at this
                            omega
                          rwa [List.map_take, List.getElem?_take_of_lt hik] at hk), (HSUB.out we ee).2⟩⟩
                      refine SqC.effectW rfl rfl ?_
                      refine wpList_append_sl rfl _ _ 22 rfl wr.heap.size 3 (.int .i64 0) 1 8 hTint infoInt rfl (by decide) _ 0 _ rfl ho0 _ i ((out.take i).map (.int .i64)) rfl slP (by intro u hu; obtain ⟨_, _, rfl⟩ := List.mem_map.1 hu; rfl) (by unfold maxLen; omega) (by omega) ee.size ?_
                      intro v' wf g1 g2
                      rw [Nat.zero_add, List.nil_append] at g1
                      have ef : Below wr.heap.size wr wf := grown_below ee ho0 g2 ee.size
                      obtain ⟨s1, c1, rfl, _⟩ := own_slice g1
                      refine SqC.here rfl (fun _ => ef) ?_
                      simp only [Act.put, List.setIfInBounds_toArray, List.set_cons_zero, List.set_cons_succ]
                      iterate 3 (refine SqC.quiet rfl rfl ?_; go_big_quiet_step (fail); refine wpQuiet_nil ?_)
                      obtain ⟨O2, hO2, hO3⟩ : ∃ O2, (if co9 = i + 1 then (some ⟨g, o, none⟩ : Option Addr) else some ⟨g, o + (i + 1), none⟩) = some ⟨g, O2, none⟩ ∧ (0 < n - (i + 1) → O2 = o + (i + 1)) := by
                        by_cases h : co9 = i + 1
                        · exact ⟨o, by rw [if_pos h], fun h2 => by omega⟩
                        · exact ⟨o + (i + 1), by rw [if_neg h], fun _ => rfl⟩
                      refine SqC.value (.slice (some ⟨g, O2, none⟩) (n - (i + 1)) (co9 - (i + 1))) rfl rfl (by intro U hU; go_simp) ?_
                      simp only [Act.put, List.setIfInBounds_toArray, List.set_cons_zero, List.set_cons_succ]
                      have slS : Sl wf 1 (.slice (some ⟨g, O2, none⟩) (n - (i + 1)) (co9 - (i + 1))) (n - (i + 1)) ((out.drop (i + 1)).map (.int .i64)) :=
                        ⟨by simp; have := HN.out; omega, .inr ⟨g, O2, co9 - (i + 1), rfl, by omega, by omega, fun k v hk => by
                          have hik : k < n - (i + 1) := by
                            have := (List.getElem?_eq_some_iff.1 hk).1
                            simp at this
                            have := HN.out
                            omega
                          rw [List.map_drop, List.getElem?_drop] at hk
                          have h5 := (HSUB.out wf ef).1 _ v hk
                          rw [hO3 (by omega), Nat.add_assoc]
                          exact h5, (HSUB.out wf ef).2⟩⟩
                      refine SqC.effectW rfl rfl ?_
                      refine wpList_append_sl rfl _ _ 22 rfl wr.heap.size 3 (.int .i64 0) 1 8 hTint infoInt rfl (by decide) _ i _ rfl g1 _ (n - (i + 1)) ((out.drop (i + 1)).map (.int .i64)) rfl slS (by intro u hu; obtain ⟨_, _, rfl⟩ := List.mem_map.1 hu; rfl) (by unfold maxLen; omega) (by omega) ef.size ?_
                      intro v2 wg g3 g4
                      have eg : Below wr.heap.size wr wg := grown_below ef g1 g4 ef.size
                      obtain ⟨ls, hls⟩ : ∃ ls, ls = out.take i ++ out.drop (i + 1) := ⟨_, rfl⟩
                      have hlen : i + (n - (i + 1)) = ls.length := by have := HN.out; rw [hls]; simp; omega
                      rw [← List.map_append, ← hls] at g3
                      rw [hlen] at g3
                      have hmn2 := HMN.out
                      rw [← hls] at hmn2
                      obtain ⟨s2, c2, rfl, _⟩ := own_slice g3
                      refine SqC.here rfl (fun _ => eg) ?_
                      simp only [Act.put, List.setIfInBounds_toArray, List.set_cons_zero, List.set_cons_succ]
                      iterate 1 (refine SqC.quiet rfl rfl ?_; go_big_quiet_step (fail); refine wpQuiet_nil ?_)
                      refine SqC.nil ?_
                      have hbg : Below W1.heap.size W1 wg := HBQ.out.trans (eg.mono HBQ.out.size)
                      have hck := HPC.out wg hbg ls s2 c2 (Sl.of_owns g3) (by rw [← hlen]; omega)
                      rw [Int.toNat_natCast, hmn2] at hck
                      have HCK := Lib.hid hck; clear hck
                      have hb5g : Below w5.heap.size w5 wg := HB5.out.trans (eg.mono HB5.out.size)
                      obtain ⟨c0, c1', c2'⟩ := HBOX.out.cell wg hbg
                      rw [HF.out] at c0
                      have HBG := Lib.hid hbg; clear hbg
                      have HB5G := Lib.hid hb5g; clear hb5g
                      clear g1 g2 g3 g4 slP slS ee ef eg eX ho0 hO2 hO3 hlen hmn2 hls
                      go_wp2_with (fail)
                      refine HCK.out.mono ?_
                      rintro e wh ⟨rfl, bh⟩
                      have HBH := Lib.hid (HBG.out.trans (bh.mono HBG.out.size))
                      have HB5H := Lib.hid (HB5G.out.trans (bh.mono HB5G.out.size)); clear bh
                      go_wp2
                      go_roundw
                      case rel => exact ⟨i + 1, by omega, by go_num, HBH.out, HB5H.out⟩
                      case measure => simp [vInt]; omega
                    · have h1' : ((i : Int) < n) = False := eq_false (by omega)
                      have HBQ := Lib.hid hbq; clear hbq hb5
                      go_wp2_with (fail)
                      refine (HLI.out _ HBQ.out).mono ?_
                      rintro e u ⟨rfl, bu⟩
                      go_wp2
                      go_ret
                      exact ⟨rfl, bu⟩
  · have hv2 : (valE b != 0) = true := by simpa using hval
    have hv3 : (valE b = 0) = False := eq_false hval
    have HB3 := HB2
    clear hval
    go_wp2_with (fail)
    refine (HLI.out _ HB3.out).mono ?_
    rintro e u ⟨rfl, bu⟩
    go_wp2
    go_ret
    exact ⟨rfl, bu⟩
end Go.Proofs.Ytcbmifaobdamhaa

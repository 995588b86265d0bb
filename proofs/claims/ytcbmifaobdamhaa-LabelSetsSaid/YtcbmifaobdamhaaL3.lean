/- label: the walk over LabelSets. -/
import Derived.Test.YtcbmifaobdamhaaA35
namespace Go.Proofs.Ytcbmifaobdamhaa
open Go.RowKit Go.Own Go.Theory Go.BigFrame Go.Ib Go.Label Go.Shelf
attribute [local irreducible] SqC.SqW
set_option maxRecDepth 100000 in
set_option maxHeartbeats 4000000 in
theorem law_sets (b : Lg) (item : Int) (sa sr : Option Addr) (ca cr : Nat) (bs : List Value) (hrg : LgRg b) (w : World) (h : LgAt w b sa sr ca cr bs) (hi : rg item) :
    Calls Try.prog 4 #[lgV b sa sr ca cr, .int .i64 item] w fun e w' => e = .returned (.bool true) ∧ Below w.heap.size w w' := by
  have hlgV : lgV b sa sr ca cr = .agg #[.int .i64 b.facts, .slice sa b.assume.length ca, .slice sr b.rules.length cr] := rfl
  have hbox := box_new w b sa sr ca cr 25
  obtain ⟨W1, hW1⟩ : ∃ W1, W1 = w.alloc (.cells #[.int .i64 b.facts, .slice sa b.assume.length ca, .slice sr b.rules.length cr] 25) := ⟨_, rfl⟩
  rw [← hW1] at hbox
  have hH := h.below hbox.b1
  have h1 := rvalid_any b sa sr ca cr bs hrg W1 hH
  rw [hlgV] at h1 ⊢
  have HBOX := Lib.hid hbox; clear hbox
  have HH := Lib.hid hH; clear hH h
  have HW1 := Lib.hid hW1; clear hW1
  have H1 := Lib.hid h1; clear h1
  have HRG := Lib.hid hrg; clear hrg
  have HLV := Lib.hid hlgV; clear hlgV
  go_enter Try.func4, Try.ntmps4
  go_wp2_with (fail)
  rw [← HW1.out]
  refine H1.out.mono ?_
  clear H1
  rintro e w2 ⟨rfl, b2⟩
  obtain ⟨c0, c1, c2⟩ := HBOX.out.cell w2 b2
  have hsm := small_any b sa sr ca cr bs HRG.out w2 (HH.out.below b2)
  rw [HLV.out] at hsm
  have HSM := Lib.hid hsm; clear hsm
  have HB2 := Lib.hid b2; clear b2
  by_cases hv : valE b = 0
  · rw [hv]
    have HVV := Lib.hid hv; clear hv
    go_wp2_with (fail)
    refine HSM.out.mono ?_
    clear HSM
    rintro e w3 ⟨rfl, b3⟩
    have hb3 : Below W1.heap.size W1 w3 := HB2.out.trans (b3.mono HB2.out.size)
    clear c0 c1 c2 b3
    obtain ⟨c0, c1, c2⟩ := HBOX.out.cell w3 hb3
    have HBX := Lib.hid hb3; clear hb3 HB2
    cases hs : smallB b with
    | false =>
      clear hs
      go_wp2_with (fail)
      refine (lives_any _).mono ?_
      rintro e w4 ⟨rfl, b4⟩
      go_wp2
      go_ret
      exact ⟨rfl, HBOX.out.below (HBX.out.trans (b4.mono HBX.out.size))⟩
    | true =>
      have hcc : valE b = 0 → b.assume.length ≤ 8 := fun _ => by
        unfold smallB at hs
        rw [Bool.and_eq_true, decide_eq_true_eq, decide_eq_true_eq] at hs
        exact hs.2
      have HCC := Lib.hid hcc; clear hcc hs
      have hpl := plab_any b sa sr ca cr bs HRG.out w3 (HH.out.below HBX.out) HCC.out
      rw [HLV.out] at hpl
      obtain ⟨F, hF⟩ : ∃ F, F = resF b := ⟨_, rfl⟩
      obtain ⟨L, hL⟩ : ∃ L, L = resL b := ⟨_, rfl⟩
      have hF64 : F ≤ 64 := by rw [hF]; exact res_f
      have hlen : (∀ f, (L.lab f).length ≤ 2304) ∧ L.bad.length ≤ 2304 := by rw [hL]; exact res_len HCC.out
      have hlt : (∀ f, ∀ t ∈ L.lab f, t < 65536) ∧ ∀ t ∈ L.bad, t < 65536 := by rw [hL]; exact res_lt HCC.out
      rw [← hF, ← hL] at hpl
      have HPL := Lib.hid hpl; clear hpl
      have HLEN := Lib.hid hlen; clear hlen
      have HLT := Lib.hid hlt; clear hlt
      have HFE := Lib.hid hF; clear hF
      have HLE := Lib.hid hL; clear hL
      go_wp2_with (fail)
      refine HPL.out.mono ?_
      clear HPL
      rintro e w4 ⟨so, co, vs, sb, cb, rfl, hA, b4⟩
      have hb4 : Below W1.heap.size W1 w4 := HBX.out.trans (b4.mono HBX.out.size)
      clear c0 c1 c2 b4
      obtain ⟨c0, c1, c2⟩ := HBOX.out.cell w4 hb4
      have hrl := rlab_any b sa sr ca cr bs HRG.out w4 (HH.out.below hb4) HCC.out
      rw [HLV.out, ← HFE.out, ← HLE.out] at hrl
      have HRL := Lib.hid hrl; clear hrl
      have HA := Lib.hid hA; clear hA
      have HB4 := Lib.hid hb4; clear hb4
      obtain ⟨E, hE⟩ : ∃ E, E = valE b := ⟨_, rfl⟩
      rw [← hE] at HRL ⊢
      clear hE
      go_wp2_with (fail)
      refine HRL.out.mono ?_
      clear HRL
      rintro e w5 ⟨so2, co2, vs2, sb2, cb2, rfl, hB, b5⟩
      have hb5 : Below W1.heap.size W1 w5 := HB4.out.trans (b5.mono HB4.out.size)
      have HS := Lib.hid (HA.out.below b5)
      clear c0 c1 c2 b5 HA
      have hend : ∀ U, Below w5.heap.size w5 U → Below w.heap.size w U := fun U hU => HBOX.out.below (hb5.trans (hU.mono hb5.size))
      have HEND := Lib.hid hend; clear hend hb5
      have HT := Lib.hid hB; clear hB
      have hEE : (E != E) = false := by simp
      have hs1 := sameS_any HS.out HT.out HLEN.out.1 hF64
      have HS1 := Lib.hid hs1; clear hs1
      go_wp2_with (fail)
      refine HS1.out.mono ?_
      clear HS1
      rintro e w6 ⟨rfl, b6⟩
      have hs2 := sameB_any (HS.out.bad.below b6) (HT.out.bad.below b6) HLEN.out.2
      have HS2 := Lib.hid hs2; clear hs2
      have HB6 := Lib.hid b6; clear b6
      go_wp2_with (fail)
      refine HS2.out.mono ?_
      clear HS2
      rintro e w7 ⟨rfl, b7⟩
      have HB7 := Lib.hid (HB6.out.trans (b7.mono HB6.out.size))
      clear b7 HB6
      obtain ⟨rI, hrI⟩ : ∃ rI, rI = fun f => restsB (L.lab f) item := ⟨_, rfl⟩
      go_wp2
      go_loopw [11] (fun c wq => ∃ f : Nat, f ≤ F ∧ c = .int .i64 f ∧ Below w5.heap.size w5 wq) (fun c _ => F - (vInt c).toNat)
      case atStart => exact ⟨0, by omega, rfl, HB7.out⟩
      case round =>
        clear HB7
        obtain ⟨f, hf, rfl, hbq⟩ := hrel
        by_cases hff : f < F
        · have hff' : (f : Int) < F := by omega
          obtain ⟨X, hX⟩ : ∃ X, X = L.lab f := ⟨_, rfl⟩
          have hrow := HS.out.row f hff
          rw [← hX] at hrow
          obtain ⟨v, hv⟩ : ∃ v, v = vs f := ⟨_, rfl⟩
          rw [← hv] at hrow
          obtain ⟨sx, cx0, rfl, _, _⟩ := sl_slice hrow
          have hXl : X.length ≤ 1000000 := by rw [hX]; have := HLEN.out.1 f; omega
          have hX6 : ∀ t ∈ X, t < 65536 := by rw [hX]; exact HLT.out.1 f
          obtain ⟨pb, po, rfl, _, _, hCp, hpl⟩ := sl_at HS.out.out (by omega)
          have hlc : ∀ U, Below w5.heap.size w5 U → U.cell? ⟨pb, po + f, none⟩ = some (.slice sx X.length cx0) := fun U hU => ((hCp.below hU hpl) f _ (rm_get hff)).trans (by rw [hv])
          have hp : ∀ z U, Below w5.heap.size w5 U → Calls Try.prog 22 #[.slice sx X.length cx0, .int .i64 z] U fun e w' => e = .returned (.bool (restsB X z)) ∧ Below U.heap.size U w' := fun z U hU => prests_any X z sx cx0 U (hrow.below hU) hXl hX6
          have hr : ∀ z U, Below w5.heap.size w5 U → Calls Try.prog 23 #[.slice sx X.length cx0, .int .i64 z] U fun e w' => e = .returned (.bool (restsB X z)) ∧ Below U.heap.size U w' := fun z U hU => rrests_any X z sx cx0 U (hrow.below hU) hXl hX6
          have har := around_any item 9 hi (by omega)
          obtain ⟨ar, har2⟩ : ∃ ar, ar = around item 9 := ⟨_, rfl⟩
          rw [← har2] at har
          obtain ⟨r1, hr1⟩ : ∃ r1, r1 = restsB X item := ⟨_, rfl⟩
          obtain ⟨r2, hr2⟩ : ∃ r2, r2 = restsB X ar := ⟨_, rfl⟩
          have hp1 := hp item
          have hr1' := hr item
          have hp2 := hp ar
          have hr2' := hr ar
          rw [← hr1] at hp1 hr1'
          rw [← hr2] at hp2 hr2'
          have h11 : (r1 != r1) = false := by simp
          have h22 : (r2 != r2) = false := by simp
          have HP1 := Lib.hid hp1; clear hp1
          have HR1 := Lib.hid hr1'; clear hr1'
          have HP2 := Lib.hid hp2; clear hp2
          have HR2 := Lib.hid hr2'; clear hr2'
          have HLC := Lib.hid hlc; clear hlc
          have HAR := Lib.hid har; clear har
          have HX := Lib.hid hX; clear hX
          have HV := Lib.hid hv; clear hv
          clear hp hr hr1 hr2 har2 hCp hX6 hrow
          go_wp2_with (fail)
          refine (HAR.out _).mono ?_
          rintro e w8 ⟨rfl, rfl⟩
          have eX : Below w5.heap.size w5 w8.drew := hbq.drew
          go_wp2
          haveI : Nonempty (SqC.Come fun U : World => Below w5.heap.size w5 U) := ⟨⟨_, eX⟩⟩
          refine SqC.wp_region_sqc 28 [5, 11, 19, 25] (fun U => Below w5.heap.size w5 U) (by kernel_rfl) (by kernel_rfl) (by kernel_rfl) eX ?_
          obtain ⟨wd, hwd⟩ : ∃ wd : World, wd = w8.drew := ⟨_, rfl⟩
          rw [← hwd] at eX ⊢
          clear hwd hbq
          iterate 3 (refine SqC.quiet rfl rfl ?_; go_big_quiet_step (fail); refine wpQuiet_nil ?_)
          refine SqC.value (.slice sx X.length cx0) rfl rfl (by intro U hU; have cx := HLC.out U hU; go_simp) ?_
          simp only [Act.put, List.setIfInBounds_toArray, List.set_cons_zero, List.set_cons_succ]
          iterate 1 (refine SqC.quiet rfl rfl ?_; go_big_quiet_step (fail); refine wpQuiet_nil ?_)
          refine SqC.effect rfl rfl ?_
          refine yields_call rfl (by kernel_rfl) rfl rfl ((HP1.out wd eX).mono ?_)
          rintro e u1 ⟨rfl, d1⟩
          have e1 : Below w5.heap.size w5 u1 := eX.trans (d1.mono eX.size)
          refine ⟨_, rfl, fun _ => e1, ?_⟩
          simp only [Act.put, List.setIfInBounds_toArray, List.set_cons_zero, List.set_cons_succ]
          iterate 3 (refine SqC.quiet rfl rfl ?_; go_big_quiet_step (fail); refine wpQuiet_nil ?_)
          refine SqC.value (.slice sx X.length cx0) rfl rfl (by intro U hU; have cx := HLC.out U hU; go_simp) ?_
          simp only [Act.put, List.setIfInBounds_toArray, List.set_cons_zero, List.set_cons_succ]
          iterate 1 (refine SqC.quiet rfl rfl ?_; go_big_quiet_step (fail); refine wpQuiet_nil ?_)
          refine SqC.effect rfl rfl ?_
          refine yields_call rfl (by kernel_rfl) rfl rfl ((HR1.out u1 e1).mono ?_)
          rintro e u2 ⟨rfl, d2⟩
          have e2 : Below w5.heap.size w5 u2 := e1.trans (d2.mono e1.size)
          refine ⟨_, rfl, fun _ => e2, ?_⟩
          simp only [Act.put, List.setIfInBounds_toArray, List.set_cons_zero, List.set_cons_succ]
          iterate 5 (refine SqC.quiet rfl rfl ?_; go_big_quiet_step (fail); refine wpQuiet_nil ?_)
          refine SqC.value (.slice sx X.length cx0) rfl rfl (by intro U hU; have cx := HLC.out U hU; go_simp) ?_
          simp only [Act.put, List.setIfInBounds_toArray, List.set_cons_zero, List.set_cons_succ]
          iterate 1 (refine SqC.quiet rfl rfl ?_; go_big_quiet_step (fail); refine wpQuiet_nil ?_)
          refine SqC.effect rfl rfl ?_
          refine yields_call rfl (by kernel_rfl) rfl rfl ((HP2.out u2 e2).mono ?_)
          rintro e u3 ⟨rfl, d3⟩
          have e3 : Below w5.heap.size w5 u3 := e2.trans (d3.mono e2.size)
          refine ⟨_, rfl, fun _ => e3, ?_⟩
          simp only [Act.put, List.setIfInBounds_toArray, List.set_cons_zero, List.set_cons_succ]
          iterate 3 (refine SqC.quiet rfl rfl ?_; go_big_quiet_step (fail); refine wpQuiet_nil ?_)
          refine SqC.value (.slice sx X.length cx0) rfl rfl (by intro U hU; have cx := HLC.out U hU; go_simp) ?_
          simp only [Act.put, List.setIfInBounds_toArray, List.set_cons_zero, List.set_cons_succ]
          iterate 1 (refine SqC.quiet rfl rfl ?_; go_big_quiet_step (fail); refine wpQuiet_nil ?_)
          refine SqC.effect rfl rfl ?_
          refine yields_call rfl (by kernel_rfl) rfl rfl ((HR2.out u3 e3).mono ?_)
          rintro e u4 ⟨rfl, d4⟩
          have e4 : Below w5.heap.size w5 u4 := e3.trans (d4.mono e3.size)
          refine ⟨_, rfl, fun _ => e4, ?_⟩
          simp only [Act.put, List.setIfInBounds_toArray, List.set_cons_zero, List.set_cons_succ]
          iterate 2 (refine SqC.quiet rfl rfl ?_; go_big_quiet_step (fail); refine wpQuiet_nil ?_)
          refine SqC.nil ?_
          clear d1 d2 d3 d4 e1 e2 e3 eX
          have HE4 := Lib.hid e4; clear e4
          go_wp2
          go_roundw
          case rel => exact ⟨f + 1, by omega, by go_num, HE4.out⟩
          case measure => simp [vInt]; omega
        · have hff' : ((f : Int) < F) = False := eq_false (by omega)
          have hpb : ∀ U, Below w5.heap.size w5 U → Calls Try.prog 22 #[.slice sb L.bad.length cb, .int .i64 item] U fun e w' => e = .returned (.bool (restsB L.bad item)) ∧ Below U.heap.size U w' := fun U hU => prests_any L.bad item sb cb U (HS.out.bad.below hU) (by have := HLEN.out.2; omega) HLT.out.2
          have hrb : ∀ U, Below w5.heap.size w5 U → Calls Try.prog 23 #[.slice sb L.bad.length cb, .int .i64 item] U fun e w' => e = .returned (.bool (restsB L.bad item)) ∧ Below U.heap.size U w' := fun U hU => rrests_any L.bad item sb cb U (HS.out.bad.below hU) (by have := HLEN.out.2; omega) HLT.out.2
          have hnn : ∀ U, Calls Try.prog 22 #[.slice none 0 0, .int .i64 item] U fun e w' => e = .returned (.bool false) ∧ Below U.heap.size U w' := fun U => by
            have := prests_any [] item none 0 U ⟨rfl, .inl ⟨rfl, rfl⟩⟩ (by simp) (by intro t ht; cases ht)
            rw [show restsB [] item = false by unfold restsB; simp] at this
            exact this
          obtain ⟨rb, hrb2⟩ : ∃ rb, rb = restsB L.bad item := ⟨_, rfl⟩
          rw [← hrb2] at hpb hrb
          have hbb : (rb == rb) = true := by simp
          have HPB := Lib.hid hpb; clear hpb
          have HRB := Lib.hid hrb; clear hrb
          have HNN := Lib.hid hnn; clear hnn hrb2
          have HBQ := Lib.hid hbq; clear hbq
          go_wp2_with (fail)
          refine (HPB.out _ HBQ.out).mono ?_
          rintro e u1 ⟨rfl, d1⟩
          have HU1 := Lib.hid (HBQ.out.trans (d1.mono HBQ.out.size)); clear d1
          go_wp2_with (fail)
          refine (HRB.out _ HU1.out).mono ?_
          rintro e u2 ⟨rfl, d2⟩
          have HU2 := Lib.hid (HU1.out.trans (d2.mono HU1.out.size)); clear d2
          go_wp2_with (fail)
          refine (HNN.out _).mono ?_
          rintro e u3 ⟨rfl, d3⟩
          have HU3 := Lib.hid (HU2.out.trans (d3.mono HU2.out.size)); clear d3
          go_wp2_with (fail)
          refine (lives_any _).mono ?_
          rintro e u4 ⟨rfl, d4⟩
          have HU4 := Lib.hid (HU3.out.trans (d4.mono HU3.out.size)); clear d4
          go_wp2
          go_ret
          exact ⟨rfl, HEND.out _ HU4.out⟩
  · obtain ⟨E0, hE0⟩ : ∃ E0, E0 = valE b := ⟨_, rfl⟩
    have hE1 : (E0 == 0) = false := by rw [hE0]; simpa using hv
    have hE2 : (E0 = 0) = False := by rw [hE0]; exact eq_false hv
    have hcc : valE b = 0 → b.assume.length ≤ 8 := fun h => absurd h hv
    have HCC := Lib.hid hcc; clear hcc hv
    rw [← hE0]
    have HE0 := Lib.hid hE0; clear hE0 HSM
    have HBX := HB2; clear HB2
    have hpl := plab_any b sa sr ca cr bs HRG.out w2 (HH.out.below HBX.out) HCC.out
    rw [HLV.out] at hpl
    obtain ⟨F, hF⟩ : ∃ F, F = resF b := ⟨_, rfl⟩
    obtain ⟨L, hL⟩ : ∃ L, L = resL b := ⟨_, rfl⟩
    have hF64 : F ≤ 64 := by rw [hF]; exact res_f
    have hlen : (∀ f, (L.lab f).length ≤ 2304) ∧ L.bad.length ≤ 2304 := by rw [hL]; exact res_len HCC.out
    have hlt : (∀ f, ∀ t ∈ L.lab f, t < 65536) ∧ ∀ t ∈ L.bad, t < 65536 := by rw [hL]; exact res_lt HCC.out
    rw [← hF, ← hL] at hpl
    have HPL := Lib.hid hpl; clear hpl
    have HLEN := Lib.hid hlen; clear hlen
    have HLT := Lib.hid hlt; clear hlt
    have HFE := Lib.hid hF; clear hF
    have HLE := Lib.hid hL; clear hL
    go_wp2_with (fail)
    refine HPL.out.mono ?_
    clear HPL
    rintro e w4 ⟨so, co, vs, sb, cb, rfl, hA, b4⟩
    have hb4 : Below W1.heap.size W1 w4 := HBX.out.trans (b4.mono HBX.out.size)
    clear c0 c1 c2 b4
    obtain ⟨c0, c1, c2⟩ := HBOX.out.cell w4 hb4
    have hrl := rlab_any b sa sr ca cr bs HRG.out w4 (HH.out.below hb4) HCC.out
    rw [HLV.out, ← HFE.out, ← HLE.out] at hrl
    have HRL := Lib.hid hrl; clear hrl
    have HA := Lib.hid hA; clear hA
    have HB4 := Lib.hid hb4; clear hb4
    obtain ⟨E, hE⟩ : ∃ E, E = valE b := ⟨_, rfl⟩
    rw [← hE] at HRL ⊢
    clear hE
    go_wp2_with (fail)
    refine HRL.out.mono ?_
    clear HRL
    rintro e w5 ⟨so2, co2, vs2, sb2, cb2, rfl, hB, b5⟩
    have hb5 : Below W1.heap.size W1 w5 := HB4.out.trans (b5.mono HB4.out.size)
    have HS := Lib.hid (HA.out.below b5)
    clear c0 c1 c2 b5 HA
    have hend : ∀ U, Below w5.heap.size w5 U → Below w.heap.size w U := fun U hU => HBOX.out.below (hb5.trans (hU.mono hb5.size))
    have HEND := Lib.hid hend; clear hend hb5
    have HT := Lib.hid hB; clear hB
    have hEE : (E != E) = false := by simp
    have hs1 := sameS_any HS.out HT.out HLEN.out.1 hF64
    have HS1 := Lib.hid hs1; clear hs1
    go_wp2_with (fail)
    refine HS1.out.mono ?_
    clear HS1
    rintro e w6 ⟨rfl, b6⟩
    have hs2 := sameB_any (HS.out.bad.below b6) (HT.out.bad.below b6) HLEN.out.2
    have HS2 := Lib.hid hs2; clear hs2
    have HB6 := Lib.hid b6; clear b6
    go_wp2_with (fail)
    refine HS2.out.mono ?_
    clear HS2
    rintro e w7 ⟨rfl, b7⟩
    have HB7 := Lib.hid (HB6.out.trans (b7.mono HB6.out.size))
    clear b7 HB6
    obtain ⟨rI, hrI⟩ : ∃ rI, rI = fun f => restsB (L.lab f) item := ⟨_, rfl⟩
    go_wp2
    go_loopw [11] (fun c wq => ∃ f : Nat, f ≤ F ∧ c = .int .i64 f ∧ Below w5.heap.size w5 wq) (fun c _ => F - (vInt c).toNat)
    case atStart => exact ⟨0, by omega, rfl, HB7.out⟩
    case round =>
      clear HB7
      obtain ⟨f, hf, rfl, hbq⟩ := hrel
      by_cases hff : f < F
      · have hff' : (f : Int) < F := by omega
        obtain ⟨X, hX⟩ : ∃ X, X = L.lab f := ⟨_, rfl⟩
        have hrow := HS.out.row f hff
        rw [← hX] at hrow
        obtain ⟨v, hv⟩ : ∃ v, v = vs f := ⟨_, rfl⟩
        rw [← hv] at hrow
        obtain ⟨sx, cx0, rfl, _, _⟩ := sl_slice hrow
        have hXl : X.length ≤ 1000000 := by rw [hX]; have := HLEN.out.1 f; omega
        have hX6 : ∀ t ∈ X, t < 65536 := by rw [hX]; exact HLT.out.1 f
        obtain ⟨pb, po, rfl, _, _, hCp, hpl⟩ := sl_at HS.out.out (by omega)
        have hlc : ∀ U, Below w5.heap.size w5 U → U.cell? ⟨pb, po + f, none⟩ = some (.slice sx X.length cx0) := fun U hU => ((hCp.below hU hpl) f _ (rm_get hff)).trans (by rw [hv])
        have hp : ∀ z U, Below w5.heap.size w5 U → Calls Try.prog 22 #[.slice sx X.length cx0, .int .i64 z] U fun e w' => e = .returned (.bool (restsB X z)) ∧ Below U.heap.size U w' := fun z U hU => prests_any X z sx cx0 U (hrow.below hU) hXl hX6
        have hr : ∀ z U, Below w5.heap.size w5 U → Calls Try.prog 23 #[.slice sx X.length cx0, .int .i64 z] U fun e w' => e = .returned (.bool (restsB X z)) ∧ Below U.heap.size U w' := fun z U hU => rrests_any X z sx cx0 U (hrow.below hU) hXl hX6
        have har := around_any item 9 hi (by omega)
        obtain ⟨ar, har2⟩ : ∃ ar, ar = around item 9 := ⟨_, rfl⟩
        rw [← har2] at har
        obtain ⟨r1, hr1⟩ : ∃ r1, r1 = restsB X item := ⟨_, rfl⟩
        obtain ⟨r2, hr2⟩ : ∃ r2, r2 = restsB X ar := ⟨_, rfl⟩
        have hp1 := hp item
        have hr1' := hr item
        have hp2 := hp ar
        have hr2' := hr ar
        rw [← hr1] at hp1 hr1'
        rw [← hr2] at hp2 hr2'
        have h11 : (r1 != r1) = false := by simp
        have h22 : (r2 != r2) = false := by simp
        have HP1 := Lib.hid hp1; clear hp1
        have HR1 := Lib.hid hr1'; clear hr1'
        have HP2 := Lib.hid hp2; clear hp2
        have HR2 := Lib.hid hr2'; clear hr2'
        have HLC := Lib.hid hlc; clear hlc
        have HAR := Lib.hid har; clear har
        have HX := Lib.hid hX; clear hX
        have HV := Lib.hid hv; clear hv
        clear hp hr hr1 hr2 har2 hCp hX6 hrow
        go_wp2_with (fail)
        refine (HAR.out _).mono ?_
        rintro e w8 ⟨rfl, rfl⟩
        have eX : Below w5.heap.size w5 w8.drew := hbq.drew
        go_wp2
        haveI : Nonempty (SqC.Come fun U : World => Below w5.heap.size w5 U) := ⟨⟨_, eX⟩⟩
        refine SqC.wp_region_sqc 28 [5, 11, 19, 25] (fun U => Below w5.heap.size w5 U) (by kernel_rfl) (by kernel_rfl) (by kernel_rfl) eX ?_
        obtain ⟨wd, hwd⟩ : ∃ wd : World, wd = w8.drew := ⟨_, rfl⟩
        rw [← hwd] at eX ⊢
        clear hwd hbq
        iterate 3 (refine SqC.quiet rfl rfl ?_; go_big_quiet_step (fail); refine wpQuiet_nil ?_)
        refine SqC.value (.slice sx X.length cx0) rfl rfl (by intro U hU; have cx := HLC.out U hU; go_simp) ?_
        simp only [Act.put, List.setIfInBounds_toArray, List.set_cons_zero, List.set_cons_succ]
        iterate 1 (refine SqC.quiet rfl rfl ?_; go_big_quiet_step (fail); refine wpQuiet_nil ?_)
        refine SqC.effect rfl rfl ?_
        refine yields_call rfl (by kernel_rfl) rfl rfl ((HP1.out wd eX).mono ?_)
        rintro e u1 ⟨rfl, d1⟩
        have e1 : Below w5.heap.size w5 u1 := eX.trans (d1.mono eX.size)
        refine ⟨_, rfl, fun _ => e1, ?_⟩
        simp only [Act.put, List.setIfInBounds_toArray, List.set_cons_zero, List.set_cons_succ]
        iterate 3 (refine SqC.quiet rfl rfl ?_; go_big_quiet_step (fail); refine wpQuiet_nil ?_)
        refine SqC.value (.slice sx X.length cx0) rfl rfl (by intro U hU; have cx := HLC.out U hU; go_simp) ?_
        simp only [Act.put, List.setIfInBounds_toArray, List.set_cons_zero, List.set_cons_succ]
        iterate 1 (refine SqC.quiet rfl rfl ?_; go_big_quiet_step (fail); refine wpQuiet_nil ?_)
        refine SqC.effect rfl rfl ?_
        refine yields_call rfl (by kernel_rfl) rfl rfl ((HR1.out u1 e1).mono ?_)
        rintro e u2 ⟨rfl, d2⟩
        have e2 : Below w5.heap.size w5 u2 := e1.trans (d2.mono e1.size)
        refine ⟨_, rfl, fun _ => e2, ?_⟩
        simp only [Act.put, List.setIfInBounds_toArray, List.set_cons_zero, List.set_cons_succ]
        iterate 5 (refine SqC.quiet rfl rfl ?_; go_big_quiet_step (fail); refine wpQuiet_nil ?_)
        refine SqC.value (.slice sx X.length cx0) rfl rfl (by intro U hU; have cx := HLC.out U hU; go_simp) ?_
        simp only [Act.put, List.setIfInBounds_toArray, List.set_cons_zero, List.set_cons_succ]
        iterate 1 (refine SqC.quiet rfl rfl ?_; go_big_quiet_step (fail); refine wpQuiet_nil ?_)
        refine SqC.effect rfl rfl ?_
        refine yields_call rfl (by kernel_rfl) rfl rfl ((HP2.out u2 e2).mono ?_)
        rintro e u3 ⟨rfl, d3⟩
        have e3 : Below w5.heap.size w5 u3 := e2.trans (d3.mono e2.size)
        refine ⟨_, rfl, fun _ => e3, ?_⟩
        simp only [Act.put, List.setIfInBounds_toArray, List.set_cons_zero, List.set_cons_succ]
        iterate 3 (refine SqC.quiet rfl rfl ?_; go_big_quiet_step (fail); refine wpQuiet_nil ?_)
        refine SqC.value (.slice sx X.length cx0) rfl rfl (by intro U hU; have cx := HLC.out U hU; go_simp) ?_
        simp only [Act.put, List.setIfInBounds_toArray, List.set_cons_zero, List.set_cons_succ]
        iterate 1 (refine SqC.quiet rfl rfl ?_; go_big_quiet_step (fail); refine wpQuiet_nil ?_)
        refine SqC.effect rfl rfl ?_
        refine yields_call rfl (by kernel_rfl) rfl rfl ((HR2.out u3 e3).mono ?_)
        rintro e u4 ⟨rfl, d4⟩
        have e4 : Below w5.heap.size w5 u4 := e3.trans (d4.mono e3.size)
        refine ⟨_, rfl, fun _ => e4, ?_⟩
        simp only [Act.put, List.setIfInBounds_toArray, List.set_cons_zero, List.set_cons_succ]
        iterate 2 (refine SqC.quiet rfl rfl ?_; go_big_quiet_step (fail); refine wpQuiet_nil ?_)
        refine SqC.nil ?_
        clear d1 d2 d3 d4 e1 e2 e3 eX
        have HE4 := Lib.hid e4; clear e4
        go_wp2
        go_roundw
        case rel => exact ⟨f + 1, by omega, by go_num, HE4.out⟩
        case measure => simp [vInt]; omega
      · have hff' : ((f : Int) < F) = False := eq_false (by omega)
        have hpb : ∀ U, Below w5.heap.size w5 U → Calls Try.prog 22 #[.slice sb L.bad.length cb, .int .i64 item] U fun e w' => e = .returned (.bool (restsB L.bad item)) ∧ Below U.heap.size U w' := fun U hU => prests_any L.bad item sb cb U (HS.out.bad.below hU) (by have := HLEN.out.2; omega) HLT.out.2
        have hrb : ∀ U, Below w5.heap.size w5 U → Calls Try.prog 23 #[.slice sb L.bad.length cb, .int .i64 item] U fun e w' => e = .returned (.bool (restsB L.bad item)) ∧ Below U.heap.size U w' := fun U hU => rrests_any L.bad item sb cb U (HS.out.bad.below hU) (by have := HLEN.out.2; omega) HLT.out.2
        have hnn : ∀ U, Calls Try.prog 22 #[.slice none 0 0, .int .i64 item] U fun e w' => e = .returned (.bool false) ∧ Below U.heap.size U w' := fun U => by
          have := prests_any [] item none 0 U ⟨rfl, .inl ⟨rfl, rfl⟩⟩ (by simp) (by intro t ht; cases ht)
          rw [show restsB [] item = false by unfold restsB; simp] at this
          exact this
        obtain ⟨rb, hrb2⟩ : ∃ rb, rb = restsB L.bad item := ⟨_, rfl⟩
        rw [← hrb2] at hpb hrb
        have hbb : (rb == rb) = true := by simp
        have HPB := Lib.hid hpb; clear hpb
        have HRB := Lib.hid hrb; clear hrb
        have HNN := Lib.hid hnn; clear hnn hrb2
        have HBQ := Lib.hid hbq; clear hbq
        go_wp2_with (fail)
        refine (HPB.out _ HBQ.out).mono ?_
        rintro e u1 ⟨rfl, d1⟩
        have HU1 := Lib.hid (HBQ.out.trans (d1.mono HBQ.out.size)); clear d1
        go_wp2_with (fail)
        refine (HRB.out _ HU1.out).mono ?_
        rintro e u2 ⟨rfl, d2⟩
        have HU2 := Lib.hid (HU1.out.trans (d2.mono HU1.out.size)); clear d2
        go_wp2_with (fail)
        refine (HNN.out _).mono ?_
        rintro e u3 ⟨rfl, d3⟩
        have HU3 := Lib.hid (HU2.out.trans (d3.mono HU2.out.size)); clear d3
        go_wp2_with (fail)
        refine (lives_any _).mono ?_
        rintro e u4 ⟨rfl, d4⟩
        have HU4 := Lib.hid (HU3.out.trans (d4.mono HU3.out.size)); clear d4
        go_wp2
        go_ret
        exact ⟨rfl, HEND.out _ HU4.out⟩
end Go.Proofs.Ytcbmifaobdamhaa

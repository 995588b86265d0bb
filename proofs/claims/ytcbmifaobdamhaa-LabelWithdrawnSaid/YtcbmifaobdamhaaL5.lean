/- label: the walk over LabelWithdrawn. its row stands in M5 -/
import Derived.Test.YtcbmifaobdamhaaA40
namespace Go.Proofs.Ytcbmifaobdamhaa
open Go.RowKit Go.Own Go.Theory Go.BigFrame Go.Ib Go.Label Go.Shelf
attribute [local irreducible] SqC.SqW
theorem ok_rgW {b : Lg} (ok : Ok b) : LgRg b := by
  have h1 := ok.f0
  have h2 := ok.f64
  refine ⟨by unfold rg; omega, fun z hz => ?_, fun r hr => ?_, fun r hr z hz => ?_⟩
  · have := ok.asm z hz; unfold rg; omega
  · have := ok.head r hr; unfold rg; omega
  · have := ok.body r hr z hz; unfold rg; omega
set_option maxRecDepth 100000 in
set_option maxHeartbeats 4000000 in
theorem law_withdrawn (b : Lg) (z : Int) (sa sr : Option Addr) (ca cr : Nat) (bs : List Value) (hrg : LgRg b) (w : World) (h : LgAt w b sa sr ca cr bs) (hz : rg z) :
    Calls Try.prog 9 #[lgV b sa sr ca cr, .int .i64 z] w fun e w' => e = .returned (.bool true) ∧ Below w.heap.size w w' := by
  have hlgV : lgV b sa sr ca cr = .agg #[.int .i64 b.facts, .slice sa b.assume.length ca, .slice sr b.rules.length cr] := rfl
  have hbox := box_new w b sa sr ca cr 25
  obtain ⟨W1, hW1⟩ : ∃ W1, W1 = w.alloc (.cells #[.int .i64 b.facts, .slice sa b.assume.length ca, .slice sr b.rules.length cr] 25) := ⟨_, rfl⟩
  rw [← hW1] at hbox
  have hH := h.below hbox.b1
  have h1 := small_any b sa sr ca cr bs hrg W1 hH
  rw [hlgV] at h1 ⊢
  have HBOX := Lib.hid hbox; clear hbox
  have HH := Lib.hid hH; clear hH h
  have HW1 := Lib.hid hW1; clear hW1
  have H1 := Lib.hid h1; clear h1
  have HRG := Lib.hid hrg; clear hrg
  have HLV := Lib.hid hlgV; clear hlgV
  obtain ⟨n, hn⟩ : ∃ n, n = b.assume.length := ⟨_, rfl⟩
  have hC : ∀ U, Below W1.heap.size W1 U → U.cell? ⟨w.heap.size, 0, none⟩ = some (.int .i64 b.facts) ∧ U.cell? ⟨w.heap.size, 1, none⟩ = some (.slice sa n ca) ∧ U.cell? ⟨w.heap.size, 2, none⟩ = some (.slice sr b.rules.length cr) := fun U hU => by
    rw [hn]; exact HBOX.out.cell U hU
  have HC := Lib.hid hC; clear hC
  rw [← hn]
  have HN := Lib.hid hn
  rw [← hn] at HW1 H1
  clear hn
  go_enter Try.func9, Try.ntmps9
  go_wp2_with (fail)
  rw [← HW1.out]
  refine H1.out.mono ?_
  clear H1
  rintro e w2 ⟨rfl, b2⟩
  obtain ⟨c0, c1, c2⟩ := HC.out w2 b2
  have HB2 := Lib.hid b2; clear b2
  cases hsm : smallB b with
  | false =>
    clear hsm
    go_wp2_with (fail)
    refine (lives_any _).mono ?_
    rintro e w3 ⟨rfl, b3⟩
    go_wp2
    go_ret
    exact ⟨rfl, HBOX.out.below (HB2.out.trans (b3.mono HB2.out.size))⟩
  | true =>
    have hsm2 : valE b = 0 ∧ b.assume.length ≤ 8 := by
      unfold smallB at hsm
      rw [Bool.and_eq_true, decide_eq_true_eq, decide_eq_true_eq] at hsm
      exact hsm
    clear hsm
    have hn8 : n ≤ 8 := by rw [HN.out]; exact hsm2.2
    have HSM := Lib.hid hsm2; clear hsm2
    by_cases hn0 : n = 0
    · have h1 : ((n : Int) == 0) = true := by simp [hn0]
      clear hn0
      go_wp2_with (fail)
      refine (lives_any _).mono ?_
      rintro e w3 ⟨rfl, b3⟩
      go_wp2
      go_ret
      exact ⟨rfl, HBOX.out.below (HB2.out.trans (b3.mono HB2.out.size))⟩
    · have h1 : ((n : Int) == 0) = false := by simp; omega
      obtain ⟨k, hk1, hk2⟩ := around_rg z (show 0 < n by omega)
      have har := around_any z n hz ⟨by omega, by omega⟩
      rw [hk1] at har
      have HAR := Lib.hid har; clear har hk1 hn0
      go_wp2_with (fail)
      refine (HAR.out _).mono ?_
      clear HAR
      rintro e w3 ⟨rfl, rfl⟩
      have hasl := (HH.out.asm).below HB2.out (by rw [← HN.out]; omega)
      rw [← HN.out] at hasl
      obtain ⟨g, o, rfl, hnc, hcm, hCa, hal⟩ := sl_at hasl (by omega)
      obtain ⟨W4, hW4⟩ : ∃ W4, W4 = w3.alloc (.cells #[.int .i64 b.facts, .slice (some ⟨g, o, none⟩) n ca, .slice sr b.rules.length cr] 25) := ⟨_, rfl⟩
      have b4 : Below w3.heap.size w3 W4 := by rw [hW4]; exact alloc_below _ _
      have kL : Blk W4 w3.heap.size [.int .i64 b.facts, .slice (some ⟨g, o, none⟩) n ca, .slice sr b.rules.length cr] 25 := by rw [hW4]; exact Blk.new w3 #[.int .i64 b.facts, .slice (some ⟨g, o, none⟩) n ca, .slice sr b.rules.length cr] 25
      have hB4 : Below W1.heap.size W1 W4 := HB2.out.trans (b4.mono HB2.out.size)
      have HB4 := Lib.hid hB4; clear hB4
      have HKL := Lib.hid kL; clear kL
      have HW4 := Lib.hid hW4; clear hW4
      have HCA := Lib.hid hCa; clear hCa hasl
      have Hb4 := Lib.hid b4; clear b4
      go_wp2
      rw [← HW4.out]
      clear c0 c1 c2
      have eX : Below W4.heap.size W4 W4.drew := (Below.refl _ _).drew
      haveI : Nonempty (SqC.Come fun U : World => Below W4.heap.size W4 U) := ⟨⟨_, eX⟩⟩
      refine SqC.wp_region_sqc 14 [0, 5, 11, 13] (fun U : World => Below W4.heap.size W4 U) (by kernel_rfl) (by kernel_rfl) (by kernel_rfl) eX ?_
      obtain ⟨wd, hwd⟩ : ∃ wd : World, wd = W4.drew := ⟨_, rfl⟩
      rw [← hwd] at eX ⊢
      clear hwd
      obtain ⟨we, hwe⟩ : ∃ we, we = wd.alloc (.cells #[] 3) := ⟨_, rfl⟩
      have ho0 : we.ownsRow W4.heap.size 3 1 (.slice (some ⟨wd.heap.size, 0, none⟩) 0 0) 0 [] := by rw [hwe]; exact own_new wd #[] 3 0 W4.heap.size rfl (by decide) eX.size
      have ee : Below W4.heap.size W4 we := by rw [hwe]; exact eX.alloc eX.size _
      have HWE := Lib.hid hwe; clear hwe
      have hsrc : ∀ U, Below W4.heap.size W4 U → U.cell? ⟨w.heap.size, 1, none⟩ = some (.slice (some ⟨g, o, none⟩) n ca) := fun U hU => (HC.out U (HB4.out.trans (hU.mono HB4.out.size))).2.1
      have hsub : ∀ U, Below W4.heap.size W4 U → Cells U g o (b.assume.map (.int .i64)) ∧ g < U.heap.size := fun U hU =>
        ⟨HCA.out.below ((Hb4.out.mono (Nat.le_refl _)).trans (hU.mono Hb4.out.size)) hal, Nat.lt_of_lt_of_le (Nat.lt_of_lt_of_le hal Hb4.out.size) hU.size⟩
      have HSRC := Lib.hid hsrc; clear hsrc
      have HSUB := Lib.hid hsub; clear hsub
      have hkca : (k : Int) ≤ ca := by omega
      have hkca1 : ((k : Int) + 1) ≤ n := by omega
      refine SqC.effectW rfl rfl ?_
      go_wp2
      rw [← HWE.out]
      refine SqC.here rfl (fun _ => ee) ?_
      refine SqC.value (.pointer (some ⟨w.heap.size, 1, none⟩)) rfl rfl (by intro U hU; go_simp) ?_
      simp only [Act.put, List.setIfInBounds_toArray, List.set_cons_zero, List.set_cons_succ]
      refine SqC.value (.slice (some ⟨g, o, none⟩) n ca) rfl rfl (by intro U hU; have cx := HSRC.out U hU; go_simp) ?_
      simp only [Act.put, List.setIfInBounds_toArray, List.set_cons_zero, List.set_cons_succ]
      iterate 1 (refine SqC.quiet rfl rfl ?_; go_big_quiet_step (fail); refine wpQuiet_nil ?_)
      refine SqC.value (.slice (some ⟨g, o, none⟩) k ca) rfl rfl (by intro U hU; go_simp) ?_
      simp only [Act.put, List.setIfInBounds_toArray, List.set_cons_zero, List.set_cons_succ]
      have hla : b.assume.length ≤ 8 := HSM.out.2
      have slP : Sl we 1 (.slice (some ⟨g, o, none⟩) k ca) k ((b.assume.take k).map (.int .i64)) :=
        ⟨by simp; have := HN.out; omega, .inr ⟨g, o, ca, rfl, by omega, hcm, fun i v hi => (HSUB.out we ee).1 i v (by
          have hik : i < k := by
            have := (List.getElem?_eq_some_iff.1 hi).1
            simp at this
            omega
          rwa [List.map_take, List.getElem?_take_of_lt hik] at hi), (HSUB.out we ee).2⟩⟩
      refine SqC.effectW rfl rfl ?_
      refine wpList_append_sl rfl _ _ 22 rfl W4.heap.size 3 (.int .i64 0) 1 8 hTint infoInt rfl (by decide) _ 0 _ rfl ho0 _ k ((b.assume.take k).map (.int .i64)) rfl slP (by intro u hu; obtain ⟨_, _, rfl⟩ := List.mem_map.1 hu; rfl) (by unfold maxLen; omega) (by omega) ee.size ?_
      intro v' wf g1 g2
      rw [Nat.zero_add, List.nil_append] at g1
      have ef : Below W4.heap.size W4 wf := grown_below ee ho0 g2 ee.size
      obtain ⟨s1, c1, rfl, _⟩ := own_slice g1
      refine SqC.here rfl (fun _ => ef) ?_
      simp only [Act.put, List.setIfInBounds_toArray, List.set_cons_zero, List.set_cons_succ]
      refine SqC.value (.pointer (some ⟨w.heap.size, 1, none⟩)) rfl rfl (by intro U hU; go_simp) ?_
      simp only [Act.put, List.setIfInBounds_toArray, List.set_cons_zero, List.set_cons_succ]
      refine SqC.value (.slice (some ⟨g, o, none⟩) n ca) rfl rfl (by intro U hU; have cx := HSRC.out U hU; go_simp) ?_
      simp only [Act.put, List.setIfInBounds_toArray, List.set_cons_zero, List.set_cons_succ]
      iterate 2 (refine SqC.quiet rfl rfl ?_; go_big_quiet_step (fail); refine wpQuiet_nil ?_)
      obtain ⟨O2, hO2, hO3⟩ : ∃ O2, (if ca = k + 1 then (some ⟨g, o, none⟩ : Option Addr) else some ⟨g, o + (k + 1), none⟩) = some ⟨g, O2, none⟩ ∧ (0 < n - (k + 1) → O2 = o + (k + 1)) := by
        by_cases h : ca = k + 1
        · exact ⟨o, by rw [if_pos h], fun h2 => by omega⟩
        · exact ⟨o + (k + 1), by rw [if_neg h], fun _ => rfl⟩
      have h01 : (0 : Int) ≤ (k : Int) + 1 := by omega
      refine SqC.value (.slice (some ⟨g, O2, none⟩) (n - (k + 1)) (ca - (k + 1))) rfl rfl (by intro U hU; go_simp) ?_
      simp only [Act.put, List.setIfInBounds_toArray, List.set_cons_zero, List.set_cons_succ]
      have slS : Sl wf 1 (.slice (some ⟨g, O2, none⟩) (n - (k + 1)) (ca - (k + 1))) (n - (k + 1)) ((b.assume.drop (k + 1)).map (.int .i64)) :=
        ⟨by simp; have := HN.out; omega, .inr ⟨g, O2, ca - (k + 1), rfl, by omega, by omega, fun i v hi => by
          have hik : i < n - (k + 1) := by
            have := (List.getElem?_eq_some_iff.1 hi).1
            simp at this
            have := HN.out
            omega
          rw [List.map_drop, List.getElem?_drop] at hi
          have h5 := (HSUB.out wf ef).1 _ v hi
          rw [hO3 (by omega), Nat.add_assoc]
          exact h5, (HSUB.out wf ef).2⟩⟩
      refine SqC.effectW rfl rfl ?_
      refine wpList_append_sl rfl _ _ 22 rfl W4.heap.size 3 (.int .i64 0) 1 8 hTint infoInt rfl (by decide) _ k _ rfl g1 _ (n - (k + 1)) ((b.assume.drop (k + 1)).map (.int .i64)) rfl slS (by intro u hu; obtain ⟨_, _, rfl⟩ := List.mem_map.1 hu; rfl) (by unfold maxLen; omega) (by omega) ef.size ?_
      intro v2 wg g3 g4
      have eg : Below W4.heap.size W4 wg := grown_below ef g1 g4 ef.size
      have hlen : k + (n - (k + 1)) = (lessK b k).assume.length := by have := less_len (b := b) (k := k) (by rw [← HN.out]; exact hk2); have := HN.out; omega
      rw [← List.map_append] at g3
      rw [hlen] at g3
      obtain ⟨s2, c2, rfl, _⟩ := own_slice g3
      have kLg := HKL.out.below eg HKL.out.lt
      have cL : wg.cell? ⟨w3.heap.size, 1, none⟩ = some (.slice (some ⟨g, o, none⟩) n ca) := kLg.cell rfl
      have fL : wg.frozen? ⟨w3.heap.size, 1, none⟩ = false := kLg.frozen 1
      refine SqC.here rfl (fun _ => eg) ?_
      simp only [Act.put, List.setIfInBounds_toArray, List.set_cons_zero, List.set_cons_succ]
      refine SqC.value (.pointer (some ⟨w3.heap.size, 1, none⟩)) rfl rfl (by intro U hU; go_simp) ?_
      simp only [Act.put, List.setIfInBounds_toArray, List.set_cons_zero, List.set_cons_succ]
      refine SqC.effectW rfl rfl ?_
      go_wp2
      refine SqC.here rfl (by intro h; first | exact h.elim | exact absurd rfl h) (SqC.nil ?_)
      obtain ⟨wh, hwh⟩ : ∃ wh, wh = wg.setCell ⟨w3.heap.size, 1, none⟩ (.slice s2 (lessK b k).assume.length c2) := ⟨_, rfl⟩
      have hz3 : W1.heap.size ≤ w3.heap.size := HB2.out.size
      have hz4 : w3.heap.size < W4.heap.size := HKL.out.lt
      have kLh : Blk wh w3.heap.size [.int .i64 b.facts, .slice s2 (lessK b k).assume.length c2, .slice sr b.rules.length cr] 25 := by
        rw [hwh]
        have := kLg.set 1 (.slice s2 (lessK b k).assume.length c2)
        simpa using this
      have eh : Below W1.heap.size W1 wh := by
        rw [hwh]
        have h5 : Chg [w3.heap.size] wg (wg.setCell ⟨w3.heap.size, 1, none⟩ (.slice s2 (lessK b k).assume.length c2)) := (Chg.refl _ _).set _ (by simp)
        exact (HB4.out.trans (eg.mono HB4.out.size)).trans (h5.below (by have := eg.size; omega) (by simp; omega))
      have ho5 : wh.ownsRow W4.heap.size 3 1 (.slice s2 (lessK b k).assume.length c2) (lessK b k).assume.length ((lessK b k).assume.map (.int .i64)) := by
        rw [hwh]
        exact own_set g3 fun q hq => by have := (own_lt g3 hq).1; simp; omega
      have hLess : LgAt wh (lessK b k) s2 sr c2 cr bs := by
        have h6 := HH.out.below eh
        exact ⟨fun _ => Sl.of_owns ho5, h6.rs, h6.bl, h6.bd⟩
      rw [← hwh]
      have HLESS := Lib.hid hLess
      have HKLH := Lib.hid kLh
      have HEH := Lib.hid eh
      clear hLess kLh eh ho5 hwh kLg cL fL g3 g4 eg slS slP g1 g2 ef ee ho0 eX hO3 hlen hO2
      have hkb : k < b.assume.length := by rw [← HN.out]; exact hk2
      have okb := valE_ok.1 HSM.out.1
      have okl := less_ok okb hkb
      have hvl := valE_ok.2 okl
      have hup := less_labs okb hkb
      have hcl : valE (lessK b k) = 0 → (lessK b k).assume.length ≤ 8 := fun _ => by have := less_len hkb; omega
      have hp1 := plab_any b (some ⟨g, o, none⟩) sr ca cr bs HRG.out wh (HH.out.below HEH.out) (fun _ => HSM.out.2)
      have hF : b.facts = (b.facts.toNat : Nat) := by have := okb.f0; omega
      rw [HLV.out, HSM.out.1, (res_ok HSM.out.1).1, (res_ok HSM.out.1).2, ← HN.out] at hp1
      have hp2 : ∀ U, Below wh.heap.size wh U → _ := fun U hU => plab_any (lessK b k) s2 sr c2 cr bs (ok_rgW okl) U (HLESS.out.below hU) hcl
      rw [hvl, (res_ok hvl).1, (res_ok hvl).2, show (lessK b k).facts.toNat = b.facts.toNat from rfl] at hp2
      obtain ⟨c0, c1', c2'⟩ := HC.out wh HEH.out
      have HFN := Lib.hid hF; clear hF
      have HP1 := Lib.hid hp1; clear hp1
      have HP2 := Lib.hid hp2; clear hp2
      have HUP := Lib.hid hup; clear hup
      clear okb okl hvl hcl
      obtain ⟨F, hFe⟩ : ∃ F, F = b.facts.toNat := ⟨_, rfl⟩
      rw [← hFe] at HP1 HP2 HFN
      have hF64 : F ≤ 64 := by have := (valE_ok.1 HSM.out.1).f64; have := HFN.out; omega
      have hFF : ((F : Int) != b.facts) = false := by rw [HFN.out]; simp
      have HFF := Lib.hid hFF; clear hFF
      have HFE := Lib.hid hFe; clear hFe
      go_wp2_with (fail)
      refine HP1.out.mono ?_
      clear HP1
      rintro e w6 ⟨so, co, vs, sb, cb, rfl, hA, b6⟩
      clear c0 c1' c2'
      have d := HKLH.out.below b6 HKLH.out.lt
      have d0 : w6.cell? ⟨w3.heap.size, 0, none⟩ = some (.int .i64 b.facts) := d.cell rfl
      have d1 : w6.cell? ⟨w3.heap.size, 1, none⟩ = some (.slice s2 (lessK b k).assume.length c2) := d.cell rfl
      have d2 : w6.cell? ⟨w3.heap.size, 2, none⟩ = some (.slice sr b.rules.length cr) := d.cell rfl
      have HA := Lib.hid hA; clear hA
      have HB6 := Lib.hid b6; clear b6 d
      have hp2 := HP2.out w6 HB6.out
      have hlv2 : lgV (lessK b k) s2 sr c2 cr = .agg #[.int .i64 b.facts, .slice s2 (lessK b k).assume.length c2, .slice sr b.rules.length cr] := rfl
      rw [hlv2] at hp2
      have HP := Lib.hid hp2; clear hp2 HP2 hlv2
      go_wp2_with (fail)
      refine HP.out.mono ?_
      clear HP
      rintro e w7 ⟨so2, co2, vs2, sb2, cb2, rfl, hB, b7⟩
      clear d0 d1 d2
      have hS := HA.out.below b7
      have hb7 : Below wh.heap.size wh w7 := HB6.out.trans (b7.mono HB6.out.size)
      have hW : ∀ U, Below wh.heap.size wh U → Below W1.heap.size W1 U := fun U hU => HEH.out.trans (hU.mono HEH.out.size)
      have HW := Lib.hid hW; clear hW
      obtain ⟨c0, _, _⟩ := HC.out w7 (HW.out _ hb7)
      have hl8 : (lessK b k).assume.length ≤ 8 := by have := less_len hkb; have := HSM.out.2; omega
      have hwb := without_any (labs b).bad k sb cb w7 hS.bad (labs_len HSM.out.2).2 (labs_lt HSM.out.2).2 (by omega)
      rw [without_up HUP.out.2] at hwb
      have HWB := Lib.hid hwb; clear hwb
      have HS := Lib.hid hS; clear hS
      have HT := Lib.hid hB; clear hB
      have HB7 := Lib.hid hb7; clear hb7 b7
      have hFF := HFF.out
      go_wp2_with (fail)
      refine HWB.out.mono ?_
      clear HWB
      rintro e w8 ⟨so3, co3, rfl, hS3, b8⟩
      have hsb := sameB_any (HT.out.bad.below b8) hS3 (labs_len hl8).2
      have HSB := Lib.hid hsb; clear hsb hS3
      have HB8 := Lib.hid b8; clear b8 c0
      go_wp2_with (fail)
      refine HSB.out.mono ?_
      clear HSB
      rintro e w9 ⟨rfl, b9⟩
      have HB9 := Lib.hid (HB8.out.trans (b9.mono HB8.out.size)); clear b9
      have hz0 : (0 : Int) ≤ k := by omega
      go_wp2
      go_loopw [13] (fun c wq => ∃ f : Nat, f ≤ F ∧ c = .int .i64 f ∧ Below w7.heap.size w7 wq) (fun c _ => F - (vInt c).toNat)
      case atStart => exact ⟨0, by omega, rfl, HB9.out⟩
      case round =>
        obtain ⟨f, hf, rfl, hbq⟩ := hrel
        have hend : ∀ U, Below w7.heap.size w7 U → Below W1.heap.size W1 U := fun U hU => HW.out U (HB7.out.trans (hU.mono HB7.out.size))
        have HEND := Lib.hid hend; clear hend
        obtain ⟨c0, _, _⟩ := HC.out wr (HEND.out wr hbq)
        rw [HFN.out] at c0
        by_cases hff : f < F
        · have hff' : (f : Int) < F := by omega
          obtain ⟨v, hv⟩ : ∃ v, v = vs f := ⟨_, rfl⟩
          obtain ⟨v2, hv2⟩ : ∃ v2, v2 = vs2 f := ⟨_, rfl⟩
          have hrow := HS.out.row f hff
          have hrow2 := HT.out.row f hff
          rw [← hv] at hrow
          rw [← hv2] at hrow2
          obtain ⟨X, hX⟩ : ∃ X, X = (labs b).lab f := ⟨_, rfl⟩
          obtain ⟨Y, hY⟩ : ∃ Y, Y = (labs (lessK b k)).lab f := ⟨_, rfl⟩
          have hXl : X.length ≤ 2304 := by rw [hX]; exact (labs_len HSM.out.2).1 f
          have hX6 : ∀ t ∈ X, t < 65536 := by rw [hX]; exact (labs_lt HSM.out.2).1 f
          have hYl : Y.length ≤ 2304 := by rw [hY]; exact (labs_len hl8).1 f
          have hupf : Up k X Y := by rw [hX, hY]; exact HUP.out.1 f
          rw [← hX] at hrow
          rw [← hY] at hrow2
          obtain ⟨sx, cx0, rfl, _, _⟩ := sl_slice hrow
          obtain ⟨sy, cy0, rfl, _, _⟩ := sl_slice hrow2
          obtain ⟨pb, po, rfl, _, _, hCp, hpl⟩ := sl_at HS.out.out (by omega)
          obtain ⟨qb, qo, rfl, _, _, hCq, hql⟩ := sl_at HT.out.out (by omega)
          have hmc : ∀ U, Below w7.heap.size w7 U → U.cell? ⟨qb, qo + f, none⟩ = some (.slice sy Y.length cy0) := fun U hU => ((hCq.below hU hql) f _ (rm_get hff)).trans (by rw [hv2])
          have hlc : ∀ U, Below w7.heap.size w7 U → U.cell? ⟨pb, po + f, none⟩ = some (.slice sx X.length cx0) := fun U hU => ((hCp.below hU hpl) f _ (rm_get hff)).trans (by rw [hv])
          have hwo : ∀ U, Below w7.heap.size w7 U → Calls Try.prog 33 #[.slice sx X.length cx0, .int .i64 k] U fun e w' => ∃ so co, e = .returned (.slice so Y.length co) ∧ Sl w' 1 (.slice so Y.length co) Y.length (ints Y) ∧ Below U.heap.size U w' := fun U hU => by
            have := without_any X k sx cx0 U (hrow.below hU) hXl hX6 (by omega)
            rwa [without_up hupf] at this
          have hrs : ∀ U, Below w7.heap.size w7 U → Calls Try.prog 22 #[.slice sx X.length cx0, .int .i64 k] U fun e w' => e = .returned (.bool (restsB X k)) ∧ Below U.heap.size U w' := fun U hU => prests_any X k sx cx0 U (hrow.below hU) (by omega) hX6
          have hre : restsB X k = (decide (0 < X.length) && decide (Y.length = 0)) := by
            rw [← up_rests hupf]
            unfold restsB
            rw [decide_eq_true (show (0 : Int) ≤ k by omega), decide_eq_true (show (k : Int) < 16 by omega), Int.toNat_natCast, Bool.true_and, Bool.true_and]
          rw [hre] at hrs
          have HMC := Lib.hid hmc; clear hmc
          have HLC := Lib.hid hlc; clear hlc
          have HWO := Lib.hid hwo; clear hwo
          have HR2 := Lib.hid hrow2; clear hrow2
          have HV := Lib.hid hv; clear hv
          have HV2 := Lib.hid hv2; clear hv2
          clear hrow hX6 hX hY hre hCp hCq hupf
          have eX : Below w7.heap.size w7 wr.drew := hbq.drew
          go_wp2
          haveI : Nonempty (SqC.Come fun U : World => Below w7.heap.size w7 U) := ⟨⟨_, eX⟩⟩
          refine SqC.wp_region_sqc 35 [9, 10, 18] (fun U => Below w7.heap.size w7 U) (by kernel_rfl) (by kernel_rfl) (by kernel_rfl) eX ?_
          obtain ⟨wd, hwd⟩ : ∃ wd : World, wd = wr.drew := ⟨_, rfl⟩
          rw [← hwd] at eX ⊢
          clear hwd hbq
          by_cases hx0 : 0 < X.length
          · rw [decide_eq_true hx0, Bool.true_and] at hrs
            have hx1 : 0 < X.length := hx0
            have HX0 := Lib.hid hx1; clear hx1 hx0
            by_cases hy0 : Y.length = 0
            · rw [decide_eq_true hy0] at hrs
              have hy1 : ((Y.length : Int) = 0) := by omega
              have HY0 := Lib.hid hy1; clear hy1 hy0
              have HRS := Lib.hid hrs; clear hrs
              iterate 3 (refine SqC.quiet rfl rfl ?_; go_big_quiet_step (fail); refine wpQuiet_nil ?_)
              refine SqC.value (.slice sy Y.length cy0) rfl rfl (by intro U hU; have cx := HMC.out U hU; go_simp) ?_
              simp only [Act.put, List.setIfInBounds_toArray, List.set_cons_zero, List.set_cons_succ]
              iterate 3 (refine SqC.quiet rfl rfl ?_; go_big_quiet_step (fail); refine wpQuiet_nil ?_)
              refine SqC.value (.slice sx X.length cx0) rfl rfl (by intro U hU; have cx := HLC.out U hU; go_simp) ?_
              simp only [Act.put, List.setIfInBounds_toArray, List.set_cons_zero, List.set_cons_succ]
              iterate 1 (refine SqC.quiet rfl rfl ?_; go_big_quiet_step (fail); refine wpQuiet_nil ?_)
              refine SqC.effect rfl rfl ?_
              refine yields_call rfl (by kernel_rfl) rfl rfl ((HWO.out wd eX).mono ?_)
              rintro e u1 ⟨so4, co4, rfl, hS4, d1⟩
              have e1 : Below w7.heap.size w7 u1 := eX.trans (d1.mono eX.size)
              refine ⟨_, rfl, fun _ => e1, ?_⟩
              simp only [Act.put, List.setIfInBounds_toArray, List.set_cons_zero, List.set_cons_succ]
              refine SqC.effect rfl rfl ?_
              refine yields_call rfl (by kernel_rfl) rfl rfl ((sameB_any (HR2.out.below e1) hS4 hYl).mono ?_)
              rintro e u2 ⟨rfl, d2⟩
              have e2 : Below w7.heap.size w7 u2 := e1.trans (d2.mono e1.size)
              refine ⟨_, rfl, fun _ => e2, ?_⟩
              simp only [Act.put, List.setIfInBounds_toArray, List.set_cons_zero, List.set_cons_succ]
              iterate 5 (refine SqC.quiet rfl rfl ?_; go_big_quiet_step (fail); refine wpQuiet_nil ?_)
              refine SqC.value (.slice sx X.length cx0) rfl rfl (by intro U hU; have cx := HLC.out U hU; go_simp) ?_
              simp only [Act.put, List.setIfInBounds_toArray, List.set_cons_zero, List.set_cons_succ]
              iterate 1 (refine SqC.quiet rfl rfl ?_; go_big_quiet_step (fail); refine wpQuiet_nil ?_)
              refine SqC.effect rfl rfl ?_
              refine yields_call rfl (by kernel_rfl) rfl rfl ((HRS.out u2 e2).mono ?_)
              rintro e u3 ⟨rfl, d3⟩
              have e3 : Below w7.heap.size w7 u3 := e2.trans (d3.mono e2.size)
              refine ⟨_, rfl, fun _ => e3, ?_⟩
              simp only [Act.put, List.setIfInBounds_toArray, List.set_cons_zero, List.set_cons_succ]
              iterate 3 (refine SqC.quiet rfl rfl ?_; go_big_quiet_step (fail); refine wpQuiet_nil ?_)
              refine SqC.value (.slice sx X.length cx0) rfl rfl (by intro U hU; have cx := HLC.out U hU; go_simp) ?_
              simp only [Act.put, List.setIfInBounds_toArray, List.set_cons_zero, List.set_cons_succ]
              iterate 1 (refine SqC.quiet rfl rfl ?_; go_big_quiet_step (fail); refine wpQuiet_nil ?_)
              refine SqC.value (.bool true) rfl rfl (by intro U hU; have cx := HX0.out; go_simp) ?_
              simp only [Act.put, List.setIfInBounds_toArray, List.set_cons_zero, List.set_cons_succ]
              iterate 1 (refine SqC.quiet rfl rfl ?_; go_big_quiet_step (fail); refine wpQuiet_nil ?_)
              iterate 3 (refine SqC.quiet rfl rfl ?_; go_big_quiet_step (fail); refine wpQuiet_nil ?_)
              refine SqC.value (.slice sy Y.length cy0) rfl rfl (by intro U hU; have cx := HMC.out U hU; go_simp) ?_
              simp only [Act.put, List.setIfInBounds_toArray, List.set_cons_zero, List.set_cons_succ]
              iterate 1 (refine SqC.quiet rfl rfl ?_; go_big_quiet_step (fail); refine wpQuiet_nil ?_)
              refine SqC.value (.bool true) rfl rfl (by intro U hU; have cx := HY0.out; go_simp) ?_
              simp only [Act.put, List.setIfInBounds_toArray, List.set_cons_zero, List.set_cons_succ]
              iterate 3 (refine SqC.quiet rfl rfl ?_; go_big_quiet_step (fail); refine wpQuiet_nil ?_)
              refine SqC.nil ?_
              have HE3 := Lib.hid e3
              clear d1 d2 d3 e1 e2 e3 eX
              go_wp2
              go_roundw
              case rel => exact ⟨f + 1, by omega, by go_num, HE3.out⟩
              case measure => simp [vInt]; omega
            · rw [decide_eq_false hy0] at hrs
              have hy1 : ¬ Y = [] := fun h => hy0 (by rw [h]; rfl)
              have HY0 := Lib.hid hy1; clear hy1 hy0
              have HRS := Lib.hid hrs; clear hrs
              iterate 3 (refine SqC.quiet rfl rfl ?_; go_big_quiet_step (fail); refine wpQuiet_nil ?_)
              refine SqC.value (.slice sy Y.length cy0) rfl rfl (by intro U hU; have cx := HMC.out U hU; go_simp) ?_
              simp only [Act.put, List.setIfInBounds_toArray, List.set_cons_zero, List.set_cons_succ]
              iterate 3 (refine SqC.quiet rfl rfl ?_; go_big_quiet_step (fail); refine wpQuiet_nil ?_)
              refine SqC.value (.slice sx X.length cx0) rfl rfl (by intro U hU; have cx := HLC.out U hU; go_simp) ?_
              simp only [Act.put, List.setIfInBounds_toArray, List.set_cons_zero, List.set_cons_succ]
              iterate 1 (refine SqC.quiet rfl rfl ?_; go_big_quiet_step (fail); refine wpQuiet_nil ?_)
              refine SqC.effect rfl rfl ?_
              refine yields_call rfl (by kernel_rfl) rfl rfl ((HWO.out wd eX).mono ?_)
              rintro e u1 ⟨so4, co4, rfl, hS4, d1⟩
              have e1 : Below w7.heap.size w7 u1 := eX.trans (d1.mono eX.size)
              refine ⟨_, rfl, fun _ => e1, ?_⟩
              simp only [Act.put, List.setIfInBounds_toArray, List.set_cons_zero, List.set_cons_succ]
              refine SqC.effect rfl rfl ?_
              refine yields_call rfl (by kernel_rfl) rfl rfl ((sameB_any (HR2.out.below e1) hS4 hYl).mono ?_)
              rintro e u2 ⟨rfl, d2⟩
              have e2 : Below w7.heap.size w7 u2 := e1.trans (d2.mono e1.size)
              refine ⟨_, rfl, fun _ => e2, ?_⟩
              simp only [Act.put, List.setIfInBounds_toArray, List.set_cons_zero, List.set_cons_succ]
              iterate 5 (refine SqC.quiet rfl rfl ?_; go_big_quiet_step (fail); refine wpQuiet_nil ?_)
              refine SqC.value (.slice sx X.length cx0) rfl rfl (by intro U hU; have cx := HLC.out U hU; go_simp) ?_
              simp only [Act.put, List.setIfInBounds_toArray, List.set_cons_zero, List.set_cons_succ]
              iterate 1 (refine SqC.quiet rfl rfl ?_; go_big_quiet_step (fail); refine wpQuiet_nil ?_)
              refine SqC.effect rfl rfl ?_
              refine yields_call rfl (by kernel_rfl) rfl rfl ((HRS.out u2 e2).mono ?_)
              rintro e u3 ⟨rfl, d3⟩
              have e3 : Below w7.heap.size w7 u3 := e2.trans (d3.mono e2.size)
              refine ⟨_, rfl, fun _ => e3, ?_⟩
              simp only [Act.put, List.setIfInBounds_toArray, List.set_cons_zero, List.set_cons_succ]
              iterate 3 (refine SqC.quiet rfl rfl ?_; go_big_quiet_step (fail); refine wpQuiet_nil ?_)
              refine SqC.value (.slice sx X.length cx0) rfl rfl (by intro U hU; have cx := HLC.out U hU; go_simp) ?_
              simp only [Act.put, List.setIfInBounds_toArray, List.set_cons_zero, List.set_cons_succ]
              iterate 1 (refine SqC.quiet rfl rfl ?_; go_big_quiet_step (fail); refine wpQuiet_nil ?_)
              refine SqC.value (.bool true) rfl rfl (by intro U hU; have cx := HX0.out; go_simp) ?_
              simp only [Act.put, List.setIfInBounds_toArray, List.set_cons_zero, List.set_cons_succ]
              iterate 1 (refine SqC.quiet rfl rfl ?_; go_big_quiet_step (fail); refine wpQuiet_nil ?_)
              iterate 3 (refine SqC.quiet rfl rfl ?_; go_big_quiet_step (fail); refine wpQuiet_nil ?_)
              refine SqC.value (.slice sy Y.length cy0) rfl rfl (by intro U hU; have cx := HMC.out U hU; go_simp) ?_
              simp only [Act.put, List.setIfInBounds_toArray, List.set_cons_zero, List.set_cons_succ]
              iterate 1 (refine SqC.quiet rfl rfl ?_; go_big_quiet_step (fail); refine wpQuiet_nil ?_)
              refine SqC.value (.bool false) rfl rfl (by intro U hU; have cx := HY0.out; go_simp) ?_
              simp only [Act.put, List.setIfInBounds_toArray, List.set_cons_zero, List.set_cons_succ]
              iterate 3 (refine SqC.quiet rfl rfl ?_; go_big_quiet_step (fail); refine wpQuiet_nil ?_)
              refine SqC.nil ?_
              have HE3 := Lib.hid e3
              clear d1 d2 d3 e1 e2 e3 eX
              go_wp2
              go_roundw
              case rel => exact ⟨f + 1, by omega, by go_num, HE3.out⟩
              case measure => simp [vInt]; omega
          · rw [decide_eq_false hx0, Bool.false_and] at hrs
            have hx1 : X = [] := List.length_eq_zero_iff.1 (by omega)
            have HX0 := Lib.hid hx1; clear hx1 hx0
            have HRS := Lib.hid hrs; clear hrs
            iterate 3 (refine SqC.quiet rfl rfl ?_; go_big_quiet_step (fail); refine wpQuiet_nil ?_)
            refine SqC.value (.slice sy Y.length cy0) rfl rfl (by intro U hU; have cx := HMC.out U hU; go_simp) ?_
            simp only [Act.put, List.setIfInBounds_toArray, List.set_cons_zero, List.set_cons_succ]
            iterate 3 (refine SqC.quiet rfl rfl ?_; go_big_quiet_step (fail); refine wpQuiet_nil ?_)
            refine SqC.value (.slice sx X.length cx0) rfl rfl (by intro U hU; have cx := HLC.out U hU; go_simp) ?_
            simp only [Act.put, List.setIfInBounds_toArray, List.set_cons_zero, List.set_cons_succ]
            iterate 1 (refine SqC.quiet rfl rfl ?_; go_big_quiet_step (fail); refine wpQuiet_nil ?_)
            refine SqC.effect rfl rfl ?_
            refine yields_call rfl (by kernel_rfl) rfl rfl ((HWO.out wd eX).mono ?_)
            rintro e u1 ⟨so4, co4, rfl, hS4, d1⟩
            have e1 : Below w7.heap.size w7 u1 := eX.trans (d1.mono eX.size)
            refine ⟨_, rfl, fun _ => e1, ?_⟩
            simp only [Act.put, List.setIfInBounds_toArray, List.set_cons_zero, List.set_cons_succ]
            refine SqC.effect rfl rfl ?_
            refine yields_call rfl (by kernel_rfl) rfl rfl ((sameB_any (HR2.out.below e1) hS4 hYl).mono ?_)
            rintro e u2 ⟨rfl, d2⟩
            have e2 : Below w7.heap.size w7 u2 := e1.trans (d2.mono e1.size)
            refine ⟨_, rfl, fun _ => e2, ?_⟩
            simp only [Act.put, List.setIfInBounds_toArray, List.set_cons_zero, List.set_cons_succ]
            iterate 5 (refine SqC.quiet rfl rfl ?_; go_big_quiet_step (fail); refine wpQuiet_nil ?_)
            refine SqC.value (.slice sx X.length cx0) rfl rfl (by intro U hU; have cx := HLC.out U hU; go_simp) ?_
            simp only [Act.put, List.setIfInBounds_toArray, List.set_cons_zero, List.set_cons_succ]
            iterate 1 (refine SqC.quiet rfl rfl ?_; go_big_quiet_step (fail); refine wpQuiet_nil ?_)
            refine SqC.effect rfl rfl ?_
            refine yields_call rfl (by kernel_rfl) rfl rfl ((HRS.out u2 e2).mono ?_)
            rintro e u3 ⟨rfl, d3⟩
            have e3 : Below w7.heap.size w7 u3 := e2.trans (d3.mono e2.size)
            refine ⟨_, rfl, fun _ => e3, ?_⟩
            simp only [Act.put, List.setIfInBounds_toArray, List.set_cons_zero, List.set_cons_succ]
            iterate 3 (refine SqC.quiet rfl rfl ?_; go_big_quiet_step (fail); refine wpQuiet_nil ?_)
            refine SqC.value (.slice sx X.length cx0) rfl rfl (by intro U hU; have cx := HLC.out U hU; go_simp) ?_
            simp only [Act.put, List.setIfInBounds_toArray, List.set_cons_zero, List.set_cons_succ]
            iterate 1 (refine SqC.quiet rfl rfl ?_; go_big_quiet_step (fail); refine wpQuiet_nil ?_)
            refine SqC.value (.bool false) rfl rfl (by intro U hU; have cx := HX0.out; go_simp) ?_
            simp only [Act.put, List.setIfInBounds_toArray, List.set_cons_zero, List.set_cons_succ]
            iterate 1 (refine SqC.quiet rfl rfl ?_; go_big_quiet_step (fail); refine wpQuiet_nil ?_)
            iterate 6 (refine SqC.skip rfl ?_; simp only [Act.put, List.setIfInBounds_toArray, List.set_cons_zero, List.set_cons_succ])
            iterate 3 (refine SqC.quiet rfl rfl ?_; go_big_quiet_step (fail); refine wpQuiet_nil ?_)
            refine SqC.nil ?_
            have HE3 := Lib.hid e3
            clear d1 d2 d3 e1 e2 e3 eX
            go_wp2
            go_roundw
            case rel => exact ⟨f + 1, by omega, by go_num, HE3.out⟩
            case measure => simp [vInt]; omega
        · have hff' : ((f : Int) < F) = False := eq_false (by omega)
          have HBQ := Lib.hid hbq; clear hbq
          go_wp2_with (fail)
          refine (lives_any _).mono ?_
          rintro e u ⟨rfl, b8⟩
          go_wp2
          go_ret
          exact ⟨rfl, HBOX.out.below (HEND.out _ (HBQ.out.trans (b8.mono HBQ.out.size)))⟩
end Go.Proofs.Ytcbmifaobdamhaa

/- label: the walk over LabelLeast. -/
import Derived.Test.YtcbmifaobdamhaaA31
namespace Go.Proofs.Ytcbmifaobdamhaa
open Go.RowKit Go.Own Go.Theory Go.BigFrame Go.Ib Go.Label Go.Shelf
attribute [local irreducible] SqC.SqW
set_option maxRecDepth 100000 in
set_option maxHeartbeats 4000000 in
theorem law_least (b : Lg) (s : Int) (sa sr : Option Addr) (ca cr : Nat) (bs : List Value) (hrg : LgRg b) (w : World) (h : LgAt w b sa sr ca cr bs) :
    Calls Try.prog 6 #[lgV b sa sr ca cr, .int .i64 s] w fun e w' => e = .returned (.bool true) ∧ Below w.heap.size w w' := by
  have hlgV : lgV b sa sr ca cr = .agg #[.int .i64 b.facts, .slice sa b.assume.length ca, .slice sr b.rules.length cr] := rfl
  have hbox := box_new w b sa sr ca cr 25
  obtain ⟨W1, hW1⟩ : ∃ W1, W1 = w.alloc (.cells #[.int .i64 b.facts, .slice sa b.assume.length ca, .slice sr b.rules.length cr] 25) := ⟨_, rfl⟩
  rw [← hW1] at hbox
  have hH := h.below hbox.b1
  have h1 := small_any b sa sr ca cr bs hrg W1 hH
  rw [hlgV] at h1 ⊢
  have HBOX := Lib.hid hbox; clear hbox
  have HH := Lib.hid hH; clear hH h
  have HW1 := Lib.hid hW1; clear hW1
  have H1 := Lib.hid h1; clear h1
  have HRG := Lib.hid hrg; clear hrg
  have HLV := Lib.hid hlgV; clear hlgV
  go_enter Try.func6, Try.ntmps6
  go_wp2_with (fail)
  rw [← HW1.out]
  refine H1.out.mono ?_
  clear H1
  rintro e w2 ⟨rfl, b2⟩
  obtain ⟨c0, c1, c2⟩ := HBOX.out.cell w2 b2
  have HB2 := Lib.hid b2; clear b2
  cases hsm : smallB b with
  | false =>
    clear hsm
    go_wp2_with (fail)
    refine (lives_any _).mono ?_
    rintro e w3 ⟨rfl, b3⟩
    go_wp2
    go_ret
    exact ⟨rfl, HBOX.out.below (HB2.out.trans (b3.mono HB2.out.size))⟩
  | true =>
    have hsm2 : valE b = 0 ∧ b.assume.length ≤ 8 := by
      unfold smallB at hsm
      rw [Bool.and_eq_true, decide_eq_true_eq, decide_eq_true_eq] at hsm
      exact hsm
    clear hsm
    have ok := valE_ok.1 hsm2.1
    have hi := ris_any b s sa sr ca cr ok.a16 w2
    rw [HLV.out] at hi
    have HI := Lib.hid hi; clear hi
    have HOK := Lib.hid ok; clear ok
    have HSM := Lib.hid hsm2; clear hsm2
    go_wp2_with (fail)
    refine HI.out.mono ?_
    clear HI
    rintro e w3 ⟨rfl, b3⟩
    have hb3 : Below W1.heap.size W1 w3 := HB2.out.trans (b3.mono HB2.out.size)
    clear c0 c1 c2 b3
    obtain ⟨c0, c1, c2⟩ := HBOX.out.cell w3 hb3
    have HB3 := Lib.hid hb3; clear hb3
    cases his : isB b s with
    | false =>
      clear his
      go_wp2_with (fail)
      refine (lives_any _).mono ?_
      rintro e w4 ⟨rfl, b4⟩
      go_wp2
      go_ret
      exact ⟨rfl, HBOX.out.below (HB3.out.trans (b4.mono HB3.out.size))⟩
    | true =>
      obtain ⟨m, hm, hm6⟩ := isB_nat HOK.out his
      subst hm
      have HIS := Lib.hid his; clear his
      obtain ⟨F, hF⟩ : ∃ F : Nat, b.facts = F := ⟨b.facts.toNat, by have := HOK.out.f0; omega⟩
      have hF64 : F ≤ 64 := by have := HOK.out.f64; omega
      have hlab := labels_any b F sa sr ca cr bs HRG.out w3 (HH.out.below HB3.out) HOK.out hF HSM.out.2
      have hg : m < 2 ^ b.assume.length := by
        have h1 := HIS.out
        unfold isB at h1
        rw [Bool.and_eq_true, decide_eq_true_eq, decide_eq_true_eq] at h1
        exact Int.ofNat_lt.1 h1.2
      obtain ⟨L, hL⟩ : ∃ L, L = labs b := ⟨_, rfl⟩
      have hlen : (∀ f, (L.lab f).length ≤ 2304) ∧ L.bad.length ≤ 2304 := by rw [hL]; exact labs_len HSM.out.2
      have hlt : (∀ f, ∀ t ∈ L.lab f, t < 65536) ∧ ∀ t ∈ L.bad, t < 65536 := by rw [hL]; exact labs_lt HSM.out.2
      have hinv : Inv b (ordL b.assume.length) L := by rw [hL]; exact labels_inv HOK.out _
      obtain ⟨bw, hwr⟩ : ∃ bw, bw = badS b m := ⟨_, rfl⟩
      have hbl : (L.bad.any fun x => prt x m) = bw := by rw [hL, hwr]; exact bad_law HOK.out hg
      have hll : bw = false → ∀ f, ((L.lab f).any fun x => prt x m) = (fol b m).testBit f := fun h f => by rw [hL]; exact lab_law HOK.out hg (by rw [← hwr]; exact h)
      have hlb : ∀ f, ∀ t ∈ L.lab f, (L.bad.any fun x => prt x t) = false := fun f t ht => by rw [hL] at ht ⊢; exact labbad_law HOK.out ht
      have hfl : folsL b m = (List.range F).map fun f => (fol b m).testBit f := by
        unfold folsL
        rw [if_pos ⟨HSM.out.1, HIS.out⟩, hF]
        simp
      have hfb : folsB b m = bw := by
        unfold folsB
        rw [HSM.out.1, HIS.out, hwr]
        simp
      rw [← hL, HLV.out] at hlab
      have HLAB := Lib.hid hlab; clear hlab hL
      have HWR := Lib.hid hwr; clear hwr
      have HLEN := Lib.hid hlen; clear hlen
      have HLT := Lib.hid hlt; clear hlt
      have HINV := Lib.hid hinv; clear hinv
      have HBL := Lib.hid hbl; clear hbl
      have HLL := Lib.hid hll; clear hll
      have HLB := Lib.hid hlb; clear hlb
      have HFL := Lib.hid hfl; clear hfl
      have HFB := Lib.hid hfb; clear hfb
      have HFF := Lib.hid hF; clear hF hg
      go_wp2_with (fail)
      refine HLAB.out.mono ?_
      clear HLAB
      rintro e w4 ⟨P, vs, sb, cb, rfl, hlr, b4⟩
      have hb4 : Below W1.heap.size W1 w4 := HB3.out.trans (b4.mono HB3.out.size)
      clear c0 c1 c2 b4
      obtain ⟨c0, c1, c2⟩ := HBOX.out.cell w4 hb4
      have hfo := pfollows_any b m sa sr ca cr bs HRG.out w4 (HH.out.below hb4) trivial
      rw [HLV.out, HFB.out, HFL.out] at hfo
      rw [List.length_map, List.length_range] at hfo
      have HFO := Lib.hid hfo; clear hfo
      have HB4 := Lib.hid hb4; clear hb4
      have HLR := Lib.hid hlr; clear hlr
      go_wp2_with (fail)
      refine HFO.out.mono ?_
      clear HFO
      rintro e w5 ⟨so, co, rfl, hkn, b5⟩
      have hb5 : Below W1.heap.size W1 w5 := HB4.out.trans (b5.mono HB4.out.size)
      clear c0 c1 c2
      have hlr5 := HLR.out.below b5
      clear HLR b5
      obtain ⟨c0, c1, c2⟩ := HBOX.out.cell w5 hb5
      rw [HFF.out] at c0
      have hp5 := lpart_any L.bad m sb cb w5 hlr5.bad (by have := HLEN.out.2; omega) HLT.out.2 hm6
      rw [HBL.out] at hp5
      have HP5 := Lib.hid hp5; clear hp5
      have HB5 := Lib.hid hb5; clear hb5
      have HLR := Lib.hid hlr5; clear hlr5
      have HKN := Lib.hid hkn; clear hkn
      have hww : (bw != bw) = false := by simp
      have hFF : ((F : Int) != (F : Int)) = false := by simp
      go_wp2_with (fail)
      refine HP5.out.mono ?_
      clear HP5
      rintro e w6 ⟨rfl, b6⟩
      have hap := apart_any L.bad sb cb w6 (HLR.out.bad.below b6) (by have := HLEN.out.2; omega) HLT.out.2 HINV.out.i3
      have HAP := Lib.hid hap; clear hap
      have HB6 := Lib.hid b6; clear b6
      go_wp2_with (fail)
      refine HAP.out.mono ?_
      clear HAP
      rintro e w7 ⟨rfl, b7⟩
      have hb7 : Below w5.heap.size w5 w7 := HB6.out.trans (b7.mono HB6.out.size)
      clear HB6 b7 c0 c1 c2
      have hend : ∀ U, Below w5.heap.size w5 U → Below w.heap.size w U := fun U hU => HBOX.out.below (HB5.out.trans (hU.mono HB5.out.size))
      have HEND := Lib.hid hend; clear hend
      have hboxc : ∀ U, Below w5.heap.size w5 U → U.cell? ⟨w.heap.size, 0, none⟩ = some (.int .i64 F) := fun U hU => by
        have := (HBOX.out.cell U (HB5.out.trans (hU.mono HB5.out.size))).1
        rwa [HFF.out] at this
      have HC := Lib.hid hboxc; clear hboxc
      go_wp2
      go_loopw [10] (fun c wq => ∃ f : Nat, f ≤ F ∧ c = .int .i64 f ∧ Below w5.heap.size w5 wq) (fun c _ => F - (vInt c).toNat)
      case atStart => exact ⟨0, by omega, rfl, hb7⟩
      case round =>
        obtain ⟨f, hf, rfl, hbq⟩ := hrel
        have c0 := HC.out wr hbq
        by_cases hff : f < F
        · have hff' : (f : Int) < F := by omega
          obtain ⟨X, hX⟩ : ∃ X, X = L.lab f := ⟨_, rfl⟩
          have hrow := HLR.out.row f hff
          rw [← hX] at hrow
          obtain ⟨v, hv⟩ : ∃ v, v = vs f := ⟨_, rfl⟩
          rw [← hv] at hrow
          obtain ⟨sx, cx0, rfl, _, _⟩ := sl_slice hrow
          have hlc : ∀ U, Below w5.heap.size w5 U → U.cell? ⟨P, f, none⟩ = some (.slice sx X.length cx0) := fun U hU => ((HLR.out.below hU).blk.cell (rm_get hff)).trans (by rw [hv])
          have hXl : X.length ≤ 1000000 := by rw [hX]; have := HLEN.out.1 f; omega
          have hX6 : ∀ t ∈ X, t < 65536 := by rw [hX]; exact HLT.out.1 f
          have hap : ∀ U, Below w5.heap.size w5 U → Calls Try.prog 31 #[.slice sx X.length cx0] U fun e w' => e = .returned (.bool true) ∧ Below U.heap.size U w' := fun U hU => apart_any X sx cx0 U (hrow.below hU) hXl hX6 (by rw [hX]; exact HINV.out.i6 f)
          obtain ⟨kv, hkv⟩ : ∃ kv, kv = (fol b m).testBit f := ⟨_, rfl⟩
          have hpt : bw = false → ∀ U, Below w5.heap.size w5 U → Calls Try.prog 30 #[.slice sx X.length cx0, .int .i64 m] U fun e w' => e = .returned (.bool kv) ∧ Below U.heap.size U w' := fun h U hU => by
            have := lpart_any X m sx cx0 U (hrow.below hU) hXl hX6 hm6
            rwa [hX, HLL.out h f, ← hkv, ← hX] at this
          have hpb : ∀ i (hi : i < X.length), ∀ U, Below w5.heap.size w5 U → Calls Try.prog 30 #[.slice sb L.bad.length cb, .int .i64 (X[i] : Nat)] U fun e w' => e = .returned (.bool false) ∧ Below U.heap.size U w' := fun i hi U hU => by
            have h1 : X[i] ∈ X := List.getElem_mem hi
            have := lpart_any L.bad X[i] sb cb U (HLR.out.bad.below hU) (by have := HLEN.out.2; omega) HLT.out.2 (hX6 _ h1)
            rwa [HLB.out f X[i] (by rw [← hX]; exact h1)] at this
          obtain ⟨ka, ko, rfl, _, _, hCk, hkl⟩ := sl_at HKN.out (by omega)
          have hkc : ∀ U, Below w5.heap.size w5 U → U.cell? ⟨ka, ko + f, none⟩ = some (.bool kv) := fun U hU => (hCk.below hU hkl) f _ (by simp [hff, hkv])
          have hkk : (kv != kv) = false := by simp
          have HROW := Lib.hid hrow; clear hrow
          have HLC := Lib.hid hlc; clear hlc
          have HAPX := Lib.hid hap; clear hap
          have HPT := Lib.hid hpt; clear hpt
          have HPB := Lib.hid hpb; clear hpb
          have HKC := Lib.hid hkc; clear hkc hCk
          have HKV := Lib.hid hkv; clear hkv
          have HVV := Lib.hid hv; clear hv
          have HXX := Lib.hid hX; clear hX
          have HX6 := Lib.hid hX6; clear hX6
          have eX : Below w5.heap.size w5 wr.drew := hbq.drew
          haveI : Nonempty (SqC.Come fun U : World => Below w5.heap.size w5 U) := ⟨⟨_, eX⟩⟩
          clear c0
          cases bw with
          | true =>
            have c0 := HC.out wr hbq
            go_wp2
            refine SqC.wp_region_sqc 23 [4, 15] (fun U => Below w5.heap.size w5 U) (by kernel_rfl) (by kernel_rfl) (by kernel_rfl) eX ?_
            obtain ⟨wd, hwd⟩ : ∃ wd : World, wd = wr.drew := ⟨_, rfl⟩
            rw [← hwd] at eX ⊢
            clear hwd hbq c0
            iterate 3 (refine SqC.quiet rfl rfl ?_; go_big_quiet_step (fail); refine wpQuiet_nil ?_)
            refine SqC.value (.slice sx X.length cx0) rfl rfl (by intro U hU; have cx := HLC.out U hU; go_simp) ?_
            simp only [Act.put, List.setIfInBounds_toArray, List.set_cons_zero, List.set_cons_succ]
            refine SqC.effect rfl rfl ?_
            refine yields_call rfl (by kernel_rfl) rfl rfl ((HAPX.out wd eX).mono ?_)
            rintro e w8 ⟨rfl, b8⟩
            have e8 : Below w5.heap.size w5 w8 := eX.trans (b8.mono eX.size)
            refine ⟨_, rfl, fun _ => e8, ?_⟩
            simp only [Act.put, List.setIfInBounds_toArray, List.set_cons_zero, List.set_cons_succ]
            iterate 5 (refine SqC.quiet rfl rfl ?_; go_big_quiet_step (fail); refine wpQuiet_nil ?_)
            iterate 11 (refine SqC.skip rfl ?_; simp only [Act.put, List.setIfInBounds_toArray, List.set_cons_zero, List.set_cons_succ])
            iterate 2 (refine SqC.quiet rfl rfl ?_; go_big_quiet_step (fail); refine wpQuiet_nil ?_)
            refine SqC.nil ?_
            have HB9 := Lib.hid e8; clear e8 b8 eX
            go_wp2
            go_loopw [11] (fun c wv => ∃ i : Nat, i ≤ X.length ∧ c = .int .i64 i ∧ Below w5.heap.size w5 wv) (fun c _ => X.length - (vInt c).toNat)
            case atStart => exact ⟨0, by omega, rfl, HB9.out⟩
            case round =>
              obtain ⟨i, hi, rfl, hbv⟩ := hrel
              have cl := HLC.out wr hbv
              by_cases hii : i < X.length
              · have hii' : (i : Int) < X.length := by omega
                obtain ⟨xb, xo, rfl, _, _, hCx, hxl⟩ := sl_at HROW.out (by omega)
                obtain ⟨x, hx⟩ : ∃ x, x = X[i] := ⟨_, rfl⟩
                have cx : wr.cell? ⟨xb, xo + i, none⟩ = some (.int .i64 (x : Nat)) := (hCx.below hbv hxl) i _ (by rw [ints_at hii, hx])
                have hpb := HPB.out i hii wr hbv
                rw [← hx] at hpb
                have HPX := Lib.hid hpb; clear hpb hx hCx
                have HBV := Lib.hid hbv; clear hbv
                go_wp2_with (fail)
                refine HPX.out.mono ?_
                rintro e wz ⟨rfl, bz⟩
                go_wp2
                go_roundw
                case rel => exact ⟨i + 1, by omega, by go_num, HBV.out.trans (bz.mono HBV.out.size)⟩
                case measure => simp [vInt]; omega
              · have hii' : ((i : Int) < X.length) = False := eq_false (by omega)
                have HBV := Lib.hid hbv; clear hbv
                go_wp2
                go_roundw
                case rel => exact ⟨f + 1, by omega, by go_num, HBV.out⟩
                case measure => simp [vInt]; omega
          | false =>
            have c0 := HC.out wr hbq
            go_wp2
            refine SqC.wp_region_sqc 23 [4, 15] (fun U => Below w5.heap.size w5 U) (by kernel_rfl) (by kernel_rfl) (by kernel_rfl) eX ?_
            obtain ⟨wd, hwd⟩ : ∃ wd : World, wd = wr.drew := ⟨_, rfl⟩
            rw [← hwd] at eX ⊢
            clear hwd hbq c0
            iterate 3 (refine SqC.quiet rfl rfl ?_; go_big_quiet_step (fail); refine wpQuiet_nil ?_)
            refine SqC.value (.slice sx X.length cx0) rfl rfl (by intro U hU; have cx := HLC.out U hU; go_simp) ?_
            simp only [Act.put, List.setIfInBounds_toArray, List.set_cons_zero, List.set_cons_succ]
            refine SqC.effect rfl rfl ?_
            refine yields_call rfl (by kernel_rfl) rfl rfl ((HAPX.out wd eX).mono ?_)
            rintro e w8 ⟨rfl, b8⟩
            have e8 : Below w5.heap.size w5 w8 := eX.trans (b8.mono eX.size)
            refine ⟨_, rfl, fun _ => e8, ?_⟩
            simp only [Act.put, List.setIfInBounds_toArray, List.set_cons_zero, List.set_cons_succ]
            iterate 8 (refine SqC.quiet rfl rfl ?_; go_big_quiet_step (fail); refine wpQuiet_nil ?_)
            refine SqC.value (.slice sx X.length cx0) rfl rfl (by intro U hU; have cx := HLC.out U hU; go_simp) ?_
            simp only [Act.put, List.setIfInBounds_toArray, List.set_cons_zero, List.set_cons_succ]
            iterate 1 (refine SqC.quiet rfl rfl ?_; go_big_quiet_step (fail); refine wpQuiet_nil ?_)
            refine SqC.effect rfl rfl ?_
            refine yields_call rfl (by kernel_rfl) rfl rfl ((HPT.out trivial w8 e8).mono ?_)
            rintro e w9 ⟨rfl, b9⟩
            have e9 : Below w5.heap.size w5 w9 := e8.trans (b9.mono e8.size)
            refine ⟨_, rfl, fun _ => e9, ?_⟩
            simp only [Act.put, List.setIfInBounds_toArray, List.set_cons_zero, List.set_cons_succ]
            iterate 3 (refine SqC.quiet rfl rfl ?_; go_big_quiet_step (fail); refine wpQuiet_nil ?_)
            refine SqC.value (.bool kv) rfl rfl (by intro U hU; have cx := HKC.out U hU; go_simp) ?_
            simp only [Act.put, List.setIfInBounds_toArray, List.set_cons_zero, List.set_cons_succ]
            iterate 3 (refine SqC.quiet rfl rfl ?_; go_big_quiet_step (fail); refine wpQuiet_nil ?_)
            refine SqC.nil ?_
            have HB9 := Lib.hid e9; clear e9 b9 e8 b8 eX
            go_wp2
            go_loopw [11] (fun c wv => ∃ i : Nat, i ≤ X.length ∧ c = .int .i64 i ∧ Below w5.heap.size w5 wv) (fun c _ => X.length - (vInt c).toNat)
            case atStart => exact ⟨0, by omega, rfl, HB9.out⟩
            case round =>
              obtain ⟨i, hi, rfl, hbv⟩ := hrel
              have cl := HLC.out wr hbv
              by_cases hii : i < X.length
              · have hii' : (i : Int) < X.length := by omega
                obtain ⟨xb, xo, rfl, _, _, hCx, hxl⟩ := sl_at HROW.out (by omega)
                obtain ⟨x, hx⟩ : ∃ x, x = X[i] := ⟨_, rfl⟩
                have cx : wr.cell? ⟨xb, xo + i, none⟩ = some (.int .i64 (x : Nat)) := (hCx.below hbv hxl) i _ (by rw [ints_at hii, hx])
                have hpb := HPB.out i hii wr hbv
                rw [← hx] at hpb
                have HPX := Lib.hid hpb; clear hpb hx hCx
                have HBV := Lib.hid hbv; clear hbv
                go_wp2_with (fail)
                refine HPX.out.mono ?_
                rintro e wz ⟨rfl, bz⟩
                go_wp2
                go_roundw
                case rel => exact ⟨i + 1, by omega, by go_num, HBV.out.trans (bz.mono HBV.out.size)⟩
                case measure => simp [vInt]; omega
              · have hii' : ((i : Int) < X.length) = False := eq_false (by omega)
                have HBV := Lib.hid hbv; clear hbv
                go_wp2
                go_roundw
                case rel => exact ⟨f + 1, by omega, by go_num, HBV.out⟩
                case measure => simp [vInt]; omega
        · have hff' : ((f : Int) < F) = False := eq_false (by omega)
          have HBQ := Lib.hid hbq; clear hbq
          go_wp2_with (fail)
          refine (lives_any _).mono ?_
          rintro e w8 ⟨rfl, b8⟩
          go_wp2
          go_ret
          exact ⟨rfl, HEND.out _ (HBQ.out.trans (b8.mono HBQ.out.size))⟩
end Go.Proofs.Ytcbmifaobdamhaa

/- order: the law OrderCosts. -/
import Derived.Test.YtnkinjilnccmfaaL5
namespace Go.Proofs.Ytnkinjilnccmfaa
open Go.RowKit Go.Own Go.BigFrame Go.Big Go.Order
set_option maxRecDepth 100000 in
set_option maxHeartbeats 6400000 in
theorem orderCosts_any (l : List Spl) (s : Option Addr) (ca : Nat) (w : World) (hl : Lst w (.slice s l.length ca) l) (hn : l.length < 4611686018427387904) :
    Calls Try.prog 6 #[.slice s l.length ca] w fun e w' => e = .returned (.bool true) ∧ Below w.heap.size w w' := by
  by_cases h200 : l.length ≤ 200
  case neg =>
    have g1 : (200 < (l.length : Int)) = True := eq_true (by omega)
    clear hl hn h200
    go_enter Try.func6, Try.ntmps6
    go_wp2_with (fail)
    refine (lives_any w).mono ?_
    rintro e w2 ⟨rfl, b2⟩
    go_wp2
    go_ret
    exact ⟨rfl, b2⟩
  have g1 : (200 < (l.length : Int)) = False := eq_false (by omega)
  have hp := plain_any l s ca w hl hn
  have HP := Lib.hid hp; clear hp
  have HL := Lib.hid hl; clear hl
  have HN := Lib.hid h200; clear h200 hn
  go_enter Try.func6, Try.ntmps6
  go_wp2_with (fail)
  refine HP.out.mono ?_
  rintro e w2 ⟨pb, rfl, b2⟩
  have B2 := Lib.hid b2; clear b2 HP
  cases pb with
  | false =>
    go_wp2_with (fail)
    refine (lives_any w2).mono ?_
    rintro e w3 ⟨rfl, b3⟩
    go_wp2
    go_ret
    exact ⟨rfl, B2.out.trans (b3.mono B2.out.size)⟩
  | true =>
    clear g1
    go_wp2
    go_loopw [3] (fun v wr => ∃ i : Nat, i ≤ l.length ∧ v = .int .i64 i ∧ Below w.heap.size w wr) (fun v _ => l.length - (vInt v).toNat)
    case atStart => exact ⟨0, Nat.zero_le _, rfl, B2.out⟩
    case round =>
      obtain ⟨i, hi, rfl, hbr⟩ := hrel
      by_cases h1 : i < l.length
      · have h1' : (i : Int) < l.length := by omega
        obtain ⟨x, hx⟩ : ∃ x, x = l[i] := ⟨_, rfl⟩
        obtain ⟨g, o, rfl, _, _, _, hC, hg⟩ := (HL.out).at (by omega)
        have hld : ∀ U, Below w.heap.size w U → (loadVar 58 ⟨g, o + i * 10, none⟩).run Try.prog U = .ok x.v U := fun U hU => by
          refine run_load_agg (P := Try.prog) (ty := 58) (vs := x.cells) (fun j v hj => ?_) aggS infoS
          rw [hx] at hj
          exact (hU.cell (p := ⟨g, o + i * 10 + j, none⟩) hg).trans (hC i j v h1 hj)
        have HLD := Lib.hid hld; clear hld
        obtain ⟨C, hCo⟩ : ∃ C : Nat, C = x.cost := ⟨_, rfl⟩
        have hc1 := fun U => cost_any x U
        have hc2 := fun U => rcost_any x U
        rw [← hCo] at hc1 hc2
        have HC1 := Lib.hid hc1; clear hc1
        have HC2 := Lib.hid hc2; clear hc2
        obtain ⟨xv, hxv⟩ : ∃ xv, xv = x.v := ⟨_, rfl⟩
        rw [← hxv] at HLD HC1 HC2
        clear hCo hxv hx hC
        go_wp2_with (fail)
        have HBR := Lib.hid hbr; clear hbr
        refine wp_region_sqB 10 [3, 4, 8, 9] (fun i v W => match i with
          | 3 => v = xv
          | 4 => v = .int .i64 (C : Int)
          | 8 => v = xv
          | 9 => v = .int .i64 (C : Int)
          | _ => True) (by kernel_rfl) (by kernel_rfl) ?stable ?main
        case stable =>
          intro i v W W' h hb
          match i, h with
          | 0, h => exact h
          | 1, h => exact h
          | 2, h => exact h
          | 3, h => exact h
          | 4, h => exact h
          | 5, h => exact h
          | 6, h => exact h
          | 7, h => exact h
          | 8, h => exact h
          | 9, h => exact h
          | _ + 10, _ => exact trivial
        simp only [List.take_succ_cons, List.take_zero, List.drop_succ_cons, List.drop_zero]
        have hxu : ∀ W, ExtB wr.drew W → Below w.heap.size w W := fun W hW => HBR.out.trans ((ExtB.undrew hW).mono HBR.out.size)
        iterate 3 (refine sqw_quiet rfl rfl (ExtB.refl _) ?_; go_big_quiet_step (fail); refine wpQuiet_nil ?_)
        refine sqw_postY rfl rfl rfl ?_ ?_
        · intro W hb hf
          exact yields_value (load_agg_exec rfl rfl (HLD.out W (hxu W hb))) ⟨rfl, ExtB.refl _⟩
        intro v Wj hv
        obtain rfl : v = xv := hv
        simp only [Act.put, List.setIfInBounds_toArray, List.set_cons_zero, List.set_cons_succ]
        refine sqw_postY rfl rfl rfl ?_ ?_
        · intro W hb hf
          refine yields_call rfl (by kernel_rfl) rfl rfl ((HC1.out W).mono ?_)
          rintro e u9 ⟨rfl, h2⟩
          exact ⟨_, rfl, rfl, ExtB.of h2⟩
        intro v1 Wj hv
        obtain rfl : v1 = .int .i64 (C : Int) := hv
        simp only [Act.put, List.setIfInBounds_toArray, List.set_cons_zero, List.set_cons_succ]
        iterate 3 (refine sqw_quiet rfl rfl (ExtB.refl _) ?_; go_big_quiet_step (fail); refine wpQuiet_nil ?_)
        refine sqw_postY rfl rfl rfl ?_ ?_
        · intro W hb hf
          exact yields_value (load_agg_exec rfl rfl (HLD.out W (hxu W hb))) ⟨rfl, ExtB.refl _⟩
        intro v2 Wj hv
        obtain rfl : v2 = v := hv
        simp only [Act.put, List.setIfInBounds_toArray, List.set_cons_zero, List.set_cons_succ]
        refine sqw_postY rfl rfl rfl ?_ ?_
        · intro W hb hf
          refine yields_call rfl (by kernel_rfl) rfl rfl ((HC2.out W).mono ?_)
          rintro e u9 ⟨rfl, h2⟩
          exact ⟨_, rfl, rfl, ExtB.of h2⟩
        intro v3 Wj hv
        obtain rfl : v3 = .int .i64 (C : Int) := hv
        simp only [Act.put, List.setIfInBounds_toArray, List.set_cons_zero, List.set_cons_succ]
        refine sqw_nil' ?_
        intro w7 hb hf
        have hw7 := hxu w7 hb
        have H7 := Lib.hid hw7; clear hw7 hxu hb hf
        have hneq : ((C : Int) != C) = false := by simp
        have hn2 := HN.out
        go_wp2
        go_roundw
        case rel => exact ⟨i + 1, by omega, by go_num, H7.out⟩
        case measure => simp [vInt]; omega
      · have h1' : ((i : Int) < l.length) = False := eq_false (by omega)
        have hs := sequence_any l s ca wr (HL.out.below hbr) (by have := HN.out; omega)
        have HS := Lib.hid hs; clear hs
        have HBR := Lib.hid hbr; clear hbr
        go_wp2_with (fail)
        refine HS.out.mono ?_
        rintro e w3 ⟨v, rfl, hv, b3⟩
        have hw3 := HBR.out.trans (b3.mono HBR.out.size)
        have hb := backwards_any l s ca w3 (HL.out.below hw3) (by have := HN.out; omega)
        have HB := Lib.hid hb; clear hb
        obtain ⟨s1, c1, rfl, _⟩ := own_slice hv
        have HV := Lib.hid hv; clear hv
        have HW3 := Lib.hid hw3; clear hw3 b3
        go_wp2_with (fail)
        refine HB.out.mono ?_
        rintro e w4 ⟨v, rfl, hv4, b4⟩
        obtain ⟨s2, c2, rfl, _⟩ := own_slice hv4
        have hw4 := HW3.out.trans (b4.mono HW3.out.size)
        have hat : ∀ U, Below w.heap.size w U → ∀ x ∈ l.reverse, x.At U := fun U hU x hx => (HL.out.at' x (List.mem_reverse.1 hx)).below hU
        have HAT := Lib.hid hat; clear hat
        have hra : Lst w4 (.slice s1 l.length c1) l.reverse := ⟨by rw [List.length_reverse]; exact Sl.of_owns (own_below HV.out b4), HAT.out w4 hw4⟩
        have hrb : Lst w4 (.slice s2 l.length c2) l.reverse := ⟨by rw [List.length_reverse]; exact Sl.of_owns hv4, HAT.out w4 hw4⟩
        have sm := sameAll_any l.reverse l.reverse s1 s2 c1 c2 w4 (by rw [List.length_reverse]; exact hra) (by rw [List.length_reverse]; exact hrb) (by rw [List.length_reverse]; have := HN.out; omega)
        rw [eqvL_self, List.length_reverse] at sm
        have SM := Lib.hid sm; clear sm
        have HRA := Lib.hid hra; clear hra hrb hv4
        have HW4 := Lib.hid hw4; clear hw4 b4
        go_wp2_with (fail)
        refine SM.out.mono ?_
        rintro e w5 ⟨rfl, b5⟩
        have hw5 := HW4.out.trans (b5.mono HW4.out.size)
        have hs2 := sequence_any l.reverse s1 c1 w5 (by rw [List.length_reverse]; exact HRA.out.below b5) (by rw [List.length_reverse]; have := HN.out; omega)
        rw [List.reverse_reverse, List.length_reverse] at hs2
        have HS2 := Lib.hid hs2; clear hs2
        have HW5 := Lib.hid hw5; clear hw5 b5
        go_wp2_with (fail)
        refine HS2.out.mono ?_
        rintro e w6 ⟨v, rfl, hv6, b6⟩
        obtain ⟨s3, c3, rfl, _⟩ := own_slice hv6
        have hw6 := HW5.out.trans (b6.mono HW5.out.size)
        have sm := sameAll_any l l s3 s c3 ca w6 ⟨Sl.of_owns hv6, (HL.out.below hw6).at'⟩ (HL.out.below hw6) (by have := HN.out; omega)
        rw [eqvL_self] at sm
        have SM2 := Lib.hid sm; clear sm hv6
        have HW6 := Lib.hid hw6; clear hw6 b6
        go_wp2_with (fail)
        refine SM2.out.mono ?_
        rintro e w7 ⟨rfl, b7⟩
        have HW7 := Lib.hid (HW6.out.trans (b7.mono HW6.out.size)); clear b7
        go_wp2_with (fail)
        refine (lives_any w7).mono ?_
        rintro e w8 ⟨rfl, b8⟩
        go_wp2
        go_ret
        exact ⟨rfl, HW7.out.trans (b8.mono HW7.out.size)⟩
end Go.Proofs.Ytnkinjilnccmfaa

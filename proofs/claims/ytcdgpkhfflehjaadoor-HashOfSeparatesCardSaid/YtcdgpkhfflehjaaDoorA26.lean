/- The walk over HashOfSeparates. -/
import Derived.Test.YtcdgpkhfflehjaaDoorA25
namespace Go.Proofs.YtcdgpkhfflehjaaDoor
open Go.RowKit Go.Sha Go.Own Go.BigFrame
attribute [local go_sem high] op_str_eql op_str_neq
attribute [local go_sem] str_size str_append
theorem few_false {l : List (List UInt8)} (h : fewB l ≠ true) : fewB l = false := by simpa using h
set_option maxHeartbeats 1600000 in
set_option maxRecDepth 100000 in
theorem sepSame_any (t0 : UInt8) (la : List (List UInt8)) (sa : Option Addr) (ca : Nat) (sb : Option Addr) (cb : Nat) (w : World) (hsa : Sl w 1 (.slice sa la.length ca) la.length (la.map str)) (hsb : Sl w 1 (.slice sb la.length cb) la.length (la.map str))
    (hl : la.length ≤ maxLen) (hls : ∀ s ∈ la, s.length ≤ maxLen) (hfb : fewB la = true) (hK1 : Cells w 1 0 (Kt.map U)) (h1 : 1 < w.heap.size) :
    Calls Tryd.prog 8 #[.agg #[byv t0, byv t0], .slice sa la.length ca, .slice sb la.length cb] w fun e w' => e = .returned (.bool true) ∧ Below w.heap.size w w' := by
  have HK1 := Lib.hid hK1; clear hK1
  have HSA := Lib.hid hsa; clear hsa
  have HSB := Lib.hid hsb; clear hsb
  have hfa := fun W hs => few_any la sa ca W hs hl hls
  have hfc := fun W hs => few_any la sb cb W hs hl hls
  obtain ⟨hl12, hp⟩ := few_true hfb
  rw [hfb] at hfa hfc
  have HFA := Lib.hid hfa
  have HFC := Lib.hid hfc
  have hp0 : ∀ p ∈ la, p.length < 65536 := fun p h => by have := hp p h; omega
  have HP := Lib.hid hp0
  have hp4 := Lib.hid hp
  clear hfa hfc hfb hls hp0 hp
  have hlen12 : (la.length : Int) ≤ 12 := by omega
  have htl := t0.toNat_lt
  obtain ⟨W, HW⟩ : ∃ W, Hid (W = w.alloc (.cells #[byv t0, byv t0] 48)) := ⟨_, rfl⟩
  have hG0 : Blk W w.heap.size [byv t0, byv t0] 48 := by rw [HW.out]; exact Blk.new _ _ _
  have hbW : Below w.heap.size w W := by rw [HW.out]; exact (Below.refl _ _).alloc (Nat.le_refl _) _
  have hzW := hbW.size
  have hltG := hG0.lt
  go_enter Tryd.func8, Tryd.ntmps8
  go_upto_region 1 with (fail)
  rw [← HW.out]
  go_wp2_with fail
  refine (sanity_any W (HK1.out.below hbW h1) (by omega)).mono ?_
  rintro e w1 ⟨rfl, hb1⟩
  have hz1 := hb1.size
  have hbw1 := hbW.trans (hb1.mono hzW)
  go_wp2_with fail
  refine (HFA.out w1 (HSA.out.below hbw1)).mono ?_
  rintro e wx ⟨rfl, hwx⟩
  obtain rfl : w1 = wx := hwx.symm
  clear hwx
  go_wp2_with fail
  refine (HFC.out w1 (HSB.out.below hbw1)).mono ?_
  rintro e wx ⟨rfl, hwx⟩
  obtain rfl : w1 = wx := hwx.symm
  clear hwx
  have hG1 := hG0.below hb1 hltG
  have c0 := hG1.cell (i := 0) rfl
  have c1 := hG1.cell (i := 1) rfl
  have hltG1 := hG1.lt
  go_wp2
  go_loopw [8, 9] (fun s c wr => ∃ i : Nat, i ≤ la.length ∧ c = .int .i64 i ∧ s = .bool true ∧ Below w1.heap.size w1 wr) (fun _ c _ => la.length - (intOf c).toNat)
  case atStart => exact ⟨0, by omega, rfl, rfl, Below.refl _ _⟩
  case round =>
    clear c0 c1
    obtain ⟨i, hi, rfl, rfl, hb⟩ := hrel
    have hbr := hbw1.trans (hb.mono (by omega))
    have hzr := hb.size
    by_cases hil : i < la.length
    · obtain ⟨b0, off, rfl, hc1, hc2, hC0, hlt0⟩ := sl_cases HSA.out (by omega)
      obtain ⟨b1, off1, rfl, hd1, hd2, hD0, hlt1⟩ := sl_cases HSB.out (by omega)
      obtain ⟨p, Hp⟩ : ∃ p, Hid (p = la.getD i []) := ⟨_, rfl⟩
      have cx : wr.cell? ⟨b0, off + i, none⟩ = some (str p) := (hC0.below hbr hlt0) i (str p) (by rw [Hp.out]; simp [hil])
      have cy : wr.cell? ⟨b1, off1 + i, none⟩ = some (str p) := (hD0.below hbr hlt1) i (str p) (by rw [Hp.out]; simp [hil])
      have hpp : (p == p) = true := beq_self_eq_true _
      clear hC0 hD0
      go_wp2
      go_quiet (fail)
      go_wp2
      go_roundw
      case rel => exact ⟨i + 1, by omega, by go_num, rfl, below_drewN hb _⟩
      case measure => simp [intOf]; omega
    · obtain rfl : i = la.length := by omega
      have hG := hG1.below hb hltG1
      have c0 := hG.cell (i := 0) rfl
      have c1 := hG.cell (i := 1) rfl
      have hltG2 := hG.lt
      have hl1000 : la.length ≤ 1000 := by omega
      have i1 := input_any (t0.toNat : Int) la HP.out hl1000 sa ca wr (HSA.out.below hbr)
      obtain ⟨X, HX⟩ : ∃ X, Hid (X = inputF (t0.toNat : Int) la) := ⟨_, rfl⟩
      rw [← HX.out] at i1
      have I1 := Lib.hid i1; clear i1
      go_wp2_with fail
      refine I1.out.mono ?_
      rintro e w2 ⟨v1, rfl, how1, hb2⟩
      have hz2 := hb2.size
      have hb02 := hbr.trans (hb2.mono (by omega))
      have hG2 := hG.below hb2 hltG2
      have d1 := hG2.cell (i := 1) rfl
      have hsl1 := Sl.of_owns how1
      have i2 := input_any (t0.toNat : Int) la HP.out hl1000 sb cb w2 (HSB.out.below hb02)
      rw [← HX.out] at i2
      have I2 := Lib.hid i2
      clear i2 how1 c0 c1
      go_wp2_with fail
      refine I2.out.mono ?_
      rintro e w3 ⟨v2, rfl, how2, hb3⟩
      have hcx := conv22 w3 v1 X (hsl1.below hb3)
      have hcy := conv22 w3 v2 X (Sl.of_owns how2)
      have hxx : (X == X) = true := beq_self_eq_true _
      clear how2 hsl1 d1
      go_wp2
      go_ret
      exact ⟨by simp, hb02.trans (hb3.mono (by omega))⟩
end Go.Proofs.YtcdgpkhfflehjaaDoor

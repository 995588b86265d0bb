/- journal: the reference: Unpack. -/
import Derived.Test.YtbmnbdkbgpajeaaGreatDoorFR23
/- journal: the reference: Unpack. -/
section
namespace Go.Proofs.YtbmnbdkbgpajeaaGreatDoor
open Go.RowKit Go.Own Go.Jn Go.Disk Go.BigFrame Go.Sha
attribute [local irreducible] SqW
attribute [local go_sem] setCell_twice str_size op_str_eql op_str_neq
theorem str_extract0 (q : List UInt8) (b : Nat) : (⟨q.toArray⟩ : ByteArray).extract 0 b = ⟨(q.take b).toArray⟩ := by
  apply ByteArray.ext
  simp [ByteArray.data_extract, List.extract_toArray, List.extract_eq_take_drop]
theorem str_extract (q : List UInt8) (a b : Nat) : (⟨q.toArray⟩ : ByteArray).extract a b = ⟨((q.drop a).take (b - a)).toArray⟩ := by
  apply ByteArray.ext
  simp [ByteArray.data_extract, List.extract_toArray, List.extract_eq_take_drop]
attribute [local go_sem high] str_extract0
attribute [local go_sem] str_extract
theorem slice_str0 (W : World) (bs : List UInt8) (hi : Nat) (h2 : hi ≤ bs.length) : (Instr.slice 9 (str bs) none (some (.int .i64 (hi : Int))) none).run Tryz.prog W = .ok (str (bs.take hi)) W := by
  have := slice_str W bs 0 hi (by omega) h2
  rw [List.drop_zero, Nat.sub_zero] at this
  exact this
theorem unpack_short {s : List UInt8} (h : s.length ≠ 64) : Jn.unpack s = prt0 := by
  unfold Jn.unpack goodB
  rw [if_neg]
  simp [h]
theorem all_step {y : List UInt8} {a q : Nat} (h : y[q]? = some 0) (ha : a ≤ q) (hA : ((y.drop a).take (q - a)).all (· == 0) = true) : ((y.drop a).take (q + 1 - a)).all (· == 0) = true := by
  have e : (y.drop a)[q - a]? = some 0 := by rw [List.getElem?_drop, show a + (q - a) = q by omega, h]
  rw [show q + 1 - a = (q - a) + 1 by omega, List.take_add_one, e, List.all_append, hA]
  rfl
theorem all_bad {y : List UInt8} {a q : Nat} {u : UInt8} (h : y[q]? = some u) (ha : a ≤ q) (hu : u ≠ 0) : (y.drop a).all (· == 0) = false := by
  rw [List.all_eq_false]
  have e : (y.drop a)[q - a]? = some u := by rw [List.getElem?_drop, show a + (q - a) = q by omega, h]
  exact ⟨u, List.mem_of_getElem? e, by simpa using hu⟩
theorem all_end {y : List UInt8} {a : Nat} (hl : y.length = 56) (h : ((y.drop a).take (56 - a)).all (· == 0) = true) : (y.drop a).all (· == 0) = true := by
  rwa [List.take_of_length_le (by rw [List.length_drop, hl]; exact Nat.le_refl _)] at h
theorem aggRP : (match Tryz.prog.underlying 102 with | some (.struct _) | some (.array _ _) => true | _ => false) = true := by kernel_rfl
theorem infoRP : (Tryz.prog.info? 102).map (·.size) = some 5 := by kernel_rfl
set_option maxRecDepth 100000 in
set_option maxHeartbeats 1600000 in
theorem runpack_any (w : World) (s : List UInt8) (_hm : s.length ≤ 140737488355328) (hK : Cells w 0 0 (Kt.map U)) (h0 : 0 < w.heap.size) : Calls Tryz.prog 54 #[str s] w fun e w' => e = .returned (prtV (Jn.unpack s)) ∧ Below w.heap.size w w' := by
  by_cases h64 : s.length = 64
  · have C4 : Hid (∀ W, Calls Tryz.prog 79 #[str (s.take 4)] W fun e w' => e = .returned (.int .i64 ((Jn.numOf s : Nat) : Int)) ∧ w' = W) := Lib.hid fun W => number_any _ _ (by rw [List.length_take]; omega)
    have C6 : Hid (∀ W, Calls Tryz.prog 79 #[str ((s.drop 4).take 2)] W fun e w' => e = .returned (.int .i64 ((Jn.prtOf s : Nat) : Int)) ∧ w' = W) := Lib.hid fun W => number_any _ _ (by rw [List.length_take]; omega)
    have C8 : Hid (∀ W, Calls Tryz.prog 79 #[str ((s.drop 6).take 2)] W fun e w' => e = .returned (.int .i64 ((Jn.leftOf s : Nat) : Int)) ∧ w' = W) := Lib.hid fun W => number_any _ _ (by rw [List.length_take]; omega)
    go_enter Tryz.func54, Tryz.ntmps54
    go_wp2_with fail
    obtain ⟨w1, hw1⟩ : ∃ w1, w.alloc (.cells #[.int .i64 0, .int .i64 0, .int .i64 0, .string ⟨#[]⟩, .bool false] 102) = w1 := ⟨_, rfl⟩
    have b1 : Below w.heap.size w w1 := by rw [← hw1]; exact alloc_below _ _
    have k1 : Blk w1 w.heap.size [.int .i64 0, .int .i64 0, .int .i64 0, .string ⟨#[]⟩, .bool false] 102 := by rw [← hw1]; exact Blk.new _ _ _
    rw [hw1]
    clear hw1
    refine wp_region_sqB 11 [2, 5, 8, 10] (fun i v W => match i with
      | 2 => v = .int .i64 ((Jn.numOf s : Nat) : Int)
      | 5 => v = .int .i64 ((Jn.prtOf s : Nat) : Int)
      | 8 => v = .int .i64 ((Jn.leftOf s : Nat) : Int)
      | 10 => ∃ R, v = .pointer (some ⟨R, 0, none⟩) ∧ w1.heap.size ≤ R ∧ Blk W R [.int .i64 0, .int .i64 0, .int .i64 0, .string ⟨#[]⟩, .bool false] 102
      | _ => True) (by kernel_rfl) (by kernel_rfl) ?stable ?main
    case stable =>
      intro i v W W' h hb
      match i, h with
      | 0, h => exact h
      | 1, h => exact h
      | 2, h => exact h
      | 3, h => exact h
      | 4, h => exact h
      | 5, h => exact h
      | 6, h => exact h
      | 7, h => exact h
      | 8, h => exact h
      | 9, h => exact h
      | 10, h => exact (by obtain ⟨R, h1, h2, h3⟩ := h; exact ⟨R, h1, h2, h3.below hb h3.lt⟩)
      | _ + 11, _ => exact trivial
    simp only [List.take_succ_cons, List.take_zero, List.drop_succ_cons, List.drop_zero]
    repeat (refine sqw_quiet rfl rfl (ExtB.refl _) ?_; go_big_quiet_step (rfl); refine wpQuiet_nil ?_)
    refine sqw_postY rfl rfl rfl ?_ ?_
    · intro W1 hb hf
      refine yields_call rfl (by kernel_rfl) rfl rfl ((C4.out W1).mono ?_)
      rintro e u1 ⟨rfl, rfl⟩
      exact ⟨_, rfl, rfl, ExtB.refl _⟩
    intro v Wj hv
    obtain rfl : v = .int .i64 ((Jn.numOf s : Nat) : Int) := hv
    simp only [Act.put, List.setIfInBounds_toArray, List.set_cons_zero, List.set_cons_succ]
    repeat (refine sqw_quiet rfl rfl (ExtB.refl _) ?_; go_big_quiet_step (rfl); refine wpQuiet_nil ?_)
    refine sqw_postY rfl rfl rfl ?_ ?_
    · intro W1 hb hf
      refine yields_call rfl (by kernel_rfl) rfl rfl ((C6.out W1).mono ?_)
      rintro e u1 ⟨rfl, rfl⟩
      exact ⟨_, rfl, rfl, ExtB.refl _⟩
    intro v Wj hv
    obtain rfl : v = .int .i64 ((Jn.prtOf s : Nat) : Int) := hv
    simp only [Act.put, List.setIfInBounds_toArray, List.set_cons_zero, List.set_cons_succ]
    repeat (refine sqw_quiet rfl rfl (ExtB.refl _) ?_; go_big_quiet_step (rfl); refine wpQuiet_nil ?_)
    refine sqw_postY rfl rfl rfl ?_ ?_
    · intro W1 hb hf
      refine yields_call rfl (by kernel_rfl) rfl rfl ((C8.out W1).mono ?_)
      rintro e u1 ⟨rfl, rfl⟩
      exact ⟨_, rfl, rfl, ExtB.refl _⟩
    intro v Wj hv
    obtain rfl : v = .int .i64 ((Jn.leftOf s : Nat) : Int) := hv
    simp only [Act.put, List.setIfInBounds_toArray, List.set_cons_zero, List.set_cons_succ]
    repeat (refine sqw_quiet rfl rfl (ExtB.refl _) ?_; go_big_quiet_step (rfl); refine wpQuiet_nil ?_)
    refine sqw_postY rfl rfl rfl ?_ ?_
    · intro W1 hb hf
      refine yields_value (v := .pointer (some ⟨W1.heap.size, 0, none⟩)) (w' := W1.alloc (.cells #[.int .i64 0, .int .i64 0, .int .i64 0, .string ⟨#[]⟩, .bool false] 102)) ?_ ⟨⟨_, rfl, (ExtB.undrew hb).size, Blk.new _ _ _⟩, ExtB.of (alloc_below _ _)⟩
      go_simp
    intro v Wj hv
    obtain ⟨P, rfl, _⟩ := hv
    simp only [Act.put, List.setIfInBounds_toArray, List.set_cons_zero, List.set_cons_succ]
    refine sqw_nil ?_
    intro w2 hb hf
    obtain ⟨R', hR1, hR2, hR3⟩ : ∃ R', Value.pointer (some ⟨P, 0, none⟩) = .pointer (some ⟨R', 0, none⟩) ∧ w1.heap.size ≤ R' ∧ Blk w2 R' [.int .i64 0, .int .i64 0, .int .i64 0, .string ⟨#[]⟩, .bool false] 102 := hf 10 3 (by decide) (by kernel_rfl) rfl (fun o h => by obtain rfl := Option.some.inj h; rfl)
    injection hR1 with e1
    injection e1 with e1
    injection e1 with e1
    subst e1
    have b2 : Below w1.heap.size w1 w2 := ExtB.undrew hb
    clear hf hb
    go_wp2_with (refine wpList_store_blk (ty := 102) (n := 5) (vs := [.int .i64 ((Jn.numOf s : Nat) : Int), .int .i64 ((Jn.prtOf s : Nat) : Int), .int .i64 ((Jn.leftOf s : Nat) : Int), .string ⟨#[]⟩, .bool true]) hR3 rfl rfl rfl rfl rfl infoRP rfl (by simp) (by intro u hu; simp at hu; rcases hu with h | h | h | h | h <;> (rw [h]; rfl)) ?_)
    intro w3 hb3 ho3
    have b3 : Below w1.heap.size w1 w3 := ho3.below b2 hR2
    have hP : w.heap.size < P := by have := k1.lt; omega
    have k3 := k1.below b3 k1.lt
    have bw3 : Below w.heap.size w w3 := b1.trans (b3.mono b1.size)
    clear ho3 hR3 b2
    have hq3 : Blk w3 P [.int .i64 ((Jn.numOf s : Nat) : Int), .int .i64 ((Jn.prtOf s : Nat) : Int), .int .i64 ((Jn.leftOf s : Nat) : Int), .string ⟨#[]⟩, .bool true] 102 := by simpa using hb3
    clear hb3
    have lP : P < w3.heap.size := hq3.lt
    have h56 : (s.take 56).length = 56 := by rw [List.length_take]; omega
    obtain ⟨y, hy⟩ : ∃ y, y = s.take 56 := ⟨_, rfl⟩
    rw [← hy] at h56
    have HY := Lib.hid hy; clear hy
    have HQ3 := Lib.hid hq3; clear hq3
    have HK3 := Lib.hid k3; clear k3 k1
    have HB3 := Lib.hid bw3; clear bw3 b3 b1
    have hsl56 : ∀ W, (Instr.slice 9 (str s) none (some (.int .i64 56)) none).run Tryz.prog W = .ok (str y) W := fun W => by rw [HY.out]; exact slice_str0 W s 56 (by omega)
    go_wp2_with (refine wpList_str_bytes (bs := y) rfl rfl rfl hTs hTb hT8 (by omega) ?_)
    intro cap sp w4 hc1 hc2 hbf hb1
    have hC : Cells w4 w3.heap.size 0 (y.map byv) := hbf.cells 0 (y.map byv) (by simp)
    have hlt4 : w3.heap.size < w4.heap.size := hbf.lt
    have hsl : Sl w4 1 (.slice (some ⟨w3.heap.size, 0, none⟩) y.length cap) y.length (y.map byv) := ⟨by simp, .inr ⟨_, 0, cap, rfl, by omega, hc2, hC, hlt4⟩⟩
    have bw4 : Below w.heap.size w w4 := HB3.out.trans (hb1.mono HB3.out.size)
    have hck := checked_any w4 y (some ⟨w3.heap.size, 0, none⟩) cap hsl (by omega) (hK.below bw4 h0) (Nat.lt_of_lt_of_le h0 bw4.size)
    rw [h56] at hck
    have q4 := HQ3.out.below hb1 HQ3.out.lt
    have k4 := HK3.out.below hb1 HK3.out.lt
    have HCK := Lib.hid hck; clear hck hsl hC hbf
    have HQ4 := Lib.hid q4; clear q4 HQ3
    have HK4 := Lib.hid k4; clear k4 HK3
    have HB4 := Lib.hid bw4; clear bw4 HB3 hsl56 hb1 hc1 hc2
    go_wp2_with fail
    refine HCK.out.mono ?_
    rintro e w5 ⟨rfl, b5⟩
    have q5 := HQ4.out.below b5 HQ4.out.lt
    have k5 := HK4.out.below b5 HK4.out.lt
    have bw5 : Below w.heap.size w w5 := HB4.out.trans (b5.mono HB4.out.size)
    clear HCK b5 HQ4 HK4 HB4
    have d0 : w5.cell? ⟨P, 0, none⟩ = some (.int .i64 ((Jn.numOf s : Nat) : Int)) := q5.cell rfl
    have d1 : w5.cell? ⟨P, 1, none⟩ = some (.int .i64 ((Jn.prtOf s : Nat) : Int)) := q5.cell rfl
    have d2 : w5.cell? ⟨P, 2, none⟩ = some (.int .i64 ((Jn.leftOf s : Nat) : Int)) := q5.cell rfl
    have HQ5 := Lib.hid q5; clear q5
    have HK5 := Lib.hid k5; clear k5
    have HB5 := Lib.hid bw5; clear bw5
    have bn : Jn.numOf s < 4294967296 := num_lt4 s
    have bp : prtOf s < 65536 := num_lt2 _
    have bl : Jn.leftOf s < 65536 := num_lt2 _
    have hgd : goodB s = (decide (s.length = 64) && decide (stamp (s.take 56) = s) && decide (1 ≤ Jn.numOf s) && decide (Jn.numOf s ≤ 4096) && decide (48 * prtOf s + Jn.leftOf s ≤ 8000) && !(decide (Jn.leftOf s = 0) && decide (0 < prtOf s)) && ((s.take 56).drop (8 + min (Jn.leftOf s) 48)).all (· == 0)) := rfl
    have HGD := Lib.hid hgd; clear hgd
    obtain ⟨nm, hnm⟩ : ∃ n, n = Jn.numOf s := ⟨_, rfl⟩
    obtain ⟨pt, hpt⟩ : ∃ n, n = prtOf s := ⟨_, rfl⟩
    obtain ⟨lf, hlf⟩ : ∃ n, n = Jn.leftOf s := ⟨_, rfl⟩
    obtain ⟨st, hst⟩ : ∃ z, z = stamp y := ⟨_, rfl⟩
    rw [← hnm] at HGD HQ5 d0 bn
    rw [← hpt] at HGD HQ5 d1 bp
    rw [← hlf] at HGD HQ5 d2 bl
    rw [← HY.out, ← hst] at HGD
    rw [← hnm, ← hpt, ← hlf, ← hst]
    have HNM := Lib.hid hnm; clear hnm
    have HPT := Lib.hid hpt; clear hpt
    have HLF := Lib.hid hlf; clear hlf
    have HST := Lib.hid hst; clear hst
    by_cases g1 : st = s
    · have hq : (st == s) = true := by simpa using g1
      have G1 := Lib.hid g1; clear g1
      by_cases g2 : nm < 1
      · have hgb : goodB s = false := by rw [HGD.out]; simp [show ¬ 1 ≤ nm by omega]
        have d2i : (nm : Int) < 1 := by omega
        clear g2
        have HBD := Lib.hid hgb; clear hgb
        go_upto_region 5 with (fail)
        go_wp2_with (refine wpList_store_blk (ty := 102) (n := 5) (vs := [.int .i64 0, .int .i64 0, .int .i64 0, .string ⟨#[]⟩, .bool false]) HK5.out rfl rfl rfl rfl rfl infoRP rfl (by simp) (by intro u hu; simp only [List.mem_cons, List.not_mem_nil, or_false] at hu; rcases hu with h | h | h | h | h <;> (rw [h]; rfl)) ?_)
        intro w6 hb6 ho6
        go_wp2
        refine bodyPost_ret (results_blk rfl hb6 rfl Tryz.underlying102 rfl (by kernel_rfl)) rfl ?_
        rw [unpack_bad HBD.out]
        exact ⟨rfl, ho6.below HB5.out (Nat.le_refl _)⟩
      have d2n : ¬ (nm : Int) < 1 := by omega
      by_cases g3 : 4096 < nm
      · have hgb : goodB s = false := by rw [HGD.out]; simp [show ¬ nm ≤ 4096 by omega]
        have d3i : (4096 : Int) < nm := by omega
        clear g3
        have HBD := Lib.hid hgb; clear hgb
        go_upto_region 5 with (fail)
        go_wp2_with (refine wpList_store_blk (ty := 102) (n := 5) (vs := [.int .i64 0, .int .i64 0, .int .i64 0, .string ⟨#[]⟩, .bool false]) HK5.out rfl rfl rfl rfl rfl infoRP rfl (by simp) (by intro u hu; simp only [List.mem_cons, List.not_mem_nil, or_false] at hu; rcases hu with h | h | h | h | h <;> (rw [h]; rfl)) ?_)
        intro w6 hb6 ho6
        go_wp2
        refine bodyPost_ret (results_blk rfl hb6 rfl Tryz.underlying102 rfl (by kernel_rfl)) rfl ?_
        rw [unpack_bad HBD.out]
        exact ⟨rfl, ho6.below HB5.out (Nat.le_refl _)⟩
      have d3n : ¬ (4096 : Int) < nm := by omega
      by_cases g4 : 8000 < 48 * pt + lf
      · have hgb : goodB s = false := by rw [HGD.out]; simp [show ¬ 48 * pt + lf ≤ 8000 by omega]
        have d4i : (8000 : Int) < 48 * (pt : Int) + lf := by omega
        clear g4
        have HBD := Lib.hid hgb; clear hgb
        go_upto_region 5 with (fail)
        go_wp2_with (refine wpList_store_blk (ty := 102) (n := 5) (vs := [.int .i64 0, .int .i64 0, .int .i64 0, .string ⟨#[]⟩, .bool false]) HK5.out rfl rfl rfl rfl rfl infoRP rfl (by simp) (by intro u hu; simp only [List.mem_cons, List.not_mem_nil, or_false] at hu; rcases hu with h | h | h | h | h <;> (rw [h]; rfl)) ?_)
        intro w6 hb6 ho6
        go_wp2
        refine bodyPost_ret (results_blk rfl hb6 rfl Tryz.underlying102 rfl (by kernel_rfl)) rfl ?_
        rw [unpack_bad HBD.out]
        exact ⟨rfl, ho6.below HB5.out (Nat.le_refl _)⟩
      have d4n : ¬ (8000 : Int) < 48 * (pt : Int) + lf := by omega
      by_cases g5 : lf < 1 ∧ 0 < pt
      · have hgb : goodB s = false := by rw [HGD.out]; simp [show lf = 0 by omega, g5.2]
        have d5i : (lf : Int) < 1 := by omega
        have d5j : (0 : Int) < pt := by omega
        clear g5
        have HBD := Lib.hid hgb; clear hgb
        go_upto_region 5 with (fail)
        go_wp2_with (refine wpList_store_blk (ty := 102) (n := 5) (vs := [.int .i64 0, .int .i64 0, .int .i64 0, .string ⟨#[]⟩, .bool false]) HK5.out rfl rfl rfl rfl rfl infoRP rfl (by simp) (by intro u hu; simp only [List.mem_cons, List.not_mem_nil, or_false] at hu; rcases hu with h | h | h | h | h <;> (rw [h]; rfl)) ?_)
        intro w6 hb6 ho6
        go_wp2
        refine bodyPost_ret (results_blk rfl hb6 rfl Tryz.underlying102 rfl (by kernel_rfl)) rfl ?_
        rw [unpack_bad HBD.out]
        exact ⟨rfl, ho6.below HB5.out (Nat.le_refl _)⟩
      have hz : ((y.drop (8 + min lf 48)).all (· == 0)) = goodB s := by
        rw [HGD.out, HY.out]
        have a1 : decide (s.length = 64) = true := by simp [h64]
        have a2 : decide (st = s) = true := by simp [G1.out]
        have a3 : decide (1 ≤ nm) = true := by simp; omega
        have a4 : decide (nm ≤ 4096) = true := by simp; omega
        have a5 : decide (48 * pt + lf ≤ 8000) = true := by simp; omega
        have a6 : (!(decide (lf = 0) && decide (0 < pt))) = true := by
          by_cases h1 : lf = 0
          · have : ¬ 0 < pt := fun h => g5 ⟨by omega, h⟩
            simp [this]
          · simp [h1]
        rw [a1, a2, a3, a4, a5, a6]
        simp
      have HZ := Lib.hid hz; clear hz HGD
      by_cases l0 : lf < 1
      · have d5i : (lf : Int) < 1 := by omega
        have d5j : ¬ (0 : Int) < pt := fun h => g5 ⟨l0, by omega⟩
        have l1i : ¬ (48 : Int) < lf := by omega
        have hz : min lf 48 = lf := by omega
        clear g5 l0
        have hzl : lf ≤ 48 := by omega
        rw [hz] at HZ
        have HMZ := Lib.hid hz; clear hz
        go_upto_region 9 with (fail)
        go_wp2_with fail
        go_loopw [5] (fun c wr => ∃ q : Nat, 8 + lf ≤ q ∧ q ≤ 56 ∧ c = .int .i64 q ∧ wr = w5 ∧ Hid (((y.drop (8 + lf)).take (q - (8 + lf))).all (· == 0) = true)) (fun c _ => 56 - (jInt c).toNat)
        case atStart => exact ⟨8 + lf, Nat.le_refl _, by omega, by go_num, rfl, Lib.hid (by rw [Nat.sub_self]; rfl)⟩
        case round =>
          obtain ⟨q, hq1, hq2, rfl, hw, hA⟩ := hrel
          rw [hw]
          by_cases hlt : q < 56
          · have hlc : (q : Int) < 56 := by omega
            have hqs : q < s.length := by omega
            obtain ⟨u, hu⟩ : ∃ u, u = s[q] := ⟨_, rfl⟩
            have hix := str_index w5 s q u hqs (by rw [hu, List.getD_eq_getElem?_getD, List.getElem?_eq_getElem hqs]; rfl)
            have hyq : y[q]? = some u := by rw [HY.out, List.getElem?_take_of_lt hlt, List.getElem?_eq_getElem hqs, hu]
            have HYQ := Lib.hid hyq; clear hyq hu
            by_cases hu0 : u = 0
            · subst hu0
              have hA2 := all_step HYQ.out hq1 hA.out
              have HA2 := Lib.hid hA2; clear hA2 hA hw
              go_wp2
              go_roundw
              case rel => exact ⟨q + 1, by omega, by omega, by go_num, by first | rfl | trivial, HA2⟩
              case measure => simp [jInt]; omega
            · have hgb : goodB s = false := by rw [← HZ.out]; exact all_bad HYQ.out hq1 hu0
              have hui : ((u.toNat : Int) != 0) = true := by
                have : u.toNat ≠ 0 := fun h => hu0 (by apply UInt8.toNat_inj.1; rw [h]; rfl)
                simp; omega
              clear hu0 hw
              have HBD := Lib.hid hgb; clear hgb
              go_upto_region 13 with (fail)
              go_wp2_with (refine wpList_store_blk (ty := 102) (n := 5) (vs := [.int .i64 0, .int .i64 0, .int .i64 0, .string ⟨#[]⟩, .bool false]) HK5.out rfl rfl rfl rfl rfl infoRP rfl (by simp) (by intro u hu; simp only [List.mem_cons, List.not_mem_nil, or_false] at hu; rcases hu with h | h | h | h | h <;> (rw [h]; rfl)) ?_)
              intro w6 hb6 ho6
              go_wp2
              refine bodyPost_ret (results_blk rfl hb6 rfl Tryz.underlying102 rfl (by kernel_rfl)) rfl ?_
              rw [unpack_bad HBD.out]
              exact ⟨rfl, ho6.below HB5.out (Nat.le_refl _)⟩
          · obtain rfl : q = 56 := by omega
            have hgb : goodB s = true := by rw [← HZ.out]; exact all_end h56 hA.out
            have hun : Jn.unpack s = ⟨nm, pt, lf, (s.drop 8).take lf, true⟩ := by
              unfold Jn.unpack
              rw [if_pos hgb, ← HNM.out, ← HPT.out, ← HLF.out, HMZ.out]
            have HUN := Lib.hid hun; clear hun hgb hA hw
            have d3 : w5.cell? ⟨P, 3, none⟩ = some (.string ⟨#[]⟩) := HQ5.out.cell rfl
            have f3 : w5.frozen? ⟨P, 3, none⟩ = false := HQ5.out.frozen 3
            obtain ⟨pl, hpl⟩ : ∃ pl, pl = (s.drop 8).take lf := ⟨_, rfl⟩
            have hs8 : ∀ W, (Instr.slice 9 (str s) (some (.int .i64 8)) (some (.int .i64 (8 + (lf : Int)))) none).run Tryz.prog W = .ok (str pl) W := fun W => by
              have := slice_str W s 8 (8 + lf) (by omega) (by omega)
              rw [show 8 + lf - 8 = lf by omega, ← hpl] at this
              rw [show ((8 + (lf : Int)) : Int) = ((8 + lf : Nat) : Int) by omega]
              exact this
            rw [← hpl] at HUN
            clear hpl
            go_upto_region 15 with (fail)
            obtain ⟨w6, hw6⟩ : ∃ w6, w5.setCell ⟨P, 3, none⟩ (.string ⟨pl.toArray⟩) = w6 := ⟨_, rfl⟩
            have q6 : Blk w6 P [.int .i64 (nm : Int), .int .i64 (pt : Int), .int .i64 (lf : Int), str pl, .bool true] 102 := by rw [← hw6]; exact HQ5.out.set 3 _
            have k6 : Blk w6 w.heap.size [.int .i64 0, .int .i64 0, .int .i64 0, .string ⟨#[]⟩, .bool false] 102 := by rw [← hw6]; exact HK5.out.set_ne _ (by simp; omega)
            have b6 : Below w.heap.size w w6 := by rw [← hw6]; exact below_set HB5.out (Nat.le_refl _) (Nat.le_of_lt hP) _ _
            rw [hw6]
            clear hw6 d0 d1 d2 d3 f3 hs8
            have HQ6 := Lib.hid q6; clear q6
            have HK6 := Lib.hid k6; clear k6
            have HB6 := Lib.hid b6; clear b6
            go_wp2_with (first | (refine wpList_load_agg [.int .i64 (nm : Int), .int .i64 (pt : Int), .int .i64 (lf : Int), str pl, .bool true] HQ6.out.cells0 rfl rfl rfl aggRP infoRP ?_) | (refine wpList_store_blk (ty := 102) (n := 5) (vs := [.int .i64 (nm : Int), .int .i64 (pt : Int), .int .i64 (lf : Int), str pl, .bool true]) HK6.out rfl rfl rfl rfl rfl infoRP rfl (by simp) (by intro u hu; simp only [List.mem_cons, List.not_mem_nil, or_false] at hu; rcases hu with h | h | h | h | h <;> (rw [h]; rfl)) ?_))
            intro w7 hb7 ho7
            go_wp2
            refine bodyPost_ret (results_blk rfl hb7 rfl Tryz.underlying102 rfl (by kernel_rfl)) rfl ?_
            rw [HUN.out]
            exact ⟨rfl, ho7.below HB6.out (Nat.le_refl _)⟩
      have d5i : ¬ (lf : Int) < 1 := by omega
      clear g5 l0
      by_cases l1 : 48 < lf
      · have l1i : (48 : Int) < lf := by omega
        have hz : min lf 48 = 48 := by omega
        have hzl : 48 ≤ 48 := by omega
        rw [hz] at HZ
        have HMZ := Lib.hid hz; clear hz
        go_upto_region 9 with (fail)
        go_wp2_with fail
        go_loopw [5] (fun c wr => ∃ q : Nat, 8 + 48 ≤ q ∧ q ≤ 56 ∧ c = .int .i64 q ∧ wr = w5 ∧ Hid (((y.drop (8 + 48)).take (q - (8 + 48))).all (· == 0) = true)) (fun c _ => 56 - (jInt c).toNat)
        case atStart => exact ⟨8 + 48, Nat.le_refl _, by omega, by go_num, rfl, Lib.hid (by rw [Nat.sub_self]; rfl)⟩
        case round =>
          obtain ⟨q, hq1, hq2, rfl, hw, hA⟩ := hrel
          rw [hw]
          by_cases hlt : q < 56
          · have hlc : (q : Int) < 56 := by omega
            have hqs : q < s.length := by omega
            obtain ⟨u, hu⟩ : ∃ u, u = s[q] := ⟨_, rfl⟩
            have hix := str_index w5 s q u hqs (by rw [hu, List.getD_eq_getElem?_getD, List.getElem?_eq_getElem hqs]; rfl)
            have hyq : y[q]? = some u := by rw [HY.out, List.getElem?_take_of_lt hlt, List.getElem?_eq_getElem hqs, hu]
            have HYQ := Lib.hid hyq; clear hyq hu
            by_cases hu0 : u = 0
            · subst hu0
              have hA2 := all_step HYQ.out hq1 hA.out
              have HA2 := Lib.hid hA2; clear hA2 hA hw
              go_wp2
              go_roundw
              case rel => exact ⟨q + 1, by omega, by omega, by go_num, by first | rfl | trivial, HA2⟩
              case measure => simp [jInt]; omega
            · have hgb : goodB s = false := by rw [← HZ.out]; exact all_bad HYQ.out hq1 hu0
              have hui : ((u.toNat : Int) != 0) = true := by
                have : u.toNat ≠ 0 := fun h => hu0 (by apply UInt8.toNat_inj.1; rw [h]; rfl)
                simp; omega
              clear hu0 hw
              have HBD := Lib.hid hgb; clear hgb
              go_upto_region 13 with (fail)
              go_wp2_with (refine wpList_store_blk (ty := 102) (n := 5) (vs := [.int .i64 0, .int .i64 0, .int .i64 0, .string ⟨#[]⟩, .bool false]) HK5.out rfl rfl rfl rfl rfl infoRP rfl (by simp) (by intro u hu; simp only [List.mem_cons, List.not_mem_nil, or_false] at hu; rcases hu with h | h | h | h | h <;> (rw [h]; rfl)) ?_)
              intro w6 hb6 ho6
              go_wp2
              refine bodyPost_ret (results_blk rfl hb6 rfl Tryz.underlying102 rfl (by kernel_rfl)) rfl ?_
              rw [unpack_bad HBD.out]
              exact ⟨rfl, ho6.below HB5.out (Nat.le_refl _)⟩
          · obtain rfl : q = 56 := by omega
            have hgb : goodB s = true := by rw [← HZ.out]; exact all_end h56 hA.out
            have hun : Jn.unpack s = ⟨nm, pt, lf, (s.drop 8).take 48, true⟩ := by
              unfold Jn.unpack
              rw [if_pos hgb, ← HNM.out, ← HPT.out, ← HLF.out, HMZ.out]
            have HUN := Lib.hid hun; clear hun hgb hA hw
            have d3 : w5.cell? ⟨P, 3, none⟩ = some (.string ⟨#[]⟩) := HQ5.out.cell rfl
            have f3 : w5.frozen? ⟨P, 3, none⟩ = false := HQ5.out.frozen 3
            obtain ⟨pl, hpl⟩ : ∃ pl, pl = (s.drop 8).take 48 := ⟨_, rfl⟩
            have hs8 : ∀ W, (Instr.slice 9 (str s) (some (.int .i64 8)) (some (.int .i64 (56))) none).run Tryz.prog W = .ok (str pl) W := fun W => by
              have := slice_str W s 8 (8 + 48) (by omega) (by omega)
              rw [show 8 + 48 - 8 = 48 by omega, ← hpl] at this
              rw [show ((56) : Int) = ((8 + 48 : Nat) : Int) by omega]
              exact this
            rw [← hpl] at HUN
            clear hpl
            go_upto_region 15 with (fail)
            obtain ⟨w6, hw6⟩ : ∃ w6, w5.setCell ⟨P, 3, none⟩ (.string ⟨pl.toArray⟩) = w6 := ⟨_, rfl⟩
            have q6 : Blk w6 P [.int .i64 (nm : Int), .int .i64 (pt : Int), .int .i64 (lf : Int), str pl, .bool true] 102 := by rw [← hw6]; exact HQ5.out.set 3 _
            have k6 : Blk w6 w.heap.size [.int .i64 0, .int .i64 0, .int .i64 0, .string ⟨#[]⟩, .bool false] 102 := by rw [← hw6]; exact HK5.out.set_ne _ (by simp; omega)
            have b6 : Below w.heap.size w w6 := by rw [← hw6]; exact below_set HB5.out (Nat.le_refl _) (Nat.le_of_lt hP) _ _
            rw [hw6]
            clear hw6 d0 d1 d2 d3 f3 hs8
            have HQ6 := Lib.hid q6; clear q6
            have HK6 := Lib.hid k6; clear k6
            have HB6 := Lib.hid b6; clear b6
            go_wp2_with (first | (refine wpList_load_agg [.int .i64 (nm : Int), .int .i64 (pt : Int), .int .i64 (lf : Int), str pl, .bool true] HQ6.out.cells0 rfl rfl rfl aggRP infoRP ?_) | (refine wpList_store_blk (ty := 102) (n := 5) (vs := [.int .i64 (nm : Int), .int .i64 (pt : Int), .int .i64 (lf : Int), str pl, .bool true]) HK6.out rfl rfl rfl rfl rfl infoRP rfl (by simp) (by intro u hu; simp only [List.mem_cons, List.not_mem_nil, or_false] at hu; rcases hu with h | h | h | h | h <;> (rw [h]; rfl)) ?_))
            intro w7 hb7 ho7
            go_wp2
            refine bodyPost_ret (results_blk rfl hb7 rfl Tryz.underlying102 rfl (by kernel_rfl)) rfl ?_
            rw [HUN.out]
            exact ⟨rfl, ho7.below HB6.out (Nat.le_refl _)⟩
      · have l1i : ¬ (48 : Int) < lf := by omega
        have hz : min lf 48 = lf := by omega
        have hzl : lf ≤ 48 := by omega
        rw [hz] at HZ
        have HMZ := Lib.hid hz; clear hz
        go_upto_region 9 with (fail)
        go_wp2_with fail
        go_loopw [5] (fun c wr => ∃ q : Nat, 8 + lf ≤ q ∧ q ≤ 56 ∧ c = .int .i64 q ∧ wr = w5 ∧ Hid (((y.drop (8 + lf)).take (q - (8 + lf))).all (· == 0) = true)) (fun c _ => 56 - (jInt c).toNat)
        case atStart => exact ⟨8 + lf, Nat.le_refl _, by omega, by go_num, rfl, Lib.hid (by rw [Nat.sub_self]; rfl)⟩
        case round =>
          obtain ⟨q, hq1, hq2, rfl, hw, hA⟩ := hrel
          rw [hw]
          by_cases hlt : q < 56
          · have hlc : (q : Int) < 56 := by omega
            have hqs : q < s.length := by omega
            obtain ⟨u, hu⟩ : ∃ u, u = s[q] := ⟨_, rfl⟩
            have hix := str_index w5 s q u hqs (by rw [hu, List.getD_eq_getElem?_getD, List.getElem?_eq_getElem hqs]; rfl)
            have hyq : y[q]? = some u := by rw [HY.out, List.getElem?_take_of_lt hlt, List.getElem?_eq_getElem hqs, hu]
            have HYQ := Lib.hid hyq; clear hyq hu
            by_cases hu0 : u = 0
            · subst hu0
              have hA2 := all_step HYQ.out hq1 hA.out
              have HA2 := Lib.hid hA2; clear hA2 hA hw
              go_wp2
              go_roundw
              case rel => exact ⟨q + 1, by omega, by omega, by go_num, by first | rfl | trivial, HA2⟩
              case measure => simp [jInt]; omega
            · have hgb : goodB s = false := by rw [← HZ.out]; exact all_bad HYQ.out hq1 hu0
              have hui : ((u.toNat : Int) != 0) = true := by
                have : u.toNat ≠ 0 := fun h => hu0 (by apply UInt8.toNat_inj.1; rw [h]; rfl)
                simp; omega
              clear hu0 hw
              have HBD := Lib.hid hgb; clear hgb
              go_upto_region 13 with (fail)
              go_wp2_with (refine wpList_store_blk (ty := 102) (n := 5) (vs := [.int .i64 0, .int .i64 0, .int .i64 0, .string ⟨#[]⟩, .bool false]) HK5.out rfl rfl rfl rfl rfl infoRP rfl (by simp) (by intro u hu; simp only [List.mem_cons, List.not_mem_nil, or_false] at hu; rcases hu with h | h | h | h | h <;> (rw [h]; rfl)) ?_)
              intro w6 hb6 ho6
              go_wp2
              refine bodyPost_ret (results_blk rfl hb6 rfl Tryz.underlying102 rfl (by kernel_rfl)) rfl ?_
              rw [unpack_bad HBD.out]
              exact ⟨rfl, ho6.below HB5.out (Nat.le_refl _)⟩
          · obtain rfl : q = 56 := by omega
            have hgb : goodB s = true := by rw [← HZ.out]; exact all_end h56 hA.out
            have hun : Jn.unpack s = ⟨nm, pt, lf, (s.drop 8).take lf, true⟩ := by
              unfold Jn.unpack
              rw [if_pos hgb, ← HNM.out, ← HPT.out, ← HLF.out, HMZ.out]
            have HUN := Lib.hid hun; clear hun hgb hA hw
            have d3 : w5.cell? ⟨P, 3, none⟩ = some (.string ⟨#[]⟩) := HQ5.out.cell rfl
            have f3 : w5.frozen? ⟨P, 3, none⟩ = false := HQ5.out.frozen 3
            obtain ⟨pl, hpl⟩ : ∃ pl, pl = (s.drop 8).take lf := ⟨_, rfl⟩
            have hs8 : ∀ W, (Instr.slice 9 (str s) (some (.int .i64 8)) (some (.int .i64 (8 + (lf : Int)))) none).run Tryz.prog W = .ok (str pl) W := fun W => by
              have := slice_str W s 8 (8 + lf) (by omega) (by omega)
              rw [show 8 + lf - 8 = lf by omega, ← hpl] at this
              rw [show ((8 + (lf : Int)) : Int) = ((8 + lf : Nat) : Int) by omega]
              exact this
            rw [← hpl] at HUN
            clear hpl
            go_upto_region 15 with (fail)
            obtain ⟨w6, hw6⟩ : ∃ w6, w5.setCell ⟨P, 3, none⟩ (.string ⟨pl.toArray⟩) = w6 := ⟨_, rfl⟩
            have q6 : Blk w6 P [.int .i64 (nm : Int), .int .i64 (pt : Int), .int .i64 (lf : Int), str pl, .bool true] 102 := by rw [← hw6]; exact HQ5.out.set 3 _
            have k6 : Blk w6 w.heap.size [.int .i64 0, .int .i64 0, .int .i64 0, .string ⟨#[]⟩, .bool false] 102 := by rw [← hw6]; exact HK5.out.set_ne _ (by simp; omega)
            have b6 : Below w.heap.size w w6 := by rw [← hw6]; exact below_set HB5.out (Nat.le_refl _) (Nat.le_of_lt hP) _ _
            rw [hw6]
            clear hw6 d0 d1 d2 d3 f3 hs8
            have HQ6 := Lib.hid q6; clear q6
            have HK6 := Lib.hid k6; clear k6
            have HB6 := Lib.hid b6; clear b6
            go_wp2_with (first | (refine wpList_load_agg [.int .i64 (nm : Int), .int .i64 (pt : Int), .int .i64 (lf : Int), str pl, .bool true] HQ6.out.cells0 rfl rfl rfl aggRP infoRP ?_) | (refine wpList_store_blk (ty := 102) (n := 5) (vs := [.int .i64 (nm : Int), .int .i64 (pt : Int), .int .i64 (lf : Int), str pl, .bool true]) HK6.out rfl rfl rfl rfl rfl infoRP rfl (by simp) (by intro u hu; simp only [List.mem_cons, List.not_mem_nil, or_false] at hu; rcases hu with h | h | h | h | h <;> (rw [h]; rfl)) ?_))
            intro w7 hb7 ho7
            go_wp2
            refine bodyPost_ret (results_blk rfl hb7 rfl Tryz.underlying102 rfl (by kernel_rfl)) rfl ?_
            rw [HUN.out]
            exact ⟨rfl, ho7.below HB6.out (Nat.le_refl _)⟩
    · have hgb : goodB s = false := by rw [HGD.out]; simp [g1]
      have hq : (st == s) = false := by simpa using g1
      clear g1
      have HBD := Lib.hid hgb; clear hgb
      go_upto_region 5 with (fail)
      go_wp2_with (refine wpList_store_blk (ty := 102) (n := 5) (vs := [.int .i64 0, .int .i64 0, .int .i64 0, .string ⟨#[]⟩, .bool false]) HK5.out rfl rfl rfl rfl rfl infoRP rfl (by simp) (by intro u hu; simp only [List.mem_cons, List.not_mem_nil, or_false] at hu; rcases hu with h | h | h | h | h <;> (rw [h]; rfl)) ?_)
      intro w6 hb6 ho6
      go_wp2
      refine bodyPost_ret (results_blk rfl hb6 rfl Tryz.underlying102 rfl (by kernel_rfl)) rfl ?_
      rw [unpack_bad HBD.out]
      exact ⟨rfl, ho6.below HB5.out (Nat.le_refl _)⟩
  · rw [unpack_short h64]
    have hl : ((s.length : Int) != 64) = true := by simp; omega
    go_enter Tryz.func54, Tryz.ntmps54
    go_wp2
    refine bodyPost_ret (results_blk rfl (Blk.new w _ 102) rfl Tryz.underlying102 rfl (by kernel_rfl)) rfl ?_
    exact ⟨rfl, alloc_below _ _⟩
end Go.Proofs.YtbmnbdkbgpajeaaGreatDoor
end

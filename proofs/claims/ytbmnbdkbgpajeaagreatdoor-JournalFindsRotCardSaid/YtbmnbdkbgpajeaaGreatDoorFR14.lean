/- journal: unpack, Unpack. -/
import Derived.Test.YtbmnbdkbgpajeaaGreatDoorFR13
import Derived.Deep.CutBlock
/- journal: unpack, Unpack. -/
section
namespace Go.Proofs.YtbmnbdkbgpajeaaGreatDoor
open Go.RowKit Go.Own Go.Jn Go.Disk Go.BigFrame Go.Sha
attribute [local irreducible] SqW
attribute [local go_sem] setCell_twice str_size op_str_eql op_str_neq
/-- a part in memory -/
def prtC (p : Prt) : List Value := [.int .i64 p.n, .int .i64 p.k, .int .i64 p.l, str p.b, .bool p.ok]
def prtV (p : Prt) : Value := .agg (prtC p).toArray
theorem hTsec : Tryz.prog.underlying 96 = some (.array 64 5) := by kernel_rfl
theorem hT32 : Tryz.prog.underlying 125 = some (.array 32 5) := by kernel_rfl
theorem aggSec : (match Tryz.prog.underlying 96 with | some (.struct _) | some (.array _ _) => true | _ => false) = true := by kernel_rfl
theorem agg32 : (match Tryz.prog.underlying 125 with | some (.struct _) | some (.array _ _) => true | _ => false) = true := by kernel_rfl
theorem aggPart : (match Tryz.prog.underlying 94 with | some (.struct _) | some (.array _ _) => true | _ => false) = true := by kernel_rfl
theorem infoSec : (Tryz.prog.info? 96).map (·.size) = some 64 := by kernel_rfl
theorem info32 : (Tryz.prog.info? 125).map (·.size) = some 32 := by kernel_rfl
theorem infoPart : (Tryz.prog.info? 94).map (·.size) = some 5 := by kernel_rfl
theorem beq_any (a b : List UInt8) (va vb : Value) (w : World) (ha : Sl w 1 va a.length (a.map byv)) (hb : Sl w 1 vb b.length (b.map byv)) :
    Calls Tryz.prog 77 #[va, vb] w fun e w' => e = .returned (.bool (decide (a = b))) ∧ w' = w := by
  have h1 := convB w va a ha
  have h2 := convB w vb b hb
  have h3 : (a == b) = decide (a = b) := by rw [Bool.eq_iff_iff]; simp
  go_enter Tryz.func77, Tryz.ntmps77
  go_wp2
  go_ret
  exact ⟨by first | rfl | (rw [h3]) | simp [h3], rfl⟩
theorem arrayAtS (W : World) (g off cap : Nat) : (Instr.arrayAt 96 (.slice (some ⟨g, off, none⟩) 64 cap)).run Tryz.prog W = .ok (.pointer (some ⟨g, off, none⟩)) W := by
  simp [Instr.arrayAt, run_underlying hTsec, Result.andThen]
/-- bytes of a block known whole, as a slice -/
theorem sl_blk {w : World} {g : Nat} {l : List Value} {t : TypeId} (h : Blk w g l t) (off : Nat) (bs : List UInt8) (cap : Nat) (hv : (l.drop off).take bs.length = bs.map byv) (hc : bs.length ≤ cap ∧ cap ≤ 1000) : Sl w 1 (.slice (some ⟨g, off, none⟩) bs.length cap) bs.length (bs.map byv) :=
  ⟨by simp, .inr ⟨g, off, cap, rfl, hc.1, by have := hc.2; unfold maxLen; omega, h.cells off _ (by rw [List.length_map]; exact hv), h.lt⟩⟩
theorem sl_part {w : World} {g : Nat} {t : TypeId} (bs : List UInt8) (h : Blk w g (bs.map byv) t) (off n cap : Nat) (hn : off + n ≤ bs.length) (hc : n ≤ cap ∧ cap ≤ 1000) : Sl w 1 (.slice (some ⟨g, off, none⟩) n cap) ((bs.drop off).take n).length (((bs.drop off).take n).map byv) := by
  have e : ((bs.drop off).take n).length = n := by rw [List.length_take, List.length_drop]; omega
  have := sl_blk h off ((bs.drop off).take n) cap (by rw [e, List.map_take, List.map_drop]) (by rw [e]; exact hc)
  rwa [e] at this ⊢
theorem cells_part {w : World} {g : Nat} {t : TypeId} (bs : List UInt8) (h : Blk w g (bs.map byv) t) (off n : Nat) : Cells w g off (((bs.drop off).take n).map byv) :=
  h.cells off _ (by rw [List.length_map, List.map_take, List.map_drop, List.length_take]; exact (by rw [List.take_eq_take_iff]; simp))
theorem hsum_len (m : List UInt8) (n : Nat) (hn : m.length = n) (sa : Option Addr) (cap : Nat) (w : World) (hsl : Sl w 1 (.slice sa n cap) m.length (m.map byv)) (hle : n ≤ 100000) (hK : Cells w 2 0 (Kt.map U)) (h1 : 2 < w.heap.size) :
    Calls Tryz.prog 75 #[.slice sa n cap] w fun e w' => e = .returned (.agg ((sha m).map byv).toArray) ∧ Below w.heap.size w w' := by
  subst hn
  exact hsum_any m sa cap w hsl (by omega) hK h1
theorem get_part {w : World} {g : Nat} {t : TypeId} (bs : List UInt8) (h : Blk w g (bs.map byv) t) (off n cap : Nat) (hn : off + n ≤ bs.length) (h4 : n ≤ 4) (hc : n ≤ cap ∧ cap ≤ 1000) :
    Calls Tryz.prog 76 #[.slice (some ⟨g, off, none⟩) n cap] w fun e w' => e = .returned (.int .i64 ((num ((bs.drop off).take n) : Nat) : Int)) ∧ Below w.heap.size w w' := by
  have e : ((bs.drop off).take n).length = n := by rw [List.length_take, List.length_drop]; omega
  have := get_any ((bs.drop off).take n) (by omega) g off cap w (cells_part bs h off n) h.lt (by omega)
  rwa [e] at this
theorem slice_str (W : World) (bs : List UInt8) (lo hi : Nat) (h1 : lo ≤ hi) (h2 : hi ≤ bs.length) : (Instr.slice 9 (str bs) (some (.int .i64 (lo : Int))) (some (.int .i64 (hi : Int))) none).run Tryz.prog W = .ok (str ((bs.drop lo).take (hi - lo))) W := by
  rw [run_slice_string (h := hTs) (h0 := by omega) (h1 := by omega) (h2 := by rw [str_size]; omega)]
  congr 2
  apply ByteArray.ext
  simp
theorem make_zeros (n : Nat) (hn : n ≤ 1000000) (u : World) : (Instr.makeSlice 81 (.int .i64 n) (.int .i64 n)).run Tryz.prog u = .ok (.slice (some ⟨u.heap.size, 0, none⟩) n n) (u.alloc (.cells (Array.replicate n (.int .u8 0)) 5)) :=
  run_make_one (.int .u8 0) 1 (by kernel_rfl) (by kernel_rfl) rfl n (by omega) (by unfold maxLen; omega) u
theorem num_lt4 (s : List UInt8) : num (s.take 4) < 4294967296 := by
  have h1 := num_lt (s.take 4)
  have h2 : (256 : Nat) ^ (s.take 4).length ≤ 256 ^ 4 := Nat.pow_le_pow_right (by decide) (by rw [List.length_take]; omega)
  omega
theorem num_lt2 (s : List UInt8) : num (s.take 2) < 65536 := by
  have h1 := num_lt (s.take 2)
  have h2 : (256 : Nat) ^ (s.take 2).length ≤ 256 ^ 2 := Nat.pow_le_pow_right (by decide) (by rw [List.length_take]; omega)
  omega
theorem prtC_one (p : Prt) : ∀ v ∈ prtC p, v.oneCell' = true := by
  intro v hv
  simp only [prtC, List.mem_cons, List.not_mem_nil, or_false] at hv
  rcases hv with rfl | rfl | rfl | rfl | rfl <;> rfl
theorem unpack_bad {s : List UInt8} (h : goodB s = false) : Jn.unpack s = prt0 := by unfold Jn.unpack; rw [if_neg (by rw [h]; exact Bool.false_ne_true)]
set_option maxRecDepth 100000 in
set_option maxHeartbeats 2000000 in
theorem unpack_any (s : List UInt8) (hs : s.length ≤ 140737488355328) (w : World) (hK : Cells w 2 0 (Kt.map U)) (h1 : 2 < w.heap.size) :
    Calls Tryz.prog 49 #[str s] w fun e w' => e = .returned (prtV (Jn.unpack s)) ∧ Below w.heap.size w w' := by
  have HK := Lib.hid hK; clear hK
  by_cases h64 : s.length = 64
  · have d0 : ((s.length : Int) != 64) = false := by rw [bne_eq_false_iff_eq]; omega
    go_enter Tryz.func49, Tryz.ntmps49
    go_wp2_with (refine wpList_str_bytes (bs := s) rfl rfl rfl hTs hTb hT8 hs ?_)
    obtain ⟨W0, hW0⟩ : ∃ W0, w.alloc (Obj.cells #[.int .i64 0, .int .i64 0, .int .i64 0, .string ⟨#[]⟩, .bool false] 94) = W0 := ⟨_, rfl⟩
    have a1 : Blk W0 w.heap.size [.int .i64 0, .int .i64 0, .int .i64 0, .string ⟨#[]⟩, .bool false] 94 := by rw [← hW0]; exact Blk.new _ _ _
    have a2 : Below w.heap.size w W0 := by rw [← hW0]; exact alloc_below _ _
    have a5 : W0.heap.size = w.heap.size + 1 := by rw [← hW0]; simp
    rw [hW0]
    clear hW0
    intro cap sp w1 hc1 hc2 hbf hb1
    rw [← a5] at hb1 hbf
    have a3 := a1.below hb1 a1.lt
    have a4 := a2.trans (hb1.mono a2.size)
    have hC : Cells w1 W0.heap.size 0 (s.map byv) := hbf.cells 0 (s.map byv) (by simp)
    rw [a5] at hC
    have hl1 : w.heap.size + 1 < w1.heap.size := by have := hbf.lt; omega
    clear hbf a1 a2 hb1 d0 a5
    have harr := fun (W : World) => arrayAtS W (w.heap.size + 1) 0 cap
    go_wp2_with (first | (refine wpList_load_agg (s.map byv) hC rfl rfl rfl aggSec (by rw [List.length_map, h64]; exact infoSec) ?_) | (refine wpList_store_blk (ty := 96) (n := 64) (vs := s.map byv) (Blk.new _ _ 96) rfl rfl rfl rfl rfl infoSec (by simp [h64]) (by simp) (bytes_oneCell _) ?_))
    intro w2 hb2 ho2
    have hb2' : Blk w2 w1.heap.size (s.map byv) 96 := by simpa using hb2
    have a5 : Below w1.heap.size w1 w2 := ho2.below (alloc_below _ _) (Nat.le_refl _)
    have a6 := a3.below a5 (by omega)
    have a7 := a4.trans (a5.mono (by omega))
    clear hb2 ho2 harr hC a3 a4
    obtain ⟨S, hS⟩ : ∃ S, S = w1.heap.size := ⟨_, rfl⟩
    rw [← hS] at hb2' ⊢
    have hSB : w.heap.size < S := by omega
    clear hS hl1 a5 hc1 hc2
    have h56 : (s.take 56).length = 56 := by rw [List.length_take]; omega
    have hsl := sl_part s hb2' 0 56 64 (by omega) (by omega)
    rw [List.drop_zero] at hsl
    have H56 := Lib.hid h56; clear h56
    have HSL := Lib.hid hsl; clear hsl
    have HA6 := Lib.hid a6; clear a6
    have HA7 := Lib.hid a7; clear a7
    have HB2 := Lib.hid hb2'; clear hb2'
    go_wp2_with fail
    refine (hsum_len (s.take 56) 56 H56.out _ _ w2 (by have := HSL.out; rw [H56.out] at this ⊢; exact this) (by decide) (HK.out.below HA7.out h1) (Nat.lt_of_lt_of_le h1 HA7.out.size)).mono ?_
    rintro e w3 ⟨rfl, b3⟩
    have HB3 := Lib.hid b3; clear b3
    go_wp2_with (refine wpList_store_blk (ty := 125) (n := 32) (vs := (sha (s.take 56)).map byv) (Blk.new _ _ 125) rfl rfl rfl rfl rfl info32 (by simp [sha_length]) (by simp) (bytes_oneCell _) ?_)
    intro w4 hb4 ho4
    obtain ⟨T, hT⟩ : ∃ T, T = w3.heap.size := ⟨_, rfl⟩
    have c1 : Below w3.heap.size w3 w4 := ho4.below (alloc_below _ _) (Nat.le_refl _)
    have c2 : Below w2.heap.size w2 w4 := HB3.out.trans (c1.mono HB3.out.size)
    have c3 : Below w.heap.size w w4 := HA7.out.trans (c2.mono HA7.out.size)
    have k1 := HA6.out.below c2 HA6.out.lt
    have k2 := HB2.out.below c2 HB2.out.lt
    have hST : S < T := by have := HB2.out.lt; have := HB3.out.size; omega
    rw [← hT] at hb4 ⊢
    clear hT c1 c2 ho4 HB3 HA6 HA7 HB2 HSL H56
    have HC3 := Lib.hid c3; clear c3
    have HK1 := Lib.hid k1; clear k1
    have HK2 := Lib.hid k2; clear k2
    have HK3 := Lib.hid hb4; clear hb4
    go_wp2
    refine wp_region_sqB 8 [1, 3, 5, 7] (fun i v W => match i with
      | 1 => v = .int .i64 ((Jn.numOf s : Nat) : Int)
      | 3 => v = .int .i64 ((Jn.prtOf s : Nat) : Int)
      | 5 => v = .int .i64 ((Jn.leftOf s : Nat) : Int)
      | 7 => ∃ R, v = .pointer (some ⟨R, 0, none⟩) ∧ w4.heap.size ≤ R ∧ Blk W R [.int .i64 0, .int .i64 0, .int .i64 0, .string ⟨#[]⟩, .bool false] 94
      | _ => True) (by kernel_rfl) (by kernel_rfl) ?stable ?main
    case stable =>
      intro i v W W' h hb
      match i, h with
      | 0, h => exact h
      | 1, h => exact h
      | 2, h => exact h
      | 3, h => exact h
      | 4, h => exact h
      | 5, h => exact h
      | 6, h => exact h
      | 7, h => exact (by obtain ⟨R, h1, h2, h3⟩ := h; exact ⟨R, h1, h2, h3.below hb h3.lt⟩)
      | _ + 8, _ => exact trivial
    simp only [List.take_succ_cons, List.take_zero, List.drop_succ_cons, List.drop_zero]
    repeat (refine sqw_quiet rfl rfl (ExtB.refl _) ?_; go_big_quiet_step (fail); refine wpQuiet_nil ?_)
    refine sqw_postY rfl rfl rfl ?_ ?_
    · intro W1 hb hf
      refine yields_call rfl (by kernel_rfl) rfl rfl ((get_part s (HK2.out.below (ExtB.undrew hb) HK2.out.lt) 0 4 64 (by omega) (by decide) (by omega)).mono ?_)
      rintro e u1 ⟨rfl, hu⟩
      exact ⟨_, rfl, rfl, ExtB.of hu⟩
    intro v Wj hv
    obtain rfl : v = .int .i64 ((Jn.numOf s : Nat) : Int) := hv
    simp only [Act.put, List.setIfInBounds_toArray, List.set_cons_zero, List.set_cons_succ]
    repeat (refine sqw_quiet rfl rfl (ExtB.refl _) ?_; go_big_quiet_step (fail); refine wpQuiet_nil ?_)
    refine sqw_postY rfl rfl rfl ?_ ?_
    · intro W1 hb hf
      refine yields_call rfl (by kernel_rfl) rfl rfl ((get_part s (HK2.out.below (ExtB.undrew hb) HK2.out.lt) 4 2 60 (by omega) (by decide) (by omega)).mono ?_)
      rintro e u1 ⟨rfl, hu⟩
      exact ⟨_, rfl, rfl, ExtB.of hu⟩
    intro v Wj hv
    obtain rfl : v = .int .i64 ((Jn.prtOf s : Nat) : Int) := hv
    simp only [Act.put, List.setIfInBounds_toArray, List.set_cons_zero, List.set_cons_succ]
    repeat (refine sqw_quiet rfl rfl (ExtB.refl _) ?_; go_big_quiet_step (fail); refine wpQuiet_nil ?_)
    refine sqw_postY rfl rfl rfl ?_ ?_
    · intro W1 hb hf
      refine yields_call rfl (by kernel_rfl) rfl rfl ((get_part s (HK2.out.below (ExtB.undrew hb) HK2.out.lt) 6 2 58 (by omega) (by decide) (by omega)).mono ?_)
      rintro e u1 ⟨rfl, hu⟩
      exact ⟨_, rfl, rfl, ExtB.of hu⟩
    intro v Wj hv
    obtain rfl : v = .int .i64 ((Jn.leftOf s : Nat) : Int) := hv
    simp only [Act.put, List.setIfInBounds_toArray, List.set_cons_zero, List.set_cons_succ]
    repeat (refine sqw_quiet rfl rfl (ExtB.refl _) ?_; go_big_quiet_step (fail); refine wpQuiet_nil ?_)
    refine sqw_postY rfl rfl rfl ?_ ?_
    · intro W1 hb hf
      refine yields_value (v := .pointer (some ⟨W1.heap.size, 0, none⟩)) (w' := W1.alloc (.cells #[.int .i64 0, .int .i64 0, .int .i64 0, .string ⟨#[]⟩, .bool false] 94)) ?_ ⟨⟨_, rfl, (ExtB.undrew hb).size, Blk.new _ _ _⟩, ExtB.of (alloc_below _ _)⟩
      go_simp
    intro v Wj hv
    obtain ⟨P, rfl, _⟩ := hv
    simp only [Act.put, List.setIfInBounds_toArray, List.set_cons_zero, List.set_cons_succ]
    repeat (refine sqw_quiet rfl rfl (ExtB.refl _) ?_; go_big_quiet_step (fail); refine wpQuiet_nil ?_)
    refine sqw_nil ?_
    intro w5 hb hf
    obtain ⟨R', hR1, hR2, hR3⟩ : ∃ R', Value.pointer (some ⟨P, 0, none⟩) = .pointer (some ⟨R', 0, none⟩) ∧ w4.heap.size ≤ R' ∧ Blk w5 R' [.int .i64 0, .int .i64 0, .int .i64 0, .string ⟨#[]⟩, .bool false] 94 := hf 7 5 (by decide) (by kernel_rfl) rfl (fun o h => by obtain rfl := Option.some.inj h; rfl)
    injection hR1 with e1
    injection e1 with e1
    injection e1 with e1
    subst e1
    have b5 : Below w4.heap.size w4 w5 := ExtB.undrew hb
    clear hf hb
    go_wp2_with (refine wpList_store_blk (ty := 94) (n := 5) (vs := [.int .i64 ((Jn.numOf s : Nat) : Int), .int .i64 ((Jn.prtOf s : Nat) : Int), .int .i64 ((Jn.leftOf s : Nat) : Int), .string ⟨#[]⟩, .bool true]) hR3 rfl rfl rfl rfl rfl infoPart rfl (by simp) (by intro u hu; simp at hu; rcases hu with hu | hu | hu | hu | hu <;> (subst hu; rfl)) ?_)
    intro w6 hb6 ho6
    have b6 : Below w4.heap.size w4 w6 := ho6.below b5 hR2
    have hTP : T < P := by have := HK3.out.lt; omega
    have k4 : Blk w6 P [.int .i64 ((Jn.numOf s : Nat) : Int), .int .i64 ((Jn.prtOf s : Nat) : Int), .int .i64 ((Jn.leftOf s : Nat) : Int), .string ⟨#[]⟩, .bool true] 94 := hb6
    have k1 := HK1.out.below b6 HK1.out.lt
    have k2 := HK2.out.below b6 HK2.out.lt
    have k3 := HK3.out.below b6 HK3.out.lt
    have c6 := HC3.out.trans (b6.mono HC3.out.size)
    clear hb6 ho6 hR3 b5 b6 HK1 HK2 HK3 HC3 hR2
    have HC3 := Lib.hid c6; clear c6
    have HK1 := Lib.hid k1; clear k1
    have HK2 := Lib.hid k2; clear k2
    have HK3 := Lib.hid k3; clear k3
    have HK4 := Lib.hid k4; clear k4
    obtain ⟨lf, hlf⟩ : ∃ lf, lf = Jn.leftOf s := ⟨_, rfl⟩
    obtain ⟨nn, hnn⟩ : ∃ nn, nn = min lf 48 := ⟨_, rfl⟩
    have q2 : w6.cell? ⟨P, 2, none⟩ = some (.int .i64 lf) := by rw [hlf]; exact HK4.out.cell rfl
    have HLF := Lib.hid hlf; clear hlf
    have HNN := Lib.hid hnn; clear hnn
    go_upto_region 6 with (fail)
    go_cut [6] (fun v6 wr => v6 = .int .i64 (nn : Int) ∧ wr = w6)
    case first =>
      go_wp2
      all_goals
        go_meet
        exact ⟨congrArg (Value.int .i64) (by have := HNN.out; omega), rfl⟩
    case rest =>
      obtain ⟨rfl, rfl⟩ := hcut
      have hnn48 : nn ≤ 48 := by have := HNN.out; omega
      obtain ⟨z, hz⟩ : ∃ z, z = 48 - nn := ⟨_, rfl⟩
      have hz1 : (48 : Int) - (nn : Int) = (z : Int) := by omega
      have hmk := make_zeros z (by omega)
      have HZ := Lib.hid hz; clear hz
      go_upto_region 8 with (fail)
      obtain ⟨Z, hZ⟩ : ∃ Z, Z = wc.heap.size := ⟨_, rfl⟩
      obtain ⟨w8, hw8⟩ : ∃ w8, wc.alloc (.cells (Array.replicate z (.int .u8 0)) 5) = w8 := ⟨_, rfl⟩
      have b8 : Below wc.heap.size wc w8 := by rw [← hw8]; exact alloc_below _ _
      have k1 := HK1.out.below b8 HK1.out.lt
      have k2 := HK2.out.below b8 HK2.out.lt
      have k3 := HK3.out.below b8 HK3.out.lt
      have k4 := HK4.out.below b8 HK4.out.lt
      have k5 : Blk w8 Z ((List.replicate z (0 : UInt8)).map byv) 5 := by
        rw [← hw8, hZ]
        have := Blk.new wc (Array.replicate z (.int .u8 0)) 5
        rw [Array.toList_replicate] at this
        rw [List.map_replicate]
        exact this
      have c8 := HC3.out.trans (b8.mono HC3.out.size)
      rw [← hZ, hw8]
      clear hZ hw8 q2 hmk hz1 b8 HK1 HK2 HK3 HK4 HC3
      obtain ⟨nm, hnm⟩ : ∃ nm, nm = Jn.numOf s := ⟨_, rfl⟩
      obtain ⟨pt, hpt⟩ : ∃ pt, pt = Jn.prtOf s := ⟨_, rfl⟩
      rw [← HLF.out, ← hnm, ← hpt] at k4
      have q0 : w8.cell? ⟨P, 0, none⟩ = some (.int .i64 nm) := k4.cell rfl
      have q1 : w8.cell? ⟨P, 1, none⟩ = some (.int .i64 pt) := k4.cell rfl
      have q2 : w8.cell? ⟨P, 2, none⟩ = some (.int .i64 lf) := k4.cell rfl
      have lnm : nm < 4294967296 := by rw [hnm]; exact num_lt4 s
      have lpt : pt < 65536 := by rw [hpt]; exact num_lt2 _
      have llf : lf < 65536 := by rw [HLF.out]; exact num_lt2 _
      have hgp := goodB_prog h64
      rw [← HLF.out, ← hnm, ← hpt, ← HNN.out, ← HZ.out] at hgp
      have HGP := Lib.hid hgp; clear hgp
      have HNM := Lib.hid hnm; clear hnm
      have HPT := Lib.hid hpt; clear hpt
      obtain ⟨m8, hm8⟩ : ∃ m8, m8 = 8 + nn := ⟨_, rfl⟩
      have hw3 : IntKind.i64.wrap (8 + (nn : Int)) = (m8 : Int) := by rw [IntWalk.i64_in _ (by omega)]; omega
      have hw1 : IntKind.i64.wrap (48 * (pt : Int)) = 48 * (pt : Int) := IntWalk.i64_in _ (by omega)
      have hw2 : IntKind.i64.wrap (48 * (pt : Int) + (lf : Int)) = 48 * (pt : Int) + lf := IntWalk.i64_in _ (by omega)
      have hm8i : (m8 : Int) ≤ 56 := by omega
      have HM8 := Lib.hid hm8; clear hm8
      have HC8 := Lib.hid c8; clear c8
      have HK1 := Lib.hid k1; clear k1
      have HK4 := Lib.hid k4; clear k4
      have sl1 : ∀ W n, W = w8.drewN n → Sl W 1 (.slice (some ⟨T, 0, none⟩) 8 32) ((sha (s.take 56)).take 8).length (((sha (s.take 56)).take 8).map byv) := fun W n e => by
        rw [e]
        have := sl_part (sha (s.take 56)) (k3.drewN n) 0 8 32 (by rw [sha_length]; omega) (by omega)
        rwa [List.drop_zero] at this
      have sl2 : ∀ W n, W = w8.drewN n → Sl W 1 (.slice (some ⟨S, 56, none⟩) 8 8) (s.drop 56).length ((s.drop 56).map byv) := fun W n e => by
        rw [e]
        have := sl_part s (k2.drewN n) 56 8 8 (by omega) (by omega)
        rwa [List.take_of_length_le (by rw [List.length_drop]; omega)] at this
      have hq1 : ∀ n, Calls Tryz.prog 77 #[.slice (some ⟨T, 0, none⟩) 8 32, .slice (some ⟨S, 56, none⟩) 8 8] (w8.drewN n) fun e w' => e = .returned (.bool (decide ((sha (s.take 56)).take 8 = s.drop 56))) ∧ w' = w8.drewN n :=
        fun n => beq_any _ _ _ _ _ (sl1 _ n rfl) (sl2 _ n rfl)
      obtain ⟨g1, hg1⟩ : ∃ g1, g1 = decide ((sha (s.take 56)).take 8 = s.drop 56) := ⟨_, rfl⟩
      rw [← hg1] at hq1
      have HG1 := Lib.hid hg1; clear hg1
      have HQ1 := Lib.hid hq1; clear hq1
      have hX : ((s.take 56).drop m8) = (s.drop m8).take (56 - m8) := by rw [List.drop_take]
      have hXl : ((s.take 56).drop m8).length = z := by rw [List.length_drop, List.length_take, h64]; have := HM8.out; have := HZ.out; omega
      have sl3 : ∀ n, Sl (w8.drewN n) 1 (.slice (some ⟨S, m8, none⟩) (56 - m8) (64 - m8)) ((s.take 56).drop m8).length (((s.take 56).drop m8).map byv) := fun n => by
        rw [hX]
        exact sl_part s (k2.drewN n) m8 (56 - m8) (64 - m8) (by omega) (by omega)
      have sl4 : ∀ n, Sl (w8.drewN n) 1 (.slice (some ⟨Z, 0, none⟩) z z) (List.replicate z (0 : UInt8)).length ((List.replicate z (0 : UInt8)).map byv) := fun n => by
        have := sl_blk (k5.drewN n) 0 (List.replicate z (0 : UInt8)) z (by simp) (by rw [List.length_replicate]; have := HZ.out; omega)
        rwa [List.length_replicate] at this ⊢
      have hq2 : ∀ n, Calls Tryz.prog 77 #[.slice (some ⟨S, m8, none⟩) (56 - m8) (64 - m8), .slice (some ⟨Z, 0, none⟩) z z] (w8.drewN n) fun e w' => e = .returned (.bool (decide ((s.take 56).drop m8 = List.replicate z 0))) ∧ w' = w8.drewN n :=
        fun n => beq_any _ _ _ _ _ (sl3 n) (sl4 n)
      obtain ⟨g7, hg7⟩ : ∃ g7, g7 = decide ((s.take 56).drop m8 = List.replicate z 0) := ⟨_, rfl⟩
      rw [← hg7] at hq2
      have HG7 := Lib.hid hg7; clear hg7
      have HQ2 := Lib.hid hq2; clear hq2
      clear sl1 sl2 sl3 sl4 hX hXl k2 k3 k5
      cases g1 with
      | false =>
        have hbad : goodB s = false := by rw [HGP.out, ← HG1.out]; rfl
        refine wp_region_quiet_lit (by kernel_rfl) (by kernel_rfl) ?_
        repeat (go_big_quiet_step (exact Calls.quiet_of_same (HQ1.out _)))
        refine wpQuiet_nil ?_
        rintro _ ⟨nq, rfl⟩
        have HBD := Lib.hid hbad; clear hbad
        go_wp2_with (refine wpList_store_blk (ty := 94) (n := 5) (vs := prtC prt0) (HK1.out.drewN nq) rfl rfl rfl rfl rfl infoPart rfl (by simp) (prtC_one _) ?_)
        intro w9 h9 o9
        have h9' : Blk w9 w.heap.size (prtC prt0) 94 := h9
        have b9 : Below w.heap.size w w9 := o9.below (below_drewN HC8.out nq) (Nat.le_refl _)
        clear h9 o9
        have H9 := Lib.hid h9'; clear h9'
        have B9 := Lib.hid b9; clear b9
        go_wp2
        refine bodyPost_ret (results_blk rfl H9.out rfl Tryz.underlying94 rfl (by kernel_rfl)) rfl ?_
        rw [unpack_bad HBD.out]
        exact ⟨rfl, B9.out⟩
      | true =>
      by_cases e2 : nm = 0
      · have hbad : goodB s = false := by rw [HGP.out]; simp [e2]
        have d2 : ((nm : Int) == 0) = true := by rw [beq_iff_eq]; omega
        clear e2
        refine wp_region_quiet_lit (by kernel_rfl) (by kernel_rfl) ?_
        repeat (go_big_quiet_step (exact Calls.quiet_of_same (HQ1.out _)))
        refine wpQuiet_nil ?_
        rintro _ ⟨nq, rfl⟩
        have HBD := Lib.hid hbad; clear hbad
        go_wp2_with (refine wpList_store_blk (ty := 94) (n := 5) (vs := prtC prt0) (HK1.out.drewN nq) rfl rfl rfl rfl rfl infoPart rfl (by simp) (prtC_one _) ?_)
        intro w9 h9 o9
        have h9' : Blk w9 w.heap.size (prtC prt0) 94 := h9
        have b9 : Below w.heap.size w w9 := o9.below (below_drewN HC8.out nq) (Nat.le_refl _)
        clear h9 o9
        have H9 := Lib.hid h9'; clear h9'
        have B9 := Lib.hid b9; clear b9
        go_wp2
        refine bodyPost_ret (results_blk rfl H9.out rfl Tryz.underlying94 rfl (by kernel_rfl)) rfl ?_
        rw [unpack_bad HBD.out]
        exact ⟨rfl, B9.out⟩
      by_cases e3 : 4096 < nm
      · have hbad : goodB s = false := by rw [HGP.out]; simp [e3]
        have d2 : ((nm : Int) == 0) = false := by rw [beq_eq_false_iff_ne]; omega
        have d3 : ((4096 : Int) < (nm : Int)) = True := eq_true (by omega)
        have d3' : (4096 < nm) = True := eq_true (by omega)
        clear e2 e3
        refine wp_region_quiet_lit (by kernel_rfl) (by kernel_rfl) ?_
        repeat (go_big_quiet_step (exact Calls.quiet_of_same (HQ1.out _)))
        refine wpQuiet_nil ?_
        rintro _ ⟨nq, rfl⟩
        have HBD := Lib.hid hbad; clear hbad
        go_wp2_with (refine wpList_store_blk (ty := 94) (n := 5) (vs := prtC prt0) (HK1.out.drewN nq) rfl rfl rfl rfl rfl infoPart rfl (by simp) (prtC_one _) ?_)
        intro w9 h9 o9
        have h9' : Blk w9 w.heap.size (prtC prt0) 94 := h9
        have b9 : Below w.heap.size w w9 := o9.below (below_drewN HC8.out nq) (Nat.le_refl _)
        clear h9 o9
        have H9 := Lib.hid h9'; clear h9'
        have B9 := Lib.hid b9; clear b9
        go_wp2
        refine bodyPost_ret (results_blk rfl H9.out rfl Tryz.underlying94 rfl (by kernel_rfl)) rfl ?_
        rw [unpack_bad HBD.out]
        exact ⟨rfl, B9.out⟩
      by_cases e4 : 8000 < 48 * pt + lf
      · have hbad : goodB s = false := by rw [HGP.out]; simp [e4]
        have d2 : ((nm : Int) == 0) = false := by rw [beq_eq_false_iff_ne]; omega
        have d3 : ((4096 : Int) < (nm : Int)) = False := eq_false (by omega)
        have d3' : (4096 < nm) = False := eq_false (by omega)
        have d4 : ((8000 : Int) < 48 * (pt : Int) + (lf : Int)) = True := eq_true (by omega)
        have d4' : (8000 < 48 * pt + lf) = True := eq_true (by omega)
        clear e2 e3 e4
        refine wp_region_quiet_lit (by kernel_rfl) (by kernel_rfl) ?_
        repeat (go_big_quiet_step (exact Calls.quiet_of_same (HQ1.out _)))
        refine wpQuiet_nil ?_
        rintro _ ⟨nq, rfl⟩
        have HBD := Lib.hid hbad; clear hbad
        go_wp2_with (refine wpList_store_blk (ty := 94) (n := 5) (vs := prtC prt0) (HK1.out.drewN nq) rfl rfl rfl rfl rfl infoPart rfl (by simp) (prtC_one _) ?_)
        intro w9 h9 o9
        have h9' : Blk w9 w.heap.size (prtC prt0) 94 := h9
        have b9 : Below w.heap.size w w9 := o9.below (below_drewN HC8.out nq) (Nat.le_refl _)
        clear h9 o9
        have H9 := Lib.hid h9'; clear h9'
        have B9 := Lib.hid b9; clear b9
        go_wp2
        refine bodyPost_ret (results_blk rfl H9.out rfl Tryz.underlying94 rfl (by kernel_rfl)) rfl ?_
        rw [unpack_bad HBD.out]
        exact ⟨rfl, B9.out⟩
      by_cases e5 : lf = 0
      · by_cases e6 : 0 < pt
        · have hbad : goodB s = false := by rw [HGP.out]; simp [e5, e6]
          have d2 : ((nm : Int) == 0) = false := by rw [beq_eq_false_iff_ne]; omega
          have d3 : ((4096 : Int) < (nm : Int)) = False := eq_false (by omega)
          have d3' : (4096 < nm) = False := eq_false (by omega)
          have d4 : ((8000 : Int) < 48 * (pt : Int) + (lf : Int)) = False := eq_false (by omega)
          have d4' : (8000 < 48 * pt + lf) = False := eq_false (by omega)
          have d5 : ((lf : Int) == 0) = true := by rw [beq_iff_eq]; omega
          have d6 : ((0 : Int) < (pt : Int)) = True := eq_true (by omega)
          have d6' : (0 < pt) = True := eq_true (by omega)
          clear e2 e3 e4 e5 e6
          refine wp_region_quiet_lit (by kernel_rfl) (by kernel_rfl) ?_
          repeat (go_big_quiet_step (exact Calls.quiet_of_same (HQ1.out _)))
          refine wpQuiet_nil ?_
          rintro _ ⟨nq, rfl⟩
          have HBD := Lib.hid hbad; clear hbad
          go_wp2_with (refine wpList_store_blk (ty := 94) (n := 5) (vs := prtC prt0) (HK1.out.drewN nq) rfl rfl rfl rfl rfl infoPart rfl (by simp) (prtC_one _) ?_)
          intro w9 h9 o9
          have h9' : Blk w9 w.heap.size (prtC prt0) 94 := h9
          have b9 : Below w.heap.size w w9 := o9.below (below_drewN HC8.out nq) (Nat.le_refl _)
          clear h9 o9
          have H9 := Lib.hid h9'; clear h9'
          have B9 := Lib.hid b9; clear b9
          go_wp2
          refine bodyPost_ret (results_blk rfl H9.out rfl Tryz.underlying94 rfl (by kernel_rfl)) rfl ?_
          rw [unpack_bad HBD.out]
          exact ⟨rfl, B9.out⟩
        · have _ := trivial
          have d2 : ((nm : Int) == 0) = false := by rw [beq_eq_false_iff_ne]; omega
          have d3 : ((4096 : Int) < (nm : Int)) = False := eq_false (by omega)
          have d3' : (4096 < nm) = False := eq_false (by omega)
          have d4 : ((8000 : Int) < 48 * (pt : Int) + (lf : Int)) = False := eq_false (by omega)
          have d4' : (8000 < 48 * pt + lf) = False := eq_false (by omega)
          have d5 : ((lf : Int) == 0) = true := by rw [beq_iff_eq]; omega
          have d6 : ((0 : Int) < (pt : Int)) = False := eq_false (by omega)
          have d6' : (0 < pt) = False := eq_false (by omega)
          have HCL := Lib.hid (show ¬ nm = 0 ∧ ¬ 4096 < nm ∧ ¬ 8000 < 48 * pt + lf ∧ lf = 0 ∧ ¬ 0 < pt from ⟨e2, e3, e4, e5, e6⟩); clear e2 e3 e4 e5 e6
          cases g7 with
          | false =>
            have hbad : goodB s = false := by rw [HGP.out, ← HM8.out, ← HG7.out, Bool.and_false]
            refine wp_region_quiet_lit (by kernel_rfl) (by kernel_rfl) ?_
            iterate 38 (go_big_quiet_step (exact Calls.quiet_of_same (HQ1.out _)))
            iterate 3 (go_big_quiet_step (exact Calls.quiet_of_same (HQ2.out _)))
            refine wpQuiet_nil ?_
            rintro _ ⟨nq, rfl⟩
            have HBD := Lib.hid hbad; clear hbad
            go_wp2_with (refine wpList_store_blk (ty := 94) (n := 5) (vs := prtC prt0) (HK1.out.drewN nq) rfl rfl rfl rfl rfl infoPart rfl (by simp) (prtC_one _) ?_)
            intro w9 h9 o9
            have h9' : Blk w9 w.heap.size (prtC prt0) 94 := h9
            have b9 : Below w.heap.size w w9 := o9.below (below_drewN HC8.out nq) (Nat.le_refl _)
            clear h9 o9
            have H9 := Lib.hid h9'; clear h9'
            have B9 := Lib.hid b9; clear b9
            go_wp2
            refine bodyPost_ret (results_blk rfl H9.out rfl Tryz.underlying94 rfl (by kernel_rfl)) rfl ?_
            rw [unpack_bad HBD.out]
            exact ⟨rfl, B9.out⟩
          | true =>
            have hgood : goodB s = true := by rw [HGP.out, ← HG1.out, ← HM8.out, ← HG7.out]; have := HCL.out; simp [this]; try omega
            have HGD := Lib.hid hgood; clear hgood
            refine wp_region_quiet_lit (by kernel_rfl) (by kernel_rfl) ?_
            iterate 38 (go_big_quiet_step (exact Calls.quiet_of_same (HQ1.out _)))
            iterate 3 (go_big_quiet_step (exact Calls.quiet_of_same (HQ2.out _)))
            refine wpQuiet_nil ?_
            rintro _ ⟨nq, rfl⟩
            have hsl : ∀ W, (Instr.slice 9 (str s) (some (.int .i64 (8 : Int))) (some (.int .i64 (m8 : Int))) none).run Tryz.prog W = .ok (str ((s.drop 8).take nn)) W := fun W => by
              have := slice_str W s 8 m8 (by have := HM8.out; omega) (by omega)
              rw [show m8 - 8 = nn by have := HM8.out; omega] at this
              exact this
            have kf : w8.frozen? ⟨P, 3, none⟩ = false := HK4.out.frozen 3
            have q3 : w8.cell? ⟨P, 3, none⟩ = some (.string ⟨#[]⟩) := HK4.out.cell rfl
            go_upto_region 11 with (fail)
            obtain ⟨w9, hw9⟩ : ∃ w9, (w8.drewN nq).setCell ⟨P, 3, none⟩ (str ((s.drop 8).take nn)) = w9 := ⟨_, rfl⟩
            have k49 : Blk w9 P (prtC ⟨nm, pt, lf, (s.drop 8).take nn, true⟩) 94 := by rw [← hw9]; exact (HK4.out.drewN nq).set 3 _
            have k19 := (HK1.out.drewN nq).set_ne (a := ⟨P, 3, none⟩) (str ((s.drop 8).take nn)) (by simp; omega)
            have b9 : Below w.heap.size w w9 := by rw [← hw9]; exact below_set (below_drewN HC8.out nq) (Nat.le_refl _) (by omega) _ _
            rw [hw9] at k19
            rw [hw9]
            clear hw9 q0 q1 q2 q3 kf hsl
            have K4 := Lib.hid k49; clear k49
            have K1 := Lib.hid k19; clear k19
            have B9 := Lib.hid b9; clear b9
            go_wp2_with (first | (refine wpList_load_agg (prtC ⟨nm, pt, lf, (s.drop 8).take nn, true⟩) K4.out.cells0 rfl rfl rfl aggPart infoPart ?_) | (refine wpList_store_blk (ty := 94) (n := 5) (vs := prtC ⟨nm, pt, lf, (s.drop 8).take nn, true⟩) K1.out rfl rfl rfl rfl rfl infoPart rfl (by simp) (prtC_one _) ?_))
            intro wa ha oa
            have ha' : Blk wa w.heap.size (prtC ⟨nm, pt, lf, (s.drop 8).take nn, true⟩) 94 := ha
            have ba : Below w.heap.size w wa := oa.below B9.out (Nat.le_refl _)
            clear ha oa
            have HA := Lib.hid ha'; clear ha'
            have BA := Lib.hid ba; clear ba
            go_wp2
            refine bodyPost_ret (results_blk rfl HA.out rfl Tryz.underlying94 rfl (by kernel_rfl)) rfl ?_
            have he : Jn.unpack s = ⟨nm, pt, lf, (s.drop 8).take nn, true⟩ := by
              unfold Jn.unpack
              rw [if_pos HGD.out, HNM.out, HPT.out, HNN.out, HLF.out]
            rw [he]
            exact ⟨rfl, BA.out⟩
      · have _ := trivial
        have d2 : ((nm : Int) == 0) = false := by rw [beq_eq_false_iff_ne]; omega
        have d3 : ((4096 : Int) < (nm : Int)) = False := eq_false (by omega)
        have d3' : (4096 < nm) = False := eq_false (by omega)
        have d4 : ((8000 : Int) < 48 * (pt : Int) + (lf : Int)) = False := eq_false (by omega)
        have d4' : (8000 < 48 * pt + lf) = False := eq_false (by omega)
        have d5 : ((lf : Int) == 0) = false := by rw [beq_eq_false_iff_ne]; omega
        have HCL := Lib.hid (show ¬ nm = 0 ∧ ¬ 4096 < nm ∧ ¬ 8000 < 48 * pt + lf ∧ ¬ lf = 0 from ⟨e2, e3, e4, e5⟩); clear e2 e3 e4 e5
        cases g7 with
        | false =>
          have hbad : goodB s = false := by rw [HGP.out, ← HM8.out, ← HG7.out, Bool.and_false]
          refine wp_region_quiet_lit (by kernel_rfl) (by kernel_rfl) ?_
          iterate 38 (go_big_quiet_step (exact Calls.quiet_of_same (HQ1.out _)))
          iterate 3 (go_big_quiet_step (exact Calls.quiet_of_same (HQ2.out _)))
          refine wpQuiet_nil ?_
          rintro _ ⟨nq, rfl⟩
          have HBD := Lib.hid hbad; clear hbad
          go_wp2_with (refine wpList_store_blk (ty := 94) (n := 5) (vs := prtC prt0) (HK1.out.drewN nq) rfl rfl rfl rfl rfl infoPart rfl (by simp) (prtC_one _) ?_)
          intro w9 h9 o9
          have h9' : Blk w9 w.heap.size (prtC prt0) 94 := h9
          have b9 : Below w.heap.size w w9 := o9.below (below_drewN HC8.out nq) (Nat.le_refl _)
          clear h9 o9
          have H9 := Lib.hid h9'; clear h9'
          have B9 := Lib.hid b9; clear b9
          go_wp2
          refine bodyPost_ret (results_blk rfl H9.out rfl Tryz.underlying94 rfl (by kernel_rfl)) rfl ?_
          rw [unpack_bad HBD.out]
          exact ⟨rfl, B9.out⟩
        | true =>
          have hgood : goodB s = true := by rw [HGP.out, ← HG1.out, ← HM8.out, ← HG7.out]; have := HCL.out; simp [this]; try omega
          have HGD := Lib.hid hgood; clear hgood
          refine wp_region_quiet_lit (by kernel_rfl) (by kernel_rfl) ?_
          iterate 38 (go_big_quiet_step (exact Calls.quiet_of_same (HQ1.out _)))
          iterate 3 (go_big_quiet_step (exact Calls.quiet_of_same (HQ2.out _)))
          refine wpQuiet_nil ?_
          rintro _ ⟨nq, rfl⟩
          have hsl : ∀ W, (Instr.slice 9 (str s) (some (.int .i64 (8 : Int))) (some (.int .i64 (m8 : Int))) none).run Tryz.prog W = .ok (str ((s.drop 8).take nn)) W := fun W => by
            have := slice_str W s 8 m8 (by have := HM8.out; omega) (by omega)
            rw [show m8 - 8 = nn by have := HM8.out; omega] at this
            exact this
          have kf : w8.frozen? ⟨P, 3, none⟩ = false := HK4.out.frozen 3
          have q3 : w8.cell? ⟨P, 3, none⟩ = some (.string ⟨#[]⟩) := HK4.out.cell rfl
          go_upto_region 11 with (fail)
          obtain ⟨w9, hw9⟩ : ∃ w9, (w8.drewN nq).setCell ⟨P, 3, none⟩ (str ((s.drop 8).take nn)) = w9 := ⟨_, rfl⟩
          have k49 : Blk w9 P (prtC ⟨nm, pt, lf, (s.drop 8).take nn, true⟩) 94 := by rw [← hw9]; exact (HK4.out.drewN nq).set 3 _
          have k19 := (HK1.out.drewN nq).set_ne (a := ⟨P, 3, none⟩) (str ((s.drop 8).take nn)) (by simp; omega)
          have b9 : Below w.heap.size w w9 := by rw [← hw9]; exact below_set (below_drewN HC8.out nq) (Nat.le_refl _) (by omega) _ _
          rw [hw9] at k19
          rw [hw9]
          clear hw9 q0 q1 q2 q3 kf hsl
          have K4 := Lib.hid k49; clear k49
          have K1 := Lib.hid k19; clear k19
          have B9 := Lib.hid b9; clear b9
          go_wp2_with (first | (refine wpList_load_agg (prtC ⟨nm, pt, lf, (s.drop 8).take nn, true⟩) K4.out.cells0 rfl rfl rfl aggPart infoPart ?_) | (refine wpList_store_blk (ty := 94) (n := 5) (vs := prtC ⟨nm, pt, lf, (s.drop 8).take nn, true⟩) K1.out rfl rfl rfl rfl rfl infoPart rfl (by simp) (prtC_one _) ?_))
          intro wa ha oa
          have ha' : Blk wa w.heap.size (prtC ⟨nm, pt, lf, (s.drop 8).take nn, true⟩) 94 := ha
          have ba : Below w.heap.size w wa := oa.below B9.out (Nat.le_refl _)
          clear ha oa
          have HA := Lib.hid ha'; clear ha'
          have BA := Lib.hid ba; clear ba
          go_wp2
          refine bodyPost_ret (results_blk rfl HA.out rfl Tryz.underlying94 rfl (by kernel_rfl)) rfl ?_
          have he : Jn.unpack s = ⟨nm, pt, lf, (s.drop 8).take nn, true⟩ := by
            unfold Jn.unpack
            rw [if_pos HGD.out, HNM.out, HPT.out, HNN.out, HLF.out]
          rw [he]
          exact ⟨rfl, BA.out⟩
  · have hu := unpack_short h64
    have HU := Lib.hid hu; clear hu
    have d0 : ((s.length : Int) != 64) = true := by rw [bne_iff_ne]; omega
    go_enter Tryz.func49, Tryz.ntmps49
    go_wp2
    refine bodyPost_ret (results_blk rfl (Blk.new _ _ _) rfl Tryz.underlying94 rfl (by kernel_rfl)) rfl ?_
    rw [HU.out]
    exact ⟨rfl, alloc_below _ _⟩
end Go.Proofs.YtbmnbdkbgpajeaaGreatDoor
end
/- journal: Unpack. -/
section
namespace Go.Proofs.YtbmnbdkbgpajeaaGreatDoor
open Go.RowKit Go.Own Go.Jn Go.Disk Go.BigFrame Go.Sha
attribute [local irreducible] SqW
attribute [local go_sem] setCell_twice str_size op_str_eql op_str_neq
set_option maxRecDepth 100000 in
theorem unpackE_any (s : List UInt8) (hs : s.length ≤ 140737488355328) (w : World) (hK : Cells w 2 0 (Kt.map U)) (h1 : 2 < w.heap.size) :
    Calls Tryz.prog 41 #[str s] w fun e w' => e = .returned (.tuple (prtC (Jn.unpack s)).toArray) ∧ Below w.heap.size w w' := by
  go_enter Tryz.func41, Tryz.ntmps41
  go_wp2_with fail
  refine (unpack_any s hs w hK h1).mono ?_
  obtain ⟨p, hp⟩ : ∃ p, p = Jn.unpack s := ⟨_, rfl⟩
  rw [← hp]
  have HP := Lib.hid hp; clear hp
  unfold prtV
  rintro e w1 ⟨rfl, b1⟩
  go_wp2_with (refine wpList_store_blk (ty := 94) (n := 5) (vs := prtC p) (Blk.new _ _ 94) rfl rfl rfl rfl rfl infoPart rfl (by simp) (prtC_one _) ?_)
  intro w2 h2 o2
  have h2' : Blk w2 w1.heap.size (prtC p) 94 := by simpa using h2
  have b2 : Below w.heap.size w w2 := b1.trans ((o2.below (alloc_below _ _) (Nat.le_refl _)).mono b1.size)
  clear h2 o2
  have q0 : w2.cell? ⟨w1.heap.size, 0, none⟩ = some (.int .i64 p.n) := h2'.cell rfl
  have q1 : w2.cell? ⟨w1.heap.size, 1, none⟩ = some (.int .i64 p.k) := h2'.cell rfl
  have q2 : w2.cell? ⟨w1.heap.size, 2, none⟩ = some (.int .i64 p.l) := h2'.cell rfl
  have q3 : w2.cell? ⟨w1.heap.size, 3, none⟩ = some (str p.b) := h2'.cell rfl
  have q4 : w2.cell? ⟨w1.heap.size, 4, none⟩ = some (.bool p.ok) := h2'.cell rfl
  go_wp2
  refine wp_region_quiet_lit (by kernel_rfl) (by kernel_rfl) ?_
  repeat (go_big_quiet_step (fail))
  refine wpQuiet_nil ?_
  rintro _ ⟨nq, rfl⟩
  go_wp2
  refine bodyPost_ret (v := .tuple (prtC p).toArray) (by simp [results, Tryz.results41, go_sem, prtC]) rfl ⟨by rw [← HP.out], below_drewN b2 nq⟩
end Go.Proofs.YtbmnbdkbgpajeaaGreatDoor
end

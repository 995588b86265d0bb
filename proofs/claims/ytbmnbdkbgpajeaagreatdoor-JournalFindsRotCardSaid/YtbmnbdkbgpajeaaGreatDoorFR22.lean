/- Image of the program's disk. -/
import Derived.Test.YtbmnbdkbgpajeaaGreatDoorFR21
import Derived.Test.YtbmnbdkbgpajeaaGreatDoorFR10
import Derived.ProofKit
import Derived.Carry
import Derived.OpenShut
import Derived.ChangeSlices
import Derived.Deep.Strs
import Derived.Test.YtbmnbdkbgpajeaaGreatDoorFR02
import Derived.LaidMore
import Derived.Stop.Joined
import Derived.Lib.LaidTab
/- Image of the program's disk. -/
section
namespace Go.Proofs.YtbmnbdkbgpajeaaGreatDoor
open Go.RowKit Go.Own Go.Disk
attribute [local go_sem] setCell_twice str_size
theorem hTssD : Tryz.prog.underlying 22 = some (.slice 9) := by kernel_rfl
theorem mk_strs (n : Nat) (hn : n ≤ 1000000) (u : World) : (Instr.makeSlice 22 (.int .i64 n) (.int .i64 n)).run Tryz.prog u = .ok (.slice (some ⟨u.heap.size, 0, none⟩) n n) (u.alloc (.cells (Array.replicate n (str [])) 9)) := by
  obtain ⟨i, hi1, hi2, hi3, hi4⟩ := info_parts (P := Tryz.prog) (e := 9) (z := str []) (size := 1) (bytes := 16) (by kernel_rfl)
  have := run_make (P := Tryz.prog) u 22 9 i (str []) hTssD hi1 hi2 .i64 .i64 n n (by omega) (Int.le_refl _) (by rw [hi4]; omega) (by omega)
  rw [this, hi3]
  simp only [Int.toNat_natCast, Nat.mul_one]
  have e : (str []).cells = #[str []] := rfl
  rw [e, madeCells_one, List.toArray_replicate]
set_option maxHeartbeats 1600000 in
set_option maxRecDepth 100000 in
theorem image_any (f : Ft) (d : DS) (w : World) (h : PD w f d) : Calls Tryz.prog 19 #[.pointer (some ⟨f.p, 0, none⟩)] w fun e w' => ∃ v, e = .returned v ∧ Sl w' 1 v d.s.length ((aimage d.s).map str) ∧ (∀ b, v.ownBlock = some b → w.heap.size ≤ b) ∧ Below w.heap.size w w' := by
  obtain ⟨l, hB, _⟩ := h.head
  have c0 : w.cell? ⟨f.p, 0, none⟩ = some (.slice (some ⟨f.bb, 0, none⟩) d.s.length f.cap) := hB.cell rfl
  have hmost := h.ok.most
  have hpos := h.ok.pos
  have hmk := mk_strs d.s.length (by omega)
  have hlt := h.lt
  have hblt : f.p < w.heap.size := hlt _ (by simp [Ft.all])
  go_enter Tryz.func19, Tryz.ntmps19
  go_wp2
  obtain ⟨wo, hwo⟩ : ∃ wo : World, wo = w.alloc (.cells (Array.replicate d.s.length (str [])) 9) := ⟨_, rfl⟩
  have hbo : Below w.heap.size w wo := by rw [hwo]; exact (Below.refl _ _).alloc (Nat.le_refl _) _
  have hBo : Blk wo w.heap.size (List.replicate d.s.length (str [])) 9 := by
    have := Blk.new w (Array.replicate d.s.length (str [])) 9
    rw [Array.toList_replicate] at this
    rw [hwo]; exact this
  rw [← hwo]
  clear hwo
  have hal0 : (aimage d.s).length = d.s.length := by simp [aimage]
  have hal : ((aimage d.s).map str).length = d.s.length := by rw [List.length_map, hal0]
  go_loopw [16] (fun c wr => ∃ k : Nat, k ≤ d.s.length ∧ c = .int .i64 k ∧ Blk wr w.heap.size (((aimage d.s).map str).take k ++ List.replicate (d.s.length - k) (str [])) 9 ∧ Below w.heap.size w wr) (fun c _ => d.s.length - (intOf c).toNat)
  case atStart => exact ⟨0, by omega, rfl, by simpa using hBo, hbo⟩
  case round =>
    obtain ⟨k, hk, rfl, hBr, hbr⟩ := hrel
    have h' := h.below hbr
    have c0' : wr.cell? ⟨f.p, 0, none⟩ = some (.slice (some ⟨f.bb, 0, none⟩) d.s.length f.cap) := (hB.below hbr hB.lt).cell rfl
    by_cases hkl : k < d.s.length
    · have hi : inR d k = true := inR_nat hkl
      obtain ⟨hm, _, _, _⟩ := sec_mem hi
      have htl := h.ok.t _ hm
      have hcv := convB wr (.slice (some ⟨f.bb, k * 64, none⟩) 64 64) (sec d k).t (by
        rw [htl]
        refine ⟨by simp [htl], .inr ⟨_, k * 64, 64, rfl, Nat.le_refl _, by decide, ?_, h'.blocks.lt⟩⟩
        refine h'.blocks.cells _ _ ?_
        rw [List.length_map, htl, flatS_at h.ok.t hkl]
        rfl)
      have hfr := hBr.frozen
      have cG : wr.cell? ⟨w.heap.size, k, none⟩ = some (str []) := by
        refine hBr.cell ?_
        rw [List.getElem?_append_right (by rw [List.length_take, hal]; omega)]
        have e : k - ((((aimage d.s).map str).take k)).length = 0 := by rw [List.length_take, hal]; omega
        rw [e, List.getElem?_replicate, if_pos (by omega)]
      have hset := hBr.set k (str (sec d k).t)
      have hat : ((aimage d.s).map str)[k]'(by omega) = str (sec d k).t := by
        simp [aimage, sec, List.getD_eq_getElem?_getD, hkl]
      rw [← hat, set_rep _ _ hkl hal, hat] at hset
      have hb9 : Below w.heap.size w (wr.setCell ⟨w.heap.size, k, none⟩ (str (sec d k).t)) := hbr.trans (by exact ((Chg.refl [w.heap.size] wr).set _ (by simp)).below hbr.size (by simp))
      have HS := Lib.hid hset; clear hset
      have HA := Lib.hid hat; clear hat
      go_wp2
      go_roundw
      case rel => exact ⟨k + 1, by omega, by go_num, HS.out, hb9⟩
      case measure => simp [intOf]; omega
    · obtain rfl : k = d.s.length := by omega
      go_wp2
      go_ret
      refine ⟨_, rfl, ⟨by simp [aimage], .inr ⟨w.heap.size, 0, d.s.length, rfl, Nat.le_refl _, by unfold maxLen; omega, ?_, hBr.lt⟩⟩, fun b hb => ?_, hbr⟩
      · refine hBr.cells _ _ ?_
        have e1 : ((aimage d.s).map str).take d.s.length = (aimage d.s).map str := List.take_of_length_le (by rw [hal]; exact Nat.le_refl _)
        rw [Nat.sub_self, List.replicate_zero, List.append_nil, List.drop_zero, hal, e1, e1]
      · have : w.heap.size = b := by simpa [Value.ownBlock] using hb
        omega
end Go.Proofs.YtbmnbdkbgpajeaaGreatDoor
end
/- New of the program's disk. -/
section
namespace Go.Proofs.YtbmnbdkbgpajeaaGreatDoor
open Go.RowKit Go.Own Go.Disk
attribute [local go_sem] setCell_twice str_size
theorem hTbs : Tryz.prog.underlying 74 = some (.slice 86) := by kernel_rfl
theorem mk_blocks (n : Nat) (hn : n ≤ 1000000) (u : World) : (Instr.makeSlice 74 (.int .i64 n) (.int .i64 n)).run Tryz.prog u = .ok (.slice (some ⟨u.heap.size, 0, none⟩) n n) (u.alloc (.cells (Array.replicate (n * 64) (byv 0)) 86)) := by
  obtain ⟨i, hi1, hi2, hi3, hi4⟩ := info_parts (P := Tryz.prog) (e := 86) (z := .agg zero64.toArray) (size := 64) (bytes := 64) (by kernel_rfl)
  have := run_make (P := Tryz.prog) u 74 86 i (.agg zero64.toArray) hTbs hi1 hi2 .i64 .i64 n n (by omega) (Int.le_refl _) (by rw [hi4]; omega) (by omega)
  rw [this, hi3]
  simp only [Int.toNat_natCast]
  have e : (Value.agg zero64.toArray).cells = (List.replicate 64 (byv 0)).toArray := rfl
  rw [e, madeCells_rep _ _ _ (by decide), List.toArray_replicate]
theorem flat_fresh (n : Nat) : flat (List.replicate n { t := zeros, p := none, w := false }) = List.replicate (n * 64) (byv 0) := by
  induction n with
  | zero => rfl
  | succ n ih =>
    rw [List.replicate_succ, show (n + 1) * 64 = 64 + n * 64 by omega, ← List.replicate_append_replicate, ← ih]
    rfl
theorem sec_fresh (n : Nat) (k : Int) (h : inR (Disk.fresh n) k = true) : sec (Disk.fresh n) k = { t := zeros, p := none, w := false } := by
  obtain ⟨hm, _⟩ := sec_mem h
  exact (List.mem_replicate.1 hm).2
theorem Ok.fresh (n : Nat) (h1 : 1 ≤ n) (h2 : n ≤ 4096) : Ok (Disk.fresh n) where
  t := fun x hx => by rw [(List.mem_replicate.1 hx).2]; rfl
  p := fun x hx q hq => by rw [(List.mem_replicate.1 hx).2] at hq; cases hq
  pos := by simpa [Disk.fresh] using h1
  most := by simpa [Disk.fresh] using h2
  left := by simp [Disk.fresh]
theorem new_bad (n : Int) (hn : n < 1 ∨ 4096 < n) (w : World) : Calls Tryz.prog 8 #[.int .i64 n] w fun e w' => e = .returned (.tuple #[.pointer none, .int .i64 1]) ∧ w' = w := by
  go_enter Tryz.func8, Tryz.ntmps8
  by_cases h : n < 1
  · go_wp2
    go_ret2
    exact ⟨rfl, rfl⟩
  · have h2 : 4096 < n := by omega
    go_wp2
    go_ret2
    exact ⟨rfl, rfl⟩
theorem PD.made (n : Nat) (h1 : 1 ≤ n) (h2 : n ≤ 4096) (w : World) : PD ((((w.alloc (.cells (Array.replicate (n * 64) (byv 0)) 86)).alloc (.map #[] 0)).alloc (.map #[] 0)).alloc (.cells #[.slice (some ⟨w.heap.size, 0, none⟩) n n, .map (some (w.heap.size + 1)), .map (some (w.heap.size + 2)), .bool false, .int .i64 (-1)] 77))
    ⟨w.heap.size + 3, w.heap.size, w.heap.size + 1, w.heap.size + 2, n, []⟩ (Disk.fresh n) := by
  obtain ⟨w1, e1⟩ : ∃ w1, w1 = w.alloc (.cells (Array.replicate (n * 64) (byv 0)) 86) := ⟨_, rfl⟩
  have s1 : w1.heap.size = w.heap.size + 1 := by rw [e1, alloc_size]
  have b1 : Blk w1 w.heap.size (List.replicate (n * 64) (byv 0)) 86 := by
    have := Blk.new w (Array.replicate (n * 64) (byv 0)) 86
    rw [Array.toList_replicate] at this
    rw [e1]; exact this
  rw [← e1]
  obtain ⟨w2, e2⟩ : ∃ w2, w2 = w1.alloc (.map #[] 0) := ⟨_, rfl⟩
  have s2 : w2.heap.size = w.heap.size + 2 := by rw [e2, alloc_size, s1]
  have b2 : IMap w2 (w.heap.size + 1) [] := by rw [← s1, e2]; exact IMap.new w1
  have k2 : Below w1.heap.size w1 w2 := by rw [e2]; exact alloc_below _ _
  rw [← e2]
  obtain ⟨w3, e3⟩ : ∃ w3, w3 = w2.alloc (.map #[] 0) := ⟨_, rfl⟩
  have s3 : w3.heap.size = w.heap.size + 3 := by rw [e3, alloc_size, s2]
  have b3 : IMap w3 (w.heap.size + 2) [] := by rw [← s2, e3]; exact IMap.new w2
  have k3 : Below w2.heap.size w2 w3 := by rw [e3]; exact alloc_below _ _
  rw [← e3]
  have k4 : ∀ o, Below w3.heap.size w3 (w3.alloc o) := fun o => alloc_below _ _
  have hl : (Disk.fresh n).s.length = n := by simp [Disk.fresh]
  refine ⟨?_, ⟨-1, ?_, rfl, by decide⟩, ?_, ⟨[], (b2.below k3).below (k4 _), fun k => ?_⟩, ⟨[], b3.below (k4 _), fun k => ?_⟩, Ok.fresh n h1 h2, ?_⟩
  · rw [hl]
    exact ⟨Nat.le_refl _, by show n ≤ maxLen; unfold maxLen; omega⟩
  · rw [hl]
    exact Blk.new_at w3 _ _ s3.symm
  · rw [show flatS (Disk.fresh n).s [] = List.replicate (n * 64) (byv 0) from by unfold flatS; rw [List.append_nil]; exact flat_fresh n]
    exact ((b1.below k2 b1.lt).below k3 (by rw [s2]; omega)).below (k4 _) (by rw [s3]; omega)
  · by_cases h : inR (Disk.fresh n) k = true
    · rw [if_pos h, sec_fresh n k h]; rfl
    · rw [if_neg h]; rfl
  · by_cases h : inR (Disk.fresh n) k = true
    · rw [h, sec_fresh n k h]; rfl
    · simp [h]; rfl
  · simp
theorem new_any (n : Nat) (h1 : 1 ≤ n) (h2 : n ≤ 4096) (w : World) : Calls Tryz.prog 8 #[.int .i64 n] w fun e w' => ∃ f : Ft, e = .returned (.tuple #[.pointer (some ⟨f.p, 0, none⟩), .int .i64 0]) ∧ PD w' f (Disk.fresh n) ∧ (∀ x ∈ f.all, w.heap.size ≤ x) ∧ Below w.heap.size w w' := by
  have hmk := mk_blocks n (by omega)
  have hm1 := fun (u : World) => run_makeMap (P := Tryz.prog) 75 u
  have hm2 := fun (u : World) => run_makeMap (P := Tryz.prog) 45 u
  go_enter Tryz.func8, Tryz.ntmps8
  go_wp2
  go_ret2
  refine ⟨⟨w.heap.size + 3, w.heap.size, w.heap.size + 1, w.heap.size + 2, n, []⟩, rfl, ?_, ?_, ?_⟩
  · exact PD.made n h1 h2 w
  · simp [Ft.all]
  · exact ((((Below.refl _ w).alloc (Nat.le_refl _) _).alloc (by simp) _).alloc (by simp; omega) _).alloc (by simp; omega) _
end Go.Proofs.YtbmnbdkbgpajeaaGreatDoor
end
/- The journal in plain Lean: the examples that every statement of the journal contains. No program. -/
section
namespace Go.Jn
open Go.Disk Go.Sha Go.Own
def j0 : JS := ⟨[], [], 1, 0, false⟩
def tA : List UInt8 := [97]
def tX : List UInt8 := List.replicate 50 120
def tB : List UInt8 := [98]
def tC : List UInt8 := [99]
def eA : Int × Int × JS × DS := aappend (fresh 4) j0 tA
def eX : Int × Int × JS × DS := aappend eA.2.2.2 eA.2.2.1 tX
def dR : DS := (arot eX.2.2.2 1 70).2
def jR : JS := found (dR.s.map cont)
def eB : Int × Int × JS × DS := aappend dR jR tB
def eC : Int × Int × JS × DS := aappend eB.2.2.2 eB.2.2.1 tC
set_option maxRecDepth 100000 in
theorem ex_open : aopen (fresh 4) = (some j0, 0) ∧ room (fresh 4) j0 = 4 := by decide +kernel
set_option maxRecDepth 100000 in
theorem ex_a : eA.1 = 1 ∧ eA.2.1 = 0 := by decide +kernel
set_option maxRecDepth 100000 in
theorem ex_x : eX.1 = 2 ∧ eX.2.1 = 0 ∧ room eX.2.2.2 eX.2.2.1 = 1 ∧ (arot eX.2.2.2 1 70).1 = 0 ∧ dR.off = false := by decide +kernel
set_option maxRecDepth 100000 in
theorem ex_b : eB.1 = 3 ∧ eB.2.1 = 0 := by decide +kernel
set_option maxRecDepth 100000 in
theorem ex_c : eC.2.1 = 24 ∧ nums eC.2.2.1 = [1, 3] ∧ texts eC.2.2.1 = [tA, tB] ∧ damaged eC.2.2.1 = [2] ∧ eC.2.2.1.bad = [1] := by decide +kernel
set_option maxRecDepth 100000 in
theorem ex_u : unpack (sect 1 tA 0) = ⟨1, 0, 1, tA, true⟩ ∧ pack 1 tA = [sect 1 tA 0] ∧ cntI 49 = 2 := by decide +kernel
end Go.Jn
end
/- journal: sanity. -/
section
namespace Go.Proofs.YtbmnbdkbgpajeaaGreatDoor
open Go.RowKit Go.Own Go.Jn Go.Disk Go.BigFrame Go.Sha
/-- A disk and its journal, both made since w. -/
structure San (w W : World) (f : Ft) (J : Jf) (j : JS) (d : DS) : Prop where
  jm : JM W f J j
  pd : PD W f d
  b : Below w.heap.size w W
  hj : w.heap.size ≤ J.g
  hf : ∀ x ∈ f.all, w.heap.size ≤ x
theorem San.below {w W W' : World} {f : Ft} {J : Jf} {j : JS} {d : DS} (h : San w W f J j d) (hb : Below W.heap.size W W') : San w W' f J j d :=
  ⟨h.jm.below hb, h.pd.below hb, h.b.trans (hb.mono h.b.size), h.hj, h.hf⟩
theorem San.append {w W : World} {f : Ft} {J : Jf} {j : JS} {d : DS} (h : San w W f J j d) (hK : Cells w 2 0 (Kt.map U)) (h1 : 2 < w.heap.size) (t : List UInt8) (ht : t.length ≤ maxLen) :
    Calls Tryz.prog 26 #[.pointer (some ⟨J.g, 0, none⟩), str t] W fun e W' => ∃ J' : Jf, J'.g = J.g ∧ e = .returned (.tuple #[.int .i64 (aappend d j t).1, .int .i64 (aappend d j t).2.1]) ∧
      San w W' f J' (aappend d j t).2.2.1 (aappend d j t).2.2.2 := by
  refine (append_any h.jm h.pd (hK.below h.b h1) (Nat.lt_of_lt_of_le h1 h.b.size) t ht).mono ?_
  rintro e W' ⟨J', hg, rfl, hjm, hpd, hch, _⟩
  refine ⟨J', hg, rfl, hjm, hpd, h.b.trans (hch.below h.b.size fun x hx => ?_), by rw [hg]; exact h.hj, h.hf⟩
  rcases List.mem_append.1 hx with hx | hx
  · exact h.hf x hx
  · exact Nat.le_trans h.hj (h.jm.lo x hx).1
theorem San.rot {w W : World} {f : Ft} {J : Jf} {j : JS} {d : DS} (h : San w W f J j d) (i b : Int) : Calls Tryz.prog 17 #[.pointer (some ⟨f.p, 0, none⟩), .int .i64 i, .int .i64 b] W fun e w' => e = .returned (.int .i64 (arot d i b).1) ∧ San w w' f J j (arot d i b).2 := by
  refine (rot_any f d i b W h.pd).mono ?_
  rintro e w' ⟨rfl, h2, h3⟩
  exact ⟨rfl, h.jm.chg h3 (fun x hx => h.jm.apart x hx), h2, h.b.trans (h3.below h.b.size h.hf), h.hj, h.hf⟩
theorem San.open {w W : World} {f : Ft} {d : DS} (hP : PD W f d) (hb : Below w.heap.size w W) (hf : ∀ x ∈ f.all, w.heap.size ≤ x) (hK : Cells w 2 0 (Kt.map U)) (h1 : 2 < w.heap.size) (hoff : d.off = false) :
    Calls Tryz.prog 12 #[.pointer (some ⟨f.p, 0, none⟩)] W fun e W' => ∃ J : Jf, e = .returned (.tuple #[.pointer (some ⟨J.g, 0, none⟩), .int .i64 0]) ∧ San w W' f J (found (parts0 d)) d := by
  refine (open_any f d W hP hoff (hK.below hb h1) (Nat.lt_of_lt_of_le h1 hb.size)).mono ?_
  rintro e W' ⟨J, rfl, h2, h3, h4⟩
  exact ⟨J, rfl, h2, hP.below h4, hb.trans (h4.mono hb.size), Nat.le_trans hb.size h3, hf⟩
end Go.Proofs.YtbmnbdkbgpajeaaGreatDoor
end
/- journal: sanity, the walk. -/
section
namespace Go.Proofs.YtbmnbdkbgpajeaaGreatDoor
open Go.RowKit Go.Own Go.Jn Go.Disk Go.BigFrame Go.Sha
attribute [local irreducible] SqW
attribute [local go_sem] setCell_twice str_size op_str_eql op_str_neq
theorem repeat_any (w : World) : Calls Tryz.prog 39 #[.string ⟨#[120]⟩, .int .i64 50] w fun e w' => e = .returned (str tX) ∧ Below w.heap.size w w' :=
  Any.strings_Repeat Tryz.lays105 Tryz.Builder_Extra_105 ⟨#[120]⟩ 50 w (by decide) (by decide)
set_option maxRecDepth 100000 in
set_option maxHeartbeats 4000000 in
theorem sanity_any (w : World) (hK : Cells w 2 0 (Kt.map U)) (h1 : 2 < w.heap.size) : Calls Tryz.prog 7 #[] w fun e w' => e = .returned (.bool true) ∧ Below w.heap.size w w' := by
  have HK := Lib.hid hK; clear hK
  have HL := Lib.hid h1; clear h1
  go_enter Tryz.func7, Tryz.ntmps7
  have hnew := new_any 4 (by decide) (by decide) w
  have HN := Lib.hid hnew; clear hnew
  go_wp2_with fail
  refine HN.out.mono ?_
  rintro e w1 ⟨f, rfl, hP1, hf1, b1⟩
  clear HN
  have ho := San.open hP1 b1 hf1 HK.out HL.out rfl
  have ej : found (parts0 (fresh 4)) = j0 := by
    have := ex_open.1
    unfold aopen at this
    rw [if_neg (by decide)] at this
    injection this with this _
    injection this
  rw [ej] at ho
  have HO := Lib.hid ho; clear ho ej b1 hf1 hP1
  go_wp2_with fail
  refine HO.out.mono ?_
  rintro e w2 ⟨J, rfl, hS2⟩
  obtain ⟨G, vn, vb, vt⟩ := J
  have hn2 : Calls Tryz.prog 37 #[.pointer (some ⟨G, 0, none⟩)] w2 fun e w' => e = .returned (.int .i64 1) ∧ w' = w2 := next_any hS2.jm
  have hr2 := room_any hS2.jm hS2.pd
  rw [ex_open.2] at hr2
  dsimp only at hr2
  have HN2 := Lib.hid hn2; clear hn2
  have HR2 := Lib.hid hr2; clear hr2 HO
  have HS2 := Lib.hid hS2; clear hS2
  go_wp2_with (first | (refine HN2.out.mono ?_; rintro e w3 ⟨rfl, hw3⟩; subst hw3) | (refine HR2.out.mono ?_; rintro e w4 ⟨rfl, n2, hw4⟩; subst hw4))
  have hA := (HS2.out.below (below_drewN (Below.refl _ w3) n2)).append HK.out HL.out tA (by decide)
  rw [show aappend (fresh 4) j0 tA = eA from rfl, ex_a.1, ex_a.2] at hA
  dsimp only at hA
  have HA := Lib.hid hA; clear hA HN2 HR2 HS2
  refine HA.out.mono ?_
  rintro e w5 ⟨J', hg, rfl, hS5⟩
  clear HA
  obtain ⟨G', vn', vb', vt'⟩ := J'
  obtain rfl : G' = G := hg
  have HS5 := Lib.hid hS5; clear hS5
  go_wp2_with fail
  refine (repeat_any w5).mono ?_
  rintro e w6 ⟨rfl, b6⟩
  have hX := (HS5.out.below b6).append HK.out HL.out tX (by decide)
  rw [show aappend eA.2.2.2 eA.2.2.1 tX = eX from rfl, ex_x.1, ex_x.2.1] at hX
  dsimp only at hX
  have HX := Lib.hid hX; clear hX HS5 b6
  go_wp2_with fail
  refine HX.out.mono ?_
  rintro e w7 ⟨J', hg, rfl, hS7⟩
  clear HX
  obtain ⟨G'', vn'', vb'', vt''⟩ := J'
  obtain rfl : G'' = G' := hg
  have hr7 := room_any hS7.jm hS7.pd
  rw [ex_x.2.2.1] at hr7
  dsimp only at hr7
  have HR7 := Lib.hid hr7; clear hr7
  have HS7 := Lib.hid hS7; clear hS7
  go_wp2_with fail
  refine HR7.out.mono ?_
  rintro e w8 ⟨rfl, n8, rfl⟩
  have hrt := (HS7.out.below (below_drewN (Below.refl _ w7) n8)).rot 1 70
  rw [ex_x.2.2.2.1, show (arot eX.2.2.2 1 70).2 = dR from rfl] at hrt
  have HRT := Lib.hid hrt; clear hrt HS7 HR7
  go_wp2_with fail
  refine HRT.out.mono ?_
  rintro e w9 ⟨rfl, hS9⟩
  have ho := San.open hS9.pd hS9.b hS9.hf HK.out HL.out ex_x.2.2.2.2
  rw [show found (parts0 dR) = jR from rfl] at ho
  have HO := Lib.hid ho; clear ho hS9 HRT
  go_wp2_with fail
  refine HO.out.mono ?_
  rintro e w10 ⟨J, rfl, hS10⟩
  clear HO
  obtain ⟨H, un, ub, ut⟩ := J
  have hB := hS10.append HK.out HL.out tB (by decide)
  rw [show aappend dR jR tB = eB from rfl, ex_b.1, ex_b.2] at hB
  dsimp only at hB
  have HB := Lib.hid hB; clear hB hS10
  go_wp2_with fail
  refine HB.out.mono ?_
  rintro e w11 ⟨J', hg, rfl, hS11⟩
  clear HB
  obtain ⟨H', un', ub', ut'⟩ := J'
  obtain rfl : H' = H := hg
  have hC := hS11.append HK.out HL.out tC (by decide)
  rw [show aappend eB.2.2.2 eB.2.2.1 tC = eC from rfl, ex_c.1] at hC
  dsimp only at hC
  obtain ⟨xc, hxc⟩ : ∃ x, x = eC.1 := ⟨_, rfl⟩
  rw [← hxc] at hC
  have HC := Lib.hid hC; clear hC hS11 hxc
  go_wp2_with fail
  refine HC.out.mono ?_
  rintro e w12 ⟨J', hg, rfl, hS12⟩
  clear HC
  obtain ⟨H'', un'', ub'', ut''⟩ := J'
  obtain rfl : H'' = H' := hg
  have hp := pack_any 1 tA (by decide) w12 (HK.out.below hS12.b HL.out) (Nat.lt_of_lt_of_le HL.out hS12.b.size)
  rw [show packE 1 tA = (pack 1 tA, 0) from rfl, ex_u.2.1] at hp
  dsimp only at hp
  have HP := Lib.hid hp; clear hp
  have HS12 := Lib.hid hS12; clear hS12
  go_wp2_with fail
  refine HP.out.mono ?_
  rintro e w13 ⟨v, rfl, o13, b13⟩
  obtain ⟨sv, cv, rfl, _⟩ := own_slice o13
  have hS13 := HS12.out.below b13
  obtain ⟨g, o, rfl, hcell⟩ := sl_strcell (l := [sect 1 tA 0]) (Sl.of_owns o13) (q := 0) (by decide)
  have hun := unpackE_any (sect 1 tA 0) (by decide +kernel) w13 (HK.out.below hS13.b HL.out) (Nat.lt_of_lt_of_le HL.out hS13.b.size)
  rw [ex_u.1, show (prtC ⟨1, 0, 1, tA, true⟩).toArray = #[.int .i64 1, .int .i64 0, .int .i64 1, str tA, .bool true] from rfl] at hun
  obtain ⟨sc, hsc⟩ : ∃ sc, sc = sect 1 tA 0 := ⟨_, rfl⟩
  rw [← hsc] at hun
  have hcell2 : w13.cell? ⟨g, o, none⟩ = some (str sc) := by rw [hsc]; exact hcell
  have HUN := Lib.hid hun; clear hun hsc hcell o13
  have HS13 := Lib.hid hS13; clear hS13 HS12 b13 HP
  go_wp2_with fail
  refine HUN.out.mono ?_
  rintro e w14 ⟨rfl, b14⟩
  have hS14 := HS13.out.below b14
  have HS14 := Lib.hid hS14; clear hS14 HS13 b14 HUN hcell2
  go_wp2_with fail
  have hq := numbers_any HS14.out.jm
  rw [ex_c.2.1] at hq
  have HQ := Lib.hid hq; clear hq
  refine HQ.out.mono ?_
  rintro e w15 ⟨v15, rfl, o15, b15⟩
  clear HQ
  obtain ⟨s15, c15, rfl, _⟩ := own_slice o15
  have hS15 := HS14.out.below b15
  have HO15 := Lib.hid o15; clear o15
  have HS15 := Lib.hid hS15; clear hS15 HS14 b15
  go_wp2_with fail
  have hi15 := sameInts_any ([1, 3] : List Int) ([1, 3] : List Int) s15 (some ⟨w15.heap.size, 0, none⟩) c15 2 (w15.alloc (.cells #[.int .i64 1, .int .i64 3] 3)) ((Sl.of_owns HO15.out).alloc _) (sl_new w15 _ _ 2 rfl (by decide)) (.inl (by decide))
  rw [show (([1, 3] : List Int) == ([1, 3] : List Int)) = true from by decide] at hi15
  refine hi15.mono ?_
  rintro e w16 ⟨rfl, b16⟩
  have hS16 := (HS15.out.below (alloc_below _ _)).below b16
  have HS16 := Lib.hid hS16; clear hS16 HS15 b16 hi15 HO15
  go_wp2_with fail
  have hq := texts_any HS16.out.jm
  rw [ex_c.2.2.1] at hq
  have HQ := Lib.hid hq; clear hq
  refine HQ.out.mono ?_
  rintro e w17 ⟨v17, rfl, o17, b17⟩
  clear HQ
  obtain ⟨s17, c17, rfl, _⟩ := own_slice o17
  have hS17 := HS16.out.below b17
  have HO17 := Lib.hid o17; clear o17
  have HS17 := Lib.hid hS17; clear hS17 HS16 b17
  go_wp2_with fail
  have hi17 := sameTexts_any [tA, tB] [tA, tB] s17 (some ⟨w17.heap.size, 0, none⟩) c17 2 (w17.alloc (.cells #[str tA, str tB] 9)) ((Sl.of_owns HO17.out).alloc _) (sl_new w17 _ _ 2 rfl (by decide)) (.inl (by decide))
  rw [show ([tA, tB] == [tA, tB]) = true from by decide] at hi17
  refine hi17.mono ?_
  rintro e w18 ⟨rfl, b18⟩
  have hS18 := (HS17.out.below (alloc_below _ _)).below b18
  have HS18 := Lib.hid hS18; clear hS18 HS17 b18 hi17 HO17
  go_wp2_with fail
  have hq := damaged_any HS18.out.jm
  rw [ex_c.2.2.2.1] at hq
  have HQ := Lib.hid hq; clear hq
  refine HQ.out.mono ?_
  rintro e w19 ⟨v19, rfl, o19, b19⟩
  clear HQ
  obtain ⟨s19, c19, rfl, _⟩ := own_slice o19
  have hS19 := HS18.out.below b19
  have HO19 := Lib.hid o19; clear o19
  have HS19 := Lib.hid hS19; clear hS19 HS18 b19
  go_wp2_with fail
  have hi19 := sameInts_any ([2] : List Int) ([2] : List Int) s19 (some ⟨w19.heap.size, 0, none⟩) c19 1 (w19.alloc (.cells #[.int .i64 2] 3)) ((Sl.of_owns HO19.out).alloc _) (sl_new w19 _ _ 1 rfl (by decide)) (.inl (by decide))
  rw [show (([2] : List Int) == ([2] : List Int)) = true from by decide] at hi19
  refine hi19.mono ?_
  rintro e w20 ⟨rfl, b20⟩
  have hS20 := (HS19.out.below (alloc_below _ _)).below b20
  have HS20 := Lib.hid hS20; clear hS20 HS19 b20 hi19 HO19
  go_wp2_with fail
  have hq := bad_any HS20.out.jm
  rw [ex_c.2.2.2.2] at hq
  have HQ := Lib.hid hq; clear hq
  refine HQ.out.mono ?_
  rintro e w21 ⟨v21, rfl, o21, b21⟩
  clear HQ
  obtain ⟨s21, c21, rfl, _⟩ := own_slice o21
  have hS21 := HS20.out.below b21
  have HO21 := Lib.hid o21; clear o21
  have HS21 := Lib.hid hS21; clear hS21 HS20 b21
  go_wp2_with fail
  have hi21 := sameInts_any ([1] : List Int) ([1] : List Int) s21 (some ⟨w21.heap.size, 0, none⟩) c21 1 (w21.alloc (.cells #[.int .i64 1] 3)) ((Sl.of_owns HO21.out).alloc _) (sl_new w21 _ _ 1 rfl (by decide)) (.inl (by decide))
  rw [show (([1] : List Int) == ([1] : List Int)) = true from by decide] at hi21
  refine hi21.mono ?_
  rintro e w22 ⟨rfl, b22⟩
  have hS22 := (HS21.out.below (alloc_below _ _)).below b22
  have HS22 := Lib.hid hS22; clear hS22 HS21 b22 hi21 HO21
  go_wp2_with fail
  have hc49 := count_any 49 w22
  rw [ex_u.2.2] at hc49
  refine hc49.mono ?_
  rintro e w23 ⟨rfl, hw23⟩
  subst hw23
  clear hc49
  have hb := HS22.out.b
  go_wp2
  go_ret
  exact ⟨rfl, hb⟩
end Go.Proofs.YtbmnbdkbgpajeaaGreatDoor
end
/- A law's row out of its walk: it returns true and below the old heap's size nothing has turned. Any program. -/
section
namespace Go.Own
open Go.ChangeShapes Go.WideShapes Go.ChangeAt Go.RowKit
variable {H : Type} {enc : TypeId × Value → H} {P : Program}
theorem trodAll_below (hl : laidOutB P = true) {W W' : World} (hb : Below W.heap.size W W') : ∀ {ts : List TypeId} {vs : List Value} {ds : List (DataW H)} {ps : List MemPlace}, (ts.all fun t => P.readableRec t && decide (t < P.types.size)) = true →
    DataW.TrodAll enc P W 0 (fun _ => true) true ts vs ds ps → (∀ x ∈ ps, x.block < W.heap.size) → DataW.TrodAll enc P W' 0 (fun b => decide (b < W.heap.size)) true ts vs ds ps
  | [], [], [], _, _, h, _ => h
  | _ :: _, _ :: _, _ :: _, _, hT, ⟨p, q, h1, h2, e⟩, hs => by
    rw [List.all_cons, Bool.and_eq_true, Bool.and_eq_true, decide_eq_true_eq] at hT
    exact ⟨p, q, Below.trod hl hT.1.1 hT.1.2 h1 hb (fun x hx => hs x (by rw [e]; exact List.mem_append_left _ hx)), trodAll_below hl hb hT.2 h2 (fun x hx => hs x (by rw [e]; exact List.mem_append_right _ hx)), e⟩
theorem law_post (hl : laidOutB P = true) {f : Func} {s : ChangeSpec} {fresh handsOn : Bool} {W W' : World} {args : Array Value} {ds gs : List (DataW H)} {before : List MemPlace} {b : TypeId}
    (hr : (f.params.toList.all fun t => P.readableRec t && decide (t < P.types.size)) = true) (hres : f.resultTypes = #[b]) (hub : P.underlying b = some .bool) (hv : s.vars = [])
    (hs : (s.fn H (ds ++ gs)).results = [.lit (.bool true)] ∧ (s.fn H (ds ++ gs)).args = ds ∧ (s.fn H (ds ++ gs)).vars = [])
    (hW : DataW.Whole enc P f.params.toList s.vars false W args.toList ds gs before) (hb : Below W.heap.size W W') :
    s.post enc P f false fresh handsOn false W args (.bool true) W' := by
  have hW' := hW
  obtain ⟨p, q, hA, hV, hbe, hfz, hnd⟩ := hW
  have hlt : ∀ x ∈ p, x.block < W.heap.size := fun x hx => hW'.lt x (by rw [hbe]; exact List.mem_append_left _ hx)
  refine ⟨ds, gs, before, [], p, [], hW', ?_, ?_, ?_, hb.frame _, fun h => by cases h⟩
  · rw [hs.1, hres]; exact trodAll_mk1 (shut_bool hub _)
  · rw [hs.2.1]; exact trodAll_below hl hb hr hA hlt
  · rw [hs.2.2, hv]; exact rfl
end Go.Own
namespace Go.Own
open Go.ChangeShapes Go.WideShapes Go.ChangeAt Go.RowKit
section
variable {H : Type} {enc : TypeId × Value → H} {P : Program} {W : World}
theorem shape_lt {w : World} {b : Nat} {x : TypeId × Nat} (h : w.shape? b = some x) : b < w.heap.size := by
  rcases Nat.lt_or_ge b w.heap.size with h' | h'
  · exact h'
  · unfold World.shape? at h
    simp [Array.getElem?_eq_none h'] at h
theorem slice_okW {r : Reach} {b0 : Nat} {t e : TypeId} {a : Addr} {len cap : Nat} (ht : P.underlying t = some (.slice e)) (h : Value.okWide P W r b0 t (.slice (some a) len cap)) : a.spot = none ∧ a.block < W.heap.size := by
  unfold Value.okWide at h
  rw [ht] at h
  have h' : Cell.okWide P W r b0 t (.slice (some a) len cap) := h
  unfold Cell.okWide at h'
  rw [ht] at h'
  have h2 : Cell.ok P W r b0 t (.slice (some a) len cap) := h'
  unfold Cell.ok at h2
  rw [ht] at h2
  obtain ⟨_, _, hh⟩ := h2
  obtain ⟨_, h3, row, cells, h4, _⟩ := hh
  exact ⟨h3, shape_lt h4⟩
theorem sl_of_ints {r : Reach} {b0 : Nat} {t e : TypeId} {k : IntKind} {v : Value} {d : DataW H} {ps : List MemPlace} (ht : P.underlying t = some (.slice e)) (he : P.underlying e = some (.int k)) (hc : P.cellsOf e = 1)
    (hval : Value.okWide P W r b0 t v) (hd : DataW.Trod enc P W 0 (fun _ => true) true t v d ps) :
    ∃ zs : List Int, Sl W 1 v zs.length (zs.map (.int k)) ∧ zs.length ≤ maxLen ∧ ∀ z ∈ zs, (Lit.int k z).wf = true := by
  obtain ⟨fuel, hf⟩ := hd
  have hcell : v.cells.toList = [v] ∨ ∃ xs, v = .agg xs := by cases v <;> first | exact .inl rfl | exact .inr ⟨_, rfl⟩
  rcases open_ints ht he hc hf with ⟨hcs, _⟩ | ⟨a, len, cap, zs, hcs, _, hl, hm, hz, _, hcell', hwz⟩
  · have hv : v = .slice none 0 0 := by
      unfold Value.okWide at hval
      rw [ht] at hval
      cases v <;> simp [Value.cells] at hcs
      case slice => rw [hcs.1, hcs.2.1, hcs.2.2]
      case agg xs => exact absurd hval (by intro hv; have hv' : Cell.okWide P W r b0 t (.agg xs) := hv; unfold Cell.okWide at hv'; rw [ht] at hv'; have h2 : Cell.ok P W r b0 t (.agg xs) := hv'; unfold Cell.ok at h2; rw [ht] at h2; exact h2)
    exact ⟨[], ⟨rfl, .inl ⟨hv, rfl⟩⟩, Nat.zero_le _, by simp⟩
  · have hv : v = .slice (some a) len cap := by
      unfold Value.okWide at hval
      rw [ht] at hval
      cases v <;> simp [Value.cells] at hcs
      case slice => rw [hcs.1, hcs.2.1, hcs.2.2]
      case agg xs => exact absurd hval (by intro hv; have hv' : Cell.okWide P W r b0 t (.agg xs) := hv; unfold Cell.okWide at hv'; rw [ht] at hv'; have h2 : Cell.ok P W r b0 t (.agg xs) := hv'; unfold Cell.ok at h2; rw [ht] at h2; exact h2)
    subst hv
    obtain ⟨h1, h2⟩ := slice_okW ht hval
    obtain ⟨b, off, sp⟩ := a
    obtain rfl : sp = none := h1
    simp only [if_true] at hz
    refine ⟨zs.take len, ⟨by simp, .inr ⟨b, off, cap, by rw [List.length_take, hz, Nat.min_eq_left hl], by simp; omega, hm, fun i u hi => ?_, h2⟩⟩, by simp; omega, fun z hz' => hwz z (List.mem_of_mem_take hz')⟩
    have hil : i < len ∧ i < zs.length := by
      have := (List.getElem?_eq_some_iff.1 hi).1
      simp at this; omega
    have h3 := hcell' i hil.2
    rw [add_plain] at h3
    rw [h3, ← hi]
    simp [hil.1, hil.2]
theorem bytes_of_ints {zs : List Int} (h : ∀ z ∈ zs, (Lit.int .u8 z).wf = true) : ∃ m : List UInt8, zs = m.map fun b => (b.toNat : Int) := by
  refine ⟨zs.map fun z => UInt8.ofNat z.toNat, ?_⟩
  rw [List.map_map]
  conv => lhs; rw [← List.map_id zs]
  refine List.map_congr_left fun z hz => ?_
  have h1 := h z hz
  have h2 : (0 : Int) ≤ z ∧ z ≤ 255 := bounds_u8 h1
  simp; omega
theorem sl_of_bytes {r : Reach} {b0 : Nat} {t e : TypeId} {v : Value} {d : DataW H} {ps : List MemPlace} (ht : P.underlying t = some (.slice e)) (he : P.underlying e = some (.int .u8)) (hc : P.cellsOf e = 1)
    (hval : Value.okWide P W r b0 t v) (hd : DataW.Trod enc P W 0 (fun _ => true) true t v d ps) :
    ∃ m : List UInt8, Sl W 1 v m.length (m.map byv) ∧ m.length ≤ maxLen := by
  obtain ⟨zs, h1, h2, h3⟩ := sl_of_ints ht he hc hval hd
  obtain ⟨m, rfl⟩ := bytes_of_ints h3
  refine ⟨m, ?_, by simpa using h2⟩
  rw [List.map_map, List.length_map] at h1
  exact h1
theorem sl_of_strs {r : Reach} {b0 : Nat} {t e : TypeId} {v : Value} {d : DataW H} {ps : List MemPlace} (ht : P.underlying t = some (.slice e)) (he : P.underlying e = some .string) (hc : P.cellsOf e = 1)
    (hval : Value.okWide P W r b0 t v) (hd : DataW.Trod enc P W 0 (fun _ => true) true t v d ps) :
    ∃ l : List (List UInt8), Sl W 1 v l.length (l.map str) ∧ l.length ≤ maxLen ∧ ∀ s ∈ l, s.length ≤ maxLen := by
  obtain ⟨fuel, hf⟩ := hd
  have hno : ∀ xs, v ≠ .agg xs := by
    intro xs hv; subst hv
    unfold Value.okWide at hval
    rw [ht] at hval
    have hv' : Cell.okWide P W r b0 t (.agg xs) := hval
    unfold Cell.okWide at hv'; rw [ht] at hv'
    have h2 : Cell.ok P W r b0 t (.agg xs) := hv'
    unfold Cell.ok at h2; rw [ht] at h2; exact h2
  rcases Go.Deep.open_strs ht he hc hf with ⟨hcs, _⟩ | ⟨a, len, cap, m, Sx, hcs, _, hl, hm, hmm, _, hx⟩
  · have hv : v = .slice none 0 0 := by
      cases v <;> simp [Value.cells] at hcs
      case slice => rw [hcs.1, hcs.2.1, hcs.2.2]
      case agg xs => exact absurd rfl (hno xs)
    exact ⟨[], ⟨rfl, .inl ⟨hv, rfl⟩⟩, Nat.zero_le _, by simp⟩
  · have hv : v = .slice (some a) len cap := by
      cases v <;> simp [Value.cells] at hcs
      case slice => rw [hcs.1, hcs.2.1, hcs.2.2]
      case agg xs => exact absurd rfl (hno xs)
    subst hv
    obtain ⟨h1, h2⟩ := slice_okW ht hval
    obtain ⟨b, off, sp⟩ := a
    obtain rfl : sp = none := h1
    simp only [if_true] at hmm
    subst hmm
    refine ⟨(List.range len).map fun i => (Sx i).data.toList, ⟨by simp, .inr ⟨b, off, m, by simp, by simp; omega, hm, fun i u hi => ?_, h2⟩⟩, by simp; omega, fun s hs => ?_⟩
    · have hil : i < len := by
        have := (List.getElem?_eq_some_iff.1 hi).1
        simpa using this
      have h3 := (hx i (by omega)).1
      rw [add_plain] at h3
      rw [h3, ← hi]
      simp [hil]
    · obtain ⟨i, hi, rfl⟩ := List.mem_map.1 hs
      have hi' := List.mem_range.1 hi
      exact (hx i (by omega)).2
end
end Go.Own
end
/- journal: what the rows' condition on the tables gives the walks; the door's own start. -/
section
namespace Go.Proofs.YtbmnbdkbgpajeaaGreatDoor
open Go.ChangeShapes Go.WideShapes Go.ChangeAt Go.RowKit Go.Sha Go.Own
theorem ownK : ownKnob Tryz.prog.godebug = none := by kernel_rfl
theorem laidOutK : laidOutB Tryz.prog = true := by kernel_rfl
theorem gRef : Tryz.prog.globalNamed "sherd/sherdref02.constants" = some 0 := by kernel_rfl
theorem gHash : Tryz.prog.globalNamed "sherd/hash.constants" = some 2 := by kernel_rfl
def Kz : List Int := Kt.map fun n : Nat => (n : Int)
theorem laid_eq : (Rows.laid_sherd_hash_constants : DataW Unit) = Lib.tabData .u32 Kz := by kernel_rfl
theorem laid_eq_ref : (Rows.laid_sherd_sherdref02_constants : DataW Unit) = Lib.tabData .u32 Kz := by kernel_rfl
theorem tab_cells {W : World} {name : String} {g : Nat} (hg : Tryz.prog.globalNamed name = some g) (h : Lib.TabIs Tryz.prog W name .u32 Kz) : Cells W g 0 (Kt.map U) ∧ g < W.heap.size := by
  have hC : Cells W g 0 (Kt.map U) := fun i v hi => by
    rw [Nat.zero_add, World.var?_cell hg h i]
    rw [← hi]
    simp [Kz]
    rfl
  refine ⟨hC, ?_⟩
  have h0 := hC 0 _ (show (Kt.map U)[0]? = some (U 1116352408) by rfl)
  rcases Nat.lt_or_ge g W.heap.size with h' | h'
  · exact h'
  · unfold World.cell? at h0
    simp [Array.getElem?_eq_none h'] at h0
theorem typeH : (Tryz.prog.globals[2]?).map (·.type) = some 161 := by kernel_rfl
theorem typeR : (Tryz.prog.globals[0]?).map (·.type) = some 161 := by kernel_rfl
abbrev lay1 : List (String × DataW Unit) := [("sherd/hash.constants", Rows.laid_sherd_hash_constants)]
abbrev lay2 : List (String × DataW Unit) := [("sherd/sherdref02.constants", Rows.laid_sherd_sherdref02_constants), ("sherd/hash.constants", Rows.laid_sherd_hash_constants)]
theorem of_laid1 {W : World} (h : laidMetH Tryz.prog lay1 W) : Cells W 2 0 (Kt.map U) ∧ 2 < W.heap.size := by
  rw [MakeChecks.laidMetH_plain _ _ _ (by kernel_rfl)] at h
  unfold lay1 at h
  rw [laid_eq] at h
  exact tab_cells gHash (Lib.tabIs_of_head gHash typeH Tryz.underlying161 Tryz.underlying137 (by kernel_rfl) (by kernel_rfl) h)
theorem of_laid2 {W : World} (h : laidMetH Tryz.prog lay2 W) : (Cells W 0 0 (Kt.map U) ∧ 0 < W.heap.size) ∧ Cells W 2 0 (Kt.map U) ∧ 2 < W.heap.size := by
  rw [MakeChecks.laidMetH_plain _ _ _ (by kernel_rfl)] at h
  unfold lay2 at h
  rw [laid_eq, laid_eq_ref] at h
  obtain ⟨ps, ⟨g0, t0, cs0, f0, p0, q0, hg0, ht0, hv0, hd0, ⟨g1, t1, cs1, f1, p1, q1, hg1, ht1, hv1, hd1, _, _⟩, _⟩, _, _⟩ := h
  obtain rfl := Option.some.inj (gRef.symm.trans hg0)
  obtain rfl := Option.some.inj (gHash.symm.trans hg1)
  obtain rfl := Option.some.inj (typeR.symm.trans ht0)
  obtain rfl := Option.some.inj (typeH.symm.trans ht1)
  have e0 := Lib.cells_of_tab Tryz.underlying161 Tryz.underlying137 (by kernel_rfl) (by kernel_rfl) hd0
  have e1 := Lib.cells_of_tab Tryz.underlying161 Tryz.underlying137 (by kernel_rfl) (by kernel_rfl) hd1
  have T0 : Lib.TabIs Tryz.prog W "sherd/sherdref02.constants" .u32 Kz := by unfold Lib.TabIs; rw [hv0, ← e0]
  have T1 : Lib.TabIs Tryz.prog W "sherd/hash.constants" .u32 Kz := by unfold Lib.TabIs; rw [hv1, ← e1]
  exact ⟨tab_cells gRef T0, tab_cells gHash T1⟩
theorem door_met1 (os : Os) (args : Array Value) : laidMetH Tryz.prog lay1 ((World.doorLaid Tryz.prog 4000 os).forCall (fun _ _ => 0) ⟨#[], args, []⟩).memory :=
  laidMetH_of_parts3 (fuel := 8) (laidMet_of_run' 8 (by kernel_rfl) (by kernel_rfl)) (by kernel_rfl) (by kernel_rfl)
theorem door_met2 (os : Os) (args : Array Value) : laidMetH Tryz.prog lay2 ((World.doorLaid Tryz.prog 4000 os).forCall (fun _ _ => 0) ⟨#[], args, []⟩).memory :=
  laidMetH_of_parts3 (fuel := 8) (laidMet_of_run' 8 (by kernel_rfl) (by kernel_rfl)) (by kernel_rfl) (by kernel_rfl)
end Go.Proofs.YtbmnbdkbgpajeaaGreatDoor
end

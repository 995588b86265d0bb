/- Image of the program's disk. -/
import Derived.Test.YtkffgmhaiodagaaD10
namespace Go.Proofs.Ytkffgmhaiodagaa
open Go.RowKit Go.Own Go.Disk
attribute [local go_sem] setCell_twice str_size
theorem hTss : Try.prog.underlying 39 = some (.slice 9) := by kernel_rfl
theorem mk_strs (n : Nat) (hn : n ≤ 1000000) (u : World) : (Instr.makeSlice 39 (.int .i64 n) (.int .i64 n)).run Try.prog u = .ok (.slice (some ⟨u.heap.size, 0, none⟩) n n) (u.alloc (.cells (Array.replicate n (str [])) 9)) := by
  obtain ⟨i, hi1, hi2, hi3, hi4⟩ := info_parts (P := Try.prog) (e := 9) (z := str []) (size := 1) (bytes := 16) (by kernel_rfl)
  have := run_make (P := Try.prog) u 39 9 i (str []) hTss hi1 hi2 .i64 .i64 n n (by omega) (Int.le_refl _) (by rw [hi4]; omega) (by omega)
  rw [this, hi3]
  simp only [Int.toNat_natCast, Nat.mul_one]
  have e : (str []).cells = #[str []] := rfl
  rw [e, madeCells_one, List.toArray_replicate]
set_option maxHeartbeats 1600000 in
set_option maxRecDepth 100000 in
theorem image_any (f : Ft) (d : DS) (w : World) (h : PD w f d) : Calls Try.prog 15 #[.pointer (some ⟨f.p, 0, none⟩)] w fun e w' => ∃ v, e = .returned v ∧ Sl w' 1 v d.s.length ((aimage d.s).map str) ∧ (∀ b, v.ownBlock = some b → w.heap.size ≤ b) ∧ Below w.heap.size w w' := by
  obtain ⟨l, hB, _⟩ := h.head
  have c0 : w.cell? ⟨f.p, 0, none⟩ = some (.slice (some ⟨f.bb, 0, none⟩) d.s.length f.cap) := hB.cell rfl
  have hmost := h.ok.most
  have hpos := h.ok.pos
  have hmk := mk_strs d.s.length (by omega)
  have hlt := h.lt
  have hblt : f.p < w.heap.size := hlt _ (by simp [Ft.all])
  go_enter Try.func15, Try.ntmps15
  go_wp2
  obtain ⟨wo, hwo⟩ : ∃ wo : World, wo = w.alloc (.cells (Array.replicate d.s.length (str [])) 9) := ⟨_, rfl⟩
  have hbo : Below w.heap.size w wo := by rw [hwo]; exact (Below.refl _ _).alloc (Nat.le_refl _) _
  have hBo : Blk wo w.heap.size (List.replicate d.s.length (str [])) 9 := by
    have := Blk.new w (Array.replicate d.s.length (str [])) 9
    rw [Array.toList_replicate] at this
    rw [hwo]; exact this
  rw [← hwo]
  clear hwo
  have hal0 : (aimage d.s).length = d.s.length := by simp [aimage]
  have hal : ((aimage d.s).map str).length = d.s.length := by rw [List.length_map, hal0]
  go_loopw [16] (fun c wr => ∃ k : Nat, k ≤ d.s.length ∧ c = .int .i64 k ∧ Blk wr w.heap.size (((aimage d.s).map str).take k ++ List.replicate (d.s.length - k) (str [])) 9 ∧ Below w.heap.size w wr) (fun c _ => d.s.length - (intOf c).toNat)
  case atStart => exact ⟨0, by omega, rfl, by simpa using hBo, hbo⟩
  case round =>
    obtain ⟨k, hk, rfl, hBr, hbr⟩ := hrel
    have h' := h.below hbr
    have c0' : wr.cell? ⟨f.p, 0, none⟩ = some (.slice (some ⟨f.bb, 0, none⟩) d.s.length f.cap) := (hB.below hbr hB.lt).cell rfl
    by_cases hkl : k < d.s.length
    · have hi : inR d k = true := inR_nat hkl
      obtain ⟨hm, _, _, _⟩ := sec_mem hi
      have htl := h.ok.t _ hm
      have hcv := convB wr (.slice (some ⟨f.bb, k * 64, none⟩) 64 64) (sec d k).t (by
        rw [htl]
        refine ⟨by simp [htl], .inr ⟨_, k * 64, 64, rfl, Nat.le_refl _, by decide, ?_, h'.blocks.lt⟩⟩
        refine h'.blocks.cells _ _ ?_
        rw [List.length_map, htl, flatS_at h.ok.t hkl]
        rfl)
      have hfr := hBr.frozen
      have cG : wr.cell? ⟨w.heap.size, k, none⟩ = some (str []) := by
        refine hBr.cell ?_
        rw [List.getElem?_append_right (by rw [List.length_take, hal]; omega)]
        have e : k - ((((aimage d.s).map str).take k)).length = 0 := by rw [List.length_take, hal]; omega
        rw [e, List.getElem?_replicate, if_pos (by omega)]
      have hset := hBr.set k (str (sec d k).t)
      have hat : ((aimage d.s).map str)[k]'(by omega) = str (sec d k).t := by
        simp [aimage, sec, List.getD_eq_getElem?_getD, hkl]
      rw [← hat, set_rep _ _ hkl hal, hat] at hset
      have hb9 : Below w.heap.size w (wr.setCell ⟨w.heap.size, k, none⟩ (str (sec d k).t)) := hbr.trans (by exact ((Chg.refl [w.heap.size] wr).set _ (by simp)).below hbr.size (by simp))
      have HS := Lib.hid hset; clear hset
      have HA := Lib.hid hat; clear hat
      go_wp2
      go_roundw
      case rel => exact ⟨k + 1, by omega, by go_num, HS.out, hb9⟩
      case measure => simp [intOf]; omega
    · obtain rfl : k = d.s.length := by omega
      go_wp2
      go_ret
      refine ⟨_, rfl, ⟨by simp [aimage], .inr ⟨w.heap.size, 0, d.s.length, rfl, Nat.le_refl _, by unfold maxLen; omega, ?_, hBr.lt⟩⟩, fun b hb => ?_, hbr⟩
      · refine hBr.cells _ _ ?_
        have e1 : ((aimage d.s).map str).take d.s.length = (aimage d.s).map str := List.take_of_length_le (by rw [hal]; exact Nat.le_refl _)
        rw [Nat.sub_self, List.replicate_zero, List.append_nil, List.drop_zero, hal, e1, e1]
      · have : w.heap.size = b := by simpa [Value.ownBlock] using hb
        omega
end Go.Proofs.Ytkffgmhaiodagaa

/- A sector of equal bytes. -/
import Derived.Test.YtkffgmhaiodagaaD12
namespace Go.Proofs.Ytkffgmhaiodagaa
open Go.RowKit Go.Own Go.Disk
attribute [local go_sem] setCell_twice str_size
theorem mk_bytes (n : Nat) (hn : n ≤ 1000000) (u : World) : (Instr.makeSlice 72 (.int .i64 n) (.int .i64 n)).run Try.prog u = .ok (.slice (some ⟨u.heap.size, 0, none⟩) n n) (u.alloc (.cells (Array.replicate n (byv 0)) 5)) := by
  obtain ⟨i, hi1, hi2, hi3, hi4⟩ := info_parts (P := Try.prog) (e := 5) (z := byv 0) (size := 1) (bytes := 1) (by kernel_rfl)
  have := run_make (P := Try.prog) u 72 5 i (byv 0) hTb hi1 hi2 .i64 .i64 n n (by omega) (Int.le_refl _) (by rw [hi4]; omega) (by omega)
  rw [this, hi3]
  simp only [Int.toNat_natCast, Nat.mul_one]
  have e : (byv 0).cells = #[byv 0] := rfl
  rw [e, madeCells_one, List.toArray_replicate]
set_option maxRecDepth 100000 in
theorem full_any (c : UInt8) (w : World) : Calls Try.prog 18 #[byv c] w fun e w' => e = .returned (str (List.replicate 64 c)) ∧ Below w.heap.size w w' := by
  have hmk : ∀ u : World, (Instr.makeSlice 72 (.int .i64 64) (.int .i64 64)).run Try.prog u = .ok (.slice (some ⟨u.heap.size, 0, none⟩) 64 64) (u.alloc (.cells (Array.replicate 64 (byv 0)) 5)) := fun u => mk_bytes 64 (by decide) u
  go_enter Try.func18, Try.ntmps18
  go_wp2
  obtain ⟨wo, hwo⟩ : ∃ wo : World, wo = w.alloc (.cells (Array.replicate 64 (byv 0)) 5) := ⟨_, rfl⟩
  have hbo : Below w.heap.size w wo := by rw [hwo]; exact alloc_below _ _
  have hBo : Blk wo w.heap.size (List.replicate 64 (byv 0)) 5 := by
    have := Blk.new w (Array.replicate 64 (byv 0)) 5
    rw [Array.toList_replicate] at this
    rw [hwo]; exact this
  rw [← hwo]
  clear hwo
  have hal : (List.replicate 64 (byv c)).length = 64 := rfl
  go_loopw [4] (fun v wr => ∃ k : Nat, k ≤ 64 ∧ v = .int .i64 k ∧ Blk wr w.heap.size ((List.replicate 64 (byv c)).take k ++ List.replicate (64 - k) (byv 0)) 5 ∧ Below w.heap.size w wr) (fun c _ => 64 - (intOf c).toNat)
  case atStart => exact ⟨0, by omega, rfl, by simpa using hBo, hbo⟩
  case round =>
    obtain ⟨k, hk, rfl, hBr, hbr⟩ := hrel
    by_cases hkl : k < 64
    · have hfr := hBr.frozen
      have cG : wr.cell? ⟨w.heap.size, k, none⟩ = some (byv 0) := by
        refine hBr.cell ?_
        rw [List.getElem?_append_right (by rw [List.length_take, hal]; omega)]
        have e : k - ((List.replicate 64 (byv c)).take k).length = 0 := by rw [List.length_take, hal]; omega
        rw [e, List.getElem?_replicate, if_pos (by omega)]
      have hset := hBr.set k (byv c)
      have hat : (List.replicate 64 (byv c))[k]'(by omega) = byv c := List.getElem_replicate ..
      have hsr := set_rep (List.replicate 64 (byv c)) (byv 0) hkl hal
      rw [hat] at hsr
      rw [hsr] at hset
      have hb9 : Below w.heap.size w (wr.setCell ⟨w.heap.size, k, none⟩ (byv c)) := hbr.trans (by exact ((Chg.refl [w.heap.size] wr).set _ (by simp)).below hbr.size (by simp))
      have HS := Lib.hid hset; clear hset
      clear hat hsr
      go_wp2
      go_roundw
      case rel => exact ⟨k + 1, by omega, by go_num, HS.out, hb9⟩
      case measure => simp [intOf]; omega
    · obtain rfl : k = 64 := by omega
      have hC : Cells wr w.heap.size 0 (List.replicate 64 (byv c)) := hBr.cells0
      have hcv := convB wr (.slice (some ⟨w.heap.size, 0, none⟩) 64 64) (List.replicate 64 c) ⟨rfl, .inr ⟨_, 0, 64, rfl, Nat.le_refl _, by decide, hC, hBr.lt⟩⟩
      go_wp2
      go_ret
      exact ⟨rfl, hbr⟩
end Go.Proofs.Ytkffgmhaiodagaa

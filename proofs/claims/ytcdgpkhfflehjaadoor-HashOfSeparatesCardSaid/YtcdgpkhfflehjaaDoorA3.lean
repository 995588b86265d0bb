/- The walk over the reference's words: the same schedule. -/
import Derived.Test.YtcdgpkhfflehjaaDoorA2
namespace Go.Sha
theorem shl_or (a b : Nat) (ha : a < 16777216) (hb : b < 256) : or32 (shl32 a 8) b = a * 256 + b := by
  have e : shl32 a 8 = a * 256 := by simp only [shl32, show min 8 32 = 8 from rfl]; omega
  have h := Nat.two_pow_add_eq_or_of_lt (i := 8) hb a
  rw [e, or32, Nat.mul_comm a 256, show 256 * a ||| b = 256 * a + b from h.symm]
  omega
theorem or_split (x b i : Nat) (hb : b < 2 ^ i) (h : x * 2 ^ i + b < 4294967296) : or32 (x * 2 ^ i) b = x * 2 ^ i + b := by
  have := Nat.two_pow_add_eq_or_of_lt (i := i) hb x
  rw [or32, Nat.mul_comm x, ← this, Nat.mod_eq_of_lt (by rw [Nat.mul_comm]; exact h)]
theorem bytes_word (b0 b1 b2 b3 : Nat) (h0 : b0 < 256) (h1 : b1 < 256) (h2 : b2 < 256) (h3 : b3 < 256) :
    or32 (or32 (or32 (shl32 b0 24) (shl32 b1 16)) (shl32 b2 8)) b3 = push8 (push8 (push8 (push8 0 b0) b1) b2) b3 := by
  have e0 : shl32 b0 24 = b0 * 256 * 2 ^ 16 := by simp only [shl32, show min 24 32 = 24 from rfl]; omega
  have e1 : shl32 b1 16 = b1 * 2 ^ 16 := by simp only [shl32, show min 16 32 = 16 from rfl]; omega
  have e2 : shl32 b2 8 = b2 * 2 ^ 8 := by simp only [shl32, show min 8 32 = 8 from rfl]; omega
  have a1 : or32 (shl32 b0 24) (shl32 b1 16) = (b0 * 256 + b1) * 256 * 2 ^ 8 := by
    rw [show shl32 b0 24 = b0 * 2 ^ 24 by rw [e0]; omega, or_split b0 _ 24 (by rw [e1]; omega) (by rw [e1]; omega), e1]; omega
  have a2 : or32 (or32 (shl32 b0 24) (shl32 b1 16)) (shl32 b2 8) = ((b0 * 256 + b1) * 256 + b2) * 2 ^ 8 := by
    rw [a1, show (b0 * 256 + b1) * 256 * 2 ^ 8 = (b0 * 256 + b1) * 2 ^ 16 by omega, or_split _ _ 16 (by rw [e2]; omega) (by rw [e2]; omega), e2]; omega
  rw [a2, or_split _ _ 8 (by omega) (by omega)]
  unfold push8
  rw [shl_or 0 b0 (by omega) h0, shl_or _ b1 (by omega) h1, shl_or _ b2 (by omega) h2, shl_or _ b3 (by omega) h3]
  omega
end Go.Sha
namespace Go.Proofs.YtcdgpkhfflehjaaDoor
open Go.RowKit Go.Sha Go.Own
attribute [local go_sem high] op_add op_xor op_and op_or op_not op_shl op_shr op_shl_lit op_shr_lit byte_mod
attribute [local go_sem] setCell_twice
set_option maxHeartbeats 400000 in
theorem words_any (bs : List UInt8) (b off cap : Nat) (w : World) (hl : bs.length = 64) (hcap : 64 ≤ cap) (hm : cap ≤ 9223372036854775807)
    (hC : Cells w b off (bs.map bv)) :
    Calls Tryd.prog 28 #[.slice (some ⟨b, off, none⟩) 64 cap] w fun e w' => e = .returned (.agg ((sched bs 64).map U).toArray) ∧ Below w.heap.size w w' := by
  have hlt := cells_lt hC (by simp; omega)
  have Hb := Lib.hid (bytes_cells hC hl); clear hC
  have Hl := Lib.hid hl; clear hl
  go_enter Tryd.func28, Tryd.ntmps28
  go_wp2
  go_loopw [4] (fun i wr => ∃ t : Nat, t ≤ 16 ∧ i = .int .i64 t ∧ SRel bs w t wr) (fun i _ => 16 - (intOf i).toNat)
  case atStart => exact ⟨0, by omega, rfl, Blk.new_at _ _ _ (by simp), (Blk.new _ _ _).alloc _, ((Below.refl _ _).alloc (Nat.le_refl _) _).alloc (by simp) _⟩
  case round =>
    obtain ⟨t, ht, rfl, h1, h2, h3⟩ := hrel
    have hz := h1.lt
    have hf := h1.frozen
    by_cases hlt16 : t < 16
    · have hc0 := (h3.cell (p := ⟨b, off + 4 * t, none⟩) hlt).trans (Hb.out (4 * t) (by omega))
      have hc1 := (h3.cell (p := ⟨b, off + (4 * t + 1), none⟩) hlt).trans (Hb.out (4 * t + 1) (by omega))
      have hc2 := (h3.cell (p := ⟨b, off + (4 * t + 2), none⟩) hlt).trans (Hb.out (4 * t + 2) (by omega))
      have hc3 := (h3.cell (p := ⟨b, off + (4 * t + 3), none⟩) hlt).trans (Hb.out (4 * t + 3) (by omega))
      have hw0 : wr.cell? ⟨w.heap.size + 1, t, none⟩ = some (U 0) := h1.cell (by simp [sched_length, List.getElem?_append, List.getElem?_replicate]; omega)
      go_wp2
      refine wp_region_tail 35 (by kernel_rfl) (by kernel_rfl) ?_
      simp only [List.take_succ_cons, List.take_zero, List.drop_succ_cons, List.drop_zero]
      repeat (go_big_quiet_step (fail))
      refine wpQuiet_nil ?_
      intro nq2
      go_wp2
      go_roundw
      case rel =>
        refine ⟨t + 1, by omega, by go_num, ((SRel.drewN ⟨h1, h2, h3⟩ _)).step (by omega) _ ?_⟩
        simp only [next, hlt16, word, if_true, List.getD_eq_getElem?_getD]
        exact bytes_word _ _ _ _ (UInt8.toNat_lt _) (UInt8.toNat_lt _) (UInt8.toNat_lt _) (UInt8.toNat_lt _)
      case measure => simp [intOf]; omega
    · have e : t = 16 := by omega
      subst e
      clear hz hf
      go_wp2
      go_loopw [5] (fun i wr => ∃ t : Nat, t ≤ 64 ∧ 16 ≤ t ∧ i = .int .i64 t ∧ SRel bs w t wr) (fun i _ => 64 - (intOf i).toNat)
      case atStart => exact ⟨16, by omega, by omega, rfl, h1, h2, h3⟩
      case round =>
        clear h1 h2 h3
        obtain ⟨t, ht, ht16, rfl, h1, h2, h3⟩ := hrel
        have hz := h1.lt
        have hf := h1.frozen
        by_cases hlt64 : t < 64
        · have hr : SRel bs w t wr := ⟨h1, h2, h3⟩
          have r2 := hr.at (i := t - 2) (by omega)
          have r15 := hr.at (i := t - 15) (by omega)
          have r16 := hr.at (i := t - 16) (by omega)
          have r7 := hr.at (i := t - 7) (by omega)
          have hw0 : ∃ v, wr.cell? ⟨w.heap.size + 1, t, none⟩ = some v := ⟨_, h1.cellD undef (by simp [sched_length]; omega)⟩
          obtain ⟨v0, hw0⟩ := hw0
          go_wp2
          go_quiet ((go_at_call 29; exact Calls.quiet_of (rotr_any _ _ _ (by omega) (by omega))))
          go_wp2
          go_quiet ((go_at_call 29; exact qcall_add (rotr_any _ _ _ (by omega) (by omega))))
          go_wp2
          refine wp_region_tail 15 (by kernel_rfl) (by kernel_rfl) ?_
          simp only [List.take_succ_cons, List.take_zero, List.drop_succ_cons, List.drop_zero]
          repeat (go_big_quiet_step (fail))
          refine wpQuiet_nil ?_
          intro nq2
          go_wp2
          go_roundw
          case rel => exact ⟨t + 1, by omega, by omega, by go_num, (hr.drewN _).step hlt64 _ (by simp [next, show ¬ t < 16 by omega, sig0, sig1])⟩
          case measure => simp [intOf]; omega
        · have e : t = 64 := by omega
          subst e
          have hf2 := h2.frozen
          have hz2 := h2.lt
          have h1' : Blk wr (w.heap.size + 1) ((sched bs 64).map U) 54 := by simpa using h1
          have hl : ((sched bs 64).map U).length = 64 := by simp [sched_length]
          clear h1
          go_wp2_with (first | (refine wpList_load_blk ((sched bs 64).map U) (ty := 54) (n := 64) h1' (by rw [List.drop_zero]; exact List.take_of_length_le (by omega)) rfl rfl rfl Tryd.underlying54 rfl (by kernel_rfl) (by omega) ?_) | (refine wpList_store_blk (ty := 54) (n := 64) (vs := (sched bs 64).map U) h2 rfl rfl rfl rfl rfl (by kernel_rfl) (by omega) (by simp) ?h1 ?_))
          case h1 => intro v hv; obtain ⟨_, _, rfl⟩ := List.mem_map.1 hv; rfl
          intro w9 hb9 ho9
          go_wp2
          refine bodyPost_ret (results_blk rfl hb9 rfl Tryd.underlying54 rfl ?_) rfl ⟨?_, ho9.below h3 (Nat.le_refl _)⟩
          · rw [hl]; kernel_rfl
          · rfl
end Go.Proofs.YtcdgpkhfflehjaaDoor

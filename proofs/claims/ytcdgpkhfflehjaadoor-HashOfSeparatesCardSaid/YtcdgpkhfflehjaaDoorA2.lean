/- The walk over hash.schedule. -/
import Derived.Test.YtcdgpkhfflehjaaDoorA1
import Derived.Test.YtcdgpkhfflehjaaDoorBlk
import Derived.Test.YtcdgpkhfflehjaaDoorSpec
import Derived.Test.YtcdgpkhfflehjaaDoorReg
namespace Go.Proofs.YtcdgpkhfflehjaaDoor
open Go.RowKit Go.Sha Go.Own
attribute [local go_sem high] op_add op_xor op_and op_or op_not op_shl op_shr op_shl_lit op_shr_lit byte_mod
attribute [local go_sem] setCell_twice
/-- What holds at the head of round t. -/
def SRel (bs : List UInt8) (w : World) (t : Nat) (wr : World) : Prop :=
  Blk wr (w.heap.size + 1) ((sched bs t ++ List.replicate (64 - t) 0).map U) 54 ∧ Blk wr w.heap.size ((List.replicate 64 0).map U) 54 ∧ Below w.heap.size w wr
theorem SRel.step {bs : List UInt8} {w wr : World} {t : Nat} (h : SRel bs w t wr) (ht : t < 64) (v : Nat) (hv : v = next bs (sched bs t) t) :
    SRel bs w (t + 1) (wr.setCell ⟨w.heap.size + 1, t, none⟩ (U v)) := by
  obtain ⟨h1, h2, h3⟩ := h
  refine ⟨?_, h2.set_ne _ (by simp), h3.setCell (by simp) _⟩
  have h4 := h1.set t (U v)
  have e : ((sched bs t ++ List.replicate (64 - t) 0).map U).set t (U v) = (sched bs (t + 1) ++ List.replicate (64 - (t + 1)) 0).map U := by
    rw [show 64 - t = (64 - (t + 1)) + 1 by omega, List.replicate_succ]
    simp only [sched, List.map_append, List.map_cons, List.map_nil, List.append_assoc, List.cons_append, List.nil_append]
    rw [List.set_append_right _ _ (by simp [sched_length])]
    simp [sched_length, hv]
  rwa [e] at h4
theorem SRel.drewN {bs : List UInt8} {w wr : World} {t : Nat} (h : SRel bs w t wr) (n : Nat) : SRel bs w t (wr.drewN n) := ⟨h.1.drewN n, h.2.1.drewN n, below_drewN h.2.2 n⟩
theorem SRel.at {bs : List UInt8} {w wr : World} {t i : Nat} (h : SRel bs w t wr) (hi : i < t) : wr.cell? ⟨w.heap.size + 1, i, none⟩ = some (U ((sched bs t).getD i 0)) :=
  h.1.cell (by rw [List.map_append, List.getElem?_append_left (by simp [sched_length]; exact hi)]; simp [sched_length, hi])
set_option maxHeartbeats 400000 in
theorem schedule_any (bs : List UInt8) (b off cap : Nat) (w : World) (hl : bs.length = 64) (hcap : 64 ≤ cap) (hm : cap ≤ 9223372036854775807)
    (hC : Cells w b off (bs.map bv)) :
    Calls Tryd.prog 36 #[.slice (some ⟨b, off, none⟩) 64 cap] w fun e w' => e = .returned (.agg ((sched bs 64).map U).toArray) ∧ Below w.heap.size w w' := by
  have hlt := cells_lt hC (by simp; omega)
  have Hb := Lib.hid (bytes_cells hC hl); clear hC
  have Hl := Lib.hid hl; clear hl
  go_enter Tryd.func36, Tryd.ntmps36
  go_wp2
  go_loopw [11] (fun i wr => ∃ t : Nat, t ≤ 64 ∧ i = .int .i64 t ∧ SRel bs w t wr) (fun i _ => 64 - (intOf i).toNat)
  case atStart => exact ⟨0, by omega, rfl, Blk.new_at _ _ _ (by simp), (Blk.new _ _ _).alloc _, ((Below.refl _ _).alloc (Nat.le_refl _) _).alloc (by simp) _⟩
  case round =>
    obtain ⟨t, ht, rfl, h1, h2, h3⟩ := hrel
    have hz := h1.lt
    have hf := h1.frozen
    by_cases hlt64 : t < 64
    · by_cases h16 : t < 16
      · have hc0 := (h3.cell (p := ⟨b, off + 4 * t, none⟩) hlt).trans (Hb.out (4 * t) (by omega))
        have hc1 := (h3.cell (p := ⟨b, off + 4 * t + 1, none⟩) hlt).trans (Hb.out (4 * t + 1) (by omega))
        have hc2 := (h3.cell (p := ⟨b, off + 4 * t + 2, none⟩) hlt).trans (Hb.out (4 * t + 2) (by omega))
        have hc3 := (h3.cell (p := ⟨b, off + 4 * t + 3, none⟩) hlt).trans (Hb.out (4 * t + 3) (by omega))
        have hw0 : wr.cell? ⟨w.heap.size + 1, t, none⟩ = some (U 0) := h1.cell (by simp [sched_length, List.getElem?_append, List.getElem?_replicate]; omega)
        go_wp2
        refine wp_loop_rounds 5 ?_
        iterate 5 (rw [rounds_succ]; go_wp2)
        go_roundw
        case rel => exact ⟨t + 1, by omega, by go_num, SRel.step ⟨h1, h2, h3⟩ hlt64 _ (by simp [next, h16, word, push8])⟩
        case measure => simp [intOf]; omega
      · have hr : SRel bs w t wr := ⟨h1, h2, h3⟩
        have r2 := hr.at (i := t - 2) (by omega)
        have r15 := hr.at (i := t - 15) (by omega)
        have r16 := hr.at (i := t - 16) (by omega)
        have r7 := hr.at (i := t - 7) (by omega)
        have hw0 : ∃ v, wr.cell? ⟨w.heap.size + 1, t, none⟩ = some v := ⟨_, h1.cellD undef (by simp [sched_length]; omega)⟩
        obtain ⟨v0, hw0⟩ := hw0
        go_wp2
        go_quiet (fail)
        go_wp2_with (go_at_call 40; refine (rl_any _ _ _ (by omega) (by omega)).mono ?_; rintro e w' ⟨rfl, rfl⟩)
        refine wp_region_tail 15 (by kernel_rfl) (by kernel_rfl) ?_
        simp only [List.take_succ_cons, List.take_zero, List.drop_succ_cons, List.drop_zero]
        repeat (go_big_quiet_step (fail))
        refine wpQuiet_nil ?_
        intro nq2
        go_wp2
        go_roundw
        case rel => exact ⟨t + 1, by omega, by go_num, (hr.drewN _).step hlt64 _ (by simp [next, h16, sig0, sig1])⟩
        case measure => simp [intOf]; omega
    · have e : t = 64 := by omega
      subst e
      have hf2 := h2.frozen
      have hz2 := h2.lt
      have h1' : Blk wr (w.heap.size + 1) ((sched bs 64).map U) 54 := by simpa using h1
      have hl : ((sched bs 64).map U).length = 64 := by simp [sched_length]
      clear h1
      go_wp2_with (first | (refine wpList_load_blk ((sched bs 64).map U) (ty := 54) (n := 64) h1' (by rw [List.drop_zero]; exact List.take_of_length_le (by omega)) rfl rfl rfl Tryd.underlying54 rfl (by kernel_rfl) (by omega) ?_) | (refine wpList_store_blk (ty := 54) (n := 64) (vs := (sched bs 64).map U) h2 rfl rfl rfl rfl rfl (by kernel_rfl) (by omega) (by simp) ?h1 ?_))
      case h1 => intro v hv; obtain ⟨_, _, rfl⟩ := List.mem_map.1 hv; rfl
      intro w9 hb9 ho9
      go_wp2
      refine bodyPost_ret (results_blk rfl hb9 rfl Tryd.underlying54 rfl ?_) rfl ⟨?_, ho9.below h3 (Nat.le_refl _)⟩
      · rw [hl]; kernel_rfl
      · rfl
end Go.Proofs.YtcdgpkhfflehjaaDoor

/- The walk over the reference's words: the same schedule. -/
import Derived.Test.YtbmnbdkbgpajeaaGreatDoorFR00
import Derived.Deep.DeepCutAuto
/- The walk over the reference's words: the same schedule. -/
section
namespace Go.Sha
theorem shl_or (a b : Nat) (ha : a < 16777216) (hb : b < 256) : or32 (shl32 a 8) b = a * 256 + b := by
  have e : shl32 a 8 = a * 256 := by simp only [shl32, show min 8 32 = 8 from rfl]; omega
  have h := Nat.two_pow_add_eq_or_of_lt (i := 8) hb a
  rw [e, or32, Nat.mul_comm a 256, show 256 * a ||| b = 256 * a + b from h.symm]
  omega
theorem or_split (x b i : Nat) (hb : b < 2 ^ i) (h : x * 2 ^ i + b < 4294967296) : or32 (x * 2 ^ i) b = x * 2 ^ i + b := by
  have := Nat.two_pow_add_eq_or_of_lt (i := i) hb x
  rw [or32, Nat.mul_comm x, ← this, Nat.mod_eq_of_lt (by rw [Nat.mul_comm]; exact h)]
theorem bytes_word (b0 b1 b2 b3 : Nat) (h0 : b0 < 256) (h1 : b1 < 256) (h2 : b2 < 256) (h3 : b3 < 256) :
    or32 (or32 (or32 (shl32 b0 24) (shl32 b1 16)) (shl32 b2 8)) b3 = push8 (push8 (push8 (push8 0 b0) b1) b2) b3 := by
  have e0 : shl32 b0 24 = b0 * 256 * 2 ^ 16 := by simp only [shl32, show min 24 32 = 24 from rfl]; omega
  have e1 : shl32 b1 16 = b1 * 2 ^ 16 := by simp only [shl32, show min 16 32 = 16 from rfl]; omega
  have e2 : shl32 b2 8 = b2 * 2 ^ 8 := by simp only [shl32, show min 8 32 = 8 from rfl]; omega
  have a1 : or32 (shl32 b0 24) (shl32 b1 16) = (b0 * 256 + b1) * 256 * 2 ^ 8 := by
    rw [show shl32 b0 24 = b0 * 2 ^ 24 by rw [e0]; omega, or_split b0 _ 24 (by rw [e1]; omega) (by rw [e1]; omega), e1]; omega
  have a2 : or32 (or32 (shl32 b0 24) (shl32 b1 16)) (shl32 b2 8) = ((b0 * 256 + b1) * 256 + b2) * 2 ^ 8 := by
    rw [a1, show (b0 * 256 + b1) * 256 * 2 ^ 8 = (b0 * 256 + b1) * 2 ^ 16 by omega, or_split _ _ 16 (by rw [e2]; omega) (by rw [e2]; omega), e2]; omega
  rw [a2, or_split _ _ 8 (by omega) (by omega)]
  unfold push8
  rw [shl_or 0 b0 (by omega) h0, shl_or _ b1 (by omega) h1, shl_or _ b2 (by omega) h2, shl_or _ b3 (by omega) h3]
  omega
end Go.Sha
namespace Go.Proofs.YtbmnbdkbgpajeaaGreatDoor
open Go.RowKit Go.Sha Go.Own
attribute [local go_sem high] op_add op_xor op_and op_or op_not op_shl op_shr op_shl_lit op_shr_lit byte_mod
attribute [local go_sem] setCell_twice
set_option maxHeartbeats 400000 in
theorem words_any (bs : List UInt8) (b off cap : Nat) (w : World) (hl : bs.length = 64) (_hcap : 64 ≤ cap) (_hm : cap ≤ 9223372036854775807)
    (hC : Cells w b off (bs.map bv)) :
    Calls Tryz.prog 105 #[.slice (some ⟨b, off, none⟩) 64 cap] w fun e w' => e = .returned (.agg ((sched bs 64).map U).toArray) ∧ Below w.heap.size w w' := by
  have hlt := cells_lt hC (by simp; omega)
  have Hb := Lib.hid (bytes_cells hC hl); clear hC
  have Hl := Lib.hid hl; clear hl
  go_enter Tryz.func105, Tryz.ntmps105
  go_wp2
  go_loopw [4] (fun i wr => ∃ t : Nat, t ≤ 16 ∧ i = .int .i64 t ∧ SRel bs w t wr) (fun i _ => 16 - (intOf i).toNat)
  case atStart => exact ⟨0, by omega, rfl, Blk.new_at _ _ _ (by simp), (Blk.new _ _ _).alloc _, ((Below.refl _ _).alloc (Nat.le_refl _) _).alloc (by simp) _⟩
  case round =>
    obtain ⟨t, ht, rfl, h1, h2, h3⟩ := hrel
    have hz := h1.lt
    have hf := h1.frozen
    by_cases hlt16 : t < 16
    · have hc0 := (h3.cell (p := ⟨b, off + 4 * t, none⟩) hlt).trans (Hb.out (4 * t) (by omega))
      have hc1 := (h3.cell (p := ⟨b, off + (4 * t + 1), none⟩) hlt).trans (Hb.out (4 * t + 1) (by omega))
      have hc2 := (h3.cell (p := ⟨b, off + (4 * t + 2), none⟩) hlt).trans (Hb.out (4 * t + 2) (by omega))
      have hc3 := (h3.cell (p := ⟨b, off + (4 * t + 3), none⟩) hlt).trans (Hb.out (4 * t + 3) (by omega))
      have hw0 : wr.cell? ⟨w.heap.size + 1, t, none⟩ = some (U 0) := h1.cell (by simp [sched_length, List.getElem?_append, List.getElem?_replicate]; omega)
      go_wp2
      refine wp_region_tail 35 (by kernel_rfl) (by kernel_rfl) ?_
      simp only [List.take_succ_cons, List.take_zero, List.drop_succ_cons, List.drop_zero]
      repeat (go_big_quiet_step (fail))
      refine wpQuiet_nil ?_
      intro nq2
      go_wp2
      go_roundw
      case rel =>
        refine ⟨t + 1, by omega, by go_num, ((SRel.drewN ⟨h1, h2, h3⟩ _)).step (by omega) _ ?_⟩
        simp only [next, hlt16, word, if_true, List.getD_eq_getElem?_getD]
        exact bytes_word _ _ _ _ (UInt8.toNat_lt _) (UInt8.toNat_lt _) (UInt8.toNat_lt _) (UInt8.toNat_lt _)
      case measure => simp [intOf]; omega
    · have e : t = 16 := by omega
      subst e
      clear hz hf
      go_wp2
      go_loopw [5] (fun i wr => ∃ t : Nat, t ≤ 64 ∧ 16 ≤ t ∧ i = .int .i64 t ∧ SRel bs w t wr) (fun i _ => 64 - (intOf i).toNat)
      case atStart => exact ⟨16, by omega, by omega, rfl, h1, h2, h3⟩
      case round =>
        clear h1 h2 h3
        obtain ⟨t, ht, ht16, rfl, h1, h2, h3⟩ := hrel
        have hz := h1.lt
        have hf := h1.frozen
        by_cases hlt64 : t < 64
        · have hr : SRel bs w t wr := ⟨h1, h2, h3⟩
          have r2 := hr.at (i := t - 2) (by omega)
          have r15 := hr.at (i := t - 15) (by omega)
          have r16 := hr.at (i := t - 16) (by omega)
          have r7 := hr.at (i := t - 7) (by omega)
          have hw0 : ∃ v, wr.cell? ⟨w.heap.size + 1, t, none⟩ = some v := ⟨_, h1.cellD undef (by simp [sched_length]; omega)⟩
          obtain ⟨v0, hw0⟩ := hw0
          go_wp2
          go_quiet ((go_at_call 106; exact Calls.quiet_of (rotr_any _ _ _ (by omega) (by omega))))
          go_wp2
          go_quiet ((go_at_call 106; exact qcall_add (rotr_any _ _ _ (by omega) (by omega))))
          go_wp2
          refine wp_region_tail 15 (by kernel_rfl) (by kernel_rfl) ?_
          simp only [List.take_succ_cons, List.take_zero, List.drop_succ_cons, List.drop_zero]
          repeat (go_big_quiet_step (fail))
          refine wpQuiet_nil ?_
          intro nq2
          go_wp2
          go_roundw
          case rel => exact ⟨t + 1, by omega, by omega, by go_num, (hr.drewN _).step hlt64 _ (by simp [next, show ¬ t < 16 by omega, sig0, sig1])⟩
          case measure => simp [intOf]; omega
        · have e : t = 64 := by omega
          subst e
          have hf2 := h2.frozen
          have hz2 := h2.lt
          have h1' : Blk wr (w.heap.size + 1) ((sched bs 64).map U) 161 := by simpa using h1
          have hl : ((sched bs 64).map U).length = 64 := by simp [sched_length]
          clear h1
          go_wp2_with (first | (refine wpList_load_blk ((sched bs 64).map U) (ty := 161) (n := 64) h1' (by rw [List.drop_zero]; exact List.take_of_length_le (by omega)) rfl rfl rfl Tryz.underlying161 rfl (by kernel_rfl) (by omega) ?_) | (refine wpList_store_blk (ty := 161) (n := 64) (vs := (sched bs 64).map U) h2 rfl rfl rfl rfl rfl (by kernel_rfl) (by omega) (by simp) ?h1 ?_))
          case h1 => intro v hv; obtain ⟨_, _, rfl⟩ := List.mem_map.1 hv; rfl
          intro w9 hb9 ho9
          go_wp2
          refine bodyPost_ret (results_blk rfl hb9 rfl Tryz.underlying161 rfl ?_) rfl ⟨?_, ho9.below h3 (Nat.le_refl _)⟩
          · rw [hl]; kernel_rfl
          · rfl
end Go.Proofs.YtbmnbdkbgpajeaaGreatDoor
end
/- The walk over hash.compress. -/
section
namespace Go.Proofs.YtbmnbdkbgpajeaaGreatDoor
open Go.RowKit Go.Sha Go.Own
attribute [local go_sem high] op_add op_xor op_and op_or op_not op_shl op_shr op_shl_lit op_shr_lit byte_mod
attribute [local go_sem] setCell_twice
theorem arrayAt63 (w : World) (a : Option Addr) (cap : Nat) : (Instr.arrayAt 167 (.slice a 4 cap)).run Tryz.prog w = .ok (.pointer a) w := by
  unfold Instr.arrayAt
  simp [run_underlying Tryz.underlying167]
attribute [local go_sem] arrayAt63
/-- The blocks of compress behind its first statements: the two halves of the state, the schedule, the argument, the result. -/
structure CBlk (s : St) (bs : List UInt8) (w : World) (B6 B7 B5 : Nat) (wr : World) (x : St) : Prop where
  b6 : Blk wr B6 [U x.a, U x.b, U x.c, U x.d] 167
  b7 : Blk wr B7 [U x.e, U x.f, U x.g, U x.h] 167
  b5 : Blk wr B5 ((sched bs 64).map U) 161
  b2 : Blk wr w.heap.size [U s.a, U s.b, U s.c, U s.d, U s.e, U s.f, U s.g, U s.h] 146
  b4 : Blk wr (w.heap.size + 1) ((List.replicate 8 0).map U) 146
  n67 : B6 ≠ B7
  n5 : w.heap.size + 1 < B5
  n6 : B5 < B6
  n7 : B5 < B7
  below : Below w.heap.size w wr
theorem CBlk.of {s : St} {bs : List UInt8} {w w3 W : World} {B5 B6 B7 : Nat} (hB5 : Blk w3 B5 ((sched bs 64).map U) 161)
    (hB2 : Blk w3 w.heap.size [U s.a, U s.b, U s.c, U s.d, U s.e, U s.f, U s.g, U s.h] 146) (hB4 : Blk w3 (w.heap.size + 1) ((List.replicate 8 0).map U) 146) (hbb : Below w.heap.size w w3)
    (h5 : w.heap.size + 1 < B5) (h6 : w3.heap.size ≤ B6) (h7 : w3.heap.size ≤ B7) (hne : B6 ≠ B7) (hW : Below w3.heap.size w3 W)
    (b6 : Blk W B6 [U s.a, U s.b, U s.c, U s.d] 167) (b7 : Blk W B7 [U s.e, U s.f, U s.g, U s.h] 167) : CBlk s bs w B6 B7 B5 W s where
  b6 := b6
  b7 := b7
  b5 := hB5.below hW hB5.lt
  b2 := hB2.below hW hB2.lt
  b4 := hB4.below hW hB4.lt
  n67 := hne
  n5 := h5
  n6 := Nat.lt_of_lt_of_le hB5.lt h6
  n7 := Nat.lt_of_lt_of_le hB5.lt h7
  below := hbb.trans (hW.mono (by have := hbb.size; omega))
/-- The state while the two halves are added to it: i words of each half are done. -/
def cur (s x : St) (i : Nat) : List Nat :=
  [if 0 < i then add32 s.a x.a else s.a, if 1 < i then add32 s.b x.b else s.b, if 2 < i then add32 s.c x.c else s.c, if 3 < i then add32 s.d x.d else s.d,
   if 0 < i then add32 s.e x.e else s.e, if 1 < i then add32 s.f x.f else s.f, if 2 < i then add32 s.g x.g else s.g, if 3 < i then add32 s.h x.h else s.h]
theorem four {i : Nat} (h : i < 4) : i = 0 ∨ i = 1 ∨ i = 2 ∨ i = 3 := by omega
theorem cur_lo (s x : St) (i : Nat) (h : i < 4) : ((cur s x i).map U)[i]? = some (U (s.list.getD i 0)) := by
  rcases four h with rfl | rfl | rfl | rfl <;> simp [cur, St.list]
theorem cur_hi (s x : St) (i : Nat) (h : i < 4) : ((cur s x i).map U)[i + 4]? = some (U (s.list.getD (i + 4) 0)) := by
  rcases four h with rfl | rfl | rfl | rfl <;> simp [cur, St.list]
theorem cur_next (s x : St) (i : Nat) (h : i < 4) : (((cur s x i).map U).set i (U (add32 (s.list.getD i 0) ([x.a, x.b, x.c, x.d].getD i 0)))).set (i + 4) (U (add32 (s.list.getD (i + 4) 0) ([x.e, x.f, x.g, x.h].getD i 0))) = (cur s x (i + 1)).map U := by
  rcases four h with rfl | rfl | rfl | rfl <;> simp [cur, St.list]
theorem index54 (w : World) (l : List Nat) (hl : l.length = 64) (t : Nat) (ht : t < 64) : (Instr.index 161 (.agg (l.map U).toArray) (.int .i64 (t : Int))).run Tryz.prog w = .ok (U (l.getD t 0)) w := by
  have hs : (sizeOf 137).run Tryz.prog w = .ok 1 w := by kernel_rfl
  unfold Instr.index
  simp only [asIntOf, Sem.run_bind, Sem.run_pure, Result.andThen_ok, run_underlying Tryz.underlying161]
  rw [if_pos ⟨by omega, by omega⟩]
  have ha : (isAgg 137).run Tryz.prog w = .ok false w := by kernel_rfl
  simp [part, hs, hl, ht]
set_option maxRecDepth 100000 in
set_option maxHeartbeats 1600000 in
theorem compress_any (s : St) (bs : List UInt8) (b off cap _tK : Nat) (w : World) (hl : bs.length = 64) (hcap : 64 ≤ cap) (hm : cap ≤ 9223372036854775807)
    (hC : Cells w b off (bs.map bv)) (hK : Cells w 2 0 (Kt.map U)) (h1 : 2 < w.heap.size) :
    Calls Tryz.prog 102 #[.agg (s.list.map U).toArray, .slice (some ⟨b, off, none⟩) 64 cap] w fun e w' => e = .returned (.agg ((comp s bs).list.map U).toArray) ∧ Below w.heap.size w w' := by
  have HC := Lib.hid hC; clear hC
  have Hl := Lib.hid hl; clear hl
  have HK := Lib.hid hK; clear hK
  simp only [St.list, List.map_cons, List.map_nil]
  go_enter Tryz.func102, Tryz.ntmps102
  go_wp2_with fail
  refine (schedule_any bs b off cap _ Hl.out hcap hm ((HC.out.alloc _).alloc _)).mono ?_
  rintro e w2 ⟨rfl, hb2⟩
  have hz2 := hb2.size
  simp at hz2
  go_wp2_with (first | (refine wpList_store_blk (ty := 161) (n := 64) (vs := (sched bs 64).map U) (Blk.new _ _ _) rfl rfl rfl rfl rfl (by kernel_rfl) (by simp [sched_length]) (by simp) ?h1 ?_))
  case h1 => intro v hv; obtain ⟨_, _, rfl⟩ := List.mem_map.1 hv; rfl
  intro w3 hB5 ho3
  have hz3 := ho3.size
  simp at hz3
  have hbb : Below w.heap.size w w3 := ho3.below ((((((Below.refl _ _).alloc (Nat.le_refl _) _).alloc (by simp) _).trans (hb2.mono (by simp; omega))).alloc (by omega) _)) (by omega)
  have hB2 : Blk w3 w.heap.size [U s.a, U s.b, U s.c, U s.d, U s.e, U s.f, U s.g, U s.h] 146 := ho3.blk (by omega) ((((Blk.new w _ 146).alloc _).below hb2 (by simp; omega)).alloc _)
  have hB4 : Blk w3 (w.heap.size + 1) ((List.replicate 8 0).map U) 146 := ho3.blk (by omega) (((Blk.new_at (w.alloc _) _ 146 (by simp)).below hb2 (by simp)).alloc _)
  clear hb2 ho3 hz3
  have l2 := hB2.lt
  have l4 := hB4.lt
  have l5 := hB5.lt
  have c0 := hB2.cell (i := 0) rfl
  have c1 := hB2.cell (i := 1) rfl
  have c2 := hB2.cell (i := 2) rfl
  have c3 := hB2.cell (i := 3) rfl
  have c4 := hB2.cell (i := 4) rfl
  have c5 := hB2.cell (i := 5) rfl
  have c6 := hB2.cell (i := 6) rfl
  have c7 := hB2.cell (i := 7) rfl
  go_wp2
  go_cut [6, 7] (fun v6 v7 wr => ∃ B6 B7 : Nat, v6 = .pointer (some ⟨B6, 0, none⟩) ∧ v7 = .pointer (some ⟨B7, 0, none⟩) ∧ CBlk s bs w B6 B7 w2.heap.size wr s)
  case first =>
    go_region
    all_goals
      go_step
      go_step
      go_meet
    case rel => exact ⟨_, _, rfl, rfl, CBlk.of hB5 hB2 hB4 hbb (by omega) (by omega) (by omega) (by omega) ((((Below.refl _ _).alloc (Nat.le_refl _) _).alloc (by simp) _).drew) (((Blk.new _ _ _).alloc _).drew) ((Blk.new_at (w3.alloc _) _ _ (by simp)).drew)⟩
    exact ⟨_, _, rfl, rfl, CBlk.of hB5 hB2 hB4 hbb (by omega) (by omega) (by omega) (by omega) ((((Below.refl _ _).alloc (Nat.le_refl _) _).alloc (by simp) _).drew) ((Blk.new_at (w3.alloc _) _ _ (by simp)).drew) (((Blk.new _ _ _).alloc _).drew)⟩
  case rest =>
    clear c0 c1 c2 c3 c4 c5 c6 c7 hB2 hB4 hB5 l2 l4 l5 hbb
    obtain ⟨B6, B7, rfl, rfl, hc⟩ := hcut
    have HKc := HK.out.below hc.below h1
    go_wp2_with (refine wpList_load_cells (ty := 161) (n := 64) (vs := Kt.map U) HKc rfl rfl rfl Tryz.underlying161 rfl (by kernel_rfl) (by simp [Kt_length]) ?_)
    clear HKc
    go_loopw [22] (fun i wr => ∃ (t : Nat) (x : St), t ≤ 64 ∧ i = .int .i64 t ∧ CBlk s bs w B6 B7 w2.heap.size wr x ∧ Hid (x = rnds (sched bs 64) s t)) (fun i _ => 64 - (intOf i).toNat)
    case atStart => exact ⟨0, s, by omega, rfl, hc, rfl⟩
    case round =>
      clear hc
      obtain ⟨t, x, ht, rfl, hc, hx⟩ := hrel
      by_cases hlt : t < 64
      · have e0 := hc.b7.cell (i := 0) rfl
        have e1 := hc.b7.cell (i := 1) rfl
        have e2 := hc.b7.cell (i := 2) rfl
        have e3 := hc.b7.cell (i := 3) rfl
        have v0 := hc.b6.cell (i := 0) rfl
        have v1 := hc.b6.cell (i := 1) rfl
        have v2 := hc.b6.cell (i := 2) rfl
        have v3 := hc.b6.cell (i := 3) rfl
        have hw : wr.cell? ⟨w2.heap.size, t, none⟩ = some (U ((sched bs 64).getD t 0)) := hc.b5.cell (by simp [sched_length, hlt])
        have hidx := fun W => index54 W Kt Kt_length t hlt
        go_wp2
        go_quiet ((go_at_call 111; exact qcall_same (mix_any _ _ _ _ _ (by omega) (by omega) (by omega) (by omega) (by omega) (by omega))))
        go_wp2
        go_quiet ((go_at_call 111; exact qcall_same_add (mix_any _ _ _ _ _ (by omega) (by omega) (by omega) (by omega) (by omega) (by omega))))
        go_wp2_with (refine wpList_store_blk (ty := 167) (n := 4) (vs := [_, _, _, _]) (hc.b7.drewN _) rfl rfl rfl rfl rfl (by kernel_rfl) rfl (by simp) (by simp [Value.oneCell']) ?_)
        intro wA hA7 hoA
        clear e0 e1 e2 e3 v0 v1 v2 v3 hw hidx
        have n67 := hc.n67
        have hA6 := hoA.blk n67 (hc.b6.drewN _)
        have v0 := hA6.cell (i := 0) rfl
        have v1 := hA6.cell (i := 1) rfl
        have v2 := hA6.cell (i := 2) rfl
        have v3 := hA6.cell (i := 3) rfl
        go_wp2_with (refine wpList_store_blk (ty := 167) (n := 4) (vs := [_, _, _, _]) hA6 rfl rfl rfl rfl rfl (by kernel_rfl) rfl (by simp) (by simp [Value.oneCell']) ?_)
        intro wB hB6 hoB
        clear v0 v1 v2 v3
        go_wp2
        go_roundw
        case rel =>
          refine ⟨t + 1, rnd x (Kt.getD t 0) ((sched bs 64).getD t 0), by omega, by go_num, ⟨?_, ?_, ?_, ?_, ?_, hc.n67, hc.n5, hc.n6, hc.n7, ?_⟩, ?_⟩
          · simpa [rnd, xF, yF, mix3, chF, majF] using hB6
          · simpa [rnd, xF, yF, mix3, chF, majF] using hoB.blk (Ne.symm n67) hA7
          · have := hc.n6; have := hc.n7; exact hoB.blk (by omega) (hoA.blk (by omega) (hc.b5.drewN _))
          · have := hc.n5; have := hc.n6; have := hc.n7; exact hoB.blk (by omega) (hoA.blk (by omega) (hc.b2.drewN _))
          · have := hc.n5; have := hc.n6; have := hc.n7; exact hoB.blk (by omega) (hoA.blk (by omega) (hc.b4.drewN _))
          · have := hc.n5; have := hc.n6; have := hc.n7; exact hoB.below (hoA.below (below_drewN hc.below _) (by omega)) (by omega)
          · show _ = rnd _ _ _; rw [← hx.out]
        case measure => simp [intOf]; omega
      · obtain rfl : t = 64 := by omega
        have g6 : w.heap.size < B6 := by have := hc.n5; have := hc.n6; omega
        have g7 : w.heap.size < B7 := by have := hc.n5; have := hc.n7; omega
        go_wp2
        go_loopw [94] (fun v wx => ∃ i : Nat, i ≤ 4 ∧ v = .int .i64 i ∧ Blk wx w.heap.size ((cur s x i).map U) 146 ∧ Blk wx B6 ([x.a, x.b, x.c, x.d].map U) 167 ∧ Blk wx B7 ([x.e, x.f, x.g, x.h].map U) 167 ∧ Blk wx (w.heap.size + 1) ((List.replicate 8 0).map U) 146 ∧ Below w.heap.size w wx) (fun v _ => 4 - (intOf v).toNat)
        case atStart => exact ⟨0, by omega, rfl, hc.b2, hc.b6, hc.b7, hc.b4, hc.below⟩
        case round =>
          clear hc
          obtain ⟨i, hi, rfl, k2, k6, k7, k4, kb⟩ := hrel
          by_cases hi4 : i < 4
          · have f2 := k2.frozen
            obtain ⟨p, Hp⟩ : ∃ p, Hid (p = s.list.getD i 0) := ⟨_, rfl⟩
            obtain ⟨q, Hq⟩ : ∃ q, Hid (q = s.list.getD (i + 4) 0) := ⟨_, rfl⟩
            obtain ⟨r, Hr⟩ : ∃ r, Hid (r = [x.a, x.b, x.c, x.d].getD i 0) := ⟨_, rfl⟩
            obtain ⟨u, Hu⟩ : ∃ u, Hid (u = [x.e, x.f, x.g, x.h].getD i 0) := ⟨_, rfl⟩
            have c1 : wr.cell? ⟨w.heap.size, i, none⟩ = some (U p) := by rw [Hp.out]; exact k2.cell (cur_lo s x i hi4)
            have c2 : wr.cell? ⟨w.heap.size, i + 4, none⟩ = some (U q) := by rw [Hq.out]; exact k2.cell (cur_hi s x i hi4)
            have c3 : wr.cell? ⟨B6, i, none⟩ = some (U r) := by rw [Hr.out]; exact k6.cell (by rcases four hi4 with rfl | rfl | rfl | rfl <;> rfl)
            have c4 : wr.cell? ⟨B7, i, none⟩ = some (U u) := by rw [Hu.out]; exact k7.cell (by rcases four hi4 with rfl | rfl | rfl | rfl <;> rfl)
            go_wp2
            refine wp_region_tail 8 (by kernel_rfl) (by kernel_rfl) ?_
            simp only [List.take_succ_cons, List.take_zero, List.drop_succ_cons, List.drop_zero]
            repeat (go_big_quiet_step (fail))
            refine wpQuiet_nil ?_
            intro m1
            go_wp2
            refine wp_region_tail 9 (by kernel_rfl) (by kernel_rfl) ?_
            simp only [List.take_succ_cons, List.take_zero, List.drop_succ_cons, List.drop_zero]
            repeat (go_big_quiet_step (fail))
            refine wpQuiet_nil ?_
            intro m2
            go_wp2
            go_roundw
            case rel =>
              refine ⟨i + 1, by omega, by go_num, ?_, ?_, ?_, ?_, ?_⟩
              · have h := (((k2.drewN m1).set i (U (add32 p r))).drewN m2).set (i + 4) (U (add32 q u))
                rw [Hp.out, Hq.out, Hr.out, Hu.out, cur_next s x i hi4] at h
                rw [Hp.out, Hq.out, Hr.out, Hu.out]; exact h
              · exact (((k6.drewN m1).set_ne _ (by simp; omega)).drewN m2).set_ne _ (by simp; omega)
              · exact (((k7.drewN m1).set_ne _ (by simp; omega)).drewN m2).set_ne _ (by simp; omega)
              · exact (((k4.drewN m1).set_ne _ (by simp)).drewN m2).set_ne _ (by simp)
              · exact (below_drewN ((below_drewN kb m1).setCell (by simp) _) m2).setCell (by simp) _
            case measure => simp [intOf]; omega
          · obtain rfl : i = 4 := by omega
            have hcur : (cur s x 4).map U = ((comp s bs).list).map U := by unfold comp; rw [← hx.out]; rfl
            go_wp2_with (first | (refine wpList_load_cells (ty := 146) (n := 8) (vs := ((comp s bs).list).map U) (hcur ▸ k2.cells0) rfl rfl rfl Tryz.underlying146 rfl (by kernel_rfl) rfl ?_) | (refine wpList_store_blk (ty := 146) (n := 8) (vs := ((comp s bs).list).map U) k4 rfl rfl rfl rfl rfl (by kernel_rfl) rfl (by simp) (by simp [St.list, Value.oneCell']) ?_))
            intro w9 hb9 ho9
            go_wp2
            refine bodyPost_ret (results_blk rfl hb9 rfl Tryz.underlying146 rfl (by kernel_rfl)) rfl ⟨?_, ho9.below kb (by omega)⟩
            rfl
end Go.Proofs.YtbmnbdkbgpajeaaGreatDoor
end
/- A region that draws its order, whose head makes memory and calls: each operation of the head leaves what it says of its value, in whatever order they come; then a tail in one forced order. -/
section
namespace Go.Own
open Go.RowKit

theorem count_set_true : ∀ (l : List Bool) (i : Nat), l[i]? = some false → (l.set i true).count false + 1 = l.count false
  | [], i, h => by simp at h
  | b :: l, 0, h => by simp at h; subst h; simp
  | b :: l, i + 1, h => by
    have := count_set_true l i (by simpa using h)
    cases b <;> simp [← this]

/-- Every edge leads to an operation before. -/
def edgesB (ops : Array Oper) : Bool := (List.range ops.size).all fun i => match ops[i]? with | some o => o.after.all fun e => !Region.binds .any e || decide (e.on < i) | none => true
/-- The temporaries that the first n operations write: each by one alone, and no guard stands. -/
def dstsB (ops : Array Oper) (n N : Nat) : Bool := (List.range n).all fun i => match ops[i]? with
  | some o => o.guard.isNone && (match o.dst with | some d => decide (d < N) | none => false) && (List.range n).all fun j => i == j || (match ops[j]? with | some o' => o'.dst != o.dst | none => true)
  | none => false

/-- The frame with the values of the first n operations in their temporaries. -/
def putAll (ops : List Oper) (a : Act) (vs : Nat → Value) : Nat → Act
  | 0 => a
  | k + 1 => (putAll ops a vs k).put ((ops[k]?).bind (·.dst)) (vs k)

theorem getD_both' {listed : Array Bool} {i : Nat} (h : listed.getD i true = true) (hi : i < listed.size) : listed.getD i false = true := by
  simpa [hi] using h

section
variable {P : Program} {ops : Array Oper} {n : Nat}

theorem put_getD (a : Act) (d : Tmp) (v : Value) (t : Nat) (ht : t < a.tmps.size) : (a.put (some d) v).tmps.getD t undef = if d = t then v else a.tmps.getD t undef := by
  simp only [Act.put, Array.getD_eq_getD_getElem?, Array.getElem?_setIfInBounds]
  by_cases h : d = t
  · subst h; simp [ht]
  · simp [h]
theorem put_size (a : Act) (d : Option Tmp) (v : Value) : (a.put d v).tmps.size = a.tmps.size := by cases d <;> simp [Act.put]
theorem put_defers (a : Act) (d : Option Tmp) (v : Value) : (a.put d v).defers = a.defers := by cases d <;> rfl
theorem putAll_size (l : List Oper) (a : Act) (vs : Nat → Value) (k : Nat) : (putAll l a vs k).tmps.size = a.tmps.size := by
  induction k with
  | zero => rfl
  | succ k ih => rw [putAll, put_size, ih]
theorem putAll_defers (l : List Oper) (a : Act) (vs : Nat → Value) (k : Nat) : (putAll l a vs k).defers = a.defers := by
  induction k with
  | zero => rfl
  | succ k ih => rw [putAll, put_defers, ih]

structure RgInv (ops : Array Oper) (n : Nat) (Post : Nat → Value → World → Prop) (a0 : Act) (w0 : World) (listed : Array Bool) (a : Act) (w : World) : Prop where
  size : a.tmps.size = a0.tmps.size
  defers : a.defers = a0.defers
  frame : ∀ t, (∀ i o, i < n → ops[i]? = some o → o.dst ≠ some t) → a.tmps.getD t undef = a0.tmps.getD t undef
  below : Below w0.heap.size w0 w
  post : ∀ i o d, i < n → listed.getD i false = true → ops[i]? = some o → o.dst = some d → Post i (a.tmps.getD d undef) w

theorem dstsB_spec {N : Nat} (h : dstsB ops n N = true) {i : Nat} (hi : i < n) : ∃ o d, ops[i]? = some o ∧ o.guard = none ∧ o.dst = some d ∧ d < N ∧ ∀ j o', j < n → ops[j]? = some o' → i ≠ j → o'.dst ≠ some d := by
  have h1 := List.all_eq_true.1 h i (List.mem_range.2 hi)
  cases ho : ops[i]? with
  | none => simp [ho] at h1
  | some o =>
    simp only [ho, Bool.and_eq_true, Option.isNone_iff_eq_none] at h1
    obtain ⟨⟨hg, hd'⟩, hall⟩ := h1
    obtain ⟨d, hd⟩ : ∃ d, o.dst = some d := by cases h : o.dst with
      | none => rw [h] at hd'; cases hd'
      | some d => exact ⟨d, rfl⟩
    have hdN : d < N := by rw [hd] at hd'; simpa using hd'
    refine ⟨o, d, rfl, hg, hd, hdN, fun j o' hj ho' hne => ?_⟩
    have h2 := List.all_eq_true.1 hall j (List.mem_range.2 hj)
    simp only [ho', Bool.or_eq_true, beq_iff_eq, hne, false_or, bne_iff_ne, ne_eq, hd] at h2
    exact h2

theorem edgesB_spec (h : edgesB ops = true) {i : Nat} {o : Oper} (ho : ops[i]? = some o) : ∀ e ∈ o.after, Region.binds .any e = true → e.on < i := by
  have hi := (Array.getElem?_eq_some_iff.1 ho).1
  have h1 := List.all_eq_true.1 h i (List.mem_range.2 hi)
  simp only [ho] at h1
  intro e he hb
  have h2 := Array.all_eq_true_iff_forall_mem.1 h1 e he
  rw [hb] at h2
  simpa using h2

/-- The least operation that has not come up is ready. -/
theorem ready_least (he : edgesB ops = true) {listed : Array Bool} (hs : listed.size = ops.size) {i : Nat} (hi : i < ops.size) (hun : listed.getD i true = false) (hl : ∀ j, j < i → listed.getD j true = true) : i ∈ Region.ready .any ops listed := by
  rw [mem_ready]
  have ho : ops[i]? = some ops[i] := by simp [hi]
  refine ⟨hun, _, ho, fun e hem hb => ?_⟩
  have h1 := edgesB_spec he ho e hem hb
  have h2 := hl _ h1
  have h3 : e.on < listed.size := by omega
  simpa [h3] using h2

theorem rg_any (Post : Nat → Value → World → Prop) (stable : ∀ i v w w', Post i v w → Below w.heap.size w w' → Post i v w') (a0 : Act) (w0 : World) {Q : Exit → Act → World → Prop} {g : Nat}
    (he : edgesB ops = true) (hd : dstsB ops n a0.tmps.size = true) (hs : Region.sinkB .any ops n = true) (hc : Region.chainB .any ops n = true) (hn : n < ops.size)
    (hop : ∀ i o a w, i < n → ops[i]? = some o → a.tmps.size = a0.tmps.size → Below w0.heap.size w0 w →
      (∀ t, (∀ i o, i < n → ops[i]? = some o → o.dst ≠ some t) → a.tmps.getD t undef = a0.tmps.getD t undef) →
      (∀ e ∈ o.after, Region.binds .any e = true → ∀ oj d, ops[e.on]? = some oj → oj.dst = some d → Post e.on (a.tmps.getD d undef) w) →
      o.wp P a w (fun a' w' => ∃ v, a' = a.put o.dst v ∧ Post i v w' ∧ Below w.heap.size w w') Q)
    (hend : ∀ listed a w, listed.size = ops.size → (∀ i, i < n → listed.getD i true = true) → (∀ t, n ≤ t → t < ops.size → listed.getD t true = false) →
      RgInv ops n Post a0 w0 listed a w → wpAny P .any ops Q g listed a w) (f : Nat) :
    ∀ (listed : Array Bool) (a : Act) (w : World), HeadInv .any ops n listed → RgInv ops n Post a0 w0 listed a w → ((listed.toList.take n).count false = f) → wpAny P .any ops Q (f + g) listed a w := by
  induction f with
  | zero =>
    intro listed a w inv rg hf
    rw [Nat.zero_add]
    refine hend listed a w inv.size (fun i hi => ?_) inv.tail rg
    have hlt : i < listed.size := by rw [inv.size]; omega
    have h0 := List.count_eq_zero.1 hf
    have h1 : listed[i] ∈ listed.toList.take n := by
      rw [List.mem_take_iff_getElem]
      exact ⟨i, by simp; omega, by simp⟩
    cases hb : listed[i] with
    | true => simp [hlt, hb]
    | false => rw [hb] at h1; exact absurd h1 h0
  | succ f ih =>
    intro listed a w inv rg hf
    have hex : ∃ i, i < n ∧ listed.getD i true = false := by
      have : false ∈ listed.toList.take n := List.count_pos_iff.1 (by omega)
      rw [List.mem_take_iff_getElem] at this
      obtain ⟨i, hi, hb⟩ := this
      simp only [Array.length_toList] at hi
      exact ⟨i, by omega, by simp [show i < listed.size by omega]; simpa using hb⟩
    obtain ⟨i0, hi0, hun0⟩ := hex
    have hne : Region.ready .any ops listed ≠ [] := by
      -- the least one
      have key : ∀ m, m < n → listed.getD m true = false → ∃ k, k ≤ m ∧ listed.getD k true = false ∧ ∀ j, j < k → listed.getD j true = true := by
        intro m
        induction m using Nat.strongRecOn with
        | _ m ihm =>
          intro hm hu
          by_cases hx : ∃ j, j < m ∧ listed.getD j true = false
          · obtain ⟨j, hj, hju⟩ := hx
            obtain ⟨k, hk, h⟩ := ihm j hj (by omega) hju
            exact ⟨k, by omega, h⟩
          · exact ⟨m, Nat.le_refl _, hu, fun j hj => by
              cases hb : listed.getD j true with
              | true => rfl
              | false => exact absurd ⟨j, hj, hb⟩ hx⟩
      obtain ⟨k, hk, hu, hl⟩ := key i0 hi0 hun0
      exact List.ne_nil_of_mem (ready_least he inv.size (by omega) hu hl)
    rw [Nat.add_right_comm]
    refine ⟨fun h0 => absurd h0 hne, fun i hi => ?_⟩
    have hin : i < n := (Nat.lt_or_ge i n).resolve_right fun h => absurd hi (tail_waits hs hc hn inv _ i0 rfl hi0 hun0 i h)
    obtain ⟨o, d, ho, hg, hdst, hdN, huniq⟩ := dstsB_spec hd hin
    obtain ⟨hun, o', ho', hall⟩ := mem_ready.1 hi
    obtain rfl : o = o' := Option.some.inj (ho.symm.trans ho')
    have hlt : i < listed.size := by rw [inv.size]; omega
    have hw := hop i o a w hin ho rg.size rg.below rg.frame (fun e hem hb oj dj hoj hdj => rg.post e.on oj dj (by have := edgesB_spec he ho e hem hb; omega) (hall e hem hb) hoj hdj)
    unfold wpOp
    simp only [ho]
    rw [if_pos (by simp [Region.wanted, hg])]
    refine .inl (Oper.wp_mono ?_ hw)
    rintro a' w' ⟨v, rfl, hpost, hbelow⟩
    refine ih _ _ _ (inv.set hi hin) ⟨?_, ?_, ?_, ?_, ?_⟩ ?_
    · rw [put_size]; exact rg.size
    · rw [put_defers]; exact rg.defers
    · intro t ht
      rw [← rg.frame t ht, hdst]
      by_cases htl : t < a.tmps.size
      · rw [put_getD _ _ _ _ htl, if_neg (fun h => ht i o hin ho (by rw [hdst, h]))]
      · simp [Act.put, show ¬ t < a.tmps.size from htl]
    · exact rg.below.trans (hbelow.mono rg.below.size)
    · intro k ok dk hk hl hok hdk
      by_cases hki : k = i
      · subst hki
        obtain rfl : ok = o := Option.some.inj (hok.symm.trans ho)
        obtain rfl : dk = d := Option.some.inj (hdk.symm.trans hdst)
        rw [hdst]
        rw [put_getD _ _ _ _ (by rw [rg.size]; exact hdN), if_pos rfl]; exact hpost
      · have hne : dk ≠ d := fun h => huniq k ok hk hok (Ne.symm hki) (by rw [hdk, h])
        have hl' : listed.getD k false = true := by
          rw [getD_set_ne false (Ne.symm hki)] at hl; exact hl
        have h1 := stable _ _ _ _ (rg.post k ok dk hk hl' hok hdk) hbelow
        rw [hdst]
        by_cases htl : dk < a.tmps.size
        · rw [put_getD _ _ _ _ htl, if_neg (Ne.symm hne)]; exact h1
        · simpa [Act.put, Array.getElem?_eq_none (Nat.le_of_not_lt htl), show ¬ dk < a.tmps.size from htl] using h1
    · have h1 : (listed.toList.take n)[i]? = some false := by
        rw [List.getElem?_take_of_lt hin]
        simp only [Array.getElem?_toList]
        simp [hlt] at hun ⊢
        exact hun
      have h2 := count_set_true _ _ h1
      rw [Array.toList_setIfInBounds, List.take_set]
      omega

theorem putAll_other (l : List Oper) (a0 : Act) (vs : Nat → Value) (t : Nat) (ht : t < a0.tmps.size) : ∀ k, (∀ i o, i < k → l[i]? = some o → o.dst ≠ some t) → (putAll l a0 vs k).tmps.getD t undef = a0.tmps.getD t undef := by
  intro k
  induction k with
  | zero => intro _; rfl
  | succ k ih =>
    intro h
    rw [putAll, ← ih (fun i o hi ho => h i o (by omega) ho)]
    cases hk : (l[k]?).bind (·.dst) with
    | none => rfl
    | some d =>
      obtain ⟨o, ho, hd⟩ := Option.bind_eq_some_iff.1 hk
      rw [put_getD _ _ _ _ (by rw [putAll_size]; exact ht), if_neg (fun e => h k o (by omega) ho (by rw [hd, e]))]

theorem putAll_at (l : List Oper) (a0 : Act) (vs : Nat → Value) (m : Nat) (d : Tmp) (hd : d < a0.tmps.size) (o : Oper) (ho : l[m]? = some o) (hod : o.dst = some d) :
    ∀ k, m < k → (∀ j o', j < k → l[j]? = some o' → m ≠ j → o'.dst ≠ some d) → (putAll l a0 vs k).tmps.getD d undef = vs m := by
  intro k
  induction k with
  | zero => intro h; omega
  | succ k ih =>
    intro hm h
    rw [putAll]
    by_cases hmk : m = k
    · subst hmk
      simp only [ho, Option.bind_some, hod]
      rw [put_getD _ _ _ _ (by rw [putAll_size]; exact hd), if_pos rfl]
    · rw [← ih (by omega) (fun j o' hj ho' hne => h j o' (by omega) ho' hne)]
      cases hk : (l[k]?).bind (·.dst) with
      | none => rfl
      | some d' =>
        obtain ⟨o', ho', hd'⟩ := Option.bind_eq_some_iff.1 hk
        rw [put_getD _ _ _ _ (by rw [putAll_size]; exact hd), if_neg (fun e => h k o' (by omega) ho' hmk (by rw [hd', e]))]

theorem getD_ext {x y : Array Value} (hs : x.size = y.size) (h : ∀ t, t < y.size → x.getD t undef = y.getD t undef) : x = y := by
  apply Array.ext hs
  intro i h1 h2
  have := h i h2
  simpa [h1, h2] using this

/-- The closed facts on a region, in one Bool. -/
def rgB (ops : Array Oper) (n N : Nat) : Bool :=
  edgesB ops && dstsB ops n N && Region.sinkB .any ops n && Region.chainB .any ops n && decide (n < ops.size) && Region.seqB .any ops (ops.size - n) n ((List.replicate n true ++ List.replicate (ops.size - n) false).toArray)

theorem wp_region_rg {id : Nat} {Q : Exit → Act → World → Prop} {a : Act} {w : World} {l : List Oper} (n : Nat) (Post : Nat → Value → World → Prop)
    (stable : ∀ i v w w', Post i v w → Below w.heap.size w w' → Post i v w') (hm : P.follows .mixedOrders = true) (hB : rgB l.toArray n a.tmps.size = true)
    (hop : ∀ i o a1 w1, i < n → l[i]? = some o → a1.tmps.size = a.tmps.size → Below w.heap.size w.drew w1 →
      (∀ t, (∀ i o, i < n → l[i]? = some o → o.dst ≠ some t) → a1.tmps.getD t undef = a.tmps.getD t undef) →
      (∀ e ∈ o.after, Region.binds .any e = true → ∀ oj d, l[e.on]? = some oj → oj.dst = some d → Post e.on (a1.tmps.getD d undef) w1) →
      o.wp P a1 w1 (fun a' w' => ∃ v, a' = a1.put o.dst v ∧ Post i v w' ∧ Below w1.heap.size w1 w') Q)
    (hend : ∀ vs w', Below w.heap.size w.drew w' → (∀ i, i < n → Post i (vs i) w') → wpList P l.toArray Q (l.drop n) (putAll l a vs n) w') :
    (Code.region id l.toArray true).wp P Q a w := by
  simp only [rgB, Bool.and_eq_true, decide_eq_true_eq] at hB
  obtain ⟨⟨⟨⟨⟨he, hd⟩, hs⟩, hc⟩, hn⟩, hq⟩ := hB
  have hn' : n < l.length := by simpa using hn
  have hdl : (l.drop n).length = l.toArray.size - n := by simp
  have inv0 : HeadInv .any l.toArray n (Array.replicate l.toArray.size false) :=
    ⟨by simp, fun j oj _ hl => (by rw [getD_replicate_false] at hl; cases hl), fun t _ h' => getD_in (by simpa using h') (getD_replicate_false _ _)⟩
  refine wp_region_any hm ?_
  have H := rg_any (P := P) (ops := l.toArray) (n := n) Post stable a w.drew (Q := Q) (g := l.toArray.size - n) he hd hs hc hn
    (fun i o a1 w1 hi ho hsz hb hf hp => hop i o a1 w1 hi (by simpa using ho) hsz hb (fun t ht => hf t (fun i o hi ho => ht i o hi (by simpa using ho))) (fun e hem hbe oj dj hoj hdj => hp e hem hbe oj dj (by simpa using hoj) hdj))
    (fun listed a1 w1 hsz h1 h2 rg => ?_) n (Array.replicate l.toArray.size false) a w.drew inv0 ⟨rfl, rfl, fun _ _ => rfl, Below.refl _ _, fun i o d hi hl => (by rw [getD_replicate_false] at hl; cases hl)⟩ (by simp; omega)
  · rw [show n + (l.toArray.size - n) = l.toArray.size by omega] at H
    exact H
  · have hlisted : listed = (List.replicate n true ++ List.replicate (l.toArray.size - n) false).toArray := by
      apply Array.ext
      · simp [hsz]; omega
      · intro i hi1 hi2
        by_cases hin : i < n
        · have := h1 i hin
          simp only [Array.getD_eq_getD_getElem?, Array.getElem?_eq_getElem hi1, Option.getD_some] at this
          rw [this]
          simp [hin]
        · have := h2 i (by omega) (by omega)
          simp only [Array.getD_eq_getD_getElem?, Array.getElem?_eq_getElem hi1, Option.getD_some] at this
          rw [this]
          simp [List.getElem_append, hin]
    let vs : Nat → Value := fun i => match (l[i]?).bind (·.dst) with | some d => a1.tmps.getD d undef | none => undef
    have hvs : ∀ i o d, l[i]? = some o → o.dst = some d → vs i = a1.tmps.getD d undef := fun i o d ho hd' => by simp only [vs, ho, Option.bind_some, hd']
    have ha1 : a1 = putAll l a vs n := by
      have ht : a1.tmps = (putAll l a vs n).tmps := by
        refine getD_ext (by rw [putAll_size, rg.size]) fun t ht => ?_
        rw [putAll_size] at ht
        by_cases hx : ∃ i o, i < n ∧ l[i]? = some o ∧ o.dst = some t
        · obtain ⟨i, o, hi, ho, hot⟩ := hx
          obtain ⟨o', d, ho', _, hd', _, hu⟩ := dstsB_spec hd hi
          obtain rfl : o = o' := Option.some.inj (ho.symm.trans (by simpa using ho'))
          obtain rfl : t = d := Option.some.inj (hot.symm.trans hd')
          rw [putAll_at l a vs i t ht o ho hot n hi (fun j o' hj ho' hne => hu j o' hj (by simpa using ho') hne), hvs i o t ho hot]
        · have hno : ∀ i o, i < n → l[i]? = some o → o.dst ≠ some t := fun i o hi ho hot => hx ⟨i, o, hi, ho, hot⟩
          rw [putAll_other l a vs t ht n hno]
          exact rg.frame t (fun i o hi ho => hno i o hi (by simpa using ho))
      have hdf : a1.defers = (putAll l a vs n).defers := by rw [putAll_defers, rg.defers]
      cases a1
      cases hp : putAll l a vs n
      rw [hp] at ht hdf
      simp only at ht hdf
      rw [ht, hdf]
    have hfin := hend vs w1 rg.below (fun i hi => by
      obtain ⟨o, d, ho, _, hd', _, _⟩ := dstsB_spec hd hi
      rw [hvs i o d (by simpa using ho) hd']
      exact rg.post i o d hi (getD_both' (h1 i hi) (by omega)) ho hd')
    rw [← ha1] at hfin
    have := wpAny_of_seq (md := .any) (Q' := Q) (l.drop n) n listed a1 w1 (fun j => by simp [List.getElem?_drop]) (by rw [hdl, hlisted]; exact hq) hfin
    rwa [hdl] at this

/-- No operation of the head writes temporary t. -/
def keepsB (l : List Oper) (n t : Nat) : Bool := (List.range n).all fun i => match l[i]? with | some o => o.dst != some t | none => true
/-- o waits for operation j. -/
def waitsB (o : Oper) (j : Nat) : Bool := o.after.any fun e => Region.binds .any e && e.on == j

/-- What operation i of the head owes, in whatever frame and world of the region it comes up. -/
def Owes (P : Program) (Q : Exit → Act → World → Prop) (l : List Oper) (n : Nat) (Post : Nat → Value → World → Prop) (a : Act) (w : World) (i : Nat) : Prop :=
  ∀ o a1 w1, l[i]? = some o → Below w.heap.size w.drew w1 → (∀ t, keepsB l n t = true → a1.tmps.getD t undef = a.tmps.getD t undef) →
    (∀ j d, waitsB o j = true → (l[j]?).bind (·.dst) = some d → Post j (a1.tmps.getD d undef) w1) →
    o.wp P a1 w1 (fun a' w' => ∃ v, a' = a1.put o.dst v ∧ Post i v w' ∧ Below w1.heap.size w1 w') Q

theorem wp_region_rg' {id : Nat} {Q : Exit → Act → World → Prop} {a : Act} {w : World} {l : List Oper} (n : Nat) (Post : Nat → Value → World → Prop)
    (hm : P.follows .mixedOrders = true) (hB : rgB l.toArray n a.tmps.size = true)
    (stable : ∀ i v w w', Post i v w → Below w.heap.size w w' → Post i v w')
    (hop : ∀ i, i < n → Owes P Q l n Post a w i)
    (hend : ∀ vs w', Below w.heap.size w.drew w' → (∀ i, i < n → Post i (vs i) w') → wpList P l.toArray Q (l.drop n) (putAll l a vs n) w') :
    (Code.region id l.toArray true).wp P Q a w := by
  refine wp_region_rg n Post stable hm hB (fun i o a1 w1 hi ho _ hb hf hp => hop i hi o a1 w1 ho hb (fun t ht => hf t fun i o hi ho => ?_) fun j d hj hd => ?_) hend
  · have h1 := List.all_eq_true.1 ht i (List.mem_range.2 hi)
    simpa [ho] using h1
  · obtain ⟨e, he, hb⟩ := Array.any_eq_true'.1 hj
    simp only [Bool.and_eq_true, beq_iff_eq] at hb
    obtain ⟨oj, hoj, hdj⟩ := Option.bind_eq_some_iff.1 hd
    have := hp e he hb.1 oj d (by rw [hb.2]; exact hoj) hdj
    rwa [hb.2] at this

theorem owes_value {Q : Exit → Act → World → Prop} {o : Oper} {a : Act} {w w' : World} {v : Value} {R : Value → World → Prop} (h : (execOp a.eval o).run P w = .ok (.value v) w') (hR : R v w') (hb : Below w.heap.size w w') :
    o.wp P a w (fun a' w' => ∃ v, a' = a.put o.dst v ∧ R v w' ∧ Below w.heap.size w w') Q := by
  unfold Oper.wp
  rw [h]
  exact ⟨v, rfl, hR, hb⟩
theorem owes_call {Q : Exit → Act → World → Prop} {o : Oper} {a : Act} {w : World} {f : FuncId} {args : Array Value} {R : Value → World → Prop} (h : (execOp a.eval o).run P w = .ok (.enter f args) w)
    (hc : Calls P f args w fun e w' => ∃ v, e = .returned v ∧ R v w' ∧ Below w.heap.size w w') :
    o.wp P a w (fun a' w' => ∃ v, a' = a.put o.dst v ∧ R v w' ∧ Below w.heap.size w w') Q := by
  unfold Oper.wp
  rw [h]
  refine hc.mono ?_
  rintro e w' ⟨v, rfl, hR, hb⟩
  exact ⟨v, rfl, hR, hb⟩
end
end Go.Own
end

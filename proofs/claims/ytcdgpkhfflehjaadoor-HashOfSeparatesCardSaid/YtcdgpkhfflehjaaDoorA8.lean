/- The walk over the reference's Sum. -/
import Derived.Test.YtcdgpkhfflehjaaDoorA7
namespace Go.Proofs.YtcdgpkhfflehjaaDoor
open Go.RowKit Go.Sha Go.Own
attribute [local go_sem high] op_add op_xor op_and op_or op_not op_shl op_shr op_shl_lit op_shr_lit byte_mod op_str_eql op_str_neq
attribute [local go_sem] setCell_twice str_size
theorem op_xor_lit (t : TypeId) (a b : Nat) : binOp .xor t (U a) (.int .u32 (no_index (OfNat.ofNat b))) = pure (U (xor32 a b)) := op_xor t a b
attribute [local go_sem high] op_xor_lit
/-- At the head of a block's turn. -/
structure QRel (w : World) (s : St) (v : Value) (p : List UInt8) (wr : World) : Prop where
  b2 : Blk wr w.heap.size zero24 24
  b3 : Blk wr (w.heap.size + 1) (s.list.map U) 30
  own : Sl wr 1 v p.length (p.map byv)
  far : ∀ b, v.ownBlock = some b → w.heap.size + 2 ≤ b
  below : Below w.heap.size w wr
set_option maxHeartbeats 3200000 in
set_option maxRecDepth 100000 in
theorem rsum_any (m : List UInt8) (sa : Option Addr) (cap : Nat) (w : World) (hsl : Sl w 1 (.slice sa m.length cap) m.length (m.map byv)) (hlen : m.length ≤ 549755813888)
    (hK : Cells w 0 0 (Kt.map U)) (h0 : 0 < w.heap.size) :
    Calls Tryd.prog 12 #[.slice sa m.length cap] w fun e w' => e = .returned (.agg ((sha m).map byv).toArray) ∧ Below w.heap.size w w' := by
  have HSL := Lib.hid hsl; clear hsl
  have HK := Lib.hid hK; clear hK
  have hz24 := fun W => zeroValue24 W
  go_enter Tryd.func12, Tryd.ntmps12
  go_wp2_with fail
  refine (padded_any m sa cap _ ((HSL.out.alloc _).alloc _) hlen).mono ?_
  rintro e w1 ⟨v, rfl, hb⟩
  have hlp := pad_len m
  have hlt : (m ++ tailF m.length).length ≤ 549755814016 := by rw [List.length_append, tailF_length]; unfold zeros; omega
  have hq : QRel w iv v (m ++ tailF m.length) w1 := ⟨((Blk.new _ _ _).alloc _).below hb.below (by simp; omega), (Blk.new_at _ _ _ (by simp)).below hb.below (by simp), Sl.of_owns hb.own, fun b hb' => by have := (hb.own.lt b hb').1; simpa using this, (((Below.refl _ _).alloc (Nat.le_refl _) _).alloc (by simp) _).trans (hb.below.mono (by simp; omega))⟩
  have hsv : sLen v = (m ++ tailF m.length).length := own_len hb.own
  clear hb
  obtain ⟨p, Hp⟩ : ∃ p, Hid (p = m ++ tailF m.length) := ⟨_, rfl⟩
  rw [← Hp.out] at hlp hlt hq hsv
  have HLP := Lib.hid hlp; clear hlp
  have HSV := Lib.hid hsv; clear hsv
  have hpos : 0 < p.length := by rw [Hp.out, List.length_append, tailF_length]; omega
  go_wp2
  have hshape := hq.own
  obtain ⟨_, ⟨rfl, hnil⟩ | ⟨b, off, capv, rfl, hcap1, hcap2, _, _⟩⟩ := hshape
  · exact absurd hnil (by omega)
  have hbf := hq.far b rfl
  go_loopw [5] (fun c wr => ∃ k : Nat, 64 * k ≤ p.length ∧ c = .int .i64 ((64 * k : Nat) : Int) ∧ QRel w (absorb iv p k) (.slice (some ⟨b, off, none⟩) p.length capv) p wr) (fun c _ => p.length - (intOf c).toNat)
  case atStart => exact ⟨0, by omega, rfl, hq⟩
  case round =>
    clear hq
    obtain ⟨k, hk, rfl, hq⟩ := hrel
    have hz2 := hq.b3.lt
    obtain ⟨s, Hs⟩ : ∃ s, Hid (s = absorb iv p k) := ⟨_, rfl⟩
    rw [← Hs.out] at hq
    by_cases hkl : 64 * k < p.length
    · have hk64 : 64 * k + 64 ≤ p.length := by have := HLP.out; omega
      have hchl := chunk_length p k (by omega)
      have HCHL := Lib.hid hchl; clear hchl
      have hcC : Cells wr b (off + 64 * k) ((chunk p k).map bv) := by
        obtain ⟨_, ⟨hx, _⟩ | ⟨b', off', cap', hx, _, _, hC, _⟩⟩ := hq.own
        · cases hx
        · cases hx
          have := hC.sub (64 * k) 64
          rwa [← List.map_drop, ← List.map_take] at this
      have hlen64 : 64 * k + 64 - 64 * k = 64 := by omega
      have hcap64 : 64 ≤ capv - 64 * k := by omega
      go_wp2_with fail
      refine (words_any (chunk p k) b (off + 64 * k) (capv - 64 * k) _ HCHL.out hcap64 (by unfold maxLen at hcap2; omega) hcC).mono ?_
      rintro e w2 ⟨rfl, hb2⟩
      have hz := hb2.size
      have hq2 : QRel w s (.slice (some ⟨b, off, none⟩) p.length capv) p w2 := ⟨hq.b2.below hb2 hq.b2.lt, hq.b3.below hb2 hq.b3.lt, hq.own.below hb2, hq.far, hq.below.trans (hb2.mono (by omega))⟩
      clear hq hb2 hcC
      go_wp2_with (refine wpList_store_blk (ty := 54) (n := 64) (vs := (sched (chunk p k) 64).map U) (Blk.new _ _ _) rfl rfl rfl rfl rfl (by kernel_rfl) (by simp [sched_length]) (by simp) ?h1 ?_)
      case h1 => intro v hv; obtain ⟨_, _, rfl⟩ := List.mem_map.1 hv; rfl
      intro w3 hB6 ho3
      have hz3 := ho3.size
      simp at hz3
      have hq3 : QRel w s (.slice (some ⟨b, off, none⟩) p.length capv) p w3 := by
        have hbl : Below w2.heap.size w2 w3 := ho3.below ((Below.refl _ _).alloc (Nat.le_refl _) _) (Nat.le_refl _)
        exact ⟨hq2.b2.below hbl hq2.b2.lt, hq2.b3.below hbl hq2.b3.lt, hq2.own.below hbl, hq2.far, hq2.below.trans (hbl.mono (by omega))⟩
      have hB6' : Blk w3 w2.heap.size ((sched (chunk p k) 64).map U) 54 := by simpa using hB6
      clear hq2 hB6 ho3 hz3
      have s0 := hq3.b3.cell (i := 0) rfl
      have s1 := hq3.b3.cell (i := 1) rfl
      have s2 := hq3.b3.cell (i := 2) rfl
      have s3 := hq3.b3.cell (i := 3) rfl
      have s4 := hq3.b3.cell (i := 4) rfl
      have s5 := hq3.b3.cell (i := 5) rfl
      have s6 := hq3.b3.cell (i := 6) rfl
      have s7 := hq3.b3.cell (i := 7) rfl
      go_wp2
      go_quiet (fail)
      go_wp2
      clear s0 s1 s2 s3 s4 s5 s6 s7
      go_loopw [15, 7, 8, 9, 10, 11, 12, 13, 14] (fun c va vb vc vd ve vf vg vh wx => ∃ (t : Nat) (x : St), t ≤ 64 ∧ c = .int .i64 t ∧ va = U x.a ∧ vb = U x.b ∧ vc = U x.c ∧ vd = U x.d ∧ ve = U x.e ∧ vf = U x.f ∧ vg = U x.g ∧ vh = U x.h ∧ Hid (x = rnds (sched (chunk p k) 64) s t) ∧ Blk wx w2.heap.size ((sched (chunk p k) 64).map U) 54 ∧ QRel w s (.slice (some ⟨b, off, none⟩) p.length capv) p wx) (fun c _ _ _ _ _ _ _ _ _ => 64 - (intOf c).toNat)
      case atStart => exact ⟨0, s, by omega, rfl, rfl, rfl, rfl, rfl, rfl, rfl, rfl, rfl, rfl, hB6'.drewN _, hq3.b2.drewN _, hq3.b3.drewN _, hq3.own.drewN _, hq3.far, below_drewN hq3.below _⟩
      case round =>
        clear hq3 hB6'
        obtain ⟨t, x, ht, rfl, rfl, rfl, rfl, rfl, rfl, rfl, rfl, rfl, hx, hB6, hq⟩ := hrel
        by_cases hlt64 : t < 64
        · have cK : wr.cell? ⟨0, t, none⟩ = some (U (Kt.getD t 0)) := by
            have := HK.out.below hq.below h0
            have h2 := this.at (i := t) (v := U (Kt.getD t 0)) (by simp [Kt_length, hlt64])
            simpa using h2
          have cW : wr.cell? ⟨w2.heap.size, t, none⟩ = some (U ((sched (chunk p k) 64).getD t 0)) := hB6.cell (by simp [sched_length, hlt64])
          go_wp2
          go_quiet ((go_at_call 29; exact Calls.quiet_of (rotr_any _ _ _ (by omega) (by omega))))
          go_wp2_with (go_at_call 29; refine (rotr_any _ _ _ (by omega) (by omega)).mono ?_; rintro e w' ⟨rfl, n', rfl⟩)
          go_roundw
          case rel =>
            refine ⟨t + 1, rnd x (Kt.getD t 0) ((sched (chunk p k) 64).getD t 0), by omega, by go_num, ?_, rfl, rfl, rfl, ?_, rfl, rfl, rfl, ?_, ?_, ?_, ?_, ?_, hq.far, ?_⟩
            · simp [rnd, xF, yF, mix3, ← ch_comm, majF]
            · simp [rnd, xF, mix3, ← ch_comm]
            · show _ = rnd _ _ _; rw [← hx.out]
            · exact hB6.drewN _
            · exact hq.b2.drewN _
            · exact hq.b3.drewN _
            · exact hq.own.drewN _
            · exact below_drewN hq.below _
          case measure => simp [intOf]; omega
        · obtain rfl : t = 64 := by omega
          have s0 := hq.b3.cell (i := 0) rfl
          have s1 := hq.b3.cell (i := 1) rfl
          have s2 := hq.b3.cell (i := 2) rfl
          have s3 := hq.b3.cell (i := 3) rfl
          have s4 := hq.b3.cell (i := 4) rfl
          have s5 := hq.b3.cell (i := 5) rfl
          have s6 := hq.b3.cell (i := 6) rfl
          have s7 := hq.b3.cell (i := 7) rfl
          go_wp2_with (refine wpList_store_blk (ty := 30) (n := 8) (vs := [_, _, _, _, _, _, _, _]) hq.b3 rfl rfl rfl rfl rfl (by kernel_rfl) rfl (by simp [St.list]) (by simp [Value.oneCell']) ?_)
          intro w4 hb4 ho4
          clear s0 s1 s2 s3 s4 s5 s6 s7
          go_wp2
          go_roundw
          case rel =>
            refine ⟨k + 1, by omega, by simp; omega, ?_⟩
            have hs' : absorb iv p (k + 1) = s.plus x := by rw [absorb, ← Hs.out, comp, ← hx.out]
            rw [hs']
            refine ⟨ho4.blk (by omega) hq.b2, hb4, ?_, hq.far, ho4.below hq.below (by omega)⟩
            exact hq.own.oth ho4 (fun b' hb' => by have := hq.far b' hb'; omega)
          case measure => simp [intOf]; omega
    · have hke : p.length / 64 = k := by have := HLP.out; omega
      have hsha : outF s = sha m := by rw [sha, ← Hp.out, hke, Hs.out]
      have HSHA := Lib.hid hsha; clear hsha hke
      go_wp2
      have hz3 := hq.b3.lt
      obtain ⟨wo, rfl⟩ : ∃ wo : World, wo = wr := ⟨_, rfl⟩
      go_loopw [19] (fun c wx => ∃ i : Nat, i ≤ 32 ∧ c = .int .i64 i ∧ Blk wx wo.heap.size (outPart s i) 24 ∧ Blk wx w.heap.size zero24 24 ∧ Blk wx (w.heap.size + 1) (s.list.map U) 30 ∧ Below w.heap.size w wx) (fun c _ => 32 - (intOf c).toNat)
      case atStart => exact ⟨0, by omega, rfl, by rw [outPart_zero]; exact Blk.new _ _ _, hq.b2.alloc _, hq.b3.alloc _, hq.below.alloc (by omega) _⟩
      case round =>
        clear hq
        obtain ⟨i, hi, rfl, hb6, hb2, hb3, hbw⟩ := hrel
        have hf6 := hb6.frozen
        by_cases hi32 : i < 32
        · obtain ⟨q, Hq⟩ : ∃ q, Hid (q = 24 - 8 * (i % 4)) := ⟨_, rfl⟩
          have hq : 24 - 8 * ((i : Int) % 4) = (q : Int) := by have := Hq.out; omega
          obtain ⟨x, Hx⟩ : ∃ x, Hid (x = s.list.getD (i / 4) 0) := ⟨_, rfl⟩
          have cx : wr.cell? ⟨w.heap.size + 1, i / 4, none⟩ = some (U x) := hb3.cell (by
            have h9 : i / 4 < s.list.length := by simp [St.list]; omega
            rw [Hx.out]; simp [h9])
          obtain ⟨y0, c6⟩ : ∃ y, wr.cell? ⟨wo.heap.size, i, none⟩ = some y := ⟨_, hb6.cellD undef (by rw [outPart_length _ _ hi]; exact hi32)⟩
          go_wp2
          go_roundw
          case rel =>
            refine ⟨i + 1, by omega, by go_num, ?_, hb2.set_ne _ (by simp; omega), hb3.set_ne _ (by simp; omega), hbw.setCell (by simp; omega) _⟩
            have h := hb6.set i (byv (UInt8.ofNat (shr32 x q)))
            rw [Hx.out, Hq.out, outPart_next _ _ hi32] at h
            have e2 : byv (UInt8.ofNat (shr32 x q)) = .int .u8 ((shr32 x q : Nat) % 256) := by unfold byv; rw [byte_of]
            rw [← e2, Hx.out, Hq.out]; exact h
          case measure => simp [intOf]; omega
        · obtain rfl : i = 32 := by omega
          have hb6' : Blk wr wo.heap.size ((sha m).map byv) 24 := by rw [← HSHA.out, ← outPart_end]; exact hb6
          clear hb6
          have hl6 : ((sha m).map byv).length = 32 := by simp [sha_length]
          have HL6 := Lib.hid hl6; clear hl6
          go_wp2_with (first | (refine wpList_load_cells (ty := 24) (n := 32) hb6'.cells0 rfl rfl rfl Tryd.underlying24 rfl (by kernel_rfl) HL6.out ?_) | (refine wpList_store_blk (ty := 24) (n := 32) (vs := (sha m).map byv) hb2 rfl rfl rfl rfl rfl (by kernel_rfl) HL6.out (by simp [zero24]) (bytes_oneCell _) ?_))
          intro w9 hb9 ho9
          have hd9 : List.drop 32 zero24 = [] := by rfl
          have hb9' : Blk w9 w.heap.size ((sha m).map byv) 24 := by simpa [hd9] using hb9
          clear hb9 hd9
          go_wp2
          refine bodyPost_ret (results_blk rfl hb9' rfl Tryd.underlying24 rfl ?_) rfl ⟨rfl, ho9.below hbw (Nat.le_refl _)⟩
          rw [HL6.out]; kernel_rfl
end Go.Proofs.YtcdgpkhfflehjaaDoor

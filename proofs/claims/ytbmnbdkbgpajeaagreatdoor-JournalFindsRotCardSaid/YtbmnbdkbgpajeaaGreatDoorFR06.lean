/- The walk over the reference's Sum. -/
import Derived.Test.YtbmnbdkbgpajeaaGreatDoorFR05
import Derived.Test.YtbmnbdkbgpajeaaGreatDoorFR04
import Derived.Test.YtbmnbdkbgpajeaaGreatDoorRows
import Derived.Test.YtbmnbdkbgpajeaaGreatDoorFR00
import Derived.WalkMore
/- The walk over the reference's Sum. -/
section
namespace Go.Proofs.YtbmnbdkbgpajeaaGreatDoor
open Go.RowKit Go.Sha Go.Own
attribute [local go_sem high] op_add op_xor op_and op_or op_not op_shl op_shr op_shl_lit op_shr_lit byte_mod op_str_eql op_str_neq
attribute [local go_sem] setCell_twice str_size
theorem op_xor_lit (t : TypeId) (a b : Nat) : binOp .xor t (U a) (.int .u32 (no_index (OfNat.ofNat b))) = pure (U (xor32 a b)) := op_xor t a b
attribute [local go_sem high] op_xor_lit
/-- At the head of a block's turn. -/
structure QRel (w : World) (s : St) (v : Value) (p : List UInt8) (wr : World) : Prop where
  b2 : Blk wr w.heap.size zero24 125
  b3 : Blk wr (w.heap.size + 1) (s.list.map U) 146
  own : Sl wr 1 v p.length (p.map byv)
  far : ∀ b, v.ownBlock = some b → w.heap.size + 2 ≤ b
  below : Below w.heap.size w wr
set_option maxHeartbeats 3200000 in
set_option maxRecDepth 100000 in
theorem rsum_any (m : List UInt8) (sa : Option Addr) (cap : Nat) (w : World) (hsl : Sl w 1 (.slice sa m.length cap) m.length (m.map byv)) (hlen : m.length ≤ 549755813888)
    (hK : Cells w 0 0 (Kt.map U)) (h0 : 0 < w.heap.size) :
    Calls Tryz.prog 96 #[.slice sa m.length cap] w fun e w' => e = .returned (.agg ((sha m).map byv).toArray) ∧ Below w.heap.size w w' := by
  have HSL := Lib.hid hsl; clear hsl
  have HK := Lib.hid hK; clear hK
  have hz24 := fun W => zeroValue24 W
  go_enter Tryz.func96, Tryz.ntmps96
  go_wp2_with fail
  refine (padded_any m sa cap _ ((HSL.out.alloc _).alloc _) hlen).mono ?_
  rintro e w1 ⟨v, rfl, hb⟩
  have hlp := pad_len m
  have hlt : (m ++ tailF m.length).length ≤ 549755814016 := by rw [List.length_append, tailF_length]; unfold zeros; omega
  have hq : QRel w iv v (m ++ tailF m.length) w1 := ⟨((Blk.new _ _ _).alloc _).below hb.below (by simp; omega), (Blk.new_at _ _ _ (by simp)).below hb.below (by simp), Sl.of_owns hb.own, fun b hb' => by have := (hb.own.lt b hb').1; simpa using this, (((Below.refl _ _).alloc (Nat.le_refl _) _).alloc (by simp) _).trans (hb.below.mono (by simp; omega))⟩
  have hsv : sLen v = (m ++ tailF m.length).length := own_len hb.own
  clear hb
  obtain ⟨p, Hp⟩ : ∃ p, Hid (p = m ++ tailF m.length) := ⟨_, rfl⟩
  rw [← Hp.out] at hlp hlt hq hsv
  have HLP := Lib.hid hlp; clear hlp
  have HSV := Lib.hid hsv; clear hsv
  have hpos : 0 < p.length := by rw [Hp.out, List.length_append, tailF_length]; omega
  go_wp2
  have hshape := hq.own
  obtain ⟨_, ⟨rfl, hnil⟩ | ⟨b, off, capv, rfl, hcap1, hcap2, _, _⟩⟩ := hshape
  · exact absurd hnil (by omega)
  have hbf := hq.far b rfl
  go_loopw [5] (fun c wr => ∃ k : Nat, 64 * k ≤ p.length ∧ c = .int .i64 ((64 * k : Nat) : Int) ∧ QRel w (absorb iv p k) (.slice (some ⟨b, off, none⟩) p.length capv) p wr) (fun c _ => p.length - (Go.RowKit.intOf c).toNat)
  case atStart => exact ⟨0, by omega, rfl, hq⟩
  case round =>
    clear hq
    obtain ⟨k, hk, rfl, hq⟩ := hrel
    have hz2 := hq.b3.lt
    obtain ⟨s, Hs⟩ : ∃ s, Hid (s = absorb iv p k) := ⟨_, rfl⟩
    rw [← Hs.out] at hq
    by_cases hkl : 64 * k < p.length
    · have hk64 : 64 * k + 64 ≤ p.length := by have := HLP.out; omega
      have hchl := chunk_length p k (by omega)
      have HCHL := Lib.hid hchl; clear hchl
      have hcC : Cells wr b (off + 64 * k) ((chunk p k).map bv) := by
        obtain ⟨_, ⟨hx, _⟩ | ⟨b', off', cap', hx, _, _, hC, _⟩⟩ := hq.own
        · cases hx
        · cases hx
          have := hC.sub (64 * k) 64
          rwa [← List.map_drop, ← List.map_take] at this
      have hlen64 : 64 * k + 64 - 64 * k = 64 := by omega
      have hcap64 : 64 ≤ capv - 64 * k := by omega
      go_wp2_with fail
      refine (words_any (chunk p k) b (off + 64 * k) (capv - 64 * k) _ HCHL.out hcap64 (by unfold maxLen at hcap2; omega) hcC).mono ?_
      rintro e w2 ⟨rfl, hb2⟩
      have hz := hb2.size
      have hq2 : QRel w s (.slice (some ⟨b, off, none⟩) p.length capv) p w2 := ⟨hq.b2.below hb2 hq.b2.lt, hq.b3.below hb2 hq.b3.lt, hq.own.below hb2, hq.far, hq.below.trans (hb2.mono (by omega))⟩
      clear hq hb2 hcC
      go_wp2_with (refine wpList_store_blk (ty := 161) (n := 64) (vs := (sched (chunk p k) 64).map U) (Blk.new _ _ _) rfl rfl rfl rfl rfl (by kernel_rfl) (by simp [sched_length]) (by simp) ?h1 ?_)
      case h1 => intro v hv; obtain ⟨_, _, rfl⟩ := List.mem_map.1 hv; rfl
      intro w3 hB6 ho3
      have hz3 := ho3.size
      simp at hz3
      have hq3 : QRel w s (.slice (some ⟨b, off, none⟩) p.length capv) p w3 := by
        have hbl : Below w2.heap.size w2 w3 := ho3.below ((Below.refl _ _).alloc (Nat.le_refl _) _) (Nat.le_refl _)
        exact ⟨hq2.b2.below hbl hq2.b2.lt, hq2.b3.below hbl hq2.b3.lt, hq2.own.below hbl, hq2.far, hq2.below.trans (hbl.mono (by omega))⟩
      have hB6' : Blk w3 w2.heap.size ((sched (chunk p k) 64).map U) 161 := by simpa using hB6
      clear hq2 hB6 ho3 hz3
      have s0 := hq3.b3.cell (i := 0) rfl
      have s1 := hq3.b3.cell (i := 1) rfl
      have s2 := hq3.b3.cell (i := 2) rfl
      have s3 := hq3.b3.cell (i := 3) rfl
      have s4 := hq3.b3.cell (i := 4) rfl
      have s5 := hq3.b3.cell (i := 5) rfl
      have s6 := hq3.b3.cell (i := 6) rfl
      have s7 := hq3.b3.cell (i := 7) rfl
      go_wp2
      go_quiet (fail)
      go_wp2
      clear s0 s1 s2 s3 s4 s5 s6 s7
      go_loopw [15, 7, 8, 9, 10, 11, 12, 13, 14] (fun c va vb vc vd ve vf vg vh wx => ∃ (t : Nat) (x : St), t ≤ 64 ∧ c = .int .i64 t ∧ va = U x.a ∧ vb = U x.b ∧ vc = U x.c ∧ vd = U x.d ∧ ve = U x.e ∧ vf = U x.f ∧ vg = U x.g ∧ vh = U x.h ∧ Hid (x = rnds (sched (chunk p k) 64) s t) ∧ Blk wx w2.heap.size ((sched (chunk p k) 64).map U) 161 ∧ QRel w s (.slice (some ⟨b, off, none⟩) p.length capv) p wx) (fun c _ _ _ _ _ _ _ _ _ => 64 - (Go.RowKit.intOf c).toNat)
      case atStart => exact ⟨0, s, by omega, rfl, rfl, rfl, rfl, rfl, rfl, rfl, rfl, rfl, rfl, hB6'.drewN _, hq3.b2.drewN _, hq3.b3.drewN _, hq3.own.drewN _, hq3.far, below_drewN hq3.below _⟩
      case round =>
        clear hq3 hB6'
        obtain ⟨t, x, ht, rfl, rfl, rfl, rfl, rfl, rfl, rfl, rfl, rfl, hx, hB6, hq⟩ := hrel
        by_cases hlt64 : t < 64
        · have cK : wr.cell? ⟨0, t, none⟩ = some (U (Kt.getD t 0)) := by
            have := HK.out.below hq.below h0
            have h2 := this.at (i := t) (v := U (Kt.getD t 0)) (by simp [Kt_length, hlt64])
            simpa using h2
          have cW : wr.cell? ⟨w2.heap.size, t, none⟩ = some (U ((sched (chunk p k) 64).getD t 0)) := hB6.cell (by simp [sched_length, hlt64])
          go_wp2
          go_quiet ((go_at_call 106; exact Calls.quiet_of (rotr_any _ _ _ (by omega) (by omega))))
          go_wp2_with (go_at_call 106; refine (rotr_any _ _ _ (by omega) (by omega)).mono ?_; rintro e w' ⟨rfl, n', rfl⟩)
          go_roundw
          case rel =>
            refine ⟨t + 1, rnd x (Kt.getD t 0) ((sched (chunk p k) 64).getD t 0), by omega, by go_num, ?_, rfl, rfl, rfl, ?_, rfl, rfl, rfl, ?_, ?_, ?_, ?_, ?_, hq.far, ?_⟩
            · simp [rnd, xF, yF, mix3, ← ch_comm, majF]
            · simp [rnd, xF, mix3, ← ch_comm]
            · show _ = rnd _ _ _; rw [← hx.out]
            · exact hB6.drewN _
            · exact hq.b2.drewN _
            · exact hq.b3.drewN _
            · exact hq.own.drewN _
            · exact below_drewN hq.below _
          case measure => simp [Go.RowKit.intOf]; omega
        · obtain rfl : t = 64 := by omega
          have s0 := hq.b3.cell (i := 0) rfl
          have s1 := hq.b3.cell (i := 1) rfl
          have s2 := hq.b3.cell (i := 2) rfl
          have s3 := hq.b3.cell (i := 3) rfl
          have s4 := hq.b3.cell (i := 4) rfl
          have s5 := hq.b3.cell (i := 5) rfl
          have s6 := hq.b3.cell (i := 6) rfl
          have s7 := hq.b3.cell (i := 7) rfl
          go_wp2_with (refine wpList_store_blk (ty := 146) (n := 8) (vs := [_, _, _, _, _, _, _, _]) hq.b3 rfl rfl rfl rfl rfl (by kernel_rfl) rfl (by simp [St.list]) (by simp [Value.oneCell']) ?_)
          intro w4 hb4 ho4
          clear s0 s1 s2 s3 s4 s5 s6 s7
          go_wp2
          go_roundw
          case rel =>
            refine ⟨k + 1, by omega, by simp; omega, ?_⟩
            have hs' : absorb iv p (k + 1) = s.plus x := by rw [absorb, ← Hs.out, comp, ← hx.out]
            rw [hs']
            refine ⟨ho4.blk (by omega) hq.b2, hb4, ?_, hq.far, ho4.below hq.below (by omega)⟩
            exact hq.own.oth ho4 (fun b' hb' => by have := hq.far b' hb'; omega)
          case measure => simp [Go.RowKit.intOf]; omega
    · have hke : p.length / 64 = k := by have := HLP.out; omega
      have hsha : outF s = sha m := by rw [sha, ← Hp.out, hke, Hs.out]
      have HSHA := Lib.hid hsha; clear hsha hke
      go_wp2
      have hz3 := hq.b3.lt
      obtain ⟨wo, rfl⟩ : ∃ wo : World, wo = wr := ⟨_, rfl⟩
      go_loopw [19] (fun c wx => ∃ i : Nat, i ≤ 32 ∧ c = .int .i64 i ∧ Blk wx wo.heap.size (outPart s i) 125 ∧ Blk wx w.heap.size zero24 125 ∧ Blk wx (w.heap.size + 1) (s.list.map U) 146 ∧ Below w.heap.size w wx) (fun c _ => 32 - (Go.RowKit.intOf c).toNat)
      case atStart => exact ⟨0, by omega, rfl, by rw [outPart_zero]; exact Blk.new _ _ _, hq.b2.alloc _, hq.b3.alloc _, hq.below.alloc (by omega) _⟩
      case round =>
        clear hq
        obtain ⟨i, hi, rfl, hb6, hb2, hb3, hbw⟩ := hrel
        have hf6 := hb6.frozen
        by_cases hi32 : i < 32
        · obtain ⟨q, Hq⟩ : ∃ q, Hid (q = 24 - 8 * (i % 4)) := ⟨_, rfl⟩
          have hq : 24 - 8 * ((i : Int) % 4) = (q : Int) := by have := Hq.out; omega
          obtain ⟨x, Hx⟩ : ∃ x, Hid (x = s.list.getD (i / 4) 0) := ⟨_, rfl⟩
          have cx : wr.cell? ⟨w.heap.size + 1, i / 4, none⟩ = some (U x) := hb3.cell (by
            have h9 : i / 4 < s.list.length := by simp [St.list]; omega
            rw [Hx.out]; simp [h9])
          obtain ⟨y0, c6⟩ : ∃ y, wr.cell? ⟨wo.heap.size, i, none⟩ = some y := ⟨_, hb6.cellD undef (by rw [outPart_length _ _ hi]; exact hi32)⟩
          go_wp2
          go_roundw
          case rel =>
            refine ⟨i + 1, by omega, by go_num, ?_, hb2.set_ne _ (by simp; omega), hb3.set_ne _ (by simp; omega), hbw.setCell (by simp; omega) _⟩
            have h := hb6.set i (byv (UInt8.ofNat (shr32 x q)))
            rw [Hx.out, Hq.out, outPart_next _ _ hi32] at h
            have e2 : byv (UInt8.ofNat (shr32 x q)) = .int .u8 ((shr32 x q : Nat) % 256) := by unfold byv; rw [byte_of]
            rw [← e2, Hx.out, Hq.out]; exact h
          case measure => simp [Go.RowKit.intOf]; omega
        · obtain rfl : i = 32 := by omega
          have hb6' : Blk wr wo.heap.size ((sha m).map byv) 125 := by rw [← HSHA.out, ← outPart_end]; exact hb6
          clear hb6
          have hl6 : ((sha m).map byv).length = 32 := by simp [sha_length]
          have HL6 := Lib.hid hl6; clear hl6
          go_wp2_with (first | (refine wpList_load_cells (ty := 125) (n := 32) hb6'.cells0 rfl rfl rfl Tryz.underlying125 rfl (by kernel_rfl) HL6.out ?_) | (refine wpList_store_blk (ty := 125) (n := 32) (vs := (sha m).map byv) hb2 rfl rfl rfl rfl rfl (by kernel_rfl) HL6.out (by simp [zero24]) (bytes_oneCell _) ?_))
          intro w9 hb9 ho9
          have hd9 : List.drop 32 zero24 = [] := by rfl
          have hb9' : Blk w9 w.heap.size ((sha m).map byv) 125 := by simpa [hd9] using hb9
          clear hb9 hd9
          go_wp2
          refine bodyPost_ret (results_blk rfl hb9' rfl Tryz.underlying125 rfl ?_) rfl ⟨rfl, ho9.below hbw (Nat.le_refl _)⟩
          rw [HL6.out]; kernel_rfl
end Go.Proofs.YtbmnbdkbgpajeaaGreatDoor
end
/- The walk over hash.Sum. -/
section
namespace Go.Proofs.YtbmnbdkbgpajeaaGreatDoor
open Go.RowKit Go.Sha Go.Own
attribute [local go_sem high] op_add op_xor op_and op_or op_not op_shl op_shr op_shl_lit op_shr_lit byte_mod op_str_eql op_str_neq
attribute [local go_sem] setCell_twice str_size
set_option maxHeartbeats 1600000 in
set_option maxRecDepth 100000 in
theorem hsum_any (m : List UInt8) (sa : Option Addr) (cap : Nat) (w : World) (hsl : Sl w 1 (.slice sa m.length cap) m.length (m.map byv)) (hlen : m.length ≤ 549755813888)
    (hK : Cells w 2 0 (Kt.map U)) (h1 : 2 < w.heap.size) :
    Calls Tryz.prog 75 #[.slice sa m.length cap] w fun e w' => e = .returned (.agg ((sha m).map byv).toArray) ∧ Below w.heap.size w w' := by
  have HSL := Lib.hid hsl; clear hsl
  have HK := Lib.hid hK; clear hK
  have hz24 := fun W => zeroValue24 W
  go_enter Tryz.func75, Tryz.ntmps75
  go_wp2
  refine wp_region_rg' 5 (fun i v _ => match i with
    | 0 => ∃ cs, v = .agg cs.toArray ∧ StreamOf [] cs
    | 1 => v = .slice sa m.length cap
    | 2 => v = str m
    | 3 => ∃ cs, v = .agg cs.toArray ∧ StreamOf m cs
    | 4 => v = .agg ((sha m).map byv).toArray
    | _ => True) (by kernel_rfl) (by kernel_rfl) (fun i v w w' h _ => h) ?hop ?hend
  case hop =>
    intro i hi
    match i, hi with
    | 0, _ =>
      intro o a1 w1 ho hb hf hp
      obtain rfl := Option.some.inj ho.symm
      refine owes_call (f := 92) (args := #[]) ?_ ?_
      · go_simp
      · refine (begin_any w1).mono ?_
        rintro e w' ⟨cs, rfl, h1, h2⟩
        exact ⟨_, rfl, ⟨cs, rfl, h1⟩, h2⟩
    | 1, _ =>
      intro o a1 w1 ho hb hf hp
      obtain rfl := Option.some.inj ho.symm
      have f0 := hf 0 rfl
      refine owes_value (v := a1.tmps.getD 0 undef) (w' := w1) ?_ ?_ (Below.refl _ _)
      · go_simp
      · rw [f0]; rfl
    | 2, _ =>
      intro o a1 w1 ho hb hf hp
      obtain rfl := Option.some.inj ho.symm
      have p1 : a1.tmps.getD 4 undef = .slice sa m.length cap := hp 1 4 (by kernel_rfl) rfl
      have hc := conv22 w1 (.slice sa m.length cap) m ((((HSL.out.alloc _)).drew).below (hb.mono (by simp)))
      refine owes_value (v := str m) (w' := w1) ?_ rfl (Below.refl _ _)
      simp only [Array.getD_eq_getD_getElem?] at p1
      go_simp
    | 3, _ =>
      intro o a1 w1 ho hb hf hp
      obtain rfl := Option.some.inj ho.symm
      obtain ⟨cs, p0, hs0⟩ := hp 0 3 (by kernel_rfl) rfl
      have p2 : a1.tmps.getD 5 undef = str m := hp 2 5 (by kernel_rfl) rfl
      refine owes_call (f := 93) (args := #[.agg cs.toArray, str m]) ?_ ?_
      · simp only [Array.getD_eq_getD_getElem?] at p0 p2
        go_simp
      · refine (add_any [] m cs hs0 (by simp; omega) w1 (((HK.out.alloc _).drew).below hb (by simp; omega)) (by have := hb.size; simp at this; omega)).mono ?_
        rintro e w' ⟨cs', rfl, h1, h2⟩
        exact ⟨_, rfl, ⟨cs', rfl, h1⟩, h2⟩
    | 4, _ =>
      intro o a1 w1 ho hb hf hp
      obtain rfl := Option.some.inj ho.symm
      obtain ⟨cs, p3, hs3⟩ := hp 3 6 (by kernel_rfl) rfl
      refine owes_call (f := 94) (args := #[.agg cs.toArray]) ?_ ?_
      · simp only [Array.getD_eq_getD_getElem?] at p3
        go_simp
      · refine (ssum_any m cs hs3 hlen w1 (((HK.out.alloc _).drew).below hb (by simp; omega)) (by have := hb.size; simp at this; omega)).mono ?_
        rintro e w' ⟨rfl, h2⟩
        exact ⟨_, rfl, rfl, h2⟩
  case hend =>
    intro vs w2 hb hp
    have p4 : vs 4 = .agg ((sha m).map byv).toArray := hp 4 (by omega)
    simp only [putAll, List.drop_succ_cons, List.drop_zero, p4, List.getElem?_cons_zero, List.getElem?_cons_succ, Option.bind_some, Act.put, List.setIfInBounds_toArray, List.set_cons_zero, List.set_cons_succ]
    clear hp p4
    have hB : Blk w2 w.heap.size zero24 125 := ((Blk.new w _ 125).drew).below hb (by simp)
    have hl6 : ((sha m).map byv).length = 32 := by simp [sha_length]
    go_wp2_with (refine wpList_store_blk (ty := 125) (n := 32) (vs := (sha m).map byv) hB rfl rfl rfl rfl rfl (by kernel_rfl) hl6 (by simp [zero24]) (bytes_oneCell _) ?_)
    intro w9 hb9 ho9
    have hd9 : List.drop 32 zero24 = [] := by rfl
    have hb9' : Blk w9 w.heap.size ((sha m).map byv) 125 := by simpa [hd9] using hb9
    clear hb9 hd9
    go_wp2
    refine bodyPost_ret (results_blk rfl hb9' rfl Tryz.underlying125 rfl ?_) rfl ⟨rfl, ho9.below (((Below.refl _ _).alloc (Nat.le_refl _) _).drew.trans (hb.mono (by simp))) (Nat.le_refl _)⟩
    rw [hl6]; kernel_rfl
end Go.Proofs.YtbmnbdkbgpajeaaGreatDoor
end
/- A disk as plain data; what each operation does to it. No program. -/
section
namespace Go.Disk
open Go.RowKit Go.Own

/-- A sector: its text, what is pending, whether it is worn. -/
structure Sec where
  t : List UInt8
  p : Option (List UInt8)
  w : Bool
deriving DecidableEq, Inhabited
structure DS where
  s : List Sec
  off : Bool
  left : Int
deriving DecidableEq
def zeros : List UInt8 := List.replicate 64 0
def fresh (n : Nat) : DS := { s := List.replicate n { t := zeros, p := none, w := false }, off := false, left := -1 }
def inR (d : DS) (i : Int) : Bool := decide (0 ≤ i) && decide (i < d.s.length)
def sec (d : DS) (i : Int) : Sec := d.s.getD i.toNat default
def acheck (d : DS) (i : Int) : Int := if d.off then 25 else if inR d i then 0 else 1
def astep (d : DS) : Int × DS := if d.left = 0 then (25, { d with off := true }) else if 0 < d.left then (0, { d with left := d.left - 1 }) else (0, d)
def upd (d : DS) (i : Int) (f : Sec → Sec) : DS := { d with s := d.s.modify i.toNat f }
def aread (d : DS) (i : Int) : List UInt8 × Int := if acheck d i ≠ 0 then ([], acheck d i) else ((sec d i).p.getD (sec d i).t, 0)
def awrite (d : DS) (i : Int) (b : List UInt8) : Int × DS :=
  if acheck d i ≠ 0 then (acheck d i, d) else if b.length ≠ 64 then (1, d) else if (astep d).1 ≠ 0 then astep d else (0, upd (astep d).2 i fun x => { x with p := some b })
def clamp (p : Int) : Nat := (max 0 (min p 64)).toNat
def settle1 (p : Int) (x : Sec) : Sec := { x with t := if x.w then x.t else (x.p.getD x.t).take (clamp p) ++ x.t.drop (clamp p), p := none }
def apend (s : List Sec) : List Nat := (List.range s.length).filter fun i => (s.getD i default).p.isSome
def aworn (s : List Sec) : List Nat := (List.range s.length).filter fun i => (s.getD i default).w
def settleTo : List Int → List Nat → List Sec → List Sec
  | _, [], s => s
  | ps, i :: L, s => settleTo ps.tail L (s.modify i (settle1 (ps.headD 64)))
def aflush (d : DS) : Int × DS := if d.off then (25, d) else if (astep d).1 ≠ 0 then astep d else (0, { (astep d).2 with s := settleTo [] (apend d.s) d.s })
def atrip (d : DS) (n : Int) : DS := { d with left := max (-1) n }
def amount (d : DS) (ps : List Int) : DS := { s := settleTo ps (apend d.s) d.s, off := false, left := -1 }
def rotT (bit : Nat) (t : List UInt8) : List UInt8 := t.modify (bit / 8) fun b => b ^^^ (1 <<< (UInt8.ofNat (bit % 8)))
def arot (d : DS) (i bit : Int) : Int × DS := if inR d i && decide (0 ≤ bit) && decide (bit ≤ 511) then (0, upd d i fun x => { x with t := rotT bit.toNat x.t }) else (1, d)
def awear (d : DS) (i : Int) : Int × DS := if inR d i then (0, upd d i fun x => { x with w := true }) else (1, d)
def aimage (s : List Sec) : List (List UInt8) := s.map (·.t)

/-- All texts have 64 bytes; there is a sector. -/
structure Ok (d : DS) : Prop where
  t : ∀ x ∈ d.s, x.t.length = 64
  p : ∀ x ∈ d.s, ∀ q, x.p = some q → q.length = 64
  pos : 1 ≤ d.s.length
  most : d.s.length ≤ 4096
  left : -1 ≤ d.left ∧ d.left ≤ 9223372036854775807

def flat (s : List Sec) : List Value := s.flatMap fun x => x.t.map byv
def bval (b : List UInt8) : Value := .agg (b.map byv).toArray

theorem flat_length {s : List Sec} (h : ∀ x ∈ s, x.t.length = 64) : (flat s).length = s.length * 64 := by
  induction s with
  | nil => rfl
  | cons x s ih =>
    have := ih fun y hy => h y (List.mem_cons_of_mem _ hy)
    have hx := h x List.mem_cons_self
    simp only [flat, List.flatMap_cons, List.length_append, List.length_map, List.length_cons] at this ⊢
    omega
theorem flat_at {s : List Sec} (h : ∀ x ∈ s, x.t.length = 64) {i : Nat} (hi : i < s.length) : ((flat s).drop (i * 64)).take 64 = (s.getD i default).t.map byv := by
  induction s generalizing i with
  | nil => simp at hi
  | cons x s ih =>
    have hx := h x List.mem_cons_self
    have hs := fun y hy => h y (List.mem_cons_of_mem _ hy)
    have e : flat (x :: s) = x.t.map byv ++ flat s := rfl
    cases i with
    | zero => rw [e]; simp [hx]
    | succ i =>
      have h1 : (i + 1) * 64 = (x.t.map byv).length + i * 64 := by simp [hx]; omega
      rw [e, h1, List.drop_length_add_append, ih hs (by simpa using hi)]
      rfl
theorem flat_modify {s : List Sec} (h : ∀ x ∈ s, x.t.length = 64) {i : Nat} (hi : i < s.length) (f : Sec → Sec) (hf : (f (s.getD i default)).t.length = 64) :
    flat (s.modify i f) = (flat s).take (i * 64) ++ (f (s.getD i default)).t.map byv ++ (flat s).drop (i * 64 + 64) := by
  induction s generalizing i with
  | nil => simp at hi
  | cons x s ih =>
    have hx := h x List.mem_cons_self
    have hs := fun y hy => h y (List.mem_cons_of_mem _ hy)
    have e : ∀ y, flat (y :: s) = y.t.map byv ++ flat s := fun _ => rfl
    cases i with
    | zero => simp [e, hx]
    | succ i =>
      have hl : (x.t.map byv).length = 64 := by simp [hx]
      have h1 : (i + 1) * 64 = (x.t.map byv).length + i * 64 := by omega
      have h2 : (i + 1) * 64 + 64 = (x.t.map byv).length + (i * 64 + 64) := by omega
      have e2 : flat ((x :: s).modify (i + 1) f) = x.t.map byv ++ flat (s.modify i f) := rfl
      rw [e2, ih hs (by simpa using hi) (by simpa using hf), e, h2, List.drop_length_add_append, h1, List.take_length_add_append]
      simp
def flatS (s : List Sec) (sp : List Value) : List Value := flat s ++ sp
theorem flatS_length {s : List Sec} {sp : List Value} (h : ∀ x ∈ s, x.t.length = 64) : (flatS s sp).length = s.length * 64 + sp.length := by
  unfold flatS; rw [List.length_append, flat_length h]
theorem flatS_at {s : List Sec} {sp : List Value} (h : ∀ x ∈ s, x.t.length = 64) {i : Nat} (hi : i < s.length) : ((flatS s sp).drop (i * 64)).take 64 = (s.getD i default).t.map byv := by
  have hl := flat_length h
  unfold flatS
  rw [List.drop_append_of_le_length (by omega), List.take_append_of_le_length (by rw [List.length_drop]; omega), flat_at h hi]
theorem flatS_modify {s : List Sec} {sp : List Value} (h : ∀ x ∈ s, x.t.length = 64) {i : Nat} (hi : i < s.length) (f : Sec → Sec) (hf : (f (s.getD i default)).t.length = 64) :
    flatS (s.modify i f) sp = (flatS s sp).take (i * 64) ++ (f (s.getD i default)).t.map byv ++ (flatS s sp).drop (i * 64 + 64) := by
  have hl := flat_length h
  unfold flatS
  rw [flat_modify h hi f hf, List.take_append_of_le_length (by omega), List.drop_append_of_le_length (by omega)]
  simp
theorem sec_mem {d : DS} {i : Int} (h : inR d i = true) : sec d i ∈ d.s ∧ i.toNat < d.s.length ∧ 0 ≤ i ∧ d.s.getD i.toNat default = sec d i := by
  simp only [inR, Bool.and_eq_true, decide_eq_true_eq] at h
  have hi : i.toNat < d.s.length := by omega
  exact ⟨by unfold sec; rw [List.getD_eq_getElem?_getD, List.getElem?_eq_getElem hi]; exact List.getElem_mem hi, hi, h.1, rfl⟩
theorem mem_modify {α : Type} {s : List α} {i : Nat} {f : α → α} {y : α} (h : y ∈ s.modify i f) : y ∈ s ∨ ∃ x ∈ s, s[i]? = some x ∧ y = f x := by
  obtain ⟨j, hj⟩ := List.mem_iff_getElem?.1 h
  rw [List.getElem?_modify] at hj
  by_cases hij : i = j
  · subst hij
    cases hx : s[i]? with
    | none => rw [hx] at hj; simp at hj
    | some x =>
      rw [hx] at hj
      simp at hj
      exact .inr ⟨x, List.mem_of_getElem? hx, rfl, hj.symm⟩
  · simp [hij] at hj
    exact .inl (List.mem_of_getElem? hj)
theorem Ok.upd {d : DS} (h : Ok d) (i : Int) (f : Sec → Sec) (hf : ∀ x, x.t.length = 64 → (∀ q, x.p = some q → q.length = 64) → (f x).t.length = 64 ∧ ∀ q, (f x).p = some q → q.length = 64) : Ok (upd d i f) where
  t := fun y hy => by
    obtain hy | ⟨x, hx, _, rfl⟩ := mem_modify hy
    · exact h.t y hy
    · exact (hf x (h.t x hx) (h.p x hx)).1
  p := fun y hy => by
    obtain hy | ⟨x, hx, _, rfl⟩ := mem_modify hy
    · exact h.p y hy
    · exact (hf x (h.t x hx) (h.p x hx)).2
  pos := by simpa [Disk.upd] using h.pos
  most := by simpa [Disk.upd] using h.most
  left := h.left
theorem astep_s (d : DS) : (astep d).2.s = d.s := by
  unfold astep
  split
  · rfl
  · split <;> rfl
theorem Ok.step {d : DS} (h : Ok d) : Ok (astep d).2 where
  t := by rw [astep_s]; exact h.t
  p := by rw [astep_s]; exact h.p
  pos := by rw [astep_s]; exact h.pos
  most := by rw [astep_s]; exact h.most
  left := by
    have := h.left
    unfold astep
    split
    · exact this
    split
    · simp only; omega
    · exact this
theorem settle1_len (p : Int) (x : Sec) (h1 : x.t.length = 64) (h2 : ∀ q, x.p = some q → q.length = 64) : (settle1 p x).t.length = 64 ∧ ∀ q, (settle1 p x).p = some q → q.length = 64 := by
  refine ⟨?_, fun q hq => by simp [settle1] at hq⟩
  unfold settle1
  dsimp only
  split
  · exact h1
  · have hp : (x.p.getD x.t).length = 64 := by
      cases e : x.p with
      | none => exact h1
      | some q => exact h2 q e
    have hc : clamp p ≤ 64 := by unfold clamp; omega
    simp [hp, h1]; omega
end Go.Disk
end
/- The program's disk in memory; the small functions. -/
section
namespace Go.Proofs.YtbmnbdkbgpajeaaGreatDoor
open Go.RowKit Go.Own Go.Disk

/-- The four blocks of a disk. -/
structure Ft where
  p : Nat
  bb : Nat
  pb : Nat
  wb : Nat
  cap : Nat
  sp : List Value
def Ft.all (f : Ft) : List Nat := [f.p, f.bb, f.pb, f.wb]
structure PD (w : World) (f : Ft) (d : DS) : Prop where
  fit : d.s.length ≤ f.cap ∧ f.cap ≤ maxLen
  head : ∃ l : Int, Blk w f.p [.slice (some ⟨f.bb, 0, none⟩) d.s.length f.cap, .map (some f.pb), .map (some f.wb), .bool d.off, .int .i64 l] 77 ∧ max (-1) l = d.left ∧ -9223372036854775808 ≤ l
  blocks : Blk w f.bb (flatS d.s f.sp) 86
  pend : ∃ m, IMap w f.pb m ∧ (∀ k, mget m k = if inR d k then (sec d k).p.map bval else none) 
  worn : ∃ m, IMap w f.wb m ∧ ∀ k, mget m k = if inR d k && (sec d k).w then some (.bool true) else none
  ok : Ok d
  apart : f.p ≠ f.bb ∧ f.p ≠ f.pb ∧ f.p ≠ f.wb ∧ f.bb ≠ f.pb ∧ f.bb ≠ f.wb ∧ f.pb ≠ f.wb
theorem PD.chg {w w' : World} {f : Ft} {d : DS} {F : List Nat} (h : PD w f d) (hc : Chg F w w') (hF : ∀ x ∈ f.all, x ∉ F) : PD w' f d := by
  obtain ⟨hft, ⟨l, h1, h2⟩, h3, ⟨m, h4, h5⟩, ⟨m', h6, h7⟩, h8, h9⟩ := h
  exact ⟨hft, ⟨l, h1.chg hc (hF _ (by simp [Ft.all])), h2⟩, h3.chg hc (hF _ (by simp [Ft.all])), ⟨m, h4.chg hc (hF _ (by simp [Ft.all])), h5⟩, ⟨m', h6.chg hc (hF _ (by simp [Ft.all])), h7⟩, h8, h9⟩
theorem PD.below {w w' : World} {f : Ft} {d : DS} (h : PD w f d) (hc : Below w.heap.size w w') : PD w' f d := h.chg (.of_below (F := []) hc) (by simp)
theorem PD.lt {w : World} {f : Ft} {d : DS} (h : PD w f d) : ∀ x ∈ f.all, x < w.heap.size := by
  obtain ⟨hft, ⟨l, h1, h2⟩, h3, ⟨m, h4, h5⟩, ⟨m', h6, h7⟩, h8, h9⟩ := h
  have := h1.lt; have := h3.lt; have := h4.lt; have := h6.lt
  simp only [Ft.all, List.mem_cons, List.not_mem_nil, or_false]
  rintro x (rfl | rfl | rfl | rfl) <;> assumption

theorem len_any (f : Ft) (d : DS) (w : World) (h : PD w f d) : Calls Tryz.prog 47 #[.pointer (some ⟨f.p, 0, none⟩)] w fun e w' => e = .returned (.int .i64 d.s.length) ∧ w' = w := by
  obtain ⟨l, hB, _⟩ := h.head
  have c0 : w.cell? ⟨f.p, 0, none⟩ = some (.slice (some ⟨f.bb, 0, none⟩) d.s.length f.cap) := hB.cell rfl
  go_enter Tryz.func47, Tryz.ntmps47
  go_wp2
  go_ret
  exact ⟨rfl, rfl⟩
theorem check_any (f : Ft) (d : DS) (i : Int) (w : World) (h : PD w f d) : Calls Tryz.prog 43 #[.pointer (some ⟨f.p, 0, none⟩), .int .i64 i] w fun e w' => e = .returned (.int .i64 (acheck d i)) ∧ w' = w := by
  obtain ⟨l, hB, _⟩ := h.head
  have c0 : w.cell? ⟨f.p, 0, none⟩ = some (.slice (some ⟨f.bb, 0, none⟩) d.s.length f.cap) := hB.cell rfl
  have c3 : w.cell? ⟨f.p, 3, none⟩ = some (.bool d.off) := hB.cell rfl
  go_enter Tryz.func43, Tryz.ntmps43
  cases hoff : d.off with
  | true =>
    rw [hoff] at c3
    go_wp2
    go_ret
    exact ⟨by first | rfl | simp [acheck, hoff], rfl⟩
  | false =>
    rw [hoff] at c3
    by_cases h0 : i < 0
    · have e : acheck d i = 1 := by simp [acheck, hoff, inR, show ¬ 0 ≤ i by omega]
      go_wp2
      go_ret
      exact ⟨by first | rfl | simp [e], rfl⟩
    · by_cases h1 : (d.s.length : Int) ≤ i
      · have e : acheck d i = 1 := by simp [acheck, hoff, inR, show ¬ i < (d.s.length : Int) by omega]
        go_wp2
        go_ret
        exact ⟨by first | rfl | simp [e], rfl⟩
      · have e : acheck d i = 0 := by simp [acheck, hoff, inR, show 0 ≤ i by omega, show i < (d.s.length : Int) by omega]
        go_wp2
        go_ret
        exact ⟨by first | rfl | simp [e], rfl⟩
theorem PD.withHead {w w' : World} {f : Ft} {d d' : DS} (h : PD w f d) (hs : d'.s = d.s) (hd : -1 ≤ d'.left ∧ d'.left ≤ 9223372036854775807) (l : Int)
    (hB : Blk w' f.p [.slice (some ⟨f.bb, 0, none⟩) d.s.length f.cap, .map (some f.pb), .map (some f.wb), .bool d'.off, .int .i64 l] 77) (hl : max (-1) l = d'.left) (hl2 : -9223372036854775808 ≤ l) (hc : Chg [f.p] w w') : PD w' f d' := by
  obtain ⟨hft, _, h3, ⟨m, h4, h5⟩, ⟨m', h6, h7⟩, h8, h9⟩ := h
  obtain ⟨s', o', l'⟩ := d'
  obtain ⟨s, o, l0⟩ := d
  dsimp only at *
  subst hs
  exact ⟨hft, ⟨l, hB, hl, hl2⟩, h3.chg hc (by simp; exact Ne.symm h9.1), ⟨m, h4.chg hc (by simp; exact Ne.symm h9.2.1), h5⟩, ⟨m', h6.chg hc (by simp; exact Ne.symm h9.2.2.1), h7⟩, ⟨h8.t, h8.p, h8.pos, h8.most, hd⟩, h9⟩
theorem step_any (f : Ft) (d : DS) (w : World) (h : PD w f d) : Calls Tryz.prog 44 #[.pointer (some ⟨f.p, 0, none⟩)] w fun e w' => e = .returned (.int .i64 (astep d).1) ∧ PD w' f (astep d).2 ∧ Chg [f.p] w w' := by
  obtain ⟨l, hB, hl, hl2⟩ := h.head
  have hleft := h.ok.left
  have c4 : w.cell? ⟨f.p, 4, none⟩ = some (.int .i64 l) := hB.cell rfl
  have hfr := hB.frozen
  have c3 : w.cell? ⟨f.p, 3, none⟩ = some (.bool d.off) := hB.cell rfl
  have c4' : w.cell? ⟨f.p, 4, none⟩ = some (.int .i64 l) := hB.cell rfl
  have hst := h.ok.step.left
  go_enter Tryz.func44, Tryz.ntmps44
  by_cases h0 : l = 0
  · subst h0
    have e : astep d = (25, { d with off := true }) := by unfold astep; rw [if_pos (by omega)]
    have k := h.withHead (d' := { d with off := true }) (w' := w.setCell ⟨f.p, 3, none⟩ (.bool true)) rfl hleft 0 (hB.set 3 _) hl hl2 ((Chg.refl _ _).set _ (by simp))
    go_wp2
    go_ret
    refine ⟨by first | rfl | simp [e], ?_, (Chg.refl _ _).set _ (by simp)⟩
    first | exact k | (rw [e]; exact k)
  · by_cases h1 : 0 < l
    · have e : astep d = (0, { d with left := d.left - 1 }) := by unfold astep; rw [if_neg (by omega), if_pos (by omega)]
      rw [e] at hst
      have k := h.withHead (d' := { d with left := d.left - 1 }) (w' := w.setCell ⟨f.p, 4, none⟩ (.int .i64 (l - 1))) rfl hst (l - 1) (hB.set 4 _) (show max (-1) (l - 1) = d.left - 1 by omega) (by omega) ((Chg.refl _ _).set _ (by simp))
      have hw : IntKind.i64.wrap (l - 1) = l - 1 := IntWalk.i64_in _ (by omega)
      go_wp2
      go_ret
      refine ⟨by first | rfl | simp [e], ?_, (Chg.refl _ _).set _ (by simp)⟩
      first | exact k | (rw [e]; exact k)
    · have e : astep d = (0, d) := by unfold astep; rw [if_neg (by omega), if_neg (by omega)]
      go_wp2
      go_ret
      refine ⟨by first | rfl | simp [e], ?_, Chg.refl _ _⟩
      first | exact h | (rw [e]; exact h)
theorem trip_any (f : Ft) (d : DS) (n : Int) (hn : -9223372036854775808 ≤ n ∧ n ≤ 9223372036854775807) (w : World) (h : PD w f d) : Calls Tryz.prog 25 #[.pointer (some ⟨f.p, 0, none⟩), .int .i64 n] w fun e w' => e = .returned (.tuple #[]) ∧ PD w' f (atrip d n) ∧ Chg [f.p] w w' := by
  obtain ⟨l, hB, hl, hl2⟩ := h.head
  have hfr := hB.frozen
  have c3 : w.cell? ⟨f.p, 3, none⟩ = some (.bool d.off) := hB.cell rfl
  have c4' : w.cell? ⟨f.p, 4, none⟩ = some (.int .i64 l) := hB.cell rfl
  have k := h.withHead (d' := atrip d n) (w' := w.setCell ⟨f.p, 4, none⟩ (.int .i64 n)) rfl (by simp only [atrip]; omega) n (hB.set 4 _) rfl hn.1 ((Chg.refl _ _).set _ (by simp))
  go_enter Tryz.func25, Tryz.ntmps25
  go_wp2
  refine bodyPost_end (results_none rfl _ _ _) rfl ?_
  exact ⟨rfl, k, (Chg.refl _ _).set _ (by simp)⟩
end Go.Proofs.YtbmnbdkbgpajeaaGreatDoor
end
/- Read and Image of the program's disk. -/
section
namespace Go.Proofs.YtbmnbdkbgpajeaaGreatDoor
open Go.RowKit Go.Own Go.Disk
attribute [local go_sem] setCell_twice str_size
theorem hTp : Tryz.prog.underlying 75 = some (.map 3 86) := by kernel_rfl
theorem hKp : Tryz.prog.underlying 3 = some (.int .i64) := by kernel_rfl
theorem hTw : Tryz.prog.underlying 45 = some (.map 3 4) := by kernel_rfl
theorem hTb : Tryz.prog.underlying 81 = some (.slice 5) := by kernel_rfl
theorem hT8 : Tryz.prog.underlying 5 = some (.int .u8) := by kernel_rfl
theorem hTs : Tryz.prog.underlying 9 = some .string := by kernel_rfl
theorem hTblk : Tryz.prog.underlying 86 = some (.array 64 5) := by kernel_rfl
def zero64 : List Value := zeros.map byv
theorem zeroBlk (w : World) : (zeroValue 86).run Tryz.prog w = .ok (.agg zero64.toArray) w := by kernel_rfl
theorem convB (w : World) (v : Value) (bs : List UInt8) (h : Sl w 1 v bs.length (bs.map byv)) : (convert 81 9 v).run Tryz.prog w = .ok (str bs) w :=
  run_bytes_str hTb hT8 hTs h
theorem lookP {w : World} {f : Ft} {d : DS} (h : PD w f d) {i : Int} (hi : inR d i = true) (ok : Bool) :
    (Instr.lookup 75 (.map (some f.pb)) (.int .i64 i) ok).run Tryz.prog w = .ok (if ok then .tuple #[bval ((sec d i).p.getD zeros), .bool (sec d i).p.isSome] else bval ((sec d i).p.getD zeros)) w := by
  obtain ⟨m, hm, hg⟩ := h.pend
  have := run_lookup_imap hTp hKp hm (zeroBlk w) i ok
  rw [this, hg i, hi]
  cases (sec d i).p <;> rfl
theorem read_any (f : Ft) (d : DS) (i : Int) (w : World) (h : PD w f d) : Calls Tryz.prog 48 #[.pointer (some ⟨f.p, 0, none⟩), .int .i64 i] w fun e w' => e = .returned (.tuple #[str (aread d i).1, .int .i64 (aread d i).2]) ∧ Below w.heap.size w w' := by
  obtain ⟨l, hB, _⟩ := h.head
  have c0 : w.cell? ⟨f.p, 0, none⟩ = some (.slice (some ⟨f.bb, 0, none⟩) d.s.length f.cap) := hB.cell rfl
  have c1 : w.cell? ⟨f.p, 1, none⟩ = some (.map (some f.pb)) := hB.cell rfl
  have hlt := h.lt
  have hz := fun W => zeroBlk W
  go_enter Tryz.func48, Tryz.ntmps48
  by_cases hc : acheck d i = 0
  · have hi : inR d i = true := by
      unfold acheck at hc
      split at hc
      · cases hc
      · split at hc
        · assumption
        · cases hc
    have hk : aread d i = ((sec d i).p.getD (sec d i).t, 0) := by simp [aread, hc]
    obtain ⟨hm, hil, hi0, hse⟩ := sec_mem hi
    have hlk := lookP h hi true
    have hok := h.ok
    obtain ⟨n, hn⟩ : ∃ n : Nat, n = i.toNat := ⟨_, rfl⟩
    obtain rfl : i = (n : Int) := by omega
    have hql : ((sec d n).p.getD zeros).length = 64 := by
      cases e : (sec d n).p with
      | none => rfl
      | some q => exact hok.p _ hm q e
    obtain ⟨q, hq⟩ : ∃ q, q = (sec d n).p.getD zeros := ⟨_, rfl⟩
    rw [← hq] at hlk hql
    have hql' : (q.map byv).length = 64 := by simp [hql]
    simp only [if_true] at hlk
    have HQ := Lib.hid hq; clear hq
    clear hn hse
    go_wp2_with (first | (go_at_call 43; refine (check_any f d n w h).mono ?_; rintro e w' ⟨rfl, rfl⟩; rw [hc]) | (refine wpList_store_blk (ty := 86) (n := 64) (vs := q.map byv) (Blk.new _ _ 86) rfl rfl rfl rfl rfl (by kernel_rfl) hql' (by simp [zero64, zeros]) (bytes_oneCell _) ?_))
    intro w1 hb1 ho1
    have hb1' : Blk w1 w'.heap.size (q.map byv) 86 := by
      have e : List.drop 64 zero64 = [] := rfl
      simpa [e] using hb1
    clear hb1
    have hw1 : Below w'.heap.size w' w1 := ho1.below ((Below.refl _ _).alloc (Nat.le_refl _) _) (Nat.le_refl _)
    clear ho1
    have hcv1 := convB w1 (.slice (some ⟨w'.heap.size, 0, none⟩) 64 64) q (by rw [hql]; exact ⟨by simp [hql], .inr ⟨_, 0, 64, rfl, Nat.le_refl _, by decide, hb1'.cells0, hb1'.lt⟩⟩)
    have h' := h.below hw1
    have c0' : w1.cell? ⟨f.p, 0, none⟩ = some (.slice (some ⟨f.bb, 0, none⟩) d.s.length f.cap) := (hB.below hw1 hB.lt).cell rfl
    have htl := hok.t _ hm
    have hcv2 := convB w1 (.slice (some ⟨f.bb, n * 64, none⟩) 64 64) (sec d n).t (by
      rw [htl]
      refine ⟨by simp [htl], .inr ⟨_, n * 64, 64, rfl, Nat.le_refl _, by decide, ?_, h'.blocks.lt⟩⟩
      refine h'.blocks.cells _ _ ?_
      rw [List.length_map, htl, flatS_at hok.t (by omega)]
      rfl)
    have hil' : n < d.s.length := by omega
    clear hil
    cases hp : (sec d n).p with
    | some r =>
      rw [hp] at hk HQ
      obtain rfl : q = r := HQ.out
      simp only [Option.isSome_some]
      go_wp2
      go_ret2
      rw [hk]
      exact ⟨rfl, hw1⟩
    | none =>
      rw [hp] at hk
      simp only [Option.isSome_none]
      go_wp2
      go_ret2
      rw [hk]
      exact ⟨rfl, hw1⟩
  · have hk : aread d i = ([], acheck d i) := by simp [aread, hc]
    go_wp2_with (go_at_call 43; refine (check_any f d i w h).mono ?_; rintro e w' ⟨rfl, rfl⟩)
    go_ret2
    refine ⟨?_, Below.refl _ _⟩
    rw [hk]; rfl
end Go.Proofs.YtbmnbdkbgpajeaaGreatDoor
end

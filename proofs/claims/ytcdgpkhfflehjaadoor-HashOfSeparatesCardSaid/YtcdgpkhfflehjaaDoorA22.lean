/- The walks over the reference's Short and Of. -/
import Derived.Test.YtcdgpkhfflehjaaDoorA21
namespace Go.Proofs.YtcdgpkhfflehjaaDoor
open Go.RowKit Go.Sha Go.Own
attribute [local go_sem high] op_str_eql op_str_neq
attribute [local go_sem] str_size
def zero44 : List Value := (List.replicate 16 (0 : UInt8)).map byv
theorem zero44_len : zero44.length = 16 := by simp [zero44]
theorem build44 (w : World) : (Instr.build 44 #[]).run Tryd.prog w = .ok (.agg zero44.toArray) w := by kernel_rfl
theorem zeroValue44 (w : World) : (zeroValue 44).run Tryd.prog w = .ok (.agg zero44.toArray) w := by kernel_rfl
def cop (S : List UInt8) (i : Nat) : List Value := (S.take i).map byv ++ (List.replicate (16 - i) (0 : UInt8)).map byv
theorem cop_set (S : List UInt8) (i : Nat) (hi : i < 16) (hS : 16 ≤ S.length) (x : UInt8) (hx : x = S.getD i 0) : (cop S i).set i (byv x) = cop S (i + 1) := by
  have hl : ((S.take i).map byv).length = i := by simp; omega
  have hil : i < S.length := by omega
  unfold cop
  rw [List.set_append_right _ _ (by omega), hl, Nat.sub_self, show 16 - i = (16 - (i + 1)) + 1 by omega, List.replicate_succ, List.map_cons, List.set_cons_zero, List.take_succ_eq_append_getElem hil, hx]
  have e : S.getD i 0 = S[i] := by simp [hil]
  rw [e, List.map_append, List.append_assoc]
  rfl
set_option maxHeartbeats 400000 in
theorem short_any (m : List UInt8) (sa : Option Addr) (cap : Nat) (w : World) (hsl : Sl w 1 (.slice sa m.length cap) m.length (m.map byv)) (hm : m.length ≤ 549755813888) (hK : Cells w 0 0 (Kt.map U)) (h0 : 0 < w.heap.size) :
    Calls Tryd.prog 34 #[.slice sa m.length cap] w fun e w' => e = .returned (.agg (((sha m).take 16).map byv).toArray) ∧ Below w.heap.size w w' := by
  have HK := Lib.hid hK; clear hK
  have HSL := Lib.hid hsl; clear hsl
  have hz44 := fun W => zeroValue44 W
  have hb44 := fun W => build44 W
  have hz24 := fun W => zeroValue24 W
  have hla : ((sha m).map byv).length = 32 := by simp [sha_length]
  have hl44 := zero44_len
  have hb0 : Below w.heap.size w (w.alloc (.cells zero44.toArray 44)) := (Below.refl _ _).alloc (Nat.le_refl _) _
  have hA0 : Blk (w.alloc (.cells zero44.toArray 44)) w.heap.size zero44 44 := Blk.new _ _ _
  have hr := rsum_any m sa cap (w.alloc (.cells zero44.toArray 44)) (HSL.out.below hb0) hm (HK.out.below hb0 h0) (by simp)
  have HR := Lib.hid hr; clear hr
  go_enter Tryd.func34, Tryd.ntmps34
  go_wp2_with (first | (refine wpList_store_blk (ty := 24) (n := 32) (vs := (sha m).map byv) (Blk.new _ _ 24) rfl rfl rfl rfl rfl (by kernel_rfl) hla (by simp [zero24]) (bytes_oneCell _) ?_) | (go_at_call 12; refine HR.out.mono ?_; rintro e w1 ⟨rfl, hb1⟩))
  intro w2 hb2 ho2
  have hz1 := hb1.size
  simp at hz1
  have hB2 : Blk w2 w1.heap.size ((sha m).map byv) 24 := by simpa [zero24] using hb2
  have hA2 : Blk w2 w.heap.size zero44 44 := ho2.blk (by omega) ((hA0.below hb1 (by simp)).alloc _)
  have hbw2 : Below w.heap.size w w2 := ho2.below ((hb0.trans (hb1.mono (by simp))).alloc (by omega) _) (by omega)
  have hlt2 := hB2.lt
  clear hb2 ho2 hA0
  go_wp2_with (refine wpList_store_blk (ty := 44) (n := 16) (vs := zero44) (Blk.new _ _ 44) rfl rfl rfl rfl rfl (by kernel_rfl) hl44 (by simp [zero44]) (by unfold zero44; exact bytes_oneCell _) ?_)
  intro w3 hb3 ho3
  have hC3 : Blk w3 w2.heap.size zero44 44 := by simpa [zero44] using hb3
  have hB3 : Blk w3 w1.heap.size ((sha m).map byv) 24 := ho3.blk (by omega) (hB2.alloc _)
  have hA3 : Blk w3 w.heap.size zero44 44 := ho3.blk (by omega) (hA2.alloc _)
  have hz2 := hbw2.size
  have hbw3 : Below w.heap.size w w3 := ho3.below (hbw2.alloc (by omega) _) (by omega)
  clear hb3 ho3 hB2 hA2
  obtain ⟨S, HS⟩ : ∃ S, Hid (S = sha m) := ⟨_, rfl⟩
  have hSl : S.length = 32 := by rw [HS.out, sha_length]
  rw [← HS.out] at hB3 ⊢
  have h01 : w.heap.size ≠ w2.heap.size := by omega
  have h12 : w1.heap.size ≠ w2.heap.size := by omega
  clear hla
  go_wp2
  go_loopw [5] (fun c wr => ∃ i : Nat, i ≤ 16 ∧ c = .int .i64 i ∧ Blk wr w2.heap.size (cop S i) 44 ∧ Blk wr w1.heap.size (S.map byv) 24 ∧ Blk wr w.heap.size zero44 44 ∧ Below w.heap.size w wr) (fun c _ => 16 - (intOf c).toNat)
  case atStart => exact ⟨0, by omega, rfl, by simpa [cop, zero44] using hC3, hB3, hA3, hbw3⟩
  case round =>
    obtain ⟨i, hi, rfl, hC, hB, hA, hbw⟩ := hrel
    by_cases hi16 : i < 16
    · obtain ⟨x, Hx⟩ : ∃ x, Hid (x = S.getD i 0) := ⟨_, rfl⟩
      have cB : wr.cell? ⟨w1.heap.size, i, none⟩ = some (byv x) := hB.cell (by rw [Hx.out]; simp [show i < S.length by omega])
      have cC : wr.cell? ⟨w2.heap.size, i, none⟩ = some (byv 0) := hC.cell (by
        have hlA : ((S.take i).map byv).length = i := by simp; omega
        unfold cop
        rw [List.getElem?_append_right (by omega), hlA, Nat.sub_self, show 16 - i = (15 - i) + 1 by omega, List.replicate_succ]
        rfl)
      have hf := hC.frozen
      go_wp2
      go_roundw
      case rel =>
        have h := hC.set i (byv x)
        rw [cop_set S i hi16 (by omega) x Hx.out] at h
        exact ⟨i + 1, by omega, by go_num, h, hB.set_ne _ h12, hA.set_ne _ h01, hbw.setCell (by simp; omega) _⟩
      case measure => simp [intOf]; omega
    · obtain rfl : i = 16 := by omega
      have e16 : cop S 16 = (S.take 16).map byv := by simp [cop]
      rw [e16] at hC
      have hl16 : ((S.take 16).map byv).length = 16 := by simp; omega
      go_wp2_with (first | (refine wpList_load_blk (ty := 44) (n := 16) ((S.take 16).map byv) hC (by rw [List.drop_zero, List.take_of_length_le (by omega)]) rfl rfl rfl Tryd.underlying44 rfl (by kernel_rfl) (by omega) ?_) | (refine wpList_store_blk (ty := 44) (n := 16) (vs := (S.take 16).map byv) hA rfl rfl rfl rfl rfl (by kernel_rfl) hl16 (by simp [zero44]) (bytes_oneCell _) ?_))
      intro w4 hb4 ho4
      have hA4 : Blk w4 w.heap.size ((S.take 16).map byv) 44 := by simpa [zero44] using hb4
      clear hb4
      go_wp2
      exact bodyPost_ret (results_blk rfl hA4 rfl Tryd.underlying44 rfl (by rw [hl16]; kernel_rfl)) rfl ⟨by rw [HS.out], ho4.below hbw (Nat.le_refl _)⟩
set_option maxHeartbeats 400000 in
theorem rof_any (t : Int) (l : List (List UInt8)) (hp0 : ∀ p ∈ l, p.length < 65536) (hn : l.length ≤ 1000) (sa : Option Addr) (cap : Nat) (w : World) (hsl : Sl w 1 (.slice sa l.length cap) l.length (l.map str)) (hK : Cells w 0 0 (Kt.map U)) (h0 : 0 < w.heap.size) :
    Calls Tryd.prog 22 #[.int .i64 t, .slice sa l.length cap] w fun e w' => e = .returned (.agg ((ofF t l).map byv).toArray) ∧ Below w.heap.size w w' := by
  have HK := Lib.hid hK; clear hK
  have hz44 := fun W => zeroValue44 W
  have hb0 : Below w.heap.size w (w.alloc (.cells zero44.toArray 44)) := (Below.refl _ _).alloc (Nat.le_refl _) _
  have hA0 : Blk (w.alloc (.cells zero44.toArray 44)) w.heap.size zero44 44 := Blk.new _ _ _
  have hi := input_any t l hp0 hn sa cap (w.alloc (.cells zero44.toArray 44)) (hsl.below hb0)
  have HI := Lib.hid hi; clear hi
  have hfl := flat_len l hp0
  have hfb := Nat.mul_le_mul_left 65539 hn
  have hlo : ((ofF t l).map byv).length = 16 := by simp [ofF, sha_length]
  have hil : (inputF t l).length ≤ 100000000 := by rw [inputF, List.length_cons]; omega
  clear hp0 hsl hfl hfb
  go_enter Tryd.func22, Tryd.ntmps22
  go_wp2_with fail
  refine HI.out.mono ?_
  rintro e w1 ⟨v1, rfl, how1, hb1⟩
  have hz1 := hb1.size
  simp at hz1
  have hbw1 : Below w.heap.size w w1 := hb0.trans (hb1.mono (by simp))
  have hA1 := hA0.below hb1 (by simp)
  obtain ⟨s1, c1, rfl⟩ := sl_slice (Sl.of_owns how1)
  have hs := short_any (inputF t l) s1 c1 w1 (Sl.of_owns how1) (by omega) (HK.out.below hbw1 h0) (by omega)
  have HS := Lib.hid hs
  clear hs how1 hA0
  go_wp2_with fail
  refine HS.out.mono ?_
  rintro e w2 ⟨rfl, hb2⟩
  have hA2 := hA1.below hb2 hA1.lt
  have hbw2 := hbw1.trans (hb2.mono (by omega))
  go_wp2_with (refine wpList_store_blk (ty := 44) (n := 16) (vs := (ofF t l).map byv) hA2 rfl rfl rfl rfl rfl (by kernel_rfl) hlo (by simp [zero44]) (bytes_oneCell _) ?_)
  intro w4 hb4 ho4
  have hA4 : Blk w4 w.heap.size ((ofF t l).map byv) 44 := by simpa [zero44] using hb4
  clear hb4
  go_wp2
  exact bodyPost_ret (results_blk rfl hA4 rfl Tryd.underlying44 rfl (by rw [hlo]; kernel_rfl)) rfl ⟨rfl, ho4.below hbw2 (Nat.le_refl _)⟩
end Go.Proofs.YtcdgpkhfflehjaaDoor

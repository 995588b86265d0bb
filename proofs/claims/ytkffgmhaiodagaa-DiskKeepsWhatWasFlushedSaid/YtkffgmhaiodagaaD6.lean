/- Rot of the program's disk. -/
import Derived.Test.YtkffgmhaiodagaaD5
namespace Go.Proofs.Ytkffgmhaiodagaa
open Go.RowKit Go.Own Go.Disk Go.BigFrame
attribute [local go_sem] setCell_twice str_size
theorem rotT_length (b : Nat) (t : List UInt8) : (rotT b t).length = t.length := by simp [rotT]
theorem rot_bits (x : UInt8) (k : Nat) : bits .xor .u8 (x.toNat : Int) ((2 : Int) ^ (k % 8) % 256) = ((x ^^^ (1 <<< UInt8.ofNat (k % 8))).toNat : Int) := by
  obtain ⟨r, hr⟩ : ∃ r, r = k % 8 := ⟨_, rfl⟩
  have h8 : r < 8 := by omega
  rw [← hr, UInt8.toNat_xor]
  clear hr
  have key : ∀ m : Nat, m < 256 → bits .xor .u8 (x.toNat : Int) (m : Int) = ((x.toNat ^^^ m : Nat) : Int) := fun m hm => u8_xor_nat x.toNat m x.toNat_lt hm
  match r, h8 with
  | 0, _ => exact key 1 (by decide)
  | 1, _ => exact key 2 (by decide)
  | 2, _ => exact key 4 (by decide)
  | 3, _ => exact key 8 (by decide)
  | 4, _ => exact key 16 (by decide)
  | 5, _ => exact key 32 (by decide)
  | 6, _ => exact key 64 (by decide)
  | 7, _ => exact key 128 (by decide)
set_option maxHeartbeats 1600000 in
set_option maxRecDepth 100000 in
theorem rot_any (f : Ft) (d : DS) (i b : Int) (w : World) (h : PD w f d) : Calls Try.prog 19 #[.pointer (some ⟨f.p, 0, none⟩), .int .i64 i, .int .i64 b] w fun e w' => e = .returned (.int .i64 (arot d i b).1) ∧ PD w' f (arot d i b).2 ∧ Chg f.all w w' := by
  obtain ⟨l, hB, _⟩ := h.head
  have c0 : w.cell? ⟨f.p, 0, none⟩ = some (.slice (some ⟨f.bb, 0, none⟩) d.s.length f.cap) := hB.cell rfl
  go_enter Try.func19, Try.ntmps19
  by_cases h0 : i < 0
  · have e : arot d i b = (1, d) := by simp [arot, inR, show ¬ 0 ≤ i by omega]
    go_wp2
    go_ret
    exact ⟨by first | rfl | simp [e], by first | exact h | (rw [e]; exact h), Chg.refl _ _⟩
  · by_cases h1 : (d.s.length : Int) ≤ i
    · have e : arot d i b = (1, d) := by simp [arot, inR, show ¬ i < (d.s.length : Int) by omega]
      go_wp2
      go_ret
      exact ⟨by first | rfl | simp [e], by first | exact h | (rw [e]; exact h), Chg.refl _ _⟩
    · by_cases h2 : b < 0
      · have e : arot d i b = (1, d) := by simp [arot, show ¬ 0 ≤ b by omega]
        go_wp2
        go_ret
        exact ⟨by first | rfl | simp [e], by first | exact h | (rw [e]; exact h), Chg.refl _ _⟩
      · by_cases h3 : 512 ≤ b
        · have e : arot d i b = (1, d) := by simp [arot, show ¬ b ≤ 511 by omega]
          go_wp2
          go_ret
          exact ⟨by first | rfl | simp [e], by first | exact h | (rw [e]; exact h), Chg.refl _ _⟩
        · have hi : inR d i = true := by simp [inR, show 0 ≤ i by omega, show i < (d.s.length : Int) by omega]
          have e : arot d i b = (0, upd d i fun x => { x with t := rotT b.toNat x.t }) := by simp [arot, hi, show 0 ≤ b by omega, show b ≤ 511 by omega]
          obtain ⟨hm, hil, hi0, hse⟩ := sec_mem hi
          have htl := h.ok.t _ hm
          clear hse
          obtain ⟨n, hn⟩ : ∃ n : Nat, n = i.toNat := ⟨_, rfl⟩
          obtain rfl : i = (n : Int) := by omega
          clear hn
          obtain ⟨k, hk⟩ : ∃ k : Nat, k = b.toNat := ⟨_, rfl⟩
          obtain rfl : b = (k : Int) := by omega
          clear hk
          have hil' : n < d.s.length := by omega
          clear hil hi0
          have hk8 : k / 8 < 64 := by omega
          obtain ⟨x, hx⟩ : ∃ x : UInt8, x = (sec d n).t.getD (k / 8) 0 := ⟨_, rfl⟩
          have cx : w.cell? ⟨f.bb, n * 64 + k / 8, none⟩ = some (byv x) := by
            have hC : Cells w f.bb (n * 64) ((sec d n).t.map byv) := by
              refine h.blocks.cells _ _ ?_
              rw [List.length_map, htl, flatS_at h.ok.t (by omega)]
              rfl
            refine hC _ _ ?_
            rw [List.getElem?_map, hx, List.getElem?_eq_getElem (by omega)]
            simp [show k / 8 < (sec d n).t.length by omega]
          have HX := Lib.hid hx; clear hx
          have hfr := h.blocks.frozen
          have hxv := rot_bits x k
          obtain ⟨y, hy⟩ : ∃ y, y = x ^^^ (1 <<< UInt8.ofNat (k % 8)) := ⟨_, rfl⟩
          rw [← hy] at hxv
          have HY := Lib.hid hy; clear hy
          have ht : rotT k (sec d n).t = (sec d n).t.set (k / 8) y := by
            have e1 : (sec d n).t[k / 8]? = some x := by rw [HX.out]; simp [show k / 8 < (sec d n).t.length by omega]
            apply List.ext_getElem?
            intro j
            simp only [rotT, List.getElem?_modify, List.getElem?_set]
            by_cases e : k / 8 = j
            · subst e
              rw [e1, if_pos rfl, if_pos (by omega), HY.out]
              simp
            · simp [e]
          have hset : (flatS d.s f.sp).set (n * 64 + k / 8) (byv y) = (flatS d.s f.sp).take (n * 64) ++ (rotT k (sec d n).t).map byv ++ (flatS d.s f.sp).drop (n * 64 + 64) := by
            have hfl := flatS_length (sp := f.sp) h.ok.t
            have h64 : ((flatS d.s f.sp).drop (n * 64)).take 64 = (sec d n).t.map byv := by
              rw [flatS_at h.ok.t (by omega)]; rfl
            have h65 : (flatS d.s f.sp).drop (n * 64) = (sec d n).t.map byv ++ (flatS d.s f.sp).drop (n * 64 + 64) := by
              rw [← h64, ← List.drop_drop, List.take_append_drop]
            have hl : ((flatS d.s f.sp).take (n * 64)).length = n * 64 := by rw [List.length_take]; omega
            conv => lhs; rw [← List.take_append_drop (n * 64) (flatS d.s f.sp), h65]
            rw [List.set_append_right _ _ (by omega), hl, Nat.add_sub_cancel_left, List.set_append_left _ _ (by rw [List.length_map, htl]; omega), ht, List.map_set, List.append_assoc]
          have hB9 : ∀ nq, Blk ((w.drewN nq).setCell ⟨f.bb, n * 64 + k / 8, none⟩ (byv y)) f.bb ((flatS d.s f.sp).take (n * 64) ++ (rotT k (sec d n).t).map byv ++ (flatS d.s f.sp).drop (n * 64 + 64)) 74 := fun nq => by
            rw [← hset]
            exact (h.blocks.drewN nq).set (n * 64 + k / 8) (byv y)
          have hc9 : ∀ nq, Chg [f.bb] (w.drewN nq) ((w.drewN nq).setCell ⟨f.bb, n * 64 + k / 8, none⟩ (byv y)) := fun nq => (Chg.refl _ _).set _ (by simp)
          have h9 := fun nq => (h.chg ((Chg.refl [] w).drewN nq) (by simp)).text hi (t := rotT k (sec d n).t) (by rw [rotT_length]; exact htl) (hB9 nq) (hc9 nq)
          have e9 : (upd d n fun x => { x with t := rotT k x.t }) = upd d n fun x => { x with t := rotT k (sec d n).t } := upd_congr hi rfl
          rw [Int.toNat_natCast, e9] at e
          have HE := Lib.hid e; clear e e9 ht hset hB9
          go_wp2
          refine wp_region_tail 16 (by kernel_rfl) (by kernel_rfl) ?_
          simp only [List.take_succ_cons, List.take_zero, List.drop_succ_cons, List.drop_zero]
          repeat (go_big_quiet_step (fail))
          refine wpQuiet_nil ?_
          intro nq
          go_wp2
          go_ret
          rw [HE.out]
          exact ⟨rfl, h9 nq, (((Chg.refl _ w).drewN nq).trans (hc9 nq)).mono (by simp [Ft.all])⟩
end Go.Proofs.Ytkffgmhaiodagaa

/- Rot of the reference. -/
import Derived.Test.YtkffgmhaiodagaaR2
import Derived.Test.YtkffgmhaiodagaaOb
namespace Go.Proofs.Ytkffgmhaiodagaa
open Go.RowKit Go.Own Go.Disk Go.BigFrame
attribute [local go_sem] setCell_twice str_size str_append bytes_extract
set_option maxHeartbeats 1600000 in
set_option maxRecDepth 100000 in
theorem rrot_any (f : Rt) (d : DS) (i b : Int) (w : World) (h : RD w f d) : Calls Try.prog 38 #[.pointer (some ⟨f.p, 0, none⟩), .int .i64 i, .int .i64 b] w fun e w' => e = .returned (.int .i64 (arot d i b).1) ∧ RD w' f (arot d i b).2 ∧ Chg f.all w w' := by
  have c0 : w.cell? ⟨f.p, 0, none⟩ = some (.slice (some ⟨f.sb, 0, none⟩) d.s.length f.cap) := h.head.cell rfl
  go_enter Try.func38, Try.ntmps38
  by_cases hi : inR d i = true
  · by_cases h2 : b < 0
    · have e : arot d i b = (1, d) := by simp [arot, show ¬ 0 ≤ b by omega]
      have E := Lib.hid e; clear e
      go_wp2_with (go_at_call 55; refine (ris_any f d i w h).mono ?_; rintro e w' ⟨rfl, rfl⟩; rw [hi])
      go_ret
      rw [E.out]; exact ⟨rfl, h, Chg.refl _ _⟩
    · have h20 : 0 ≤ b := by omega
      by_cases h3 : 512 ≤ b
      · have e : arot d i b = (1, d) := by simp [arot, show ¬ b ≤ 511 by omega]
        have h31 : 511 < b := by omega
        have E := Lib.hid e; clear e
        clear h2
        go_wp2_with (go_at_call 55; refine (ris_any f d i w h).mono ?_; rintro e w' ⟨rfl, rfl⟩; rw [hi])
        go_ret
        rw [E.out]; exact ⟨rfl, h, Chg.refl _ _⟩
      · have e : arot d i b = (0, upd d i fun x => { x with t := rotT b.toNat x.t }) := by simp [arot, hi, show 0 ≤ b by omega, show b ≤ 511 by omega]
        obtain ⟨hm, hil, hi0, _⟩ := sec_mem hi
        have htl := h.ok.t _ hm
        obtain ⟨n, hn⟩ : ∃ n : Nat, n = i.toNat := ⟨_, rfl⟩
        obtain rfl : i = (n : Int) := by omega
        clear hn
        obtain ⟨k, hk⟩ : ∃ k : Nat, k = b.toNat := ⟨_, rfl⟩
        obtain rfl : b = (k : Int) := by omega
        clear hk
        have hil' : n < d.s.length := by omega
        clear hil hi0 h2
        have hk8 : k / 8 < 64 := by omega
        have hk1 : (k : Int) ≤ 511 := by omega
        clear h3
        obtain ⟨t0, ht0⟩ : ∃ t0, t0 = (sec d n).t := ⟨_, rfl⟩
        rw [← ht0] at htl
        have d0 : w.cell? ⟨f.sb, n * 4, none⟩ = some (str t0) := h.cell hil' 0 (by decide) (by rw [ht0]; rfl)
        have HT := Lib.hid ht0; clear ht0
        obtain ⟨x, hx⟩ : ∃ x : UInt8, x = t0.getD (k / 8) 0 := ⟨_, rfl⟩
        have hxv := rot_bits x k
        obtain ⟨y, hy⟩ : ∃ y, y = x ^^^ (1 <<< UInt8.ofNat (k % 8)) := ⟨_, rfl⟩
        rw [← hy] at hxv
        have HX := Lib.hid hx; clear hx
        have HY := Lib.hid hy; clear hy
        rw [Int.toNat_natCast] at e
        have E := Lib.hid e; clear e
        go_wp2_with (first | (go_at_call 55; refine (ris_any f d n w h).mono ?_; rintro e w' ⟨rfl, rfl⟩; rw [hi]) | refine wpList_str_bytes (bs := t0) rfl rfl rfl hTs hTb hT8 (by omega) ?_)
        intro cap sp w1 hcap1 hcap2 hB1 hb1
        have hlt0 : (t0.map byv).length = 64 := by rw [List.length_map, htl]
        have cx : w1.cell? ⟨w'.heap.size, k / 8, none⟩ = some (byv x) := by
          refine hB1.cell ?_
          rw [List.getElem?_append_left (by omega), List.getElem?_map, HX.out, List.getElem?_eq_getElem (by omega)]
          simp [show k / 8 < t0.length by omega]
        have hfr : w1.frozen? ⟨w'.heap.size, k / 8, none⟩ = false := hB1.frozen (by rw [List.length_append]; omega)
        go_wp2
        refine wp_region_tail 13 (by kernel_rfl) (by kernel_rfl) ?_
        simp only [List.take_succ_cons, List.take_zero, List.drop_succ_cons, List.drop_zero]
        repeat (go_big_quiet_step (fail))
        refine wpQuiet_nil ?_
        intro nq
        have hB2 := (hB1.drewN nq).set (k / 8) (byv y)
        have hset : (t0.map byv ++ sp).set (k / 8) (byv y) = (rotT k t0).map byv ++ sp := by
          have e1 : t0[k / 8]? = some x := by rw [HX.out]; simp [show k / 8 < t0.length by omega]
          have e2 : rotT k t0 = t0.set (k / 8) y := by
            apply List.ext_getElem?
            intro j
            simp only [rotT, List.getElem?_modify, List.getElem?_set]
            by_cases e : k / 8 = j
            · subst e
              rw [e1, if_pos rfl, if_pos (by omega), HY.out]
              simp
            · simp [e]
          rw [List.set_append_left _ _ (by omega), e2, List.map_set]
        rw [hset] at hB2
        have hb2 : Below w'.heap.size w' ((w1.drewN nq).setCell ⟨w'.heap.size, k / 8, none⟩ (byv y)) := below_set (below_drewN hb1 nq) (Nat.le_refl _) (Nat.le_refl _) _ _
        go_wp2
        obtain ⟨w2, hw2⟩ : ∃ w2 : World, w2 = (w1.drewN nq).setCell ⟨w'.heap.size, k / 8, none⟩ (byv y) := ⟨_, rfl⟩
        rw [← hw2] at hB2 hb2
        rw [← hw2]
        clear hw2 hB1 hb1 cx hfr hset
        have h2 := h.below hb2
        have k0 : w2.cell? ⟨f.p, 0, none⟩ = some (.slice (some ⟨f.sb, 0, none⟩) d.s.length f.cap) := h2.head.cell rfl
        have hrl := rotT_len k t0
        have hcv := fun nq => convB (w2.drewN nq) (.slice (some ⟨w'.heap.size, 0, none⟩) 64 cap) (rotT k t0) (by
          rw [hrl, htl]
          refine ⟨by simp [hrl, htl], .inr ⟨_, 0, cap, rfl, by omega, hcap2, ?_, (hB2.drewN nq).lt⟩⟩
          exact (hB2.drewN nq).cells _ _ (by rw [List.drop_zero]; exact List.take_left))
        have k1 : w2.cell? ⟨f.sb, n * 4, none⟩ = some (str t0) := h2.cell hil' 0 (by decide) (by rw [HT.out]; rfl)
        have hfr2 := h2.secs.frozen
        refine wp_region_tail 9 (by kernel_rfl) (by kernel_rfl) ?_
        simp only [List.take_succ_cons, List.take_zero, List.drop_succ_cons, List.drop_zero]
        repeat (go_big_quiet_step (fail))
        refine wpQuiet_nil ?_
        intro nq3
        have hB3 := (h2.secs.drewN nq3).set (n * 4 + 0) (str (rotT k t0))
        rw [rcells_set hil' (fun x => { x with t := rotT k x.t }) f.sp 0 (by decide) (str (rotT k t0)) (by
          have ht : (d.s.getD n default).t = t0 := HT.out.symm
          generalize d.s.getD n default = z at ht ⊢
          simp [rsec, ht])] at hB3
        have hc3 : Chg [f.sb] (w2.drewN nq3) ((w2.drewN nq3).setCell ⟨f.sb, n * 4 + 0, none⟩ (str (rotT k t0))) := (Chg.refl _ _).set _ (by simp)
        have hP := (h2.chg ((Chg.refl [] w2).drewN nq3) (by simp)).upd hi (fun x => { x with t := rotT k x.t }) (fun x e1 e2 => ⟨by rw [← e1]; exact rotT_len _ _, e2⟩) hB3 hc3
        have hcc : Chg f.all w' ((w2.drewN nq3).setCell ⟨f.sb, n * 4 + 0, none⟩ (str (rotT k t0))) := (Chg.of_below (below_drewN hb2 nq3)).trans (hc3.mono (by simp [Rt.all]))
        rw [Nat.add_zero] at hP hcc
        clear hc3 hB3
        go_wp2
        go_ret
        rw [E.out]
        exact ⟨rfl, hP, hcc⟩
  · have hi' : inR d i = false := by simpa using hi
    have e : arot d i b = (1, d) := by simp [arot, hi']
    have E := Lib.hid e; clear e
    go_wp2_with (go_at_call 55; refine (ris_any f d i w h).mono ?_; rintro e w' ⟨rfl, rfl⟩; rw [hi'])
    go_ret
    rw [E.out]; exact ⟨rfl, h, Chg.refl _ _⟩
end Go.Proofs.Ytkffgmhaiodagaa

/- Image, Pending, Worn of the reference. -/
import Derived.Test.YtkffgmhaiodagaaR5
namespace Go.Disk
theorem pend_succ (s : List Sec) (k : Nat) : ((List.range (k + 1)).filter fun i => (s.getD i default).p.isSome) = ((List.range k).filter fun i => (s.getD i default).p.isSome) ++ if (s.getD k default).p.isSome then [k] else [] := by
  rw [List.range_succ, List.filter_append]
  congr 1
  simp [List.filter_cons]
theorem worn_succ (s : List Sec) (k : Nat) : ((List.range (k + 1)).filter fun i => (s.getD i default).w) = ((List.range k).filter fun i => (s.getD i default).w) ++ if (s.getD k default).w then [k] else [] := by
  rw [List.range_succ, List.filter_append]
  congr 1
  simp [List.filter_cons]
end Go.Disk
namespace Go.Proofs.Ytkffgmhaiodagaa
open Go.RowKit Go.Own Go.Disk Go.BigFrame
attribute [local go_sem] setCell_twice str_size
theorem infoStr : (Try.prog.info? 9).map (fun i => (i.zero, i.size, i.bytes)) = some (some (str []), 1, 16) := by kernel_rfl
theorem infoInt : (Try.prog.info? 3).map (fun i => (i.zero, i.size, i.bytes)) = some (some (.int .i64 0), 1, 8) := by kernel_rfl
theorem hTis : Try.prog.underlying 31 = some (.slice 3) := by kernel_rfl
set_option maxHeartbeats 1600000 in
set_option maxRecDepth 100000 in
theorem rimage_any (f : Rt) (d : DS) (w : World) (h : RD w f d) : Calls Try.prog 40 #[.pointer (some ⟨f.p, 0, none⟩)] w fun e w' => ∃ v, e = .returned v ∧ w'.ownsRow w.heap.size 9 1 v d.s.length ((aimage d.s).map str) ∧ Below w.heap.size w w' := by
  go_enter Try.func40, Try.ntmps40
  have hlen : d.s.length ≤ 4096 := h.ok.most
  have hal0 : (aimage d.s).length = d.s.length := by simp [aimage]
  have hal : ((aimage d.s).map str).length = d.s.length := by rw [List.length_map, hal0]
  go_wp2
  go_loopw [3, 4] (fun v c wr => ∃ k : Nat, k ≤ d.s.length ∧ c = .int .i64 k ∧ wr.ownsRow w.heap.size 9 1 v k (((aimage d.s).map str).take k) ∧ Below w.heap.size w wr) (fun _ c _ => d.s.length - (intOf c).toNat)
  case atStart => exact ⟨0, by omega, rfl, World.ownsRow_nil _ _ _ _, Below.refl _ _⟩
  case round =>
    obtain ⟨k, hk, rfl, how, hbr⟩ := hrel
    have h' := h.below hbr
    have c0 : wr.cell? ⟨f.p, 0, none⟩ = some (.slice (some ⟨f.sb, 0, none⟩) d.s.length f.cap) := h'.head.cell rfl
    by_cases hkl : k < d.s.length
    · obtain ⟨t, ht⟩ : ∃ t, t = (sec d k).t := ⟨_, rfl⟩
      have d0 : wr.cell? ⟨f.sb, k * 4, none⟩ = some (str t) := h'.cell hkl 0 (by decide) (by rw [ht]; rfl)
      have hat : ((aimage d.s).map str)[k]'(by omega) = str t := by
        rw [ht]; simp [aimage, sec, List.getD_eq_getElem?_getD, hkl]
      have hts := List.take_succ_eq_append_getElem (l := (aimage d.s).map str) (i := k) (by omega)
      rw [hat] at hts
      have HTS := Lib.hid hts; clear hts
      have HT := Lib.hid ht; clear ht
      have HA := Lib.hid hat; clear hat
      have hbsz := hbr.size
      have HOW := how.kept (World.grownBy_alloc wr (.cells #[str t] 9) none) (by rcases how.2 with ⟨rfl, _⟩ | ⟨g, cap, cur, rfl, _⟩ <;> simp [Value.ownBlock])
      go_wp2_with (refine wpList_append_sl rfl _ _ 39 rfl w.heap.size 9 (str []) 1 16 hTss infoStr rfl (by decide) _ k _ rfl HOW _ 1 [str t] rfl (sl_new _ _ _ 1 rfl (by decide)) (by intro u hu; simp at hu; rw [hu]; rfl) (by unfold maxLen; omega) (by omega) (by simp; omega) ?_)
      intro v' w' h1 h2
      rw [← HTS.out] at h1
      have hb9 : Below w.heap.size w w' := grown_below (hbr.trans (((Below.refl wr.heap.size wr).alloc (Nat.le_refl _) _).mono hbsz)) HOW h2 (by simp; omega)
      go_wp2
      go_roundw
      case rel => exact ⟨k + 1, by omega, by go_num, h1, hb9⟩
      case measure => simp [intOf]; omega
    · obtain rfl : k = d.s.length := by omega
      rw [List.take_of_length_le (by rw [hal]; exact Nat.le_refl _)] at how
      go_wp2
      go_ret
      exact ⟨_, rfl, how, hbr⟩
set_option maxHeartbeats 1600000 in
set_option maxRecDepth 100000 in
theorem rpending_any (f : Rt) (d : DS) (w : World) (h : RD w f d) : Calls Try.prog 42 #[.pointer (some ⟨f.p, 0, none⟩)] w fun e w' => ∃ v, e = .returned v ∧ w'.ownsRow w.heap.size 3 1 v (apend d.s).length ((apend d.s).map fun (j : Nat) => .int .i64 j) ∧ Below w.heap.size w w' := by
  go_enter Try.func42, Try.ntmps42
  have hlen : d.s.length ≤ 4096 := h.ok.most
  go_wp2
  go_loopw [3, 4] (fun v c wr => ∃ (k : Nat) (L : List Nat), k ≤ d.s.length ∧ c = .int .i64 k ∧ L = ((List.range k).filter fun i => (d.s.getD i default).p.isSome) ∧ wr.ownsRow w.heap.size 3 1 v L.length (L.map fun (j : Nat) => .int .i64 j) ∧ Below w.heap.size w wr) (fun _ c _ => d.s.length - (intOf c).toNat)
  case atStart => exact ⟨0, [], by omega, rfl, rfl, World.ownsRow_nil _ _ _ _, Below.refl _ _⟩
  case round =>
    obtain ⟨k, L, hk, rfl, hL, how, hbr⟩ := hrel
    have h' := h.below hbr
    have c0 : wr.cell? ⟨f.p, 0, none⟩ = some (.slice (some ⟨f.sb, 0, none⟩) d.s.length f.cap) := h'.head.cell rfl
    have hLl : L.length ≤ k := by
      rw [hL]
      have := List.length_filter_le (fun i => (d.s.getD i default).p.isSome) (List.range k)
      rwa [List.length_range] at this
    by_cases hkl : k < d.s.length
    · have hs := pend_succ d.s k
      rw [← hL] at hs
      obtain ⟨b, hb⟩ : ∃ b, b = (d.s.getD k default).p.isSome := ⟨_, rfl⟩
      have d2 : wr.cell? ⟨f.sb, k * 4 + 2, none⟩ = some (.bool b) := h'.cell hkl 2 (by decide) (by rw [hb]; rfl)
      rw [← hb] at hs
      have HS := Lib.hid hs; clear hs
      have HB := Lib.hid hb; clear hb
      have HL := Lib.hid hL; clear hL
      cases b with
      | true =>
        have hbsz := hbr.size
        have HOW := how.alloc (.cells #[.int .i64 k] 3)
        go_wp2_with (refine wpList_append_sl rfl _ _ 31 rfl w.heap.size 3 (.int .i64 0) 1 8 hTis infoInt rfl (by decide) _ L.length _ rfl HOW _ 1 [.int .i64 k] rfl (sl_new _ _ _ 1 rfl (by decide)) (by intro u hu; simp at hu; rw [hu]; rfl) (by unfold maxLen; omega) (by omega) (by simp; omega) ?_)
        intro v' w' h1 h2
        have hb9 : Below w.heap.size w w' := grown_below (hbr.trans (((Below.refl wr.heap.size wr).alloc (Nat.le_refl _) _).mono hbsz)) HOW h2 (by simp; omega)
        go_wp2
        go_roundw
        case rel =>
          refine ⟨k + 1, L ++ [k], by omega, by go_num, ?_, ?_, hb9⟩
          · rw [HS.out]; rfl
          · rw [List.length_append, List.map_append]; exact h1
        case measure => simp [intOf]; omega
      | false =>
        go_wp2
        go_roundw
        case rel =>
          refine ⟨k + 1, L, by omega, by go_num, ?_, how, hbr⟩
          rw [HS.out]; simp
        case measure => simp [intOf]; omega
    · obtain rfl : k = d.s.length := by omega
      have e : L = apend d.s := hL
      have HE := Lib.hid e; clear e hL
      go_wp2
      go_ret
      rw [HE.out] at how
      exact ⟨_, rfl, how, hbr⟩
set_option maxHeartbeats 1600000 in
set_option maxRecDepth 100000 in
theorem rworn_any (f : Rt) (d : DS) (w : World) (h : RD w f d) : Calls Try.prog 43 #[.pointer (some ⟨f.p, 0, none⟩)] w fun e w' => ∃ v, e = .returned v ∧ w'.ownsRow w.heap.size 3 1 v (aworn d.s).length ((aworn d.s).map fun (j : Nat) => .int .i64 j) ∧ Below w.heap.size w w' := by
  go_enter Try.func43, Try.ntmps43
  have hlen : d.s.length ≤ 4096 := h.ok.most
  go_wp2
  go_loopw [3, 4] (fun v c wr => ∃ (k : Nat) (L : List Nat), k ≤ d.s.length ∧ c = .int .i64 k ∧ L = ((List.range k).filter fun i => (d.s.getD i default).w) ∧ wr.ownsRow w.heap.size 3 1 v L.length (L.map fun (j : Nat) => .int .i64 j) ∧ Below w.heap.size w wr) (fun _ c _ => d.s.length - (intOf c).toNat)
  case atStart => exact ⟨0, [], by omega, rfl, rfl, World.ownsRow_nil _ _ _ _, Below.refl _ _⟩
  case round =>
    obtain ⟨k, L, hk, rfl, hL, how, hbr⟩ := hrel
    have h' := h.below hbr
    have c0 : wr.cell? ⟨f.p, 0, none⟩ = some (.slice (some ⟨f.sb, 0, none⟩) d.s.length f.cap) := h'.head.cell rfl
    have hLl : L.length ≤ k := by
      rw [hL]
      have := List.length_filter_le (fun i => (d.s.getD i default).w) (List.range k)
      rwa [List.length_range] at this
    by_cases hkl : k < d.s.length
    · have hs := worn_succ d.s k
      rw [← hL] at hs
      obtain ⟨b, hb⟩ : ∃ b, b = (d.s.getD k default).w := ⟨_, rfl⟩
      have d2 : wr.cell? ⟨f.sb, k * 4 + 3, none⟩ = some (.bool b) := h'.cell hkl 3 (by decide) (by rw [hb]; rfl)
      rw [← hb] at hs
      have HS := Lib.hid hs; clear hs
      have HB := Lib.hid hb; clear hb
      have HL := Lib.hid hL; clear hL
      cases b with
      | true =>
        have hbsz := hbr.size
        have HOW := how.alloc (.cells #[.int .i64 k] 3)
        go_wp2_with (refine wpList_append_sl rfl _ _ 31 rfl w.heap.size 3 (.int .i64 0) 1 8 hTis infoInt rfl (by decide) _ L.length _ rfl HOW _ 1 [.int .i64 k] rfl (sl_new _ _ _ 1 rfl (by decide)) (by intro u hu; simp at hu; rw [hu]; rfl) (by unfold maxLen; omega) (by omega) (by simp; omega) ?_)
        intro v' w' h1 h2
        have hb9 : Below w.heap.size w w' := grown_below (hbr.trans (((Below.refl wr.heap.size wr).alloc (Nat.le_refl _) _).mono hbsz)) HOW h2 (by simp; omega)
        go_wp2
        go_roundw
        case rel =>
          refine ⟨k + 1, L ++ [k], by omega, by go_num, ?_, ?_, hb9⟩
          · rw [HS.out]; rfl
          · rw [List.length_append, List.map_append]; exact h1
        case measure => simp [intOf]; omega
      | false =>
        go_wp2
        go_roundw
        case rel =>
          refine ⟨k + 1, L, by omega, by go_num, ?_, how, hbr⟩
          rw [HS.out]; simp
        case measure => simp [intOf]; omega
    · obtain rfl : k = d.s.length := by omega
      have e : L = aworn d.s := hL
      have HE := Lib.hid e; clear e hL
      go_wp2
      go_ret
      rw [HE.out] at how
      exact ⟨_, rfl, how, hbr⟩
end Go.Proofs.Ytkffgmhaiodagaa

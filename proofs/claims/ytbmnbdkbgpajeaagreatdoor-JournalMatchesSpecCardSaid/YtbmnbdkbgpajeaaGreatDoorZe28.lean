/- journal: the reference: Damaged, Room. -/
import Derived.Test.YtbmnbdkbgpajeaaGreatDoorZe27
import Derived.Test.YtbmnbdkbgpajeaaGreatDoorZe22
import Derived.Test.YtbmnbdkbgpajeaaGreatDoorZe04
import Derived.Laws.AppendOwnNone
import Derived.Deep.AppendLies
/- journal: the reference: Damaged, Room. -/
section
namespace Go.Proofs.YtbmnbdkbgpajeaaGreatDoor
open Go.RowKit Go.Own Go.Jn Go.Disk Go.BigFrame Go.Sha
attribute [local irreducible] SqW
set_option maxRecDepth 100000 in
set_option maxHeartbeats 1600000 in
theorem rdamaged_any {w : World} {f : Rt} {J : Jf} {j : JS} (h : RJ w f J j) : Calls Tryz.prog 58 #[.pointer (some ⟨J.g, 0, none⟩)] w fun e w' => ∃ v, e = .returned v ∧ w'.ownsRow w.heap.size 3 1 v (damaged j).length (intsV (damaged j)) ∧ Below w.heap.size w w' := by
  obtain ⟨ns, hns⟩ : ∃ ns, ns = nums j := ⟨_, rfl⟩
  obtain ⟨nx, hnxe⟩ : ∃ nx, nx = j.next := ⟨_, rfl⟩
  have hdm : damaged j = dmgK ns nx := by rw [hns, hnxe]; rfl
  have hnl : ns.length = j.rs.length := by rw [hns]; simp [nums]
  have hnx := h.next
  have hfew := h.few.1
  rw [← hnxe] at hnx hfew
  obtain ⟨sn, cn, hsn, _⟩ := own_slice h.rn
  have hrn := h.rn
  rw [hsn, ← hns, ← hnl] at hrn
  have hh := h.head
  rw [hsn, ← hnxe] at hh
  rw [hdm]
  have HH := Lib.hid hh; clear hh
  have HRN := Lib.hid hrn; clear hrn
  have gJ : J.g < w.heap.size := HH.out.lt
  rw [← hnl] at hfew HH
  have hnll : ns.length ≤ 10000 := by omega
  clear hdm hns hnxe hsn hnl h
  go_enter Tryz.func58, Tryz.ntmps58
  go_wp2_with fail
  go_loopw [3, 4] (fun v c wr => ∃ (q : Nat) (u : Value), u = v ∧ 1 ≤ q ∧ q ≤ nx ∧ c = .int .i64 q ∧ Hid (wr.ownsRow w.heap.size 3 1 u (dmgK ns q).length (intsV (dmgK ns q))) ∧ Hid (Below w.heap.size w wr)) (fun _ c _ => nx - (jInt c).toNat)
  case atStart => exact ⟨1, _, rfl, Nat.le_refl _, hnx.1, rfl, Lib.hid (World.ownsRow_nil _ _ _ _), Lib.hid (Below.refl _ _)⟩
  case round =>
    obtain ⟨q, u, rfl, hq1, hq, rfl, hR, hW⟩ := hrel
    obtain ⟨so, co, rfl, _⟩ := own_slice hR.out
    have hdl := dmgK_le ns q
    have hHr := HH.out.below hW.out gJ
    have c4 : wr.cell? ⟨J.g, 4, none⟩ = some (.int .i64 (nx : Int)) := hHr.cell rfl
    have c1 : wr.cell? ⟨J.g, 1, none⟩ = some (.slice sn ns.length cn) := hHr.cell rfl
    have hsz : w.heap.size ≤ wr.heap.size := hW.out.size
    have HHR := Lib.hid hHr; clear hHr
    by_cases hlt : q < nx
    · have hlc : ((q : Int) < nx) = True := eq_true (by omega)
      have hds := dmgK_succ ns hq1
      have hhas := has_any ns q sn cn wr (Sl.of_owns (own_below HRN.out hW.out)) (by omega)
      obtain ⟨c0, hc0⟩ : ∃ c0, c0 = ns.contains q := ⟨_, rfl⟩
      rw [← hc0] at hds hhas
      have HDS := Lib.hid hds; clear hds hc0
      have HHAS := Lib.hid hhas; clear hhas
      go_wp2_with fail
      refine HHAS.out.mono ?_
      rintro e w2 ⟨rfl, hw2⟩
      rw [hw2]
      clear hw2 HHAS
      cases c0 with
      | true =>
        have hR2 := hR.out
        have hds := HDS.out
        rw [if_pos rfl, List.append_nil] at hds
        rw [← hds] at hR2
        have hl : (dmgK ns q).length = (dmgK ns (q + 1)).length := by rw [hds]
        have HR2 := Lib.hid hR2; clear hR2 hR HDS hds
        have HL2 := Lib.hid hl; clear hl
        go_wp2
        go_roundw
        case rel => exact ⟨q + 1, _, rfl, by omega, by omega, by go_num, by rw [HL2.out]; exact HR2, hW⟩
        case measure => simp [jInt]; omega
      | false =>
        have hds := HDS.out
        rw [if_neg Bool.false_ne_true] at hds
        have HDS2 := Lib.hid hds; clear hds HDS
        obtain ⟨i, hi1, hi2, hi3, hi4⟩ := info_parts infoInt
        have HI := Lib.hid (show i.zero = some (.int .i64 0) ∧ i.size = 1 ∧ i.bytes = 8 from ⟨hi2, hi3, hi4⟩)
        have HI1 := Lib.hid hi1; clear hi1 hi2 hi3 hi4
        go_wp2_with (refine wpList_append_lies _ rfl _ _ 51 rfl w.heap.size 3 i (.int .i64 0) 1 8 hTints HI1.out HI.out.1 HI.out.2.1 HI.out.2.2 rfl (by decide) _ (dmgK ns q).length _ rfl (own_below hR.out (alloc_below _ _)) ⟨wr.heap.size, 0, none⟩ 1 1 [_] rfl rfl (World.news_of_block (Blk.new wr _ 3)) (by intro u hu; simp at hu; rw [hu]; rfl) (by decide) (by unfold maxLen; omega) (by omega) (by simp; omega) _ rfl ?_)
        intro g5 cap5 w9 m1 m2 m3 m4
        have x2 : Below w.heap.size w w9 := grown_below (base := w.heap.size) (hW.out.alloc hsz _) (own_below hR.out (alloc_below wr _)) m2 (by simp; omega)
        have y2 : w9.ownsRow w.heap.size 3 1 (.slice (some ⟨g5, 0, none⟩) ((dmgK ns q).length + 1) cap5) (dmgK ns (q + 1)).length (intsV (dmgK ns (q + 1))) := by
          rw [HDS2.out]
          have e : intsV (dmgK ns q ++ [q]) = intsV (dmgK ns q) ++ [.int .i64 (q : Int)] := by unfold intsV; rw [List.map_append]; rfl
          rw [e, List.length_append]
          exact m1
        have X2 := Lib.hid x2; clear x2
        have Y2 := Lib.hid y2; clear y2 m1 m2 m3 hR hW
        go_wp2
        go_roundw
        case rel => exact ⟨q + 1, _, rfl, by omega, by omega, by go_num, Y2, X2⟩
        case measure => simp [jInt]; omega
    · obtain rfl : nx = q := by omega
      have hlc : ((nx : Int) < nx) = False := eq_false (by omega)
      go_wp2
      go_ret
      exact ⟨_, rfl, hR.out, hW.out⟩
theorem rroom_any {w : World} {f : Rt} {J : Jf} {j : JS} {d : DS} (h : RJ w f J j) (hd : RD w f d) : Calls Tryz.prog 59 #[.pointer (some ⟨J.g, 0, none⟩)] w fun e w' => e = .returned (.int .i64 (room d j)) ∧ ∃ n, w' = w.drewN n := by
  have cx : w.cell? ⟨J.g, 0, none⟩ = some (.pointer (some ⟨f.p, 0, none⟩)) := h.head.cell rfl
  have cy : w.cell? ⟨J.g, 5, none⟩ = some (.int .i64 j.fin) := h.head.cell rfl
  have h1 := h.fin
  have h2 := hd.ok.most
  unfold room
  go_enter Tryz.func59, Tryz.ntmps59
  have hlen : ∀ n, Calls Tryz.prog 52 #[.pointer (some ⟨f.p, 0, none⟩)] (w.drewN n) fun e w' => e = .returned (.int .i64 d.s.length) ∧ w' = w.drewN n := fun n => rlen_any f d _ (hd.below (below_drewN (Below.refl _ w) n))
  have HL := Lib.hid hlen; clear hlen
  go_wp2_with fail
  refine wp_region_quiet_lit (by kernel_rfl) (by kernel_rfl) ?_
  repeat (go_big_quiet_step (first | exact Calls.quiet_of_same (HL.out _) | rfl))
  refine wpQuiet_nil ?_
  rintro _ ⟨n, rfl⟩
  go_wp2
  go_ret
  exact ⟨rfl, n, rfl⟩
end Go.Proofs.YtbmnbdkbgpajeaaGreatDoor
end
/- journal: two lists that are the same, compared by the reference. -/
section
namespace Go.Proofs.YtbmnbdkbgpajeaaGreatDoor
open Go.RowKit Go.Own Go.Jn Go.Disk Go.BigFrame Go.Sha
theorem sameN_any (l : List Nat) (u v : Value) (w : World) (hu : Sl w 1 u l.length (intsV l)) (hv : Sl w 1 v l.length (intsV l)) (hm : l.length ≤ 1000000) : Calls Tryz.prog 23 #[u, v] w fun e w' => e = .returned (.bool true) ∧ Below w.heap.size w w' := by
  obtain ⟨sa, ca, rfl, _⟩ := sl_slice hu
  obtain ⟨sb, cb, rfl, _⟩ := sl_slice hv
  have hl : (l.map fun n : Nat => (n : Int)).length = l.length := by simp
  have e : intsV l = (l.map fun n : Nat => (n : Int)).map (.int .i64) := by simp [intsV]
  rw [e] at hu hv
  rw [← hl] at hu hv ⊢
  refine (sameInts_any _ _ sa sb ca cb w hu hv (.inl (by rw [hl]; exact hm))).mono ?_
  rintro e w' ⟨rfl, hb⟩
  exact ⟨by rw [beq_self_eq_true], hb⟩
theorem sameT_any (l : List (List UInt8)) (u v : Value) (w : World) (hu : Sl w 1 u l.length (l.map str)) (hv : Sl w 1 v l.length (l.map str)) (hm : l.length ≤ 1000000) : Calls Tryz.prog 20 #[u, v] w fun e w' => e = .returned (.bool true) ∧ Below w.heap.size w w' := by
  obtain ⟨sa, ca, rfl, _⟩ := sl_slice hu
  obtain ⟨sb, cb, rfl, _⟩ := sl_slice hv
  refine (sameTexts_any l l sa sb ca cb w hu hv (.inl hm)).mono ?_
  rintro e w' ⟨rfl, hb⟩
  exact ⟨by rw [beq_self_eq_true], hb⟩
end Go.Proofs.YtbmnbdkbgpajeaaGreatDoor
end
/- journal: same: a journal and the reference's, both of one disk. -/
section
namespace Go.Proofs.YtbmnbdkbgpajeaaGreatDoor
open Go.RowKit Go.Own Go.Jn Go.Disk Go.BigFrame Go.Sha
attribute [local irreducible] SqW
set_option maxRecDepth 100000 in
set_option maxHeartbeats 4000000 in
theorem same_any (w : World) (f : Ft) (r : Rt) (J R : Jf) (j : JS) (d : DS) (hJ : JM w f J j) (hP : PD w f d) (hR : RJ w r R j) (hD : RD w r d) :
    Calls Tryz.prog 14 #[.pointer (some ⟨J.g, 0, none⟩), .pointer (some ⟨R.g, 0, none⟩)] w fun e w' => e = .returned (.bool true) ∧ Below w.heap.size w w' := by
  have hnl : (nums j).length = j.rs.length := by simp [nums]
  have htl : (texts j).length = j.rs.length := by simp [texts]
  have hfw := hJ.few
  have hnx := hJ.next
  have hdl : (damaged j).length ≤ 10000 := by have : damaged j = dmgK (nums j) j.next := rfl; have h2 := dmgK_le (nums j) j.next; rw [this]; omega
  have HNL := Lib.hid hnl; clear hnl
  have HTL := Lib.hid htl; clear htl
  have HJ := Lib.hid hJ; clear hJ
  have HP := Lib.hid hP; clear hP
  have HR := Lib.hid hR; clear hR
  have HD := Lib.hid hD; clear hD
  go_enter Tryz.func14, Tryz.ntmps14
  go_upto_region 3 with (fail)
  refine wp_region_sqB 49 [1, 5, 6, 9, 13, 14, 18, 20, 21, 25, 29, 30, 34, 38, 43, 45] (fun i v W => match i with
    | 1 => ∃ sa ca, v = .slice sa (nums j).length ca ∧ Sl W 1 v (nums j).length (intsV (nums j))
    | 5 => v = R.vn
    | 6 => v = .bool true
    | 9 => ∃ sa ca, v = .slice sa (texts j).length ca ∧ Sl W 1 v (texts j).length ((texts j).map str)
    | 13 => v = R.vt
    | 14 => v = .bool true
    | 18 => ∃ sa ca, v = .slice sa (damaged j).length ca ∧ Sl W 1 v (damaged j).length (intsV (damaged j))
    | 20 => ∃ sa ca, v = .slice sa (damaged j).length ca ∧ Sl W 1 v (damaged j).length (intsV (damaged j))
    | 21 => v = .bool true
    | 25 => ∃ sa ca, v = .slice sa (j.bad).length ca ∧ Sl W 1 v (j.bad).length (intsV j.bad)
    | 29 => v = R.vb
    | 30 => v = .bool true
    | 34 => v = .int .i64 j.next
    | 38 => v = .int .i64 j.next
    | 43 => v = .int .i64 (room d j)
    | 45 => v = .int .i64 (room d j)
    | _ => True) (by kernel_rfl) (by kernel_rfl) ?stable ?main
  case stable =>
    intro i v W W' h hb
    match i, h with
    | 0, h => exact h
    | 1, h => exact (by obtain ⟨sa, ca, h1, h2⟩ := h; exact ⟨sa, ca, h1, h2.below hb⟩)
    | 2, h => exact h
    | 3, h => exact h
    | 4, h => exact h
    | 5, h => exact h
    | 6, h => exact h
    | 7, h => exact h
    | 8, h => exact h
    | 9, h => exact (by obtain ⟨sa, ca, h1, h2⟩ := h; exact ⟨sa, ca, h1, h2.below hb⟩)
    | 10, h => exact h
    | 11, h => exact h
    | 12, h => exact h
    | 13, h => exact h
    | 14, h => exact h
    | 15, h => exact h
    | 16, h => exact h
    | 17, h => exact h
    | 18, h => exact (by obtain ⟨sa, ca, h1, h2⟩ := h; exact ⟨sa, ca, h1, h2.below hb⟩)
    | 19, h => exact h
    | 20, h => exact (by obtain ⟨sa, ca, h1, h2⟩ := h; exact ⟨sa, ca, h1, h2.below hb⟩)
    | 21, h => exact h
    | 22, h => exact h
    | 23, h => exact h
    | 24, h => exact h
    | 25, h => exact (by obtain ⟨sa, ca, h1, h2⟩ := h; exact ⟨sa, ca, h1, h2.below hb⟩)
    | 26, h => exact h
    | 27, h => exact h
    | 28, h => exact h
    | 29, h => exact h
    | 30, h => exact h
    | 31, h => exact h
    | 32, h => exact h
    | 33, h => exact h
    | 34, h => exact h
    | 35, h => exact h
    | 36, h => exact h
    | 37, h => exact h
    | 38, h => exact h
    | 39, h => exact h
    | 40, h => exact h
    | 41, h => exact h
    | 42, h => exact h
    | 43, h => exact h
    | 44, h => exact h
    | 45, h => exact h
    | _ + 46, _ => exact trivial
  simp only [List.take_succ_cons, List.take_zero, List.drop_succ_cons, List.drop_zero]
  repeat (refine sqw_quiet rfl rfl (ExtB.refl _) ?_; go_big_quiet_step (rfl); refine wpQuiet_nil ?_)
  refine sqw_postY rfl rfl rfl ?_ ?_
  · intro W1 hb hf
    refine yields_call rfl (by kernel_rfl) rfl rfl ((numbers_any (HJ.out.below ((Below.refl w.heap.size w).drew.trans hb.below))).mono ?_)
    rintro e w' ⟨v, rfl, h1, h2⟩
    obtain ⟨sa, ca, rfl, _⟩ := own_slice h1
    exact ⟨_, rfl, ⟨sa, ca, rfl, Sl.of_owns h1⟩, h2⟩
  intro v Wj hv
  obtain ⟨sa1, ca1, rfl, _⟩ := hv
  simp only [Act.put, List.setIfInBounds_toArray, List.set_cons_zero, List.set_cons_succ]
  repeat (refine sqw_quiet rfl rfl (ExtB.refl _) ?_; go_big_quiet_step (rfl); refine wpQuiet_nil ?_)
  refine sqw_postY rfl rfl rfl ?_ ?_
  · intro W1 hb hf
    have cx : W1.cell? ⟨R.g, 1, none⟩ = some (R.vn) := (HR.out.head.below ((Below.refl w.heap.size w).drew.trans hb.below) HR.out.head.lt).cell rfl
    refine yields_value (v := R.vn) (w' := W1) ?_ ⟨rfl, ExtB.refl _⟩
    go_simp
  intro v Wj hv
  obtain rfl : v = R.vn := hv
  simp only [Act.put, List.setIfInBounds_toArray, List.set_cons_zero, List.set_cons_succ]
  repeat (refine sqw_quiet rfl rfl (ExtB.refl _) ?_; go_big_quiet_step (rfl); refine wpQuiet_nil ?_)
  refine sqw_postY rfl rfl rfl ?_ ?_
  · intro W1 hb hf
    have pa := hf 1 18 (by kernel_rfl) rfl rfl (fun o h => by obtain rfl := Option.some.inj h; rfl)
    obtain ⟨xa, xc, ea, sa1⟩ := pa
    cases ea
    refine yields_call rfl (by kernel_rfl) rfl rfl ((sameN_any (nums j) _ _ W1 sa1 (by have := Sl.of_owns (own_below HR.out.rn ((Below.refl w.heap.size w).drew.trans hb.below)); first | exact this | (rw [HNL.out]; exact this)) (by first | omega | (rw [HNL.out]; omega))).mono ?_)
    rintro e w' ⟨rfl, h2⟩
    exact ⟨_, rfl, rfl, h2⟩
  intro v Wj hv
  obtain rfl : v = .bool true := hv
  simp only [Act.put, List.setIfInBounds_toArray, List.set_cons_zero, List.set_cons_succ]
  repeat (refine sqw_quiet rfl rfl (ExtB.refl _) ?_; go_big_quiet_step (rfl); refine wpQuiet_nil ?_)
  refine sqw_postY rfl rfl rfl ?_ ?_
  · intro W1 hb hf
    refine yields_call rfl (by kernel_rfl) rfl rfl ((texts_any (HJ.out.below ((Below.refl w.heap.size w).drew.trans hb.below))).mono ?_)
    rintro e w' ⟨v, rfl, h1, h2⟩
    obtain ⟨sa, ca, rfl, _⟩ := own_slice h1
    exact ⟨_, rfl, ⟨sa, ca, rfl, Sl.of_owns h1⟩, h2⟩
  intro v Wj hv
  obtain ⟨sa9, ca9, rfl, _⟩ := hv
  simp only [Act.put, List.setIfInBounds_toArray, List.set_cons_zero, List.set_cons_succ]
  repeat (refine sqw_quiet rfl rfl (ExtB.refl _) ?_; go_big_quiet_step (rfl); refine wpQuiet_nil ?_)
  refine sqw_postY rfl rfl rfl ?_ ?_
  · intro W1 hb hf
    have cx : W1.cell? ⟨R.g, 2, none⟩ = some (R.vt) := (HR.out.head.below ((Below.refl w.heap.size w).drew.trans hb.below) HR.out.head.lt).cell rfl
    refine yields_value (v := R.vt) (w' := W1) ?_ ⟨rfl, ExtB.refl _⟩
    go_simp
  intro v Wj hv
  obtain rfl : v = R.vt := hv
  simp only [Act.put, List.setIfInBounds_toArray, List.set_cons_zero, List.set_cons_succ]
  repeat (refine sqw_quiet rfl rfl (ExtB.refl _) ?_; go_big_quiet_step (rfl); refine wpQuiet_nil ?_)
  refine sqw_postY rfl rfl rfl ?_ ?_
  · intro W1 hb hf
    have pa := hf 9 26 (by kernel_rfl) rfl rfl (fun o h => by obtain rfl := Option.some.inj h; rfl)
    obtain ⟨xa, xc, ea, sa1⟩ := pa
    cases ea
    refine yields_call rfl (by kernel_rfl) rfl rfl ((sameT_any (texts j) _ _ W1 sa1 (by have := Sl.of_owns (own_below HR.out.rt ((Below.refl w.heap.size w).drew.trans hb.below)); first | exact this | (rw [HTL.out]; exact this)) (by first | omega | (rw [HTL.out]; omega))).mono ?_)
    rintro e w' ⟨rfl, h2⟩
    exact ⟨_, rfl, rfl, h2⟩
  intro v Wj hv
  obtain rfl : v = .bool true := hv
  simp only [Act.put, List.setIfInBounds_toArray, List.set_cons_zero, List.set_cons_succ]
  repeat (refine sqw_quiet rfl rfl (ExtB.refl _) ?_; go_big_quiet_step (rfl); refine wpQuiet_nil ?_)
  refine sqw_postY rfl rfl rfl ?_ ?_
  · intro W1 hb hf
    refine yields_call rfl (by kernel_rfl) rfl rfl ((damaged_any (HJ.out.below ((Below.refl w.heap.size w).drew.trans hb.below))).mono ?_)
    rintro e w' ⟨v, rfl, h1, h2⟩
    obtain ⟨sa, ca, rfl, _⟩ := own_slice h1
    exact ⟨_, rfl, ⟨sa, ca, rfl, Sl.of_owns h1⟩, h2⟩
  intro v Wj hv
  obtain ⟨sa18, ca18, rfl, _⟩ := hv
  simp only [Act.put, List.setIfInBounds_toArray, List.set_cons_zero, List.set_cons_succ]
  repeat (refine sqw_quiet rfl rfl (ExtB.refl _) ?_; go_big_quiet_step (rfl); refine wpQuiet_nil ?_)
  refine sqw_postY rfl rfl rfl ?_ ?_
  · intro W1 hb hf
    refine yields_call rfl (by kernel_rfl) rfl rfl ((rdamaged_any (HR.out.below ((Below.refl w.heap.size w).drew.trans hb.below))).mono ?_)
    rintro e w' ⟨v, rfl, h1, h2⟩
    obtain ⟨sa, ca, rfl, _⟩ := own_slice h1
    exact ⟨_, rfl, ⟨sa, ca, rfl, Sl.of_owns h1⟩, h2⟩
  intro v Wj hv
  obtain ⟨sa20, ca20, rfl, _⟩ := hv
  simp only [Act.put, List.setIfInBounds_toArray, List.set_cons_zero, List.set_cons_succ]
  repeat (refine sqw_quiet rfl rfl (ExtB.refl _) ?_; go_big_quiet_step (rfl); refine wpQuiet_nil ?_)
  refine sqw_postY rfl rfl rfl ?_ ?_
  · intro W1 hb hf
    have pa := hf 18 35 (by kernel_rfl) rfl rfl (fun o h => by obtain rfl := Option.some.inj h; rfl)
    obtain ⟨xa, xc, ea, sa1⟩ := pa
    cases ea
    have pb := hf 20 37 (by kernel_rfl) rfl rfl (fun o h => by obtain rfl := Option.some.inj h; rfl)
    obtain ⟨ya, yc, eb, sb1⟩ := pb
    cases eb
    refine yields_call rfl (by kernel_rfl) rfl rfl ((sameN_any (damaged j) _ _ W1 sa1 sb1 (by first | omega | (rw [HNL.out]; omega))).mono ?_)
    rintro e w' ⟨rfl, h2⟩
    exact ⟨_, rfl, rfl, h2⟩
  intro v Wj hv
  obtain rfl : v = .bool true := hv
  simp only [Act.put, List.setIfInBounds_toArray, List.set_cons_zero, List.set_cons_succ]
  repeat (refine sqw_quiet rfl rfl (ExtB.refl _) ?_; go_big_quiet_step (rfl); refine wpQuiet_nil ?_)
  refine sqw_postY rfl rfl rfl ?_ ?_
  · intro W1 hb hf
    refine yields_call rfl (by kernel_rfl) rfl rfl ((bad_any (HJ.out.below ((Below.refl w.heap.size w).drew.trans hb.below))).mono ?_)
    rintro e w' ⟨v, rfl, h1, h2⟩
    obtain ⟨sa, ca, rfl, _⟩ := own_slice h1
    exact ⟨_, rfl, ⟨sa, ca, rfl, Sl.of_owns h1⟩, h2⟩
  intro v Wj hv
  obtain ⟨sa25, ca25, rfl, _⟩ := hv
  simp only [Act.put, List.setIfInBounds_toArray, List.set_cons_zero, List.set_cons_succ]
  repeat (refine sqw_quiet rfl rfl (ExtB.refl _) ?_; go_big_quiet_step (rfl); refine wpQuiet_nil ?_)
  refine sqw_postY rfl rfl rfl ?_ ?_
  · intro W1 hb hf
    have cx : W1.cell? ⟨R.g, 3, none⟩ = some (R.vb) := (HR.out.head.below ((Below.refl w.heap.size w).drew.trans hb.below) HR.out.head.lt).cell rfl
    refine yields_value (v := R.vb) (w' := W1) ?_ ⟨rfl, ExtB.refl _⟩
    go_simp
  intro v Wj hv
  obtain rfl : v = R.vb := hv
  simp only [Act.put, List.setIfInBounds_toArray, List.set_cons_zero, List.set_cons_succ]
  repeat (refine sqw_quiet rfl rfl (ExtB.refl _) ?_; go_big_quiet_step (rfl); refine wpQuiet_nil ?_)
  refine sqw_postY rfl rfl rfl ?_ ?_
  · intro W1 hb hf
    have pa := hf 25 42 (by kernel_rfl) rfl rfl (fun o h => by obtain rfl := Option.some.inj h; rfl)
    obtain ⟨xa, xc, ea, sa1⟩ := pa
    cases ea
    refine yields_call rfl (by kernel_rfl) rfl rfl ((sameN_any (j.bad) _ _ W1 sa1 (by have := Sl.of_owns (own_below HR.out.rb ((Below.refl w.heap.size w).drew.trans hb.below)); first | exact this | (rw [HNL.out]; exact this)) (by first | omega | (rw [HNL.out]; omega))).mono ?_)
    rintro e w' ⟨rfl, h2⟩
    exact ⟨_, rfl, rfl, h2⟩
  intro v Wj hv
  obtain rfl : v = .bool true := hv
  simp only [Act.put, List.setIfInBounds_toArray, List.set_cons_zero, List.set_cons_succ]
  repeat (refine sqw_quiet rfl rfl (ExtB.refl _) ?_; go_big_quiet_step (rfl); refine wpQuiet_nil ?_)
  refine sqw_postY rfl rfl rfl ?_ ?_
  · intro W1 hb hf
    refine yields_call rfl (by kernel_rfl) rfl rfl ((next_any (HJ.out.below ((Below.refl w.heap.size w).drew.trans hb.below))).mono ?_)
    rintro e w' ⟨rfl, h2⟩
    exact ⟨_, rfl, rfl, by first | (rw [h2]; exact ExtB.refl _) | (obtain ⟨n, rfl⟩ := h2; exact below_drewN (Below.refl _ _) n)⟩
  intro v Wj hv
  obtain rfl : v = .int .i64 j.next := hv
  simp only [Act.put, List.setIfInBounds_toArray, List.set_cons_zero, List.set_cons_succ]
  repeat (refine sqw_quiet rfl rfl (ExtB.refl _) ?_; go_big_quiet_step (rfl); refine wpQuiet_nil ?_)
  refine sqw_postY rfl rfl rfl ?_ ?_
  · intro W1 hb hf
    have cx : W1.cell? ⟨R.g, 4, none⟩ = some (.int .i64 j.next) := (HR.out.head.below ((Below.refl w.heap.size w).drew.trans hb.below) HR.out.head.lt).cell rfl
    refine yields_value (v := .int .i64 j.next) (w' := W1) ?_ ⟨rfl, ExtB.refl _⟩
    go_simp
  intro v Wj hv
  obtain rfl : v = .int .i64 j.next := hv
  simp only [Act.put, List.setIfInBounds_toArray, List.set_cons_zero, List.set_cons_succ]
  repeat (refine sqw_quiet rfl rfl (ExtB.refl _) ?_; go_big_quiet_step (rfl); refine wpQuiet_nil ?_)
  refine sqw_postY rfl rfl rfl ?_ ?_
  · intro W1 hb hf
    refine yields_call rfl (by kernel_rfl) rfl rfl ((room_any (HJ.out.below ((Below.refl w.heap.size w).drew.trans hb.below)) (HP.out.below ((Below.refl w.heap.size w).drew.trans hb.below))).mono ?_)
    rintro e w' ⟨rfl, h2⟩
    exact ⟨_, rfl, rfl, by first | (rw [h2]; exact ExtB.refl _) | (obtain ⟨n, rfl⟩ := h2; exact below_drewN (Below.refl _ _) n)⟩
  intro v Wj hv
  obtain rfl : v = .int .i64 (room d j) := hv
  simp only [Act.put, List.setIfInBounds_toArray, List.set_cons_zero, List.set_cons_succ]
  repeat (refine sqw_quiet rfl rfl (ExtB.refl _) ?_; go_big_quiet_step (rfl); refine wpQuiet_nil ?_)
  refine sqw_postY rfl rfl rfl ?_ ?_
  · intro W1 hb hf
    refine yields_call rfl (by kernel_rfl) rfl rfl ((rroom_any (HR.out.below ((Below.refl w.heap.size w).drew.trans hb.below)) (HD.out.below ((Below.refl w.heap.size w).drew.trans hb.below))).mono ?_)
    rintro e w' ⟨rfl, h2⟩
    exact ⟨_, rfl, rfl, by first | (rw [h2]; exact ExtB.refl _) | (obtain ⟨n, rfl⟩ := h2; exact below_drewN (Below.refl _ _) n)⟩
  intro v Wj hv
  obtain rfl : v = .int .i64 (room d j) := hv
  simp only [Act.put, List.setIfInBounds_toArray, List.set_cons_zero, List.set_cons_succ]
  repeat (refine sqw_quiet rfl rfl (ExtB.refl _) ?_; go_big_quiet_step (rfl); refine wpQuiet_nil ?_)
  refine sqw_nil ?_
  intro w5 hx hf
  clear hf
  have HX := Lib.hid ((Below.refl w.heap.size w).drew.trans hx.below); clear hx
  go_wp2
  go_ret
  exact ⟨by simp, HX.out⟩
end Go.Proofs.YtbmnbdkbgpajeaaGreatDoor
end
/- Appends of a slice that may be empty. Any program. -/
section
namespace Go.Own
open Go.RowKit
/-- 'append(s, x...)' with no element: s, as it was. -/
theorem wpList_append_zero {P : Program} {w : World} {ops : Array Oper} {rest : List Oper} {o : Oper} {a : Act} {Q : Exit → Act → World → Prop} (hgd : o.guard = none) (s x : Operand) (t : TypeId)
    (ho : o.op = .call { callee := .builtin .append, args := #[s, x], argTypes := #[t, t] })
    (base : Nat) (e : TypeId) (i : TypeInfo) (size : Nat) (ht : P.underlying t = some (.slice e)) (hi : P.info? e = some i)
    (v : Value) (n : Nat) (xs : List Value) (hs : a.eval s = v) (hown : w.ownsRow base e size v n xs) (sx : Option Addr) (cx : Nat) (hx : a.eval x = .slice sx 0 cx)
    (h : wpList P ops Q rest (a.put o.dst v) w) : wpList P ops Q (o :: rest) a w :=
  wpList_plain hgd fun _ hK => by
    have hl : ∀ (y : Addr), (loadCells y 0).run P w = .ok #[] w := fun y => by simpa using run_loadCells_list (P := P) w y [] (by simp)
    have hf : (Builtin.firstCells i.size 0 (.slice sx 0 cx)).run P w = .ok #[] w := by
      cases sx with
      | none => rfl
      | some y => simp only [Builtin.firstCells, Nat.zero_mul]; exact hl y
    have hr : (Builtin.append_ #[t, t] o.type #[v, .slice sx 0 cx]).run P w = .ok v w := by
      rcases hown.2 with ⟨rfl, rfl⟩ | ⟨g, cap, cur, rfl, _, _, hnc, _⟩
      · simp [Builtin.append_, run_underlying ht, sizeOf, typeInfo, hi, Builtin.lenOf, hf, Sem.run_bind]
      · simp [Builtin.append_, run_underlying ht, sizeOf, typeInfo, hi, Builtin.lenOf, hf, hnc, Sem.run_bind, storeCells]
    unfold Oper.wp execOp
    simp only [ho, resolve, invoke, builtin, Sem.run_bind, Sem.run_pure, Result.andThen_ok, List.map_toArray, List.map_cons, List.map_nil, hs, hx, hr]
    exact hK _ _ h
/-- 'append(s, x...)', s the call's own, x any slice of numbers, which reads if it is not empty. -/
theorem wpList_append_sz {P : Program} {w : World} {ops : Array Oper} {rest : List Oper} {o : Oper} {a : Act} {Q : Exit → Act → World → Prop} (hgd : o.guard = none) (s x : Operand) (t : TypeId)
    (ho : o.op = .call { callee := .builtin .append, args := #[s, x], argTypes := #[t, t] })
    (base : Nat) (e : TypeId) (z : Value) (bytes : Nat) (ht : P.underlying t = some (.slice e)) (hi : (P.info? e).map (fun i => (i.zero, i.size, i.bytes)) = some (some z, 1, bytes))
    (hzs : z.cells.size = 1)
    (v : Value) (n : Nat) (xs : List Value) (hs : a.eval s = v) (hown : w.ownsRow base e 1 v n xs)
    (sx : Option Addr) (m cx : Nat) (news : List Value) (hx : a.eval x = .slice sx m cx) (hsl : 0 < m → Sl w 1 (.slice sx m cx) m news) (hnl : news.length = m) (h1 : ∀ u ∈ news, u.oneCell' = true)
    (h63 : n + m ≤ maxLen) (hbytes : (n + m) * bytes ≤ 140737488355328) (hbase : base ≤ w.heap.size)
    (h : ∀ v' w', w'.ownsRow base e 1 v' (n + m) (xs ++ news) → w.grownBy w' v.ownBlock → wpList P ops Q rest (a.put o.dst v') w') : wpList P ops Q (o :: rest) a w := by
  rcases Nat.eq_zero_or_pos m with h0 | h0
  · subst h0
    have hn : news = [] := List.eq_nil_of_length_eq_zero hnl
    subst hn
    obtain ⟨i, hi1, hi2, hi3, hi4⟩ := info_parts hi
    exact wpList_append_zero hgd s x t ho base e i 1 ht hi1 v n xs hs hown sx cx hx (h v w (by simpa using hown) (World.grownBy.refl _ _))
  · exact wpList_append_sl hgd s x t ho base e z 1 bytes ht hi hzs (by decide) v n xs hs hown _ m news hx (hsl h0) h1 h63 hbytes hbase h
end Go.Own
namespace Go.Own
open Go.RowKit
/-- 'append(s, x...)', s the call's own, x any slice of one-cell values: where the row then lies. -/
theorem wpList_append_szg {P : Program} {w : World} {ops : Array Oper} {rest : List Oper} {o : Oper} {a : Act} {Q : Exit → Act → World → Prop} (hgd : o.guard = none) (s x : Operand) (t : TypeId)
    (ho : o.op = .call { callee := .builtin .append, args := #[s, x], argTypes := #[t, t] })
    (base : Nat) (e : TypeId) (z : Value) (bytes : Nat) (ht : P.underlying t = some (.slice e)) (hi : (P.info? e).map (fun i => (i.zero, i.size, i.bytes)) = some (some z, 1, bytes))
    (hzs : z.cells.size = 1)
    (v : Value) (n : Nat) (xs : List Value) (hs : a.eval s = v) (hown : w.ownsRow base e 1 v n xs)
    (sx : Option Addr) (m cx : Nat) (news : List Value) (hx : a.eval x = .slice sx m cx) (hsl : 0 < m → Sl w 1 (.slice sx m cx) m news) (hnl : news.length = m) (h1 : ∀ u ∈ news, u.oneCell' = true)
    (h63 : n + m ≤ maxLen) (hbytes : (n + m) * bytes ≤ 140737488355328) (hbase : base ≤ w.heap.size)
    (h : ∀ v' w', w'.ownsRow base e 1 v' (n + m) (xs ++ news) → w.grownBy w' v.ownBlock → (∀ g, v'.ownBlock = some g → v.ownBlock = some g ∨ w.heap.size ≤ g) → wpList P ops Q rest (a.put o.dst v') w') : wpList P ops Q (o :: rest) a w := by
  obtain ⟨i, hi1, hi2, hi3, hi4⟩ := info_parts hi
  rcases Nat.eq_zero_or_pos m with h0 | h0
  · subst h0
    have hn : news = [] := List.eq_nil_of_length_eq_zero hnl
    subst hn
    exact wpList_append_zero hgd s x t ho base e i 1 ht hi1 v n xs hs hown sx cx hx (h v w (by simpa using hown) (World.grownBy.refl _ _) fun g hg => .inl hg)
  · obtain ⟨b, off, rfl, hC⟩ : ∃ b off, sx = some ⟨b, off, none⟩ ∧ Cells w b off news := by
      obtain ⟨_, ⟨h2, h3⟩ | ⟨b, off, cap', h2, _, _, h5, _⟩⟩ := hsl h0
      · omega
      · injection h2 with h2
        exact ⟨b, off, h2, h5⟩
    refine wpList_append_lies w hgd s x t ho base e i z 1 bytes ht hi1 hi2 hi3 hi4 hzs (by decide) v n xs hs hown ⟨b, off, none⟩ m cx news hx (by rw [hnl, Nat.mul_one]) (fun j u hj => by rw [Addr.add_lit]; exact hC j u hj) h1 h0 h63 hbytes hbase w.heap.size rfl ?_
    intro g cap w' h2 h3 h4 _
    refine h _ w' h2 h3 fun g' hg' => ?_
    obtain rfl : g = g' := by simpa [Value.ownBlock] using hg'
    exact h4.imp id fun e => by rw [e]; exact Nat.le_refl _
end Go.Own
end

/- journal: few; a disk, its journal, and those of the reference, side by side. -/
import Derived.Test.YtbmnbdkbgpajeaaGreatDoorZe30
import Derived.Test.YtbmnbdkbgpajeaaGreatDoorZe31
import Derived.Deep.CutBlock
/- journal: few; a disk, its journal, and those of the reference, side by side. -/
section
namespace Go.Proofs.YtbmnbdkbgpajeaaGreatDoor
open Go.RowKit Go.Own Go.Jn Go.Disk Go.BigFrame Go.Sha
attribute [local irreducible] SqW
theorem take_all {α : Type} (p : α → Bool) (l : List α) (k : Nat) (h : k < l.length) : (l.take (k + 1)).all p = ((l.take k).all p && p l[k]) := by
  rw [List.take_succ_eq_append_getElem h, List.all_append]
  simp
set_option maxRecDepth 100000 in
theorem few_any (w : World) (l : List Stm) (sa : Option Addr) (ca : Nat) (hl : StAt w (.slice sa l.length ca) l) :
    Calls Tryz.prog 29 #[.slice sa l.length ca] w fun e w' => e = .returned (.bool (l.all (fun x => decide (x.picks.length ≤ 200)) && decide (l.length ≤ 30))) ∧ Below w.heap.size w w' := by
  have hlm : l.length ≤ 9223372036854775807 := by
    obtain ⟨_, ⟨_, h0⟩ | ⟨b, off, cap', _, hc1, hc2, _, _⟩⟩ := hl.sl
    · omega
    · unfold maxLen at hc2; omega
  have HST := Lib.hid hl; clear hl
  go_enter Tryz.func29, Tryz.ntmps29
  go_wp2
  go_loopw [7] (fun c wr => ∃ k : Nat, k ≤ l.length ∧ c = .int .i64 k ∧ Hid ((l.take k).all (fun x => decide (x.picks.length ≤ 200)) = true) ∧ Hid (Below w.heap.size w wr)) (fun c _ => l.length - (jInt c).toNat)
  case atStart => exact ⟨0, Nat.zero_le _, rfl, Lib.hid rfl, Lib.hid (Below.refl _ _)⟩
  case round =>
    obtain ⟨k, hk, rfl, HA, HB⟩ := hrel
    by_cases hkl : k < l.length
    · have hki : ((k : Int) < l.length) = True := eq_true (by omega)
      have hk1 : (k : Int) + 1 ≤ 9223372036854775807 := by omega
      obtain ⟨x, hx⟩ : ∃ x, l[k]? = some x := ⟨l[k], by simp [hkl]⟩
      have hxe : l[k] = x := by rw [List.getElem?_eq_getElem hkl] at hx; exact Option.some.inj hx
      obtain ⟨b, off, cap, hv, hC0, hlt⟩ := HST.out.cells hx
      injection hv with hv1 hv2 hv3
      subst hv1
      obtain rfl : ca = cap := hv3
      clear hv2
      have hC := hC0.below HB.out hlt
      have HX := Lib.hid hx; clear hx hC0
      have hta := take_all (fun x : Stm => decide (x.picks.length ≤ 200)) l k hkl
      rw [HA.out, Bool.true_and, hxe] at hta
      have HTA := Lib.hid hta; clear hta
      have HXE := Lib.hid hxe; clear hxe
      go_wp2_with (first | (refine wpList_load_agg (stcells x) hC rfl rfl rfl aggSt infoSt ?_) | (refine wpList_store_blk (ty := 56) (n := 6) (vs := stcells x) (Blk.new _ _ 56) rfl rfl rfl rfl rfl infoSt rfl (by simp) (by intro u hu; simp [stcells] at hu; rcases hu with rfl | rfl | rfl | rfl | rfl | rfl <;> rfl) ?_))
      intro w3 hb3 ho3
      have b3 : Below w.heap.size w w3 := HB.out.trans ((ho3.below (alloc_below _ _) (Nat.le_refl _)).mono HB.out.size)
      obtain ⟨T, hT⟩ : ∃ T, T = wr.heap.size := ⟨_, rfl⟩
      have k3 : Blk w3 T (stcells x) 56 := by rw [hT]; exact hb3
      rw [← hT]
      have c5 : w3.cell? ⟨T, 5, none⟩ = some (.slice x.sp x.picks.length x.pc) := k3.cell rfl
      have HB3 := Lib.hid b3; clear b3 hb3 ho3 k3 hT hC
      by_cases hp : x.picks.length ≤ 200
      · have hpi : ((200 : Int) < x.picks.length) = False := eq_false (by omega)
        have ht2 : (l.take (k + 1)).all (fun x => decide (x.picks.length ≤ 200)) = true := by rw [HTA.out]; exact decide_eq_true hp
        have HT2 := Lib.hid ht2; clear ht2
        go_wp2
        go_roundw
        case rel => exact ⟨k + 1, by omega, by go_num, HT2, HB3⟩
        case measure => simp [jInt]; omega
      · have hpi : ((200 : Int) < x.picks.length) = True := eq_true (by omega)
        have hf : l.all (fun x => decide (x.picks.length ≤ 200)) = false := by
          rw [Bool.eq_false_iff]
          intro ha
          rw [List.all_eq_true] at ha
          have h5 := ha _ (List.getElem_mem hkl)
          rw [HXE.out] at h5
          exact hp (by simpa using h5)
        have HF := Lib.hid hf; clear hf
        go_wp2
        go_ret
        rw [HF.out, Bool.false_and]
        exact ⟨rfl, HB3.out⟩
    · obtain rfl : k = l.length := by omega
      have hki : ((l.length : Int) < l.length) = False := eq_false (by omega)
      have hg := HA.out
      rw [List.take_length] at hg
      have HG := Lib.hid hg; clear hg
      by_cases h30 : l.length ≤ 30
      · have h30i : ((l.length : Int) ≤ 30) = True := eq_true (by omega)
        go_wp2
        go_ret
        rw [HG.out, decide_eq_true h30]
        exact ⟨rfl, HB.out⟩
      · have h30i : ((l.length : Int) ≤ 30) = False := eq_false (by omega)
        go_wp2
        go_ret
        rw [HG.out, decide_eq_false h30]
        exact ⟨rfl, HB.out⟩
/-- behind the program's part of a step -/
structure Half (w W : World) (f : Ft) (r : Rt) (J R : Jf) (j' : JS) (d' : DS) (j : JS) (d : DS) : Prop where
  pd : PD W f d'
  jm : JM W f J j'
  rd : RD W r d
  rj : RJ W r R j
  b : Below w.heap.size w W
  hf : ∀ x ∈ f.all ++ J.all, w.heap.size ≤ x
  hr : ∀ x ∈ r.all ++ R.all, w.heap.size ≤ x
  dis : ∀ x ∈ f.all ++ J.all, x ∉ r.all ++ R.all
abbrev Mt (w W : World) (f : Ft) (r : Rt) (J R : Jf) (j : JS) (d : DS) : Prop := Half w W f r J R j d j d
theorem Half.below {w W W' : World} {f : Ft} {r : Rt} {J R : Jf} {j' j : JS} {d' d : DS} (h : Half w W f r J R j' d' j d) (hb : Below W.heap.size W W') : Half w W' f r J R j' d' j d :=
  ⟨h.pd.below hb, h.jm.below hb, h.rd.below hb, h.rj.below hb, h.b.trans (hb.mono h.b.size), h.hf, h.hr, h.dis⟩
theorem Half.ltF {w W : World} {f : Ft} {r : Rt} {J R : Jf} {j' j : JS} {d' d : DS} (h : Half w W f r J R j' d' j d) : ∀ x ∈ f.all ++ J.all, x < W.heap.size := fun x hx => by
  rcases List.mem_append.1 hx with hx | hx
  · exact h.pd.lt x hx
  · exact (h.jm.lo x hx).2
theorem Half.ltR {w W : World} {f : Ft} {r : Rt} {J R : Jf} {j' j : JS} {d' d : DS} (h : Half w W f r J R j' d' j d) : ∀ x ∈ r.all ++ R.all, x < W.heap.size := fun x hx => by
  rcases List.mem_append.1 hx with hx | hx
  · exact h.rd.lt x hx
  · exact (h.rj.lo x hx).2
/-- the program's part -/
theorem Half.one {w W W' : World} {f : Ft} {r : Rt} {J J' R : Jf} {j j' : JS} {d d' : DS} (h : Mt w W f r J R j d) (hpd : PD W' f d') (hjm : JM W' f J' j') (hc : Chg (f.all ++ J.all) W W') (hall : ∀ x ∈ J'.all, x ∈ J.all ∨ W.heap.size ≤ x) :
    Half w W' f r J' R j' d' j d := by
  have hsz := h.b.size
  refine ⟨hpd, hjm, h.rd.chg hc fun x hx hm => h.dis x hm (List.mem_append_left _ hx), h.rj.chg hc fun x hx hm => h.dis x hm (List.mem_append_right _ hx), h.b.trans (hc.below h.b.size h.hf), fun x hx => ?_, h.hr, fun x hx hm => ?_⟩
  · rcases List.mem_append.1 hx with hx | hx
    · exact h.hf x (List.mem_append_left _ hx)
    · rcases hall x hx with hx | hx
      · exact h.hf x (List.mem_append_right _ hx)
      · omega
  · rcases List.mem_append.1 hx with hx | hx
    · exact h.dis x (List.mem_append_left _ hx) hm
    · rcases hall x hx with hx | hx
      · exact h.dis x (List.mem_append_right _ hx) hm
      · have := h.ltR x hm
        omega
/-- the reference's part -/
theorem Half.two {w W W' : World} {f : Ft} {r : Rt} {J R R' : Jf} {j j' : JS} {d d' : DS} (h : Half w W f r J R j' d' j d) (hrd : RD W' r d') (hrj : RJ W' r R' j') (hc : Chg (r.all ++ R.all) W W') (hall : ∀ x ∈ R'.all, x ∈ R.all ∨ W.heap.size ≤ x) :
    Mt w W' f r J R' j' d' := by
  have hsz := h.b.size
  refine ⟨h.pd.chg hc fun x hx hm => h.dis x (List.mem_append_left _ hx) hm, h.jm.chg hc fun x hx hm => h.dis x (List.mem_append_right _ hx) hm, hrd, hrj, h.b.trans (hc.below h.b.size h.hr), h.hf, fun x hx => ?_, fun x hx hm => ?_⟩
  · rcases List.mem_append.1 hx with hx | hx
    · exact h.hr x (List.mem_append_left _ hx)
    · rcases hall x hx with hx | hx
      · exact h.hr x (List.mem_append_right _ hx)
      · omega
  · rcases List.mem_append.1 hm with hm | hm
    · exact h.dis x hx (List.mem_append_left _ hm)
    · rcases hall x hm with hm | hm
      · exact h.dis x hx (List.mem_append_right _ hm)
      · have := h.ltF x hx
        omega
/-- the disk alone -/
theorem Half.disk1 {w W W' : World} {f : Ft} {r : Rt} {J R : Jf} {j : JS} {d d' : DS} (h : Mt w W f r J R j d) (hpd : PD W' f d') (hc : Chg f.all W W') : Half w W' f r J R j d' j d :=
  h.one hpd (h.jm.chg hc h.jm.apart) (hc.mono fun x hx => List.mem_append_left _ hx) fun x hx => .inl hx
theorem Half.disk2 {w W W' : World} {f : Ft} {r : Rt} {J R : Jf} {j : JS} {d d' : DS} (h : Half w W f r J R j d' j d) (hrd : RD W' r d') (hc : Chg r.all W W') : Mt w W' f r J R j d' :=
  h.two hrd (h.rj.chg hc h.rj.apart) (hc.mono fun x hx => List.mem_append_left _ hx) fun x hx => .inl hx
theorem Half.bo {w W : World} {f : Ft} {r : Rt} {J R : Jf} {j : JS} {d : DS} (h : Mt w W f r J R j d) : Bo w W f r d :=
  ⟨h.pd, h.rd, h.b, fun x hx => h.hf x (List.mem_append_left _ hx), fun x hx => h.hr x (List.mem_append_left _ hx), fun x hx hm => h.dis x (List.mem_append_left _ hx) (List.mem_append_left _ hm)⟩
/-- two new journals -/
theorem Mt.opened {w W W1 W2 : World} {f : Ft} {r : Rt} {J R : Jf} {j : JS} {d : DS} (h : Bo w W f r d) (hj : JM W1 f J j) (hJ : W.heap.size ≤ J.g) (b1 : Below W.heap.size W W1) (hr : RJ W2 r R j) (hR : W1.heap.size ≤ R.g) (b2 : Below W1.heap.size W1 W2) : Mt w W2 f r J R j d := by
  have hsz := h.b.size
  have hB := (h.below b1).below b2
  have h1 := b1.size
  refine ⟨hB.pd, hj.below b2, hB.rd, hr, hB.b, fun x hx => ?_, fun x hx => ?_, fun x hx hm => ?_⟩
  · rcases List.mem_append.1 hx with hx | hx
    · exact h.hf x hx
    · have := (hj.lo x hx).1; omega
  · rcases List.mem_append.1 hx with hx | hx
    · exact h.hr x hx
    · have := (hr.lo x hx).1; omega
  · rcases List.mem_append.1 hx with hx | hx
    · rcases List.mem_append.1 hm with hm | hm
      · exact h.dis x hx hm
      · have := (hr.lo x hm).1; have := h.pd.lt x hx; omega
    · rcases List.mem_append.1 hm with hm | hm
      · have := (hj.lo x hx).1; have := h.rd.lt x hm; omega
      · have := (hj.lo x hx).2; have := (hr.lo x hm).1; omega
end Go.Proofs.YtbmnbdkbgpajeaaGreatDoor
end
/- journal: the law JournalMatchesSpec, walked. -/
section
namespace Go.Proofs.YtbmnbdkbgpajeaaGreatDoor
open Go.RowKit Go.Own Go.Jn Go.Disk Go.BigFrame Go.Sha
attribute [local irreducible] SqW
attribute [local irreducible] SqC.SqW
attribute [local go_sem] setCell_twice str_size op_str_eql op_str_neq
set_option maxRecDepth 100000 in
set_option maxHeartbeats 8000000 in
theorem matchesSpec_any (w : World) (s : Int) (l : List Stm) (sa : Option Addr) (ca : Nat) (hl : StAt w (.slice sa l.length ca) l)
    (hK : Cells w 2 0 (Kt.map U)) (h1 : 2 < w.heap.size) (hR : Cells w 0 0 (Kt.map U)) (h0 : 0 < w.heap.size) :
    Calls Tryz.prog 6 #[.int .i64 s, .slice sa l.length ca] w fun e w' => e = .returned (.bool true) ∧ Below w.heap.size w w' := by
  by_cases a1 : 200 < s
  · have q1 : (200 < s) = True := eq_true a1
    go_enter Tryz.func6, Tryz.ntmps6
    go_wp2_with fail
    refine (sanity_any w hK h1).mono ?_
    rintro e w1 ⟨rfl, b1⟩
    go_wp2
    go_ret
    exact ⟨rfl, b1⟩
  have q1 : (200 < s) = False := eq_false a1
  have hfew := few_any w l sa ca hl
  obtain ⟨fb, hfb⟩ : ∃ fb, fb = (l.all (fun x => decide (x.picks.length ≤ 200)) && decide (l.length ≤ 30)) := ⟨_, rfl⟩
  rw [← hfb] at hfew
  have HFEW := Lib.hid hfew; clear hfew
  have HFB := Lib.hid hfb; clear hfb
  go_enter Tryz.func6, Tryz.ntmps6
  go_wp2_with fail
  refine HFEW.out.mono ?_
  rintro e w1 ⟨rfl, b1⟩
  clear HFEW
  cases fb with
  | false =>
    have HB1 := Lib.hid b1; clear b1
    go_wp2_with fail
    refine (sanity_any w1 (hK.below HB1.out h1) (Nat.lt_of_lt_of_le h1 HB1.out.size)).mono ?_
    rintro e w2 ⟨rfl, b2⟩
    have HB2 := Lib.hid (HB1.out.trans (b2.mono HB1.out.size)); clear b2
    go_wp2
    go_ret
    exact ⟨rfl, HB2.out⟩
  | true =>
    have hl30 : l.length ≤ 30 := of_decide_eq_true (Bool.and_eq_true_iff.1 HFB.out.symm).2
    have HK := Lib.hid hK; clear hK
    have HL1 := Lib.hid h1; clear h1
    have HR := Lib.hid hR; clear hR
    have HL0 := Lib.hid h0; clear h0
    have HST := Lib.hid hl; clear hl
    have HB1 := Lib.hid b1; clear b1 HFB
    by_cases a4 : s < 1
    · have q4 : (s < 1) = True := eq_true a4
      go_wp2_with fail
      refine (new_bad s (.inl a4) w1).mono ?_
      rintro e w2 ⟨rfl, hw2⟩
      rw [hw2]
      clear hw2
      go_wp2_with fail
      refine (rnew_bad s (.inl a4) w1).mono ?_
      rintro e w3 ⟨rfl, hw3⟩
      rw [hw3]
      clear hw3
      go_wp2_with fail
      refine (sanity_any w1 (HK.out.below HB1.out HL1.out) (Nat.lt_of_lt_of_le HL1.out HB1.out.size)).mono ?_
      rintro e w2 ⟨rfl, b2⟩
      have HB2 := Lib.hid (HB1.out.trans (b2.mono HB1.out.size)); clear b2
      go_wp2
      go_ret
      exact ⟨rfl, HB2.out⟩
    obtain ⟨n, rfl⟩ : ∃ n : Nat, s = n := ⟨s.toNat, by omega⟩
    have hn1 : 1 ≤ n := by omega
    have hn2 : n ≤ 200 := by omega
    clear a1 a4
    go_wp2_with fail
    refine (new_any n hn1 (by omega) w1).mono ?_
    rintro e w2 ⟨f, rfl, hP2, hf2, b2⟩
    have HP2 := Lib.hid hP2; clear hP2
    have HF2 := Lib.hid hf2; clear hf2
    have HB2 := Lib.hid (HB1.out.trans (b2.mono HB1.out.size)); clear b2
    go_wp2_with fail
    refine (rnew_any n hn1 (by omega) w2).mono ?_
    rintro e w3 ⟨r, rfl, hR3, hr3, b3⟩
    have hBo : Bo w w3 f r (Disk.fresh n) := ⟨HP2.out.below b3, hR3, HB2.out.trans (b3.mono HB2.out.size), fun x hx => Nat.le_trans HB1.out.size (HF2.out x hx), fun x hx => Nat.le_trans HB2.out.size (hr3 x hx), fun x hx hm => by have := HP2.out.lt x hx; have := hr3 x hm; omega⟩
    have HBO := Lib.hid hBo; clear hBo hR3 hr3 b3 HP2 HF2 HB2 HB1
    have ho := open_any f (Disk.fresh n) w3 HBO.out.pd rfl (HK.out.below HBO.out.b HL1.out) (Nat.lt_of_lt_of_le HL1.out HBO.out.b.size)
    have HOP := Lib.hid ho; clear ho
    go_wp2_with fail
    refine HOP.out.mono ?_
    rintro e w4 ⟨J, rfl, hJ4, hJg, b4⟩
    have HBO4 := Lib.hid (HBO.out.below b4)
    have HJ4 := Lib.hid hJ4; clear hJ4 HOP
    have HB4 := Lib.hid b4; clear b4
    have HJG := Lib.hid hJg; clear hJg
    have ho := ropen_any r (Disk.fresh n) w4 HBO4.out.rd rfl (HR.out.below HBO4.out.b HL0.out) (Nat.lt_of_lt_of_le HL0.out HBO4.out.b.size)
    have HOP := Lib.hid ho; clear ho
    go_wp2_with fail
    refine HOP.out.mono ?_
    rintro e w5 ⟨R, rfl, hR5, hRg, b5⟩
    have hM : Mt w w5 f r J R (found (parts0 (Disk.fresh n))) (Disk.fresh n) := Mt.opened HBO.out HJ4.out HJG.out HB4.out hR5 hRg b5
    have HM := Lib.hid hM; clear hM hR5 hRg b5 HOP HBO HBO4 HJ4 HB4 HJG
    go_wp2_with fail
    refine (same_any w5 f r J R _ _ HM.out.jm HM.out.pd HM.out.rj HM.out.rd).mono ?_
    rintro e w6 ⟨rfl, b6⟩
    have HM6 := Lib.hid (HM.out.below b6); clear HM b6
    go_wp2
    go_loopw [9, 10, 11, 12, 71] (fun pj eg pr eh c wr => ∃ (k : Nat) (J R : Jf) (j : JS) (d : DS), pj = .pointer (some ⟨J.g, 0, none⟩) ∧ eg = .int .i64 0 ∧ pr = .pointer (some ⟨R.g, 0, none⟩) ∧ eh = .int .i64 0 ∧ k ≤ l.length ∧ c = .int .i64 k ∧ Hid (Mt w wr f r J R j d)) (fun _ _ _ _ c _ => l.length - (jInt c).toNat)
    case atStart => exact ⟨0, J, R, _, _, rfl, rfl, rfl, rfl, Nat.zero_le _, rfl, HM6⟩
    case round =>
      clear HM6
      obtain ⟨k, J, R, j, d, rfl, rfl, rfl, rfl, hk, rfl, HM⟩ := hrel
      obtain ⟨G, jn, jb, jt⟩ := J
      obtain ⟨Q, kn, kb, kt⟩ := R
      by_cases hkl : k < l.length
      · have hki : ((k : Int) < l.length) = True := eq_true (by omega)
        obtain ⟨x, hx⟩ : ∃ x, l[k]? = some x := ⟨l[k], by simp [hkl]⟩
        obtain ⟨b, off, cap, hv, hC0, hlt⟩ := HST.out.cells hx
        injection hv with hv1 hv2 hv3
        subst hv1
        obtain rfl : ca = cap := hv3
        clear hv2
        have hxm : x ∈ l := List.mem_of_getElem? hx
        have hC := hC0.below HM.out.b hlt
        have HX := Lib.hid hx; clear hx hC0
        go_wp2_with (first | (refine wpList_load_agg (stcells x) hC rfl rfl rfl aggSt infoSt ?_) | (refine wpList_store_blk (ty := 56) (n := 6) (vs := stcells x) (Blk.new _ _ 56) rfl rfl rfl rfl rfl infoSt rfl (by simp) (by intro u hu; simp [stcells] at hu; rcases hu with rfl | rfl | rfl | rfl | rfl | rfl <;> rfl) ?_))
        intro w3 hb3 ho3
        have b3 : Below wr.heap.size wr w3 := ho3.below (alloc_below _ _) (Nat.le_refl _)
        obtain ⟨T, hT⟩ : ∃ T, T = wr.heap.size := ⟨_, rfl⟩
        have k3 : Blk w3 T (stcells x) 56 := by rw [hT]; exact hb3
        rw [← hT]
        have hTG : T ∉ f.all ++ (⟨G, jn, jb, jt⟩ : Jf).all ∧ T ∉ r.all ++ (⟨Q, kn, kb, kt⟩ : Jf).all := by rw [hT]; exact ⟨fun hm => Nat.lt_irrefl _ (HM.out.ltF _ hm), fun hm => Nat.lt_irrefl _ (HM.out.ltR _ hm)⟩
        have HTG := Lib.hid hTG; clear hTG
        have HM3 := Lib.hid (HM.out.below b3)
        have HK3 := Lib.hid k3; clear k3 hb3 ho3 b3 hT hC HM
        have t0 : w3.cell? ⟨T, 0, none⟩ = some (.int .i64 x.kind) := HK3.out.cell rfl
        go_upto_region 14 with (fail)
        by_cases e1 : x.kind = 1
        · have e1i : (x.kind == 1) = true := by simp [e1]
          have HC3 := Lib.hid (HK3.out.cells 0 (stcells x) rfl)
          go_wp2_with (refine wpList_load_agg (stcells x) HC3.out rfl rfl rfl aggSt infoSt ?_)
          refine (rtext_st x w3).mono ?_
          rintro e w4 ⟨rfl, b4⟩
          have HM4 := Lib.hid (HM3.out.below b4)
          have HK4 := Lib.hid (HK3.out.below b4 HK3.out.lt); clear HK3 HM3 b4 HC3 t0
          have ha := append_any HM4.out.jm HM4.out.pd (HK.out.below HM4.out.b HL1.out) (Nat.lt_of_lt_of_le HL1.out HM4.out.b.size) x.text (by have := x.text_len; unfold maxLen; omega)
          have HA := Lib.hid ha; clear ha
          go_wp2_with fail
          refine HA.out.mono ?_
          rintro e w5 ⟨J', hg', rfl, hjm, hpd, hch, hall⟩
          obtain ⟨G', jn', jb', jt'⟩ := J'
          obtain rfl : G = G' := hg'.symm
          have HH5 := Lib.hid (HM4.out.one hpd hjm hch hall)
          have HK5 := Lib.hid (HK4.out.chg hch HTG.out.1); clear HA hjm hpd hch hall HM4 HK4 hg'
          have HC5 := Lib.hid (HK5.out.cells 0 (stcells x) rfl)
          go_wp2_with (refine wpList_load_agg (stcells x) HC5.out rfl rfl rfl aggSt infoSt ?_)
          refine (rtext_st x w5).mono ?_
          rintro e w6 ⟨rfl, b6⟩
          have HH6 := Lib.hid (HH5.out.below b6); clear HH5 HK5 HC5 b6
          have ha := rappend_any HH6.out.rj HH6.out.rd (HR.out.below HH6.out.b HL0.out) (Nat.lt_of_lt_of_le HL0.out HH6.out.b.size) x.text (by have := x.text_len; unfold maxLen; omega)
          have HA := Lib.hid ha; clear ha
          go_wp2_with fail
          refine HA.out.mono ?_
          rintro e w7 ⟨R', hg', rfl, hrj, hrd, hch, hall⟩
          obtain ⟨Q', kn', kb', kt'⟩ := R'
          obtain rfl : Q = Q' := hg'.symm
          have HM7 := Lib.hid (HH6.out.two hrd hrj hch hall); clear HA hrj hrd hch hall HH6 hg'
          obtain ⟨na, hna⟩ : ∃ na, na = (aappend d j x.text).1 := ⟨_, rfl⟩
          obtain ⟨ea, hea⟩ : ∃ ea, ea = (aappend d j x.text).2.1 := ⟨_, rfl⟩
          obtain ⟨ja, hja⟩ : ∃ ja, ja = (aappend d j x.text).2.2.1 := ⟨_, rfl⟩
          obtain ⟨da, hda⟩ : ∃ da, da = (aappend d j x.text).2.2.2 := ⟨_, rfl⟩
          rw [← hja, ← hda] at HM7
          rw [← hna, ← hea]
          clear hna hea hja hda
          have ne1 : (na != na) = false := by simp
          have ne2 : (ea != ea) = false := by simp
          obtain ⟨cl, hcl⟩ : ∃ cl, cl = ja.closed := ⟨_, rfl⟩
          have c6 : w7.cell? ⟨Q, 6, none⟩ = some (.bool cl) := by rw [hcl]; exact HM7.out.rj.head.cell rfl
          clear hcl
          cases cl with
          | true =>
            go_wp2
            go_roundw
            case rel => exact ⟨k + 1, _, _, _, _, rfl, rfl, rfl, rfl, by omega, by go_num, HM7⟩
            case measure => simp [jInt]; omega
          | false =>
            go_wp2_with fail
            refine (same_any w7 f r _ _ _ _ HM7.out.jm HM7.out.pd HM7.out.rj HM7.out.rd).mono ?_
            rintro e wS ⟨rfl, bS⟩
            have HMS := Lib.hid (HM7.out.below bS); clear bS
            go_wp2
            go_roundw
            case rel => exact ⟨k + 1, _, _, _, _, rfl, rfl, rfl, rfl, by omega, by go_num, HMS⟩
            case measure => simp [jInt]; omega
        by_cases e2 : x.kind = 2
        · have e1i : (x.kind == 1) = false := by simp; omega
          have e2i : (x.kind == 2) = true := by simp [e2]
          have t1 : w3.cell? ⟨T, 1, none⟩ = some (.int .i64 x.i) := HK3.out.cell rfl
          have hrg := HST.out.rng x hxm
          have HTR := Lib.hid (trip_any f d x.i hrg w3 HM3.out.pd)
          go_wp2_with fail
          refine HTR.out.mono ?_
          rintro e w4 ⟨rfl, hP4, hc4⟩
          have hfp : ∀ y ∈ [f.p], y ∈ f.all := fun y hy => by simp at hy; subst hy; simp [Ft.all]
          have HH4 := Lib.hid (HM3.out.disk1 hP4 (hc4.mono hfp))
          have HK4 := Lib.hid (HK3.out.chg (hc4.mono hfp) fun hm => HTG.out.1 (List.mem_append_left _ hm)); clear HTR hP4 hc4 hfp HM3 HK3 t0 t1
          have t1 : w4.cell? ⟨T, 1, none⟩ = some (.int .i64 x.i) := HK4.out.cell rfl
          have HTR := Lib.hid (rtrip_any r d x.i hrg w4 HH4.out.rd)
          go_wp2_with fail
          refine HTR.out.mono ?_
          rintro e w5 ⟨rfl, hP5, hc5⟩
          have hfp : ∀ y ∈ [r.p], y ∈ r.all := fun y hy => by simp at hy; subst hy; simp [Rt.all]
          have HM5 := Lib.hid (HH4.out.disk2 hP5 (hc5.mono hfp)); clear HTR hP5 hc5 hfp HH4 t1
          obtain ⟨cl, hcl⟩ : ∃ cl, cl = j.closed := ⟨_, rfl⟩
          have c6 : w5.cell? ⟨Q, 6, none⟩ = some (.bool cl) := by rw [hcl]; exact HM5.out.rj.head.cell rfl
          clear hcl
          cases cl with
          | true =>
            go_wp2
            go_roundw
            case rel => exact ⟨k + 1, _, _, _, _, rfl, rfl, rfl, rfl, by omega, by go_num, HM5⟩
            case measure => simp [jInt]; omega
          | false =>
            go_wp2_with fail
            refine (same_any w5 f r _ _ _ _ HM5.out.jm HM5.out.pd HM5.out.rj HM5.out.rd).mono ?_
            rintro e wS ⟨rfl, bS⟩
            have HMS := Lib.hid (HM5.out.below bS); clear bS
            go_wp2
            go_roundw
            case rel => exact ⟨k + 1, _, _, _, _, rfl, rfl, rfl, rfl, by omega, by go_num, HMS⟩
            case measure => simp [jInt]; omega
        by_cases e3 : x.kind = 3
        · have e1i : (x.kind == 1) = false := by simp; omega
          have e2i : (x.kind == 2) = false := by simp; omega
          have e3i : (x.kind == 3) = true := by simp [e3]
          have t5 : w3.cell? ⟨T, 5, none⟩ = some (.slice x.sp x.picks.length x.pc) := HK3.out.cell rfl
          have hps : ∀ W, Below w.heap.size w W → x.picks ≠ [] → Sl W 1 (.slice x.sp x.picks.length x.pc) x.picks.length (x.picks.map fun z => .int .i64 z) := fun W hb hne => (HST.out.pk x hxm hne).below hb
          have hpb : x.picks ≠ [] → ∀ b, (Value.slice x.sp x.picks.length x.pc).ownBlock = some b → b < w.heap.size := fun hne b hb => sl_own_lt (HST.out.pk x hxm hne) hb
          have HPS := Lib.hid hps; clear hps
          have HPB := Lib.hid hpb; clear hpb
          have HMO := Lib.hid (mount_any f d x.picks x.sp x.pc w3 HM3.out.pd (HPS.out w3 HM3.out.b) (fun hne b hb hm => by have := HPB.out hne b hb; have := HM3.out.hf b (List.mem_append_left _ hm); omega))
          go_wp2_with fail
          refine HMO.out.mono ?_
          rintro e w4 ⟨rfl, hP4, hc4⟩
          have HH4 := Lib.hid (HM3.out.disk1 hP4 hc4)
          have HK4 := Lib.hid (HK3.out.chg hc4 fun hm => HTG.out.1 (List.mem_append_left _ hm)); clear HMO hP4 hc4 HM3 HK3 t0 t5
          have t5 : w4.cell? ⟨T, 5, none⟩ = some (.slice x.sp x.picks.length x.pc) := HK4.out.cell rfl
          have HMO := Lib.hid (rmount_any r d x.picks x.sp x.pc w4 HH4.out.rd (HPS.out w4 HH4.out.b) (fun hne b hb hm => by have := HPB.out hne b hb; have := HH4.out.hr b (List.mem_append_left _ hm); omega))
          go_wp2_with fail
          refine HMO.out.mono ?_
          rintro e w5 ⟨rfl, hP5, hc5⟩
          have HM5 := Lib.hid (HH4.out.disk2 hP5 hc5); clear HMO hP5 hc5 HH4 t5
          obtain ⟨dm, hdm⟩ : ∃ dm, dm = amount d x.picks := ⟨_, rfl⟩
          have hon : dm.off = false := by rw [hdm]; rfl
          rw [← hdm] at HM5
          clear hdm
          have HON := Lib.hid hon; clear hon
          have ho := open_any f dm w5 HM5.out.pd HON.out (HK.out.below HM5.out.b HL1.out) (Nat.lt_of_lt_of_le HL1.out HM5.out.b.size)
          have HOP := Lib.hid ho; clear ho
          go_wp2_with fail
          refine HOP.out.mono ?_
          rintro e w6 ⟨J', rfl, hJ6, hJg, b6⟩
          have HBO := Lib.hid HM5.out.bo
          have HBO6 := Lib.hid (HBO.out.below b6)
          have HJ6 := Lib.hid hJ6; clear hJ6 HOP HM5
          have HB6 := Lib.hid b6; clear b6
          have HJG := Lib.hid hJg; clear hJg
          have ho := ropen_any r dm w6 HBO6.out.rd HON.out (HR.out.below HBO6.out.b HL0.out) (Nat.lt_of_lt_of_le HL0.out HBO6.out.b.size)
          have HOP := Lib.hid ho; clear ho
          go_wp2_with fail
          refine HOP.out.mono ?_
          rintro e w7 ⟨R', rfl, hR7, hRg, b7⟩
          have hM : Mt w w7 f r J' R' (found (parts0 dm)) dm := Mt.opened HBO.out HJ6.out HJG.out HB6.out hR7 hRg b7
          have HM7 := Lib.hid hM; clear hM hR7 hRg b7 HOP HBO HBO6 HJ6 HB6 HJG
          obtain ⟨cl, hcl⟩ : ∃ cl, cl = (found (parts0 dm)).closed := ⟨_, rfl⟩
          have c6 : w7.cell? ⟨R'.g, 6, none⟩ = some (.bool cl) := by rw [hcl]; exact HM7.out.rj.head.cell rfl
          clear hcl
          cases cl with
          | true =>
            go_wp2
            go_roundw
            case rel => exact ⟨k + 1, _, _, _, _, rfl, rfl, rfl, rfl, by omega, by go_num, HM7⟩
            case measure => simp [jInt]; omega
          | false =>
            go_wp2_with fail
            refine (same_any w7 f r _ _ _ _ HM7.out.jm HM7.out.pd HM7.out.rj HM7.out.rd).mono ?_
            rintro e wS ⟨rfl, bS⟩
            have HMS := Lib.hid (HM7.out.below bS); clear bS
            go_wp2
            go_roundw
            case rel => exact ⟨k + 1, _, _, _, _, rfl, rfl, rfl, rfl, by omega, by go_num, HMS⟩
            case measure => simp [jInt]; omega
        by_cases e4 : x.kind = 4
        · have e1i : (x.kind == 1) = false := by simp; omega
          have e2i : (x.kind == 2) = false := by simp; omega
          have e3i : (x.kind == 3) = false := by simp; omega
          have e4i : (x.kind == 4) = true := by simp [e4]
          haveI : Nonempty (SqC.Come fun W' : World => Blk W' T (stcells x) 56) := ⟨⟨w3, HK3.out⟩⟩
          go_upto_region 32 with (fail)
          refine SqC.wp_region_sqc 13 [5, 11] (fun W' : World => Blk W' T (stcells x) 56) (by kernel_rfl) (by kernel_rfl) (by kernel_rfl) HK3.out.drew ?_
          obtain ⟨w4, hw4⟩ : ∃ w4, w4 = w3.drew := ⟨_, rfl⟩
          have bd : Below w3.heap.size w3 w4 := by rw [hw4]; exact (Below.refl w3.heap.size w3).drew
          have HM4 := Lib.hid (HM3.out.below bd)
          have HK4 := Lib.hid (HK3.out.below bd HK3.out.lt)
          rw [← hw4]
          clear hw4 bd HM3 HK3 t0
          refine SqC.quiet rfl rfl ?_
          go_big_quiet_step (fail)
          refine wpQuiet_nil ?_
          refine SqC.quiet rfl rfl ?_
          go_big_quiet_step (fail)
          refine wpQuiet_nil ?_
          refine SqC.value (.int .i64 x.i) rfl rfl (by intro W' hW'; have cx : W'.cell? ⟨T, 1, none⟩ = some (.int .i64 x.i) := hW'.cell rfl; go_simp) ?_
          first | simp only [Act.put, List.setIfInBounds_toArray, List.set_cons_zero, List.set_cons_succ] | skip
          refine SqC.quiet rfl rfl ?_
          go_big_quiet_step (fail)
          refine wpQuiet_nil ?_
          refine SqC.value (.int .i64 x.bit) rfl rfl (by intro W' hW'; have cx : W'.cell? ⟨T, 2, none⟩ = some (.int .i64 x.bit) := hW'.cell rfl; go_simp) ?_
          first | simp only [Act.put, List.setIfInBounds_toArray, List.set_cons_zero, List.set_cons_succ] | skip
          refine SqC.effect rfl rfl (yields_call rfl (by kernel_rfl) rfl rfl ((rot_any f d x.i x.bit w4 HM4.out.pd).mono ?_))
          rintro e w5 ⟨rfl, hP5, hc5⟩
          have HH5 := Lib.hid (HM4.out.disk1 hP5 hc5)
          have HK5 := Lib.hid (HK4.out.chg hc5 fun hm => HTG.out.1 (List.mem_append_left _ hm)); clear hP5 hc5 HM4 HK4
          refine ⟨_, rfl, fun _ => HK5.out, ?_⟩
          first | simp only [Act.put, List.setIfInBounds_toArray, List.set_cons_zero, List.set_cons_succ] | skip
          refine SqC.quiet rfl rfl ?_
          go_big_quiet_step (fail)
          refine wpQuiet_nil ?_
          refine SqC.quiet rfl rfl ?_
          go_big_quiet_step (fail)
          refine wpQuiet_nil ?_
          refine SqC.value (.int .i64 x.i) rfl rfl (by intro W' hW'; have cx : W'.cell? ⟨T, 1, none⟩ = some (.int .i64 x.i) := hW'.cell rfl; go_simp) ?_
          first | simp only [Act.put, List.setIfInBounds_toArray, List.set_cons_zero, List.set_cons_succ] | skip
          refine SqC.quiet rfl rfl ?_
          go_big_quiet_step (fail)
          refine wpQuiet_nil ?_
          refine SqC.value (.int .i64 x.bit) rfl rfl (by intro W' hW'; have cx : W'.cell? ⟨T, 2, none⟩ = some (.int .i64 x.bit) := hW'.cell rfl; go_simp) ?_
          first | simp only [Act.put, List.setIfInBounds_toArray, List.set_cons_zero, List.set_cons_succ] | skip
          refine SqC.effect rfl rfl (yields_call rfl (by kernel_rfl) rfl rfl ((rrot_any r d x.i x.bit w5 HH5.out.rd).mono ?_))
          rintro e w6 ⟨rfl, hP6, hc6⟩
          have HM6 := Lib.hid (HH5.out.disk2 hP6 hc6)
          have HK6 := Lib.hid (HK5.out.chg hc6 fun hm => HTG.out.2 (List.mem_append_left _ hm)); clear hP6 hc6 HH5 HK5
          refine ⟨_, rfl, fun _ => HK6.out, ?_⟩
          first | simp only [Act.put, List.setIfInBounds_toArray, List.set_cons_zero, List.set_cons_succ] | skip
          obtain ⟨rr, hrr⟩ : ∃ rr, rr = (arot d x.i x.bit).1 := ⟨_, rfl⟩
          obtain ⟨da, hda⟩ : ∃ da, da = (arot d x.i x.bit).2 := ⟨_, rfl⟩
          rw [← hda] at HM6
          rw [← hrr]
          clear hrr hda
          have nr : (rr != rr) = false := by simp
          refine SqC.quiet rfl rfl ?_
          go_big_quiet_step (fail)
          refine wpQuiet_nil ?_
          refine SqC.nil ?_
          obtain ⟨cl, hcl⟩ : ∃ cl, cl = j.closed := ⟨_, rfl⟩
          have c6 : w6.cell? ⟨Q, 6, none⟩ = some (.bool cl) := by rw [hcl]; exact HM6.out.rj.head.cell rfl
          clear hcl
          cases cl with
          | true =>
            go_wp2
            go_roundw
            case rel => exact ⟨k + 1, _, _, _, _, rfl, rfl, rfl, rfl, by omega, by go_num, HM6⟩
            case measure => simp [jInt]; omega
          | false =>
            go_wp2_with fail
            refine (same_any w6 f r _ _ _ _ HM6.out.jm HM6.out.pd HM6.out.rj HM6.out.rd).mono ?_
            rintro e wS ⟨rfl, bS⟩
            have HMS := Lib.hid (HM6.out.below bS); clear bS
            go_wp2
            go_roundw
            case rel => exact ⟨k + 1, _, _, _, _, rfl, rfl, rfl, rfl, by omega, by go_num, HMS⟩
            case measure => simp [jInt]; omega
        by_cases e5 : x.kind = 5
        · have e1i : (x.kind == 1) = false := by simp; omega
          have e2i : (x.kind == 2) = false := by simp; omega
          have e3i : (x.kind == 3) = false := by simp; omega
          have e4i : (x.kind == 4) = false := by simp; omega
          have e5i : (x.kind == 5) = true := by simp [e5]
          haveI : Nonempty (SqC.Come fun W' : World => Blk W' T (stcells x) 56) := ⟨⟨w3, HK3.out⟩⟩
          go_upto_region 35 with (fail)
          refine SqC.wp_region_sqc 9 [3, 7] (fun W' : World => Blk W' T (stcells x) 56) (by kernel_rfl) (by kernel_rfl) (by kernel_rfl) HK3.out.drew ?_
          obtain ⟨w4, hw4⟩ : ∃ w4, w4 = w3.drew := ⟨_, rfl⟩
          have bd : Below w3.heap.size w3 w4 := by rw [hw4]; exact (Below.refl w3.heap.size w3).drew
          have HM4 := Lib.hid (HM3.out.below bd)
          have HK4 := Lib.hid (HK3.out.below bd HK3.out.lt)
          rw [← hw4]
          clear hw4 bd HM3 HK3 t0
          refine SqC.quiet rfl rfl ?_
          go_big_quiet_step (fail)
          refine wpQuiet_nil ?_
          refine SqC.quiet rfl rfl ?_
          go_big_quiet_step (fail)
          refine wpQuiet_nil ?_
          refine SqC.value (.int .i64 x.i) rfl rfl (by intro W' hW'; have cx : W'.cell? ⟨T, 1, none⟩ = some (.int .i64 x.i) := hW'.cell rfl; go_simp) ?_
          first | simp only [Act.put, List.setIfInBounds_toArray, List.set_cons_zero, List.set_cons_succ] | skip
          refine SqC.effect rfl rfl (yields_call rfl (by kernel_rfl) rfl rfl ((wear_any f d x.i w4 HM4.out.pd).mono ?_))
          rintro e w5 ⟨rfl, hP5, hc5⟩
          have HH5 := Lib.hid (HM4.out.disk1 hP5 hc5)
          have HK5 := Lib.hid (HK4.out.chg hc5 fun hm => HTG.out.1 (List.mem_append_left _ hm)); clear hP5 hc5 HM4 HK4
          refine ⟨_, rfl, fun _ => HK5.out, ?_⟩
          first | simp only [Act.put, List.setIfInBounds_toArray, List.set_cons_zero, List.set_cons_succ] | skip
          refine SqC.quiet rfl rfl ?_
          go_big_quiet_step (fail)
          refine wpQuiet_nil ?_
          refine SqC.quiet rfl rfl ?_
          go_big_quiet_step (fail)
          refine wpQuiet_nil ?_
          refine SqC.value (.int .i64 x.i) rfl rfl (by intro W' hW'; have cx : W'.cell? ⟨T, 1, none⟩ = some (.int .i64 x.i) := hW'.cell rfl; go_simp) ?_
          first | simp only [Act.put, List.setIfInBounds_toArray, List.set_cons_zero, List.set_cons_succ] | skip
          refine SqC.effect rfl rfl (yields_call rfl (by kernel_rfl) rfl rfl ((rwear_any r d x.i w5 HH5.out.rd).mono ?_))
          rintro e w6 ⟨rfl, hP6, hc6⟩
          have HM6 := Lib.hid (HH5.out.disk2 hP6 hc6)
          have HK6 := Lib.hid (HK5.out.chg hc6 fun hm => HTG.out.2 (List.mem_append_left _ hm)); clear hP6 hc6 HH5 HK5
          refine ⟨_, rfl, fun _ => HK6.out, ?_⟩
          first | simp only [Act.put, List.setIfInBounds_toArray, List.set_cons_zero, List.set_cons_succ] | skip
          obtain ⟨rr, hrr⟩ : ∃ rr, rr = (awear d x.i).1 := ⟨_, rfl⟩
          obtain ⟨da, hda⟩ : ∃ da, da = (awear d x.i).2 := ⟨_, rfl⟩
          rw [← hda] at HM6
          rw [← hrr]
          clear hrr hda
          have nr : (rr != rr) = false := by simp
          refine SqC.quiet rfl rfl ?_
          go_big_quiet_step (fail)
          refine wpQuiet_nil ?_
          refine SqC.nil ?_
          obtain ⟨cl, hcl⟩ : ∃ cl, cl = j.closed := ⟨_, rfl⟩
          have c6 : w6.cell? ⟨Q, 6, none⟩ = some (.bool cl) := by rw [hcl]; exact HM6.out.rj.head.cell rfl
          clear hcl
          cases cl with
          | true =>
            go_wp2
            go_roundw
            case rel => exact ⟨k + 1, _, _, _, _, rfl, rfl, rfl, rfl, by omega, by go_num, HM6⟩
            case measure => simp [jInt]; omega
          | false =>
            go_wp2_with fail
            refine (same_any w6 f r _ _ _ _ HM6.out.jm HM6.out.pd HM6.out.rj HM6.out.rd).mono ?_
            rintro e wS ⟨rfl, bS⟩
            have HMS := Lib.hid (HM6.out.below bS); clear bS
            go_wp2
            go_roundw
            case rel => exact ⟨k + 1, _, _, _, _, rfl, rfl, rfl, rfl, by omega, by go_num, HMS⟩
            case measure => simp [jInt]; omega
        have e1i : (x.kind == 1) = false := by simp; omega
        have e2i : (x.kind == 2) = false := by simp; omega
        have e3i : (x.kind == 3) = false := by simp; omega
        have e4i : (x.kind == 4) = false := by simp; omega
        have e5i : (x.kind == 5) = false := by simp; omega
        obtain ⟨cl, hcl⟩ : ∃ cl, cl = j.closed := ⟨_, rfl⟩
        have c6 : w3.cell? ⟨Q, 6, none⟩ = some (.bool cl) := by rw [hcl]; exact HM3.out.rj.head.cell rfl
        clear hcl
        cases cl with
        | true =>
          go_wp2
          go_roundw
          case rel => exact ⟨k + 1, _, _, _, _, rfl, rfl, rfl, rfl, by omega, by go_num, HM3⟩
          case measure => simp [jInt]; omega
        | false =>
          go_wp2_with fail
          refine (same_any w3 f r _ _ _ _ HM3.out.jm HM3.out.pd HM3.out.rj HM3.out.rd).mono ?_
          rintro e wS ⟨rfl, bS⟩
          have HMS := Lib.hid (HM3.out.below bS); clear bS
          go_wp2
          go_roundw
          case rel => exact ⟨k + 1, _, _, _, _, rfl, rfl, rfl, rfl, by omega, by go_num, HMS⟩
          case measure => simp [jInt]; omega
      · obtain rfl : k = l.length := by omega
        have hki : ((l.length : Int) < l.length) = False := eq_false (by omega)
        go_wp2_with fail
        refine (sanity_any wr (HK.out.below HM.out.b HL1.out) (Nat.lt_of_lt_of_le HL1.out HM.out.b.size)).mono ?_
        rintro e w3 ⟨rfl, b3⟩
        have HM3 := Lib.hid (HM.out.below b3); clear b3 HM
        go_wp2_with fail
        refine (image_any f d w3 HM3.out.pd).mono ?_
        rintro e w4 ⟨v4, rfl, hS4, _, b4⟩
        have HM4 := Lib.hid (HM3.out.below b4); clear b4 HM3
        have HS4 := Lib.hid hS4; clear hS4
        go_wp2_with fail
        refine (rimage_any r d w4 HM4.out.rd).mono ?_
        rintro e w5 ⟨v5, rfl, hO5, b5⟩
        have HM5 := Lib.hid (HM4.out.below b5)
        have HS5 := Lib.hid (HS4.out.below b5); clear b5 HM4 HS4
        have HO5 := Lib.hid hO5; clear hO5
        have hml := HM5.out.pd.ok.most
        have hil : (aimage d.s).length = d.s.length := by simp [aimage]
        have HIL := Lib.hid hil; clear hil
        go_wp2_with fail
        refine (sameT_any (aimage d.s) v4 v5 w5 (by rw [HIL.out]; exact HS5.out) (by rw [HIL.out]; exact Sl.of_owns HO5.out) (by rw [HIL.out]; omega)).mono ?_
        rintro e w6 ⟨rfl, b6⟩
        have HBE := Lib.hid (HM5.out.b.trans (b6.mono HM5.out.b.size)); clear b6
        go_wp2
        go_ret
        exact ⟨rfl, HBE.out⟩
end Go.Proofs.YtbmnbdkbgpajeaaGreatDoor
end

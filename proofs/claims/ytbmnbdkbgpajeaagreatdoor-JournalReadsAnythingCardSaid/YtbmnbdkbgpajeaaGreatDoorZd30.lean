/- journal: the law JournalReadsAnything, walked. -/
import Derived.Test.YtbmnbdkbgpajeaaGreatDoorZd28
import Derived.Test.YtbmnbdkbgpajeaaGreatDoorZd29
import Derived.Test.YtbmnbdkbgpajeaaGreatDoorZd24
/- journal: the law JournalReadsAnything, walked. -/
section
namespace Go.Jn
open Go.Disk
/-- the power is on, and no trip is set -/
def On (d : DS) : Prop := d.off = false ∧ d.left = -1
theorem On.write {d : DS} (h : On d) (i : Int) (b : List UInt8) : On (awrite d i b).2 := by
  obtain ⟨h1, h2⟩ := h
  have hs : astep d = (0, d) := by unfold astep; rw [if_neg (by omega), if_neg (by omega)]
  unfold awrite
  split
  · exact ⟨h1, h2⟩
  · split
    · exact ⟨h1, h2⟩
    · rw [hs, if_neg (by simp)]
      exact ⟨h1, h2⟩
end Go.Jn
namespace Go.Proofs.YtbmnbdkbgpajeaaGreatDoor
open Go.RowKit Go.Own Go.Jn Go.Disk Go.BigFrame Go.Sha
attribute [local irreducible] SqW
attribute [local go_sem] setCell_twice str_size op_str_eql op_str_neq
/-- a disk and the reference's, both of the call's own and with the same content -/
structure Bo (w W : World) (f : Ft) (r : Rt) (d : DS) : Prop where
  pd : PD W f d
  rd : RD W r d
  b : Below w.heap.size w W
  hf : ∀ x ∈ f.all, w.heap.size ≤ x
  hr : ∀ x ∈ r.all, w.heap.size ≤ x
  dis : ∀ x ∈ f.all, x ∉ r.all
theorem Bo.below {w W W' : World} {f : Ft} {r : Rt} {d : DS} (h : Bo w W f r d) (hb : Below W.heap.size W W') : Bo w W' f r d :=
  ⟨h.pd.below hb, h.rd.below hb, h.b.trans (hb.mono h.b.size), h.hf, h.hr, h.dis⟩
set_option maxRecDepth 100000 in
set_option maxHeartbeats 4000000 in
theorem readsAnything_any (w : World) (l : List (List UInt8)) (sa : Option Addr) (ca : Nat) (hl : Sl w 1 (.slice sa l.length ca) l.length (l.map str))
    (hK : Cells w 2 0 (Kt.map U)) (h1 : 2 < w.heap.size) (hR : Cells w 0 0 (Kt.map U)) (h0 : 0 < w.heap.size) :
    Calls Tryz.prog 3 #[.slice sa l.length ca] w fun e w' => e = .returned (.bool true) ∧ Below w.heap.size w w' := by
  by_cases a1 : 40 < l.length
  · have q1 : ((40 : Int) < l.length) = True := eq_true (by omega)
    go_enter Tryz.func3, Tryz.ntmps3
    go_wp2_with fail
    refine (sanity_any w hK h1).mono ?_
    rintro e w1 ⟨rfl, b1⟩
    go_wp2
    go_ret
    exact ⟨rfl, b1⟩
  have q1 : ((40 : Int) < l.length) = False := eq_false (by omega)
  by_cases a2 : l.length = 0
  · have q2 : ((l.length : Int) == 0) = true := by simp [a2]
    go_enter Tryz.func3, Tryz.ntmps3
    go_wp2_with fail
    refine (sanity_any w hK h1).mono ?_
    rintro e w1 ⟨rfl, b1⟩
    go_wp2
    go_ret
    exact ⟨rfl, b1⟩
  have q2 : ((l.length : Int) == 0) = false := by rw [beq_eq_false_iff_ne]; omega
  have hn1 : 1 ≤ l.length := by omega
  have hn4 : l.length ≤ 40 := by omega
  clear a1 a2
  have HK := Lib.hid hK; clear hK
  have HL1 := Lib.hid h1; clear h1
  have HR := Lib.hid hR; clear hR
  have HL0 := Lib.hid h0; clear h0
  have HS := Lib.hid hl; clear hl
  obtain ⟨n, hn⟩ : ∃ n, n = l.length := ⟨_, rfl⟩
  rw [← hn] at q1 q2 hn1 hn4 HS ⊢
  have HN := Lib.hid hn; clear hn
  go_enter Tryz.func3, Tryz.ntmps3
  go_wp2_with fail
  refine (new_any n hn1 (by omega) w).mono ?_
  rintro e w1 ⟨f, rfl, hP1, hf1, b1⟩
  have HP1 := Lib.hid hP1; clear hP1
  have HF1 := Lib.hid hf1; clear hf1
  have HB1 := Lib.hid b1; clear b1
  go_wp2_with fail
  refine (rnew_any n hn1 (by omega) w1).mono ?_
  rintro e w2 ⟨r, rfl, hR2, hr2, b2⟩
  have hB : Bo w w2 f r (Disk.fresh n) := ⟨HP1.out.below b2, hR2, HB1.out.trans (b2.mono HB1.out.size), HF1.out, fun x hx => Nat.le_trans HB1.out.size (hr2 x hx), fun x hx hm => by have := HP1.out.lt x hx; have := hr2 x hm; omega⟩
  have HBO := Lib.hid hB; clear hB hR2 hr2 b2 HP1 HF1 HB1
  have HON : Hid (On (Disk.fresh n)) := Lib.hid ⟨rfl, rfl⟩
  go_wp2
  go_loopw [42] (fun c wr => ∃ (k : Nat) (d : DS), k ≤ n ∧ c = .int .i64 k ∧ Hid (Bo w wr f r d) ∧ Hid (On d)) (fun c _ => n - (jInt c).toNat)
  case atStart => exact ⟨0, _, Nat.zero_le _, rfl, HBO, HON⟩
  case round =>
    clear HBO HON
    obtain ⟨k, d, hk, rfl, HB, HO⟩ := hrel
    by_cases hkl : k < n
    · have hki : ((k : Int) < n) = True := eq_true (by omega)
      obtain ⟨b, off, rfl, _, _, hC, hlt⟩ := sl_cases HS.out (by omega)
      obtain ⟨s, hs⟩ : ∃ s, s = l[k]'(by rw [← HN.out]; exact hkl) := ⟨_, rfl⟩
      have hkl2 : k < l.length := by rw [← HN.out]; exact hkl
      have cx : wr.cell? ⟨b, off + k, none⟩ = some (str s) := (hC.below HB.out.b hlt) k _ (by simp [hkl2, hs])
      have HSS := Lib.hid hs; clear hs hC
      go_wp2_with fail
      refine (write_any f d (k : Int) s wr HB.out.pd).mono ?_
      rintro e w3 ⟨rfl, hP3, hc3⟩
      have hR3 := HB.out.rd.chg hc3 fun x hx hm => HB.out.dis x hm hx
      have HP3 := Lib.hid hP3; clear hP3
      have HC3 := Lib.hid hc3; clear hc3
      have HR3 := Lib.hid hR3; clear hR3
      go_wp2_with fail
      refine (rwrite_any r d (k : Int) s w3 HR3.out).mono ?_
      rintro e w4 ⟨rfl, hR4, hc4⟩
      have hb3 := HB.out.b.trans (HC3.out.below HB.out.b.size HB.out.hf)
      have hB4 : Bo w w4 f r (awrite d (k : Int) s).2 := ⟨HP3.out.chg hc4 HB.out.dis, hR4, hb3.trans (hc4.below hb3.size HB.out.hr), HB.out.hf, HB.out.hr, HB.out.dis⟩
      have HB4 := Lib.hid hB4; clear hB4 hb3 hR4 hc4 HP3 HC3 HR3
      have HO4 := Lib.hid (HO.out.write (k : Int) s)
      go_wp2
      go_roundw
      case rel => exact ⟨k + 1, _, by omega, by go_num, HB4, HO4⟩
      case measure => simp [jInt]; omega
    · obtain rfl : n = k := by omega
      have hki : ((n : Int) < n) = False := eq_false (by omega)
      have ho := open_any f d wr HB.out.pd HO.out.1 (HK.out.below HB.out.b HL1.out) (Nat.lt_of_lt_of_le HL1.out HB.out.b.size)
      have HOP := Lib.hid ho; clear ho
      go_wp2_with fail
      refine HOP.out.mono ?_
      rintro e w2 ⟨J, rfl, hJ, _, b2⟩
      have HB2 := Lib.hid (HB.out.below b2)
      have HJ2 := Lib.hid hJ; clear hJ b2 HOP HB
      have ho := ropen_any r d w2 HB2.out.rd HO.out.1 (HR.out.below HB2.out.b HL0.out) (Nat.lt_of_lt_of_le HL0.out HB2.out.b.size)
      have HOP := Lib.hid ho; clear ho
      go_wp2_with fail
      refine HOP.out.mono ?_
      rintro e w3 ⟨R, rfl, hR3, _, b3⟩
      have HB3 := Lib.hid (HB2.out.below b3)
      have HJ3 := Lib.hid (HJ2.out.below b3)
      have HR3 := Lib.hid hR3; clear hR3 b3 HOP HB2 HJ2
      go_wp2_with fail
      refine (sanity_any w3 (HK.out.below HB3.out.b HL1.out) (Nat.lt_of_lt_of_le HL1.out HB3.out.b.size)).mono ?_
      rintro e w4 ⟨rfl, b4⟩
      have HB4 := Lib.hid (HB3.out.below b4)
      have HJ4 := Lib.hid (HJ3.out.below b4)
      have HR4 := Lib.hid (HR3.out.below b4); clear b4 HB3 HJ3 HR3
      go_wp2_with fail
      refine (same_any w4 f r J R _ d HJ4.out HB4.out.pd HR4.out HB4.out.rd).mono ?_
      rintro e w5 ⟨rfl, b5⟩
      have HBE := Lib.hid (HB4.out.b.trans (b5.mono HB4.out.b.size)); clear b5
      go_wp2
      go_ret
      exact ⟨rfl, HBE.out⟩
end Go.Proofs.YtbmnbdkbgpajeaaGreatDoor
end
/- JournalReadsAnything: the row: for every input the law returns true and leaves its arguments alone. Conditions: the row's own, nothing more. -/
section
namespace Go.Proofs.YtbmnbdkbgpajeaaGreatDoor
open Go.ChangeShapes Go.WideShapes Go.ChangeAt Go.WideMaps Go.WideElems Go.RowKit Go.Sha Go.Own Go.ChangeMaps
theorem cellsStr : Tryz.prog.cellsOf 9 = 1 := by kernel_rfl
set_option maxRecDepth 100000 in
theorem journalReadsAnything_lifted (os : Os) (started : os.Started) (H : Type) (enc : TypeId × Value → H) :
    ReturnsInHanded {} Tryz.checked os 3 .any (fun w args => (Rows.journalReadsAnythingSpec.pre enc Tryz.prog Tryz.f3 [] false w args ∧ laidMetH Tryz.prog lay2 w) ∧ sizedMet enc Tryz.prog Tryz.f3 (OpenSpec.ofChange Rows.journalReadsAnythingSpec) false w args)
      (Rows.journalReadsAnythingSpec.post enc Tryz.prog Tryz.f3 false true false false) := by
  refine returnsInHanded_of_change_and (C := Tryz.checked) (X := fun w _ => laidMetH Tryz.prog lay2 w) (fun _ _ _ hh h => h.of_heap hh) ownK started (by kernel_rfl) Tryz.func3
    (ChangeSpec.witness_shaped (enc := enc) (C := Tryz.checked) (os := os) (X := fun w _ => laidMetH Tryz.prog lay2 w) false (World.doorLaid Tryz.prog 4000 os) #[.slice none 0 0] 8 rfl (World.shaped_of_RefB (by kernel_rfl) (by kernel_rfl)) (by kernel_rfl) (by kernel_rfl) (by kernel_rfl) (door_met2 os _)) ?_
  intro W base args ds gs before hval0 hW _ hq hL hSz
  have hval : ∀ (j : Nat) t v, Tryz.f3.params[j]? = some t → args[j]? = some v → Value.okWide Tryz.prog W .any base t v := hval0
  have hW' := hW
  obtain ⟨p, q, hA0, hV, rfl, hfz, hnd⟩ := hW
  have hA : DataW.TrodAll enc Tryz.prog W 0 (fun _ => true) true Tryz.f3.params.toList args.toList ds p := hA0
  rw [Tryz.params3] at hA hval
  obtain ⟨v0, d0, rfl, rfl, h0⟩ := trodAll_one hA
  obtain ⟨rfl, rfl⟩ := trodVars_none hV
  have k0 := hval 0 22 v0 rfl rfl
  obtain ⟨l0, hs0, hl0, _⟩ := sl_of_strs Tryz.underlying22 Tryz.underlying9 cellsStr k0 h0
  obtain ⟨sa0, ca0, rfl, _⟩ := sl_slice hs0
  obtain ⟨⟨hR, hr⟩, hK, hk⟩ := of_laid2 hL
  have hw := readsAnything_any W l0 sa0 ca0 hs0 hK hk hR hr
  refine hw.mono fun e W' ⟨he, hb⟩ => ?_
  subst he
  exact ⟨_, rfl, law_post laidOutK (by kernel_rfl) (show Tryz.f3.resultTypes = #[4] by kernel_rfl) Tryz.underlying4 rfl ⟨rfl, rfl, rfl⟩ hW' hb⟩
theorem readsAnything_holds : Rows.JournalReadsAnythingSaid :=
  OpenClaim.holds_of_wide 3 Tryz.f3 rfl rfl rfl rfl rfl rfl rfl ⟨rfl, rfl, rfl, rfl, rfl⟩ rfl rfl rfl rfl rfl (by kernel_rfl) Tryz.func3 (by kernel_rfl)
    (of_decide_eq_true (by kernel_rfl)) (by unfold Func.isWrapper; first | (rw [if_pos (by decide +kernel)]; kernel_rfl) | (rw [if_neg (by decide +kernel)]; exact ⟨rfl, rfl⟩))
    (fun os started H enc _ => journalReadsAnything_lifted os started H enc)
#print axioms readsAnything_holds
end Go.Proofs.YtbmnbdkbgpajeaaGreatDoor
end

/- HashOfSeparates: the walk in all cases. -/
import Derived.Test.YtcdgpkhfflehjaaDoorA27
namespace Go.Proofs.YtcdgpkhfflehjaaDoor
open Go.RowKit Go.Sha Go.Own
attribute [local go_sem high] op_str_eql op_str_neq
attribute [local go_sem] str_size
set_option maxHeartbeats 800000 in
set_option maxRecDepth 100000 in
theorem sepLaw_any (t0 t1 : UInt8) (la lb : List (List UInt8)) (sa : Option Addr) (ca : Nat) (sb : Option Addr) (cb : Nat) (w : World) (hsa : Sl w 1 (.slice sa la.length ca) la.length (la.map str)) (hsb : Sl w 1 (.slice sb lb.length cb) lb.length (lb.map str))
    (hla : la.length ≤ maxLen) (hlb : lb.length ≤ maxLen) (hlsa : ∀ s ∈ la, s.length ≤ maxLen) (hlsb : ∀ s ∈ lb, s.length ≤ maxLen) (hK1 : Cells w 1 0 (Kt.map U)) (h1 : 1 < w.heap.size) :
    Calls Tryd.prog 8 #[.agg #[byv t0, byv t1], .slice sa la.length ca, .slice sb lb.length cb] w fun e w' => e = .returned (.bool true) ∧ Below w.heap.size w w' := by
  by_cases hfa : fewB la = true
  · by_cases hfb : fewB lb = true
    · by_cases hd : t0 = t1 ∧ la = lb
      · obtain ⟨rfl, rfl⟩ := hd
        exact sepSame_any t0 la sa ca sb cb w hsa hsb hla hlsa hfa hK1 h1
      · exact sepDiff_any t0 t1 la lb sa ca sb cb w hsa hsb hla hlb hlsa hlsb hfa hfb hd hK1 h1
    · have HK1 := Lib.hid hK1; clear hK1
      have HSA := Lib.hid hsa; clear hsa
      have HSB := Lib.hid hsb; clear hsb
      have c1 := fun W hs => few_any la sa ca W hs hla hlsa
      have c2 := fun W hs => few_any lb sb cb W hs hlb hlsb
      rw [hfa] at c1
      rw [few_false hfb] at c2
      have C1 := Lib.hid c1
      have C2 := Lib.hid c2
      clear c1 c2 hfa hfb hlsa hlsb
      obtain ⟨W, HW⟩ : ∃ W, Hid (W = w.alloc (.cells #[byv t0, byv t1] 48)) := ⟨_, rfl⟩
      have hbW : Below w.heap.size w W := by rw [HW.out]; exact (Below.refl _ _).alloc (Nat.le_refl _) _
      have hzW := hbW.size
      go_enter Tryd.func8, Tryd.ntmps8
      go_upto_region 1 with (fail)
      rw [← HW.out]
      go_wp2_with fail
      refine (sanity_any W (HK1.out.below hbW h1) (by omega)).mono ?_
      rintro e w1 ⟨rfl, hb1⟩
      have hbw1 := hbW.trans (hb1.mono hzW)
      go_wp2_with fail
      refine (C1.out w1 (HSA.out.below hbw1)).mono ?_
      rintro e wx ⟨rfl, hwx⟩
      obtain rfl : w1 = wx := hwx.symm
      clear hwx
      go_wp2_with fail
      refine (C2.out w1 (HSB.out.below hbw1)).mono ?_
      rintro e wx ⟨rfl, hwx⟩
      obtain rfl : w1 = wx := hwx.symm
      clear hwx
      go_wp2
      go_ret
      exact ⟨rfl, hbw1⟩
  · have HK1 := Lib.hid hK1; clear hK1
    have HSA := Lib.hid hsa; clear hsa
    have c1 := fun W hs => few_any la sa ca W hs hla hlsa
    rw [few_false hfa] at c1
    have C1 := Lib.hid c1
    clear c1 hfa hlsa hlsb hsb
    obtain ⟨W, HW⟩ : ∃ W, Hid (W = w.alloc (.cells #[byv t0, byv t1] 48)) := ⟨_, rfl⟩
    have hbW : Below w.heap.size w W := by rw [HW.out]; exact (Below.refl _ _).alloc (Nat.le_refl _) _
    have hzW := hbW.size
    go_enter Tryd.func8, Tryd.ntmps8
    go_upto_region 1 with (fail)
    rw [← HW.out]
    go_wp2_with fail
    refine (sanity_any W (HK1.out.below hbW h1) (by omega)).mono ?_
    rintro e w1 ⟨rfl, hb1⟩
    have hbw1 := hbW.trans (hb1.mono hzW)
    go_wp2_with fail
    refine (C1.out w1 (HSA.out.below hbw1)).mono ?_
    rintro e wx ⟨rfl, hwx⟩
    obtain rfl : w1 = wx := hwx.symm
    clear hwx
    go_wp2
    go_ret
    exact ⟨rfl, hbw1⟩
theorem okWide_pair {W : World} {r : Reach} {b0 : Nat} {v : Value} (h : Value.okWide Tryd.prog W r b0 48 v) : ∃ t0 t1 : UInt8, v = .agg #[byv t0, byv t1] := by
  unfold Value.okWide at h
  rw [Tryd.underlying48] at h
  obtain ⟨cs, rfl, hs, ts, hts, _, hc⟩ := h
  have e1 : Tryd.prog.cellsOf 48 = 2 := by kernel_rfl
  have e2 : Tryd.prog.cellTypes Tryd.prog.depth 48 = some [5, 5] := by kernel_rfl
  rw [e1] at hs
  rw [e2] at hts
  injection hts with hts
  subst hts
  have cell : ∀ i, i < 2 → ∃ t : UInt8, cs[i]? = some (byv t) := fun i hi => by
    have hv : cs[i]? = some cs[i] := by simp
    obtain ⟨u, hu, hok⟩ := hc i _ hv
    have hu5 : u = 5 := by
      have hi' : i = 0 ∨ i = 1 := by omega
      rcases hi' with rfl | rfl
      · exact (Option.some.inj hu).symm
      · exact (Option.some.inj hu).symm
    subst hu5
    obtain ⟨n, hn⟩ := Go.WideShapes.okWide_int (P := Tryd.prog) (w := W) (r := r) (base := b0) (t := 5) (k := .u8) Tryd.underlying5 (v := cs[i]) (by unfold Value.okWide; rw [Tryd.underlying5]; exact hok)
    rw [hn] at hok hv
    unfold Cell.okWide at hok
    rw [Tryd.underlying5] at hok
    have hok2 : Cell.ok Tryd.prog W r b0 5 (.int .u8 n) := hok
    unfold Cell.ok at hok2
    rw [Tryd.underlying5] at hok2
    obtain ⟨_, h1, h2⟩ := hok2
    have h3 : (0 : Int) ≤ n := h1
    have h4 : n ≤ 255 := h2
    exact ⟨UInt8.ofNat n.toNat, by rw [hv]; simp; omega⟩
  obtain ⟨a, ha⟩ := cell 0 (by omega)
  obtain ⟨b, hb⟩ := cell 1 (by omega)
  refine ⟨a, b, ?_⟩
  congr 1
  apply Array.ext
  · simp [hs]
  · intro i h1 h2
    match i, h1, h2 with
    | 0, h1, _ => simp [h1] at ha; simp [ha]
    | 1, h1, _ => simp [h1] at hb; simp [hb]
end Go.Proofs.YtcdgpkhfflehjaaDoor

/- journal: the law JournalSurvives, walked. -/
import Derived.Test.YtbmnbdkbgpajeaaGreatDoorZc25
import Derived.Test.YtbmnbdkbgpajeaaGreatDoorZc27
import Derived.Test.YtbmnbdkbgpajeaaGreatDoorZc28
import Derived.Deep.CutBlock
/- journal: the law JournalSurvives, walked. -/
section
namespace Go.Proofs.YtbmnbdkbgpajeaaGreatDoor
open Go.RowKit Go.Own Go.Jn Go.Disk Go.BigFrame Go.Sha
attribute [local irreducible] SqW
attribute [local irreducible] SqC.SqW
attribute [local go_sem] setCell_twice str_size op_str_eql op_str_neq
theorem sl_own_lt {W : World} {v : Value} {n : Nat} {vs : List Value} (h : Sl W 1 v n vs) {b : Nat} (hb : v.ownBlock = some b) : b < W.heap.size := by
  obtain ⟨_, ⟨h2, _⟩ | ⟨b', off, cap, h2, _, _, _, h3⟩⟩ := h
  · rw [h2] at hb; cases hb
  · rw [h2] at hb
    have : b' = b := by simpa [Value.ownBlock] using hb
    omega
theorem Chg.of_grown {W W' : World} {o : Option Nat} (hg : W.grownBy W' o) : Chg o.toList W W' := ⟨hg.os, hg.tape, hg.output, hg.size, fun k hk hn => hg.block k hk (fun e => hn (by simp [← e]))⟩
set_option maxRecDepth 100000 in
set_option maxHeartbeats 4000000 in
theorem survives_any (w : World) (s : Int) (l : List Stm) (x : Stm) (tr : UInt8) (ps : List Int) (sa sp : Option Addr) (ca cp : Nat) (hl : StAt w (.slice sa l.length ca) l) (hp : Sl w 1 (.slice sp ps.length cp) ps.length (ps.map fun z => .int .i64 z))
    (hK : Cells w 2 0 (Kt.map U)) (h1 : 2 < w.heap.size) (hR : Cells w 0 0 (Kt.map U)) (h0 : 0 < w.heap.size) :
    Calls Tryz.prog 5 #[.int .i64 s, .slice sa l.length ca, .agg (stcells x).toArray, byv tr, .slice sp ps.length cp] w fun e w' => e = .returned (.bool true) ∧ Below w.heap.size w w' := by
  by_cases a1 : 200 < s
  · have q1 : (200 < s) = True := eq_true a1
    go_enter Tryz.func5, Tryz.ntmps5
    go_wp2_with fail
    have bT := alloc_below w (.cells (stcells x).toArray 56)
    refine (sanity_any _ (hK.below bT h1) (Nat.lt_of_lt_of_le h1 bT.size)).mono ?_
    rintro e w1 ⟨rfl, b1⟩
    have bZ := Lib.hid (bT.trans (b1.mono bT.size)); clear b1
    go_wp2
    go_ret
    exact ⟨rfl, bZ.out⟩
  have q1 : (200 < s) = False := eq_false a1
  by_cases a2 : 12 < l.length
  · have q2 : ((12 : Int) < l.length) = True := eq_true (by omega)
    go_enter Tryz.func5, Tryz.ntmps5
    go_wp2_with fail
    have bT := alloc_below w (.cells (stcells x).toArray 56)
    refine (sanity_any _ (hK.below bT h1) (Nat.lt_of_lt_of_le h1 bT.size)).mono ?_
    rintro e w1 ⟨rfl, b1⟩
    have bZ := Lib.hid (bT.trans (b1.mono bT.size)); clear b1
    go_wp2
    go_ret
    exact ⟨rfl, bZ.out⟩
  have q2 : ((12 : Int) < l.length) = False := eq_false (by omega)
  by_cases a3 : 200 < ps.length
  · have q3 : ((200 : Int) < ps.length) = True := eq_true (by omega)
    go_enter Tryz.func5, Tryz.ntmps5
    go_wp2_with fail
    have bT := alloc_below w (.cells (stcells x).toArray 56)
    refine (sanity_any _ (hK.below bT h1) (Nat.lt_of_lt_of_le h1 bT.size)).mono ?_
    rintro e w1 ⟨rfl, b1⟩
    have bZ := Lib.hid (bT.trans (b1.mono bT.size)); clear b1
    go_wp2
    go_ret
    exact ⟨rfl, bZ.out⟩
  have q3 : ((200 : Int) < ps.length) = False := eq_false (by omega)
  have HK0 := Lib.hid hK; clear hK
  have HR0 := Lib.hid hR; clear hR
  have HL1 := Lib.hid h1; clear h1
  have HL0 := Lib.hid h0; clear h0
  have HST0 := Lib.hid hl; clear hl
  have HP0 := Lib.hid hp; clear hp
  have hl12 : l.length ≤ 12 := by omega
  have hp200 : ps.length ≤ 200 := by omega
  clear a2 a3
  go_enter Tryz.func5, Tryz.ntmps5
  go_wp2_with fail
  obtain ⟨T, hT⟩ : ∃ T, T = w.heap.size := ⟨_, rfl⟩
  obtain ⟨W, hW⟩ : ∃ W, W = w.alloc (.cells (stcells x).toArray 56) := ⟨_, rfl⟩
  have bT : Below w.heap.size w W := by rw [hW]; exact alloc_below _ _
  have kT : Blk W T (stcells x) 56 := by rw [hW, hT]; exact Blk.new _ _ _
  have hTW : T < W.heap.size := kT.lt
  first | rw [← hW, ← hT] | rw [← hW] | rw [← hT] | skip
  have HK := Lib.hid (HK0.out.below bT HL1.out)
  have HRR := Lib.hid (HR0.out.below bT HL0.out)
  have HL1W := Lib.hid (Nat.lt_of_lt_of_le HL1.out bT.size)
  have HL0W := Lib.hid (Nat.lt_of_lt_of_le HL0.out bT.size)
  have HST := Lib.hid (HST0.out.below bT)
  have HPS := Lib.hid (HP0.out.below bT)
  have hpb : ∀ b, (Value.slice sp ps.length cp).ownBlock = some b → b < w.heap.size := fun b hb => by
    obtain ⟨_, ⟨h2, _⟩ | ⟨b', off, cap, h2, _, _, _, h3⟩⟩ := HP0.out
    · rw [h2] at hb; cases hb
    · rw [h2] at hb
      have : b' = b := by simpa [Value.ownBlock] using hb
      omega
  have HPB := Lib.hid hpb; clear hpb
  have HBT := Lib.hid bT; clear bT
  have HKT := Lib.hid kT; clear kT
  have HW := Lib.hid hW; clear hW
  have HT := Lib.hid hT; clear hT
  by_cases a4 : s < 1
  · have q4 : (s < 1) = True := eq_true a4
    refine (filled_bad W s l sa ca a4).mono ?_
    rintro e w1 ⟨rfl, b1⟩
    have HB1 := Lib.hid b1; clear b1
    go_wp2_with fail
    refine (sanity_any w1 (HK.out.below HB1.out HL1W.out) (Nat.lt_of_lt_of_le HL1W.out HB1.out.size)).mono ?_
    rintro e w2 ⟨rfl, b2⟩
    have HB2 := Lib.hid (HB1.out.trans (b2.mono HB1.out.size)); clear b2
    go_wp2
    go_ret
    exact ⟨rfl, HBT.out.trans (HB2.out.mono HBT.out.size)⟩
  obtain ⟨n, rfl⟩ : ∃ n : Nat, s = n := ⟨s.toNat, by omega⟩
  have hfill := filled_any W n (by omega) (by omega) l sa ca HST.out hl12 HK.out HL1W.out
  have HFI := Lib.hid hfill; clear hfill a1 a4
  refine HFI.out.mono ?_
  rintro e w1 ⟨f, d, j, A, B, vt, rfl, hF, hjl⟩
  have HF := Lib.hid hF; clear hF HFI
  have ho := open_any f d w1 HF.out.pd HF.out.inv.inv.off (HK.out.below HF.out.b HL1W.out) (Nat.lt_of_lt_of_le HL1W.out HF.out.b.size)
  rw [show parts0 d = d.s.map cont from rfl, HF.out.inv.fnd] at ho
  have HO := Lib.hid ho; clear ho
  go_wp2_with fail
  refine HO.out.mono ?_
  rintro e w2 ⟨J, rfl, hJ, hJg, b2⟩
  clear HO
  obtain ⟨G, jn, jb, jt⟩ := J
  obtain ⟨vts, vtc, rfl, _⟩ := own_slice HF.out.rt
  have htl : (texts j).length = j.rs.length := by simp [texts]
  have hdm : damaged j = [] := HF.out.inv.dmg
  have HTL := Lib.hid htl; clear htl
  have HDM := Lib.hid hdm; clear hdm
  have HRT := Lib.hid (own_below HF.out.rt b2)
  have HJ := Lib.hid hJ; clear hJ
  have HP2 := Lib.hid (HF.out.pd.below b2)
  have hb02 : Below W.heap.size W w2 := HF.out.b.trans (b2.mono HF.out.b.size)
  have HB2 := Lib.hid hb02; clear hb02 b2
  have HFA := Lib.hid HF.out.hf
  have HAP := Lib.hid HF.out.ap
  have HIN := Lib.hid HF.out.inv
  have HTT := Lib.hid HF.out.tl
  have HVG := Lib.hid (fun b (hb : (Value.slice vts j.rs.length vtc).ownBlock = some b) => Nat.lt_of_lt_of_le (HF.out.rt.lt b hb).2 hJg)
  have HJG := Lib.hid (Nat.le_trans HF.out.b.size hJg); clear hJg HF
  go_wp2_with fail
  refine (texts_any HJ.out).mono ?_
  rintro e w3 ⟨v3, rfl, o3, b3⟩
  have HRT3 := Lib.hid (own_below HRT.out b3)
  have HO3 := Lib.hid o3; clear o3
  have HJ3 := Lib.hid (HJ.out.below b3)
  have HP3 := Lib.hid (HP2.out.below b3)
  have HB3 := Lib.hid (HB2.out.trans (b3.mono HB2.out.size)); clear b3 HRT HJ HP2 HB2
  go_wp2_with fail
  refine (sameT_any (texts j) v3 _ w3 (Sl.of_owns HO3.out) (by have := Sl.of_owns HRT3.out; rw [HTL.out]; exact this) (by rw [HTL.out]; omega)).mono ?_
  rintro e w4 ⟨rfl, b4⟩
  have HRT4 := Lib.hid (own_below HRT3.out b4)
  have HJ4 := Lib.hid (HJ3.out.below b4)
  have HP4 := Lib.hid (HP3.out.below b4)
  have HB4 := Lib.hid (HB3.out.trans (b4.mono HB3.out.size)); clear b4 HRT3 HJ3 HP3 HB3 HO3
  go_wp2_with fail
  refine (damaged_any HJ4.out).mono ?_
  rw [HDM.out]
  rintro e w5 ⟨v5, rfl, o5, b5⟩
  obtain ⟨s5, c5, rfl, _⟩ := own_slice o5
  have HRT5 := Lib.hid (own_below HRT4.out b5)
  have HJ5 := Lib.hid (HJ4.out.below b5)
  have HP5 := Lib.hid (HP4.out.below b5)
  have HB5 := Lib.hid (HB4.out.trans (b5.mono HB4.out.size)); clear b5 HRT4 HJ4 HP4 HB4 o5
  have htr := tr.toNat_lt
  have HTR := Lib.hid (trip_any f d (tr.toNat : Int) (by omega) w5 HP5.out)
  go_wp2_with fail
  refine HTR.out.mono ?_
  rintro e w6 ⟨rfl, hP6, hc6⟩
  clear HTR
  have hfp : ∀ y ∈ [f.p], y ∈ f.all := fun y hy => by simp at hy; subst hy; simp [Ft.all]
  have HJ6 := Lib.hid (HJ5.out.chg hc6 fun y hy hm => HJ5.out.apart y hy (hfp y hm))
  have HRT6 := Lib.hid (own_chg HRT5.out hc6 fun b hb hm => HAP.out b hb (hfp b hm))
  have HB6 := Lib.hid (HB5.out.trans (hc6.below HB5.out.size fun y hy => HFA.out y (hfp y hy)))
  have HP6 := Lib.hid hP6; clear hP6 hc6 hfp HJ5 HRT5 HB5 HP5
  have HKT6 := Lib.hid (HKT.out.below HB6.out hTW)
  have HC6 := Lib.hid (HKT6.out.cells 0 (stcells x) rfl)
  go_wp2_with (refine wpList_load_agg (stcells x) HC6.out rfl rfl rfl aggSt infoSt ?_)
  refine (rtext_st x w6).mono ?_
  rintro e w7 ⟨rfl, b7⟩
  have HRT7 := Lib.hid (own_below HRT6.out b7)
  have HJ7 := Lib.hid (HJ6.out.below b7)
  have HP7 := Lib.hid (HP6.out.below b7)
  have HB7 := Lib.hid (HB6.out.trans (b7.mono HB6.out.size)); clear b7 HRT6 HJ6 HP6 HB6 HC6 HKT6
  obtain ⟨d1, hd1⟩ : ∃ d1, d1 = atrip d (tr.toNat : Int) := ⟨_, rfl⟩
  rw [← hd1] at HP7
  have HD1 := Lib.hid hd1; clear hd1
  have ha := append_any HJ7.out HP7.out (HK.out.below HB7.out HL1W.out) (Nat.lt_of_lt_of_le HL1W.out HB7.out.size) x.text (by have := x.text_len; unfold maxLen; omega)
  have HA := Lib.hid ha; clear ha
  go_wp2_with fail
  refine HA.out.mono ?_
  rintro e w8 ⟨J', hg', rfl, hj8, hP8, hc8, _⟩
  clear HA
  have hFG : ∀ y ∈ f.all ++ (⟨G, jn, jb, jt⟩ : Jf).all, W.heap.size ≤ y := fun y hy => by
    rcases List.mem_append.1 hy with hy | hy
    · exact HFA.out y hy
    · exact Nat.le_trans HJG.out (HJ7.out.lo y hy).1
  have hvn : ∀ b, (Value.slice vts j.rs.length vtc).ownBlock = some b → b ∉ f.all ++ (⟨G, jn, jb, jt⟩ : Jf).all := fun b hb hm => by
    rcases List.mem_append.1 hm with hm | hm
    · exact HAP.out b hb hm
    · have := HVG.out b hb
      have := (HJ7.out.lo b hm).1
      dsimp only at this
      omega
  have HRT8 := Lib.hid (own_chg HRT7.out hc8 hvn)
  have HB8 := Lib.hid (HB7.out.trans (hc8.below HB7.out.size hFG))
  clear hc8 hFG hvn HRT7 HB7 HJ7 hj8 hg' HP7
  obtain ⟨er, her⟩ : ∃ er, er = (aappend d1 j x.text).2.1 := ⟨_, rfl⟩
  obtain ⟨d2, hd2⟩ : ∃ d2, d2 = (aappend d1 j x.text).2.2.2 := ⟨_, rfl⟩
  obtain ⟨nr, hnr⟩ : ∃ nr, nr = (aappend d1 j x.text).1 := ⟨_, rfl⟩
  rw [← hd2] at hP8
  rw [← her, ← hnr]
  clear hnr
  have HER := Lib.hid her; clear her
  have HD2 := Lib.hid hd2; clear hd2
  have hfw : ∀ y ∈ f.all, W.heap.size ≤ y := HFA.out
  have HM := Lib.hid (mount_any f d2 ps sp cp w8 hP8 (fun _ => HPS.out.below HB8.out) (fun _ b hb hm => by
    have h2 := hfw b hm
    have h3 := HPB.out b hb
    have h4 := HBT.out.size
    omega))
  clear hP8 hfw
  go_wp2_with fail
  refine HM.out.mono ?_
  rintro e w9 ⟨rfl, hP9, hc9⟩
  clear HM
  have HRT9 := Lib.hid (own_chg HRT8.out hc9 fun b hb hm => HAP.out b hb hm)
  have HB9 := Lib.hid (HB8.out.trans (hc9.below HB8.out.size HFA.out))
  clear hc9 HRT8 HB8
  obtain ⟨dm, hdm⟩ : ∃ dm, dm = amount d2 ps := ⟨_, rfl⟩
  rw [← hdm] at hP9
  have hsv := survives HIN.out (by omega) (tr.toNat : Int) x.text ps
  rw [← HD1.out, ← HD2.out, ← hdm, ← HER.out] at hsv
  have HSV := Lib.hid hsv; clear hsv HD1 HD2 hdm HER
  have hok9 := hP9.ok
  have HP9 := Lib.hid hP9; clear hP9
  have HKT9 := Lib.hid (HKT.out.below HB9.out hTW)
  obtain ⟨img, himg⟩ : ∃ img, img = dm.s.map (·.t) := ⟨_, rfl⟩
  have himl : img.length = dm.s.length := by rw [himg]; simp
  have him4 : img.length ≤ 1000000 := by rw [himl]; have := hok9.most; omega
  have him64 : ∀ y ∈ img, y.length ≤ 64 := by
    rw [himg]
    intro y hy
    obtain ⟨z, hz, rfl⟩ := List.mem_map.1 hy
    exact Nat.le_of_eq (hok9.t z hz)
  rw [← himg] at HSV
  have HIMG := Lib.hid himg; clear himg hok9
  have HIML := Lib.hid himl; clear himl
  have HIM4 := Lib.hid him4; clear him4
  have HIM64 := Lib.hid him64; clear him64
  obtain ⟨TS, hTS⟩ : ∃ TS, TS = texts j ++ [x.text] := ⟨_, rfl⟩
  have hTSl : TS.length = j.rs.length + 1 := by rw [hTS, List.length_append, HTL.out]; rfl
  have hTS8 : ∀ t ∈ TS, t.length ≤ 1000000 := by
    rw [hTS]
    intro t ht
    rcases List.mem_append.1 ht with ht | ht
    · have := HTT.out t ht; omega
    · obtain rfl : t = x.text := by simpa using ht
      have := x.text_len; omega
  have hTSm : (texts j).map str ++ [str x.text] = TS.map str := by rw [hTS]; simp
  rw [← hTS] at HSV
  have HTS := Lib.hid hTS; clear hTS
  have HTSL := Lib.hid hTSl; clear hTSl
  have HTS8 := Lib.hid hTS8; clear hTS8
  have HTSM := Lib.hid hTSm; clear hTSm
  have hw9 : W.heap.size ≤ w9.heap.size := HB9.out.size
  go_upto_region 12 with (fail)
  have hKR : ∀ W1 : World, Below W.heap.size W W1 → Cells W1 0 0 (Kt.map U) ∧ 0 < W1.heap.size := fun W1 hb => ⟨HRR.out.below hb HL0W.out, Nat.lt_of_lt_of_le HL0W.out hb.size⟩
  have HKR := Lib.hid hKR; clear hKR
  haveI : Nonempty (SqC.Come fun W' : World => Blk W' T (stcells x) 56) := ⟨⟨w9, HKT9.out⟩⟩
  refine SqX.wp_region_split2 1 2 [0, 2, 1, 3, 4, 5, 6, 7, 8, 9, 10] (fun j => if j = 1 then 2 else if j = 2 then 1 else j) _ _ rfl rfl 11 (by kernel_rfl) (by kernel_rfl) (by kernel_rfl) (by kernel_rfl) ?_ ?_
  · simp only [SqE.addE, List.set_cons_zero, List.set_cons_succ, List.getD_cons_zero, List.getD_cons_succ]
    refine SqC.any_sqc 11 11 [1, 2, 4, 6, 7, 8, 9] (fun W' : World => Blk W' T (stcells x) 56) (by kernel_rfl) rfl (by kernel_rfl) HKT9.out.drew ?_
    have HKTs := HKT9
    have HRTs := HRT9
    obtain ⟨w10, hw10⟩ : ∃ w10, w10 = w9.drew := ⟨_, rfl⟩
    have HB10 : Hid (Below w9.heap.size w9 w10) := Lib.hid (by rw [hw10]; exact (Below.refl w9.heap.size w9).drew)
    first | rw [← hw10] | skip
    clear hw10
    refine SqC.quiet rfl rfl ?_
    go_big_quiet_step (fail)
    refine wpQuiet_nil ?_
    refine SqC.effect rfl rfl (yields_call rfl (by kernel_rfl) rfl rfl ((image_any f dm _ (HP9.out.below HB10.out)).mono ?_))
    rintro e w11 ⟨vI, rfl, hSI, hgI, bI⟩
    have HB11 : Hid (Below w9.heap.size w9 w11) := Lib.hid (HB10.out.trans (bI.mono HB10.out.size))
    have HSI : Hid (Sl w11 1 vI img.length (img.map str)) := Lib.hid (by rw [HIML.out, HIMG.out]; exact hSI)
    have HGI : Hid (∀ b, vI.ownBlock = some b → w10.heap.size ≤ b ∧ b < w11.heap.size) := Lib.hid (fun b hb => ⟨hgI b hb, sl_own_lt HSI.out hb⟩)
    clear bI hSI hgI
    refine ⟨_, rfl, fun _ => HKTs.out.below HB11.out HKTs.out.lt, ?_⟩
    first | simp only [Act.put, List.setIfInBounds_toArray, List.set_cons_zero, List.set_cons_succ] | skip
    refine SqC.effectW rfl rfl ?_
    go_wp2
    obtain ⟨w12, hw12⟩ : ∃ w12, w12 = w11.alloc (.cells #[] 9) := ⟨_, rfl⟩
    obtain ⟨b0, hb0⟩ : ∃ b0, b0 = w11.heap.size := ⟨_, rfl⟩
    have HB12 : Hid (Below w9.heap.size w9 w12) := Lib.hid (by rw [hw12]; exact HB11.out.alloc HB11.out.size _)
    have HOW12 : Hid (w12.ownsRow w9.heap.size 9 1 (.slice (some ⟨b0, 0, none⟩) 0 0) 0 []) := Lib.hid (by rw [hw12, hb0]; exact own_new w11 #[] 9 0 _ rfl (by decide) HB11.out.size)
    have HB0 : Hid (b0 = w11.heap.size ∧ b0 < w12.heap.size) := Lib.hid ⟨hb0, by rw [hw12, hb0, alloc_size]; omega⟩
    have HSI12 := Lib.hid (HSI.out.below (show Below w11.heap.size w11 w12 by rw [hw12]; exact alloc_below _ _)); clear HSI; have HSI := HSI12
    rw [← hw12, ← hb0]
    clear hw12 hb0
    refine SqC.here rfl (fun _ => HKTs.out.below HB12.out HKTs.out.lt) ?_
    first | simp only [Act.put, List.setIfInBounds_toArray, List.set_cons_zero, List.set_cons_succ] | skip
    refine SqC.quiet rfl rfl ?_
    go_big_quiet_step (fail)
    refine wpQuiet_nil ?_
    refine SqC.effectW rfl rfl ?_
    have HIS : Hid (w11.heap.size ≤ w12.heap.size) := Lib.hid (by have := HB0.out; omega)
    refine wpList_append_szg rfl _ _ 22 rfl w9.heap.size 9 (str []) 16 hTss infoStr rfl (.slice (some ⟨b0, 0, none⟩) 0 0) 0 [] rfl HOW12.out vts j.rs.length vtc ((texts j).map str) rfl (fun _ => Sl.of_owns (own_below HRTs.out HB12.out)) (by rw [List.length_map]; exact HTL.out) (by intro u hu; obtain ⟨y, _, rfl⟩ := List.mem_map.1 hu; rfl) (by unfold maxLen; omega) (by omega) HB12.out.size ?_
    intro v1 w13 ow1 gr1 lo1
    have HB13 : Hid (Below w9.heap.size w9 w13) := Lib.hid (grown_below (base := w9.heap.size) HB12.out HOW12.out gr1 HB12.out.size)
    have HOW13 : Hid (w13.ownsRow w9.heap.size 9 1 v1 j.rs.length ((texts j).map str)) := Lib.hid (by simpa using ow1)
    have HGO : Hid (∀ b, vI.ownBlock = some b → v1.ownBlock ≠ some b) := Lib.hid (fun b hb hv => by
      have h1 := HGI.out b hb
      rcases lo1 b hv with h2 | h2
      · have h3 : b0 = b := by simpa [Value.ownBlock] using h2
        have h4 := HB0.out
        have h6 : w11.heap.size ≤ w11.heap.size := Nat.le_refl _
        omega
      · have h5 : w11.heap.size ≤ w12.heap.size := HIS.out
        omega)
    have HSI13 : Hid (Sl w13 1 vI img.length (img.map str)) := Lib.hid (HSI.out.chg (Chg.of_grown gr1) (fun b hb hm => by
      have h1 := HGI.out b hb
      have h3 : b = b0 := by simpa [Value.ownBlock] using hm
      have h4 := HB0.out
      have h6 : w11.heap.size ≤ w11.heap.size := Nat.le_refl _
      omega)); clear HSI; have HSI := HSI13
    clear ow1 gr1 lo1 HOW12
    obtain ⟨s1, c1, rfl, _⟩ := own_slice HOW13.out
    go_wp2
    refine SqC.here rfl (fun _ => HKTs.out.below HB13.out HKTs.out.lt) ?_
    refine SqC.value (.agg (stcells x).toArray) rfl rfl (by intro W' hW'; exact load_agg_exec rfl rfl (run_load_agg (P := Tryz.prog) (ty := 56) (hW'.cells 0 (stcells x) rfl) aggSt infoSt)) ?_
    first | simp only [Act.put, List.setIfInBounds_toArray, List.set_cons_zero, List.set_cons_succ] | skip
    refine SqC.effect rfl rfl (yields_call rfl (by kernel_rfl) rfl rfl ((rtext_st x _).mono ?_))
    rintro e w14 ⟨rfl, bI⟩
    have HB14 : Hid (Below w9.heap.size w9 w14) := Lib.hid (HB13.out.trans (bI.mono HB13.out.size))
    have HOW14 := Lib.hid (own_below HOW13.out bI)
    have HSI14 := Lib.hid (HSI.out.below bI); clear HSI; have HSI := HSI14
    clear bI HOW13
    refine ⟨_, rfl, fun _ => HKTs.out.below HB14.out HKTs.out.lt, ?_⟩
    first | simp only [Act.put, List.setIfInBounds_toArray, List.set_cons_zero, List.set_cons_succ] | skip
    refine SqC.effectW rfl rfl ?_
    go_wp2
    obtain ⟨w15, hw15⟩ : ∃ w15, w15 = w14.alloc (.cells #[str x.text] 9) := ⟨_, rfl⟩
    obtain ⟨b1, hb1⟩ : ∃ b1, b1 = w14.heap.size := ⟨_, rfl⟩
    have HB15 : Hid (Below w9.heap.size w9 w15) := Lib.hid (by rw [hw15]; exact HB14.out.alloc HB14.out.size _)
    have HOW15 : Hid (w15.ownsRow w9.heap.size 9 1 (.slice s1 j.rs.length c1) j.rs.length ((texts j).map str)) := Lib.hid (by rw [hw15]; exact own_below HOW14.out (alloc_below _ _))
    have HO1 : Hid (w15.ownsRow w9.heap.size 9 1 (.slice (some ⟨b1, 0, none⟩) 1 1) 1 [str x.text]) := Lib.hid (by rw [hw15, hb1]; exact own_new w14 #[str x.text] 9 1 _ rfl (by decide) HB14.out.size)
    have HSI15 := Lib.hid (HSI.out.below (show Below w14.heap.size w14 w15 by rw [hw15]; exact alloc_below _ _)); clear HSI; have HSI := HSI15
    rw [← hw15, ← hb1]
    clear hw15 hb1 HOW14
    refine SqC.here rfl (fun _ => HKTs.out.below HB15.out HKTs.out.lt) ?_
    refine SqC.effectW rfl rfl ?_
    refine wpList_append_szg rfl _ _ 22 rfl w9.heap.size 9 (str []) 16 hTss infoStr rfl (.slice s1 j.rs.length c1) j.rs.length ((texts j).map str) rfl HOW15.out (some ⟨b1, 0, none⟩) 1 1 [str x.text] rfl (fun _ => Sl.of_owns HO1.out) rfl (by intro u hu; simp at hu; rw [hu]; rfl) (by unfold maxLen; omega) (by omega) HB15.out.size ?_
    intro v2 w16 ow2 gr2 lo2
    have HB16 : Hid (Below w9.heap.size w9 w16) := Lib.hid (grown_below (base := w9.heap.size) HB15.out HOW15.out gr2 HB15.out.size)
    have HOW16 : Hid (w16.ownsRow w9.heap.size 9 1 v2 TS.length (TS.map str)) := Lib.hid (by rw [HTSL.out, ← HTSM.out]; exact ow2)
    have HSI16 : Hid (Sl w16 1 vI img.length (img.map str)) := Lib.hid (HSI.out.chg (Chg.of_grown gr2) (fun b hb hm => HGO.out b hb (by simpa using hm))); clear HSI; have HSI := HSI16
    clear ow2 gr2 lo2 HOW15 HO1
    obtain ⟨s2, c2, rfl, _⟩ := own_slice HOW16.out
    go_wp2
    refine SqC.here rfl (fun _ => HKTs.out.below HB16.out HKTs.out.lt) ?_
    obtain ⟨sI, cI, rfl, _⟩ := sl_slice HSI.out
    have hgen := genuine_any w16 img TS sI s2 cI c2 HSI.out (Sl.of_owns HOW16.out) HIM4.out (by rw [HTSL.out]; omega) HIM64.out HTS8.out (HKR.out _ (HB9.out.trans (HB16.out.mono HB9.out.size))).1 (HKR.out _ (HB9.out.trans (HB16.out.mono HB9.out.size))).2
    refine SqC.effect rfl rfl (yields_call rfl (by kernel_rfl) rfl (by rw [HIML.out]; rfl) (hgen.mono ?_))
    rintro e w17 ⟨rfl, bI⟩
    clear hgen
    have HB17 : Hid (Below w9.heap.size w9 w17) := Lib.hid (HB16.out.trans (bI.mono HB16.out.size))
    clear bI HOW16
    refine ⟨_, rfl, fun _ => HKTs.out.below HB17.out HKTs.out.lt, ?_⟩
    first | simp only [Act.put, List.setIfInBounds_toArray, List.set_cons_zero, List.set_cons_succ] | skip
    refine SqC.quiet rfl rfl ?_
    go_big_quiet_step (fail)
    refine wpQuiet_nil ?_
    refine SqC.nil ?_
    refine SqE.nrm ?_
    have HRT17 := Lib.hid (own_below HRT9.out HB17.out)
    have HB17w := Lib.hid (HB9.out.trans (HB17.out.mono HB9.out.size))
    have hK17 := Lib.hid (HK.out.below HB17w.out HL1W.out)
    have hL17 := Lib.hid (Nat.lt_of_lt_of_le HL1W.out HB17w.out.size)
    cases hgb : genB img TS with
    | false =>
      go_wp2_with fail
      refine (sanity_any w17 hK17.out hL17.out).mono ?_
      rintro e w18 ⟨rfl, b18⟩
      have HBE := Lib.hid (HBT.out.trans ((HB17w.out.trans (b18.mono HB17w.out.size)).mono HBT.out.size)); clear b18
      go_wp2
      go_ret
      exact ⟨rfl, HBE.out⟩
    | true =>
      obtain ⟨hoff, hcase⟩ := HSV.out
      have hcase := hcase hgb
      have HCA := Lib.hid hcase; clear hcase hgb
      have ho := open_any f dm w17 (HP9.out.below HB17.out) hoff hK17.out hL17.out
      have HO := Lib.hid ho; clear ho hoff
      go_wp2_with fail
      refine HO.out.mono ?_
      rintro e w18 ⟨Jk, rfl, hJk, _, b18⟩
      clear HO
      obtain ⟨kj, hkj⟩ : ∃ kj, kj = found (dm.s.map cont) := ⟨_, rfl⟩
      rw [show parts0 dm = dm.s.map cont from rfl, ← hkj] at hJk
      have hca := HCA.out
      rw [← hkj] at hca
      have HCB := Lib.hid hca; clear hca HCA hkj
      have HJk := Lib.hid hJk; clear hJk
      have HB18 := Lib.hid (HB17w.out.trans (b18.mono HB17w.out.size))
      have HRT18 := Lib.hid (own_below HRT17.out b18); clear b18
      go_wp2_with fail
      refine (texts_any HJk.out).mono ?_
      rintro e w19 ⟨vF, rfl, oF, b19⟩
      have HB19 := Lib.hid (HB18.out.trans (b19.mono HB18.out.size))
      have HRT19 := Lib.hid (own_below HRT18.out b19); clear b19
      have HOF := Lib.hid (Sl.of_owns oF); clear oF HJk
      have HKTs := Lib.hid (HKT.out.below HB19.out hTW)
      have HRTs := HRT19
      haveI : Nonempty (SqC.Come fun W' : World => Blk W' T (stcells x) 56) := ⟨⟨w19, HKTs.out⟩⟩
      go_upto_region 18 with (fail)
      clear HSI HGI HGO HIS HB0
      refine SqC.wp_region_sqc 8 [0, 2, 4, 5, 6] (fun W' : World => Blk W' T (stcells x) 56) (by kernel_rfl) (by kernel_rfl) (by kernel_rfl) HKTs.out.drew ?_
      obtain ⟨w20, hw20⟩ : ∃ w20, w20 = w19.drew := ⟨_, rfl⟩
      have HB20 : Hid (Below w19.heap.size w19 w20) := Lib.hid (by rw [hw20]; exact (Below.refl w19.heap.size w19).drew)
      first | rw [← hw20] | skip
      clear hw20
      refine SqC.effectW rfl rfl ?_
      go_wp2
      obtain ⟨w21, hw21⟩ : ∃ w21, w21 = w20.alloc (.cells #[] 9) := ⟨_, rfl⟩
      obtain ⟨b0, hb0⟩ : ∃ b0, b0 = w20.heap.size := ⟨_, rfl⟩
      have HB21 : Hid (Below w19.heap.size w19 w21) := Lib.hid (by rw [hw21]; exact HB20.out.alloc HB20.out.size _)
      have HOW21 : Hid (w21.ownsRow w19.heap.size 9 1 (.slice (some ⟨b0, 0, none⟩) 0 0) 0 []) := Lib.hid (by rw [hw21, hb0]; exact own_new w20 #[] 9 0 _ rfl (by decide) HB20.out.size)
      have HB00 : Hid (b0 = w20.heap.size ∧ b0 < w21.heap.size) := Lib.hid ⟨hb0, by rw [hw21, hb0, alloc_size]; omega⟩
      rw [← hw21, ← hb0]
      clear hw21 hb0
      refine SqC.here rfl (fun _ => HKTs.out.below HB21.out HKTs.out.lt) ?_
      first | simp only [Act.put, List.setIfInBounds_toArray, List.set_cons_zero, List.set_cons_succ] | skip
      refine SqC.quiet rfl rfl ?_
      go_big_quiet_step (fail)
      refine wpQuiet_nil ?_
      refine SqC.effectW rfl rfl ?_
      refine wpList_append_szg rfl _ _ 22 rfl w19.heap.size 9 (str []) 16 hTss infoStr rfl (.slice (some ⟨b0, 0, none⟩) 0 0) 0 [] rfl HOW21.out vts j.rs.length vtc ((texts j).map str) rfl (fun _ => Sl.of_owns (own_below HRTs.out HB21.out)) (by rw [List.length_map]; exact HTL.out) (by intro u hu; obtain ⟨y, _, rfl⟩ := List.mem_map.1 hu; rfl) (by unfold maxLen; omega) (by omega) HB21.out.size ?_
      intro v1 w22 ow1 gr1 lo1
      have HB22 : Hid (Below w19.heap.size w19 w22) := Lib.hid (grown_below (base := w19.heap.size) HB21.out HOW21.out gr1 HB21.out.size)
      have HOW22 : Hid (w22.ownsRow w19.heap.size 9 1 v1 j.rs.length ((texts j).map str)) := Lib.hid (by simpa using ow1)
      clear ow1 gr1 lo1 HOW21
      obtain ⟨s1, c1, rfl, _⟩ := own_slice HOW22.out
      go_wp2
      refine SqC.here rfl (fun _ => HKTs.out.below HB22.out HKTs.out.lt) ?_
      refine SqC.value (.agg (stcells x).toArray) rfl rfl (by intro W' hW'; exact load_agg_exec rfl rfl (run_load_agg (P := Tryz.prog) (ty := 56) (hW'.cells 0 (stcells x) rfl) aggSt infoSt)) ?_
      first | simp only [Act.put, List.setIfInBounds_toArray, List.set_cons_zero, List.set_cons_succ] | skip
      refine SqC.effect rfl rfl (yields_call rfl (by kernel_rfl) rfl rfl ((rtext_st x _).mono ?_))
      rintro e w23 ⟨rfl, bI⟩
      have HB23 : Hid (Below w19.heap.size w19 w23) := Lib.hid (HB22.out.trans (bI.mono HB22.out.size))
      have HOW23 := Lib.hid (own_below HOW22.out bI)
      clear bI HOW22
      refine ⟨_, rfl, fun _ => HKTs.out.below HB23.out HKTs.out.lt, ?_⟩
      first | simp only [Act.put, List.setIfInBounds_toArray, List.set_cons_zero, List.set_cons_succ] | skip
      refine SqC.effectW rfl rfl ?_
      go_wp2
      obtain ⟨w24, hw24⟩ : ∃ w24, w24 = w23.alloc (.cells #[str x.text] 9) := ⟨_, rfl⟩
      obtain ⟨b1, hb1⟩ : ∃ b1, b1 = w23.heap.size := ⟨_, rfl⟩
      have HB24 : Hid (Below w19.heap.size w19 w24) := Lib.hid (by rw [hw24]; exact HB23.out.alloc HB23.out.size _)
      have HOW24 : Hid (w24.ownsRow w19.heap.size 9 1 (.slice s1 j.rs.length c1) j.rs.length ((texts j).map str)) := Lib.hid (by rw [hw24]; exact own_below HOW23.out (alloc_below _ _))
      have HO1 : Hid (w24.ownsRow w19.heap.size 9 1 (.slice (some ⟨b1, 0, none⟩) 1 1) 1 [str x.text]) := Lib.hid (by rw [hw24, hb1]; exact own_new w23 #[str x.text] 9 1 _ rfl (by decide) HB23.out.size)
      rw [← hw24, ← hb1]
      clear hw24 hb1 HOW23
      refine SqC.here rfl (fun _ => HKTs.out.below HB24.out HKTs.out.lt) ?_
      refine SqC.effectW rfl rfl ?_
      refine wpList_append_szg rfl _ _ 22 rfl w19.heap.size 9 (str []) 16 hTss infoStr rfl (.slice s1 j.rs.length c1) j.rs.length ((texts j).map str) rfl HOW24.out (some ⟨b1, 0, none⟩) 1 1 [str x.text] rfl (fun _ => Sl.of_owns HO1.out) rfl (by intro u hu; simp at hu; rw [hu]; rfl) (by unfold maxLen; omega) (by omega) HB24.out.size ?_
      intro v2 w25 ow2 gr2 lo2
      have HB25 : Hid (Below w19.heap.size w19 w25) := Lib.hid (grown_below (base := w19.heap.size) HB24.out HOW24.out gr2 HB24.out.size)
      have HOW25 : Hid (w25.ownsRow w19.heap.size 9 1 v2 TS.length (TS.map str)) := Lib.hid (by rw [HTSL.out, ← HTSM.out]; exact ow2)
      clear ow2 gr2 lo2 HOW24 HO1
      obtain ⟨s2, c2, rfl, _⟩ := own_slice HOW25.out
      go_wp2
      refine SqC.here rfl (fun _ => HKTs.out.below HB25.out HKTs.out.lt) ?_
      refine SqC.quiet rfl rfl ?_
      go_big_quiet_step (fail)
      refine wpQuiet_nil ?_
      refine SqC.nil ?_
      have HOF2 := Lib.hid (HOF.out.below HB25.out)
      have HRT2 := Lib.hid (own_below HRT19.out HB25.out)
      have HBW := Lib.hid (HB19.out.trans (HB25.out.mono HB19.out.size))
      go_wp2_with fail
      refine (sanity_any w25 (HK.out.below HBW.out HL1W.out) (Nat.lt_of_lt_of_le HL1W.out HBW.out.size)).mono ?_
      rintro e w26 ⟨rfl, b26⟩
      have HOF3 := Lib.hid (HOF2.out.below b26)
      have HRT3 := Lib.hid (own_below HRT2.out b26)
      have HOW26 := Lib.hid (own_below HOW25.out b26)
      have HBW2 := Lib.hid (HBW.out.trans (b26.mono HBW.out.size)); clear b26 HOF2 HRT2 HOW25 HBW
      rcases HCB.out with hc | ⟨hc0, hc⟩
      · have ht : texts kj = TS := by unfold texts; rw [hc, HTS.out, List.map_append]; rfl
        rw [ht] at HOF3
        go_wp2_with fail
        refine (sameT_any TS vF _ w26 HOF3.out (Sl.of_owns HOW26.out) (by rw [HTSL.out]; omega)).mono ?_
        rintro e w27 ⟨rfl, b27⟩
        have HBE := Lib.hid (HBT.out.trans ((HBW2.out.trans (b27.mono HBW2.out.size)).mono HBT.out.size)); clear b27 ht hc
        go_wp2
        go_ret
        exact ⟨rfl, HBE.out⟩
      · have ht : texts kj = texts j := by unfold texts; rw [hc]
        rw [ht, HTL.out] at HOF3
        obtain ⟨sF, cF, rfl, _⟩ := sl_slice HOF3.out
        have hne : (texts j == TS) = false := by
          have : texts j ≠ TS := fun e => by have := congrArg List.length e; rw [HTSL.out, HTL.out] at this; omega
          simpa using this
        have HNE := Lib.hid hne; clear hne
        have her0 : (er == 0) = false := by simpa using hc0
        have her1 : (er != 0) = true := by simpa using hc0
        have hSF : Sl w26 1 (.slice sF (texts j).length cF) (texts j).length ((texts j).map str) := by rw [HTL.out]; exact HOF3.out
        have hcm := sameTexts_any (texts j) TS sF s2 cF c2 w26 hSF (Sl.of_owns HOW26.out) (.inl (by rw [HTL.out]; omega))
        rw [HNE.out, HTL.out] at hcm
        have HCM := Lib.hid hcm; clear hcm hSF ht hc hc0
        go_wp2_with fail
        refine HCM.out.mono ?_
        rintro e w27 ⟨rfl, b27⟩
        have HOF4 := Lib.hid (HOF3.out.below b27)
        have HRT4 := Lib.hid (own_below HRT3.out b27)
        have HBW3 := Lib.hid (HBW2.out.trans (b27.mono HBW2.out.size)); clear b27 HCM
        go_wp2_with fail
        refine (sameT_any (texts j) _ _ w27 (by rw [HTL.out]; exact HOF4.out) (by rw [HTL.out]; exact Sl.of_owns HRT4.out) (by rw [HTL.out]; omega)).mono ?_
        rintro e w28 ⟨rfl, b28⟩
        have HBE := Lib.hid (HBT.out.trans ((HBW3.out.trans (b28.mono HBW3.out.size)).mono HBT.out.size)); clear b28
        go_wp2
        go_ret
        exact ⟨rfl, HBE.out⟩
  · simp only [SqP.permL, SqP.ren, SqE.addE, List.set_cons_zero, List.set_cons_succ, List.getD_cons_zero, List.getD_cons_succ, List.map_cons, List.map_nil]
    refine SqC.any_sqc 11 11 [1, 2, 4, 6, 7, 8, 9] (fun W' : World => Blk W' T (stcells x) 56) (by kernel_rfl) rfl (by kernel_rfl) HKT9.out.drew ?_
    have HKTs := HKT9
    have HRTs := HRT9
    obtain ⟨w10, hw10⟩ : ∃ w10, w10 = w9.drew := ⟨_, rfl⟩
    have HB10 : Hid (Below w9.heap.size w9 w10) := Lib.hid (by rw [hw10]; exact (Below.refl w9.heap.size w9).drew)
    first | rw [← hw10] | skip
    clear hw10
    refine SqC.quiet rfl rfl ?_
    go_big_quiet_step (fail)
    refine wpQuiet_nil ?_
    refine SqC.effectW rfl rfl ?_
    go_wp2
    obtain ⟨w11, hw11⟩ : ∃ w11, w11 = w10.alloc (.cells #[] 9) := ⟨_, rfl⟩
    obtain ⟨b0, hb0⟩ : ∃ b0, b0 = w10.heap.size := ⟨_, rfl⟩
    have HB11 : Hid (Below w9.heap.size w9 w11) := Lib.hid (by rw [hw11]; exact HB10.out.alloc HB10.out.size _)
    have HOW11 : Hid (w11.ownsRow w9.heap.size 9 1 (.slice (some ⟨b0, 0, none⟩) 0 0) 0 []) := Lib.hid (by rw [hw11, hb0]; exact own_new w10 #[] 9 0 _ rfl (by decide) HB10.out.size)
    have HB0 : Hid (b0 = w10.heap.size ∧ b0 < w11.heap.size) := Lib.hid ⟨hb0, by rw [hw11, hb0, alloc_size]; omega⟩
    rw [← hw11, ← hb0]
    clear hw11 hb0
    refine SqC.here rfl (fun _ => HKTs.out.below HB11.out HKTs.out.lt) ?_
    first | simp only [Act.put, List.setIfInBounds_toArray, List.set_cons_zero, List.set_cons_succ] | skip
    refine SqC.effect rfl rfl (yields_call rfl (by kernel_rfl) rfl rfl ((image_any f dm _ (HP9.out.below HB11.out)).mono ?_))
    rintro e w12 ⟨vI, rfl, hSI, hgI, bI⟩
    have HB12 : Hid (Below w9.heap.size w9 w12) := Lib.hid (HB11.out.trans (bI.mono HB11.out.size))
    have HSI : Hid (Sl w12 1 vI img.length (img.map str)) := Lib.hid (by rw [HIML.out, HIMG.out]; exact hSI)
    have HGI : Hid (∀ b, vI.ownBlock = some b → w11.heap.size ≤ b ∧ b < w12.heap.size) := Lib.hid (fun b hb => ⟨hgI b hb, sl_own_lt HSI.out hb⟩)
    have HOW12 := Lib.hid (own_below HOW11.out bI)
    clear bI hSI hgI
    refine ⟨_, rfl, fun _ => HKTs.out.below HB12.out HKTs.out.lt, ?_⟩
    first | simp only [Act.put, List.setIfInBounds_toArray, List.set_cons_zero, List.set_cons_succ] | skip
    refine SqC.quiet rfl rfl ?_
    go_big_quiet_step (fail)
    refine wpQuiet_nil ?_
    refine SqC.effectW rfl rfl ?_
    have HIS : Hid (w12.heap.size ≤ w12.heap.size) := Lib.hid (Nat.le_refl _)
    refine wpList_append_szg rfl _ _ 22 rfl w9.heap.size 9 (str []) 16 hTss infoStr rfl (.slice (some ⟨b0, 0, none⟩) 0 0) 0 [] rfl HOW12.out vts j.rs.length vtc ((texts j).map str) rfl (fun _ => Sl.of_owns (own_below HRTs.out HB12.out)) (by rw [List.length_map]; exact HTL.out) (by intro u hu; obtain ⟨y, _, rfl⟩ := List.mem_map.1 hu; rfl) (by unfold maxLen; omega) (by omega) HB12.out.size ?_
    intro v1 w13 ow1 gr1 lo1
    have HB13 : Hid (Below w9.heap.size w9 w13) := Lib.hid (grown_below (base := w9.heap.size) HB12.out HOW12.out gr1 HB12.out.size)
    have HOW13 : Hid (w13.ownsRow w9.heap.size 9 1 v1 j.rs.length ((texts j).map str)) := Lib.hid (by simpa using ow1)
    have HGO : Hid (∀ b, vI.ownBlock = some b → v1.ownBlock ≠ some b) := Lib.hid (fun b hb hv => by
      have h1 := HGI.out b hb
      rcases lo1 b hv with h2 | h2
      · have h3 : b0 = b := by simpa [Value.ownBlock] using h2
        have h4 := HB0.out
        have h6 : w11.heap.size ≤ w11.heap.size := Nat.le_refl _
        omega
      · have h5 : w12.heap.size ≤ w12.heap.size := HIS.out
        omega)
    have HSI13 : Hid (Sl w13 1 vI img.length (img.map str)) := Lib.hid (HSI.out.chg (Chg.of_grown gr1) (fun b hb hm => by
      have h1 := HGI.out b hb
      have h3 : b = b0 := by simpa [Value.ownBlock] using hm
      have h4 := HB0.out
      have h6 : w11.heap.size ≤ w11.heap.size := Nat.le_refl _
      omega)); clear HSI; have HSI := HSI13
    clear ow1 gr1 lo1 HOW12
    obtain ⟨s1, c1, rfl, _⟩ := own_slice HOW13.out
    go_wp2
    refine SqC.here rfl (fun _ => HKTs.out.below HB13.out HKTs.out.lt) ?_
    refine SqC.value (.agg (stcells x).toArray) rfl rfl (by intro W' hW'; exact load_agg_exec rfl rfl (run_load_agg (P := Tryz.prog) (ty := 56) (hW'.cells 0 (stcells x) rfl) aggSt infoSt)) ?_
    first | simp only [Act.put, List.setIfInBounds_toArray, List.set_cons_zero, List.set_cons_succ] | skip
    refine SqC.effect rfl rfl (yields_call rfl (by kernel_rfl) rfl rfl ((rtext_st x _).mono ?_))
    rintro e w14 ⟨rfl, bI⟩
    have HB14 : Hid (Below w9.heap.size w9 w14) := Lib.hid (HB13.out.trans (bI.mono HB13.out.size))
    have HOW14 := Lib.hid (own_below HOW13.out bI)
    have HSI14 := Lib.hid (HSI.out.below bI); clear HSI; have HSI := HSI14
    clear bI HOW13
    refine ⟨_, rfl, fun _ => HKTs.out.below HB14.out HKTs.out.lt, ?_⟩
    first | simp only [Act.put, List.setIfInBounds_toArray, List.set_cons_zero, List.set_cons_succ] | skip
    refine SqC.effectW rfl rfl ?_
    go_wp2
    obtain ⟨w15, hw15⟩ : ∃ w15, w15 = w14.alloc (.cells #[str x.text] 9) := ⟨_, rfl⟩
    obtain ⟨b1, hb1⟩ : ∃ b1, b1 = w14.heap.size := ⟨_, rfl⟩
    have HB15 : Hid (Below w9.heap.size w9 w15) := Lib.hid (by rw [hw15]; exact HB14.out.alloc HB14.out.size _)
    have HOW15 : Hid (w15.ownsRow w9.heap.size 9 1 (.slice s1 j.rs.length c1) j.rs.length ((texts j).map str)) := Lib.hid (by rw [hw15]; exact own_below HOW14.out (alloc_below _ _))
    have HO1 : Hid (w15.ownsRow w9.heap.size 9 1 (.slice (some ⟨b1, 0, none⟩) 1 1) 1 [str x.text]) := Lib.hid (by rw [hw15, hb1]; exact own_new w14 #[str x.text] 9 1 _ rfl (by decide) HB14.out.size)
    have HSI15 := Lib.hid (HSI.out.below (show Below w14.heap.size w14 w15 by rw [hw15]; exact alloc_below _ _)); clear HSI; have HSI := HSI15
    rw [← hw15, ← hb1]
    clear hw15 hb1 HOW14
    refine SqC.here rfl (fun _ => HKTs.out.below HB15.out HKTs.out.lt) ?_
    refine SqC.effectW rfl rfl ?_
    refine wpList_append_szg rfl _ _ 22 rfl w9.heap.size 9 (str []) 16 hTss infoStr rfl (.slice s1 j.rs.length c1) j.rs.length ((texts j).map str) rfl HOW15.out (some ⟨b1, 0, none⟩) 1 1 [str x.text] rfl (fun _ => Sl.of_owns HO1.out) rfl (by intro u hu; simp at hu; rw [hu]; rfl) (by unfold maxLen; omega) (by omega) HB15.out.size ?_
    intro v2 w16 ow2 gr2 lo2
    have HB16 : Hid (Below w9.heap.size w9 w16) := Lib.hid (grown_below (base := w9.heap.size) HB15.out HOW15.out gr2 HB15.out.size)
    have HOW16 : Hid (w16.ownsRow w9.heap.size 9 1 v2 TS.length (TS.map str)) := Lib.hid (by rw [HTSL.out, ← HTSM.out]; exact ow2)
    have HSI16 : Hid (Sl w16 1 vI img.length (img.map str)) := Lib.hid (HSI.out.chg (Chg.of_grown gr2) (fun b hb hm => HGO.out b hb (by simpa using hm))); clear HSI; have HSI := HSI16
    clear ow2 gr2 lo2 HOW15 HO1
    obtain ⟨s2, c2, rfl, _⟩ := own_slice HOW16.out
    go_wp2
    refine SqC.here rfl (fun _ => HKTs.out.below HB16.out HKTs.out.lt) ?_
    obtain ⟨sI, cI, rfl, _⟩ := sl_slice HSI.out
    have hgen := genuine_any w16 img TS sI s2 cI c2 HSI.out (Sl.of_owns HOW16.out) HIM4.out (by rw [HTSL.out]; omega) HIM64.out HTS8.out (HKR.out _ (HB9.out.trans (HB16.out.mono HB9.out.size))).1 (HKR.out _ (HB9.out.trans (HB16.out.mono HB9.out.size))).2
    refine SqC.effect rfl rfl (yields_call rfl (by kernel_rfl) rfl (by rw [HIML.out]; rfl) (hgen.mono ?_))
    rintro e w17 ⟨rfl, bI⟩
    clear hgen
    have HB17 : Hid (Below w9.heap.size w9 w17) := Lib.hid (HB16.out.trans (bI.mono HB16.out.size))
    clear bI HOW16
    refine ⟨_, rfl, fun _ => HKTs.out.below HB17.out HKTs.out.lt, ?_⟩
    first | simp only [Act.put, List.setIfInBounds_toArray, List.set_cons_zero, List.set_cons_succ] | skip
    refine SqC.quiet rfl rfl ?_
    go_big_quiet_step (fail)
    refine wpQuiet_nil ?_
    refine SqC.nil ?_
    refine SqE.nrm ?_
    have HRT17 := Lib.hid (own_below HRT9.out HB17.out)
    have HB17w := Lib.hid (HB9.out.trans (HB17.out.mono HB9.out.size))
    have hK17 := Lib.hid (HK.out.below HB17w.out HL1W.out)
    have hL17 := Lib.hid (Nat.lt_of_lt_of_le HL1W.out HB17w.out.size)
    cases hgb : genB img TS with
    | false =>
      go_wp2_with fail
      refine (sanity_any w17 hK17.out hL17.out).mono ?_
      rintro e w18 ⟨rfl, b18⟩
      have HBE := Lib.hid (HBT.out.trans ((HB17w.out.trans (b18.mono HB17w.out.size)).mono HBT.out.size)); clear b18
      go_wp2
      go_ret
      exact ⟨rfl, HBE.out⟩
    | true =>
      obtain ⟨hoff, hcase⟩ := HSV.out
      have hcase := hcase hgb
      have HCA := Lib.hid hcase; clear hcase hgb
      have ho := open_any f dm w17 (HP9.out.below HB17.out) hoff hK17.out hL17.out
      have HO := Lib.hid ho; clear ho hoff
      go_wp2_with fail
      refine HO.out.mono ?_
      rintro e w18 ⟨Jk, rfl, hJk, _, b18⟩
      clear HO
      obtain ⟨kj, hkj⟩ : ∃ kj, kj = found (dm.s.map cont) := ⟨_, rfl⟩
      rw [show parts0 dm = dm.s.map cont from rfl, ← hkj] at hJk
      have hca := HCA.out
      rw [← hkj] at hca
      have HCB := Lib.hid hca; clear hca HCA hkj
      have HJk := Lib.hid hJk; clear hJk
      have HB18 := Lib.hid (HB17w.out.trans (b18.mono HB17w.out.size))
      have HRT18 := Lib.hid (own_below HRT17.out b18); clear b18
      go_wp2_with fail
      refine (texts_any HJk.out).mono ?_
      rintro e w19 ⟨vF, rfl, oF, b19⟩
      have HB19 := Lib.hid (HB18.out.trans (b19.mono HB18.out.size))
      have HRT19 := Lib.hid (own_below HRT18.out b19); clear b19
      have HOF := Lib.hid (Sl.of_owns oF); clear oF HJk
      have HKTs := Lib.hid (HKT.out.below HB19.out hTW)
      have HRTs := HRT19
      haveI : Nonempty (SqC.Come fun W' : World => Blk W' T (stcells x) 56) := ⟨⟨w19, HKTs.out⟩⟩
      go_upto_region 18 with (fail)
      clear HSI HGI HGO HIS HB0
      refine SqC.wp_region_sqc 8 [0, 2, 4, 5, 6] (fun W' : World => Blk W' T (stcells x) 56) (by kernel_rfl) (by kernel_rfl) (by kernel_rfl) HKTs.out.drew ?_
      obtain ⟨w20, hw20⟩ : ∃ w20, w20 = w19.drew := ⟨_, rfl⟩
      have HB20 : Hid (Below w19.heap.size w19 w20) := Lib.hid (by rw [hw20]; exact (Below.refl w19.heap.size w19).drew)
      first | rw [← hw20] | skip
      clear hw20
      refine SqC.effectW rfl rfl ?_
      go_wp2
      obtain ⟨w21, hw21⟩ : ∃ w21, w21 = w20.alloc (.cells #[] 9) := ⟨_, rfl⟩
      obtain ⟨b0, hb0⟩ : ∃ b0, b0 = w20.heap.size := ⟨_, rfl⟩
      have HB21 : Hid (Below w19.heap.size w19 w21) := Lib.hid (by rw [hw21]; exact HB20.out.alloc HB20.out.size _)
      have HOW21 : Hid (w21.ownsRow w19.heap.size 9 1 (.slice (some ⟨b0, 0, none⟩) 0 0) 0 []) := Lib.hid (by rw [hw21, hb0]; exact own_new w20 #[] 9 0 _ rfl (by decide) HB20.out.size)
      have HB00 : Hid (b0 = w20.heap.size ∧ b0 < w21.heap.size) := Lib.hid ⟨hb0, by rw [hw21, hb0, alloc_size]; omega⟩
      rw [← hw21, ← hb0]
      clear hw21 hb0
      refine SqC.here rfl (fun _ => HKTs.out.below HB21.out HKTs.out.lt) ?_
      first | simp only [Act.put, List.setIfInBounds_toArray, List.set_cons_zero, List.set_cons_succ] | skip
      refine SqC.quiet rfl rfl ?_
      go_big_quiet_step (fail)
      refine wpQuiet_nil ?_
      refine SqC.effectW rfl rfl ?_
      refine wpList_append_szg rfl _ _ 22 rfl w19.heap.size 9 (str []) 16 hTss infoStr rfl (.slice (some ⟨b0, 0, none⟩) 0 0) 0 [] rfl HOW21.out vts j.rs.length vtc ((texts j).map str) rfl (fun _ => Sl.of_owns (own_below HRTs.out HB21.out)) (by rw [List.length_map]; exact HTL.out) (by intro u hu; obtain ⟨y, _, rfl⟩ := List.mem_map.1 hu; rfl) (by unfold maxLen; omega) (by omega) HB21.out.size ?_
      intro v1 w22 ow1 gr1 lo1
      have HB22 : Hid (Below w19.heap.size w19 w22) := Lib.hid (grown_below (base := w19.heap.size) HB21.out HOW21.out gr1 HB21.out.size)
      have HOW22 : Hid (w22.ownsRow w19.heap.size 9 1 v1 j.rs.length ((texts j).map str)) := Lib.hid (by simpa using ow1)
      clear ow1 gr1 lo1 HOW21
      obtain ⟨s1, c1, rfl, _⟩ := own_slice HOW22.out
      go_wp2
      refine SqC.here rfl (fun _ => HKTs.out.below HB22.out HKTs.out.lt) ?_
      refine SqC.value (.agg (stcells x).toArray) rfl rfl (by intro W' hW'; exact load_agg_exec rfl rfl (run_load_agg (P := Tryz.prog) (ty := 56) (hW'.cells 0 (stcells x) rfl) aggSt infoSt)) ?_
      first | simp only [Act.put, List.setIfInBounds_toArray, List.set_cons_zero, List.set_cons_succ] | skip
      refine SqC.effect rfl rfl (yields_call rfl (by kernel_rfl) rfl rfl ((rtext_st x _).mono ?_))
      rintro e w23 ⟨rfl, bI⟩
      have HB23 : Hid (Below w19.heap.size w19 w23) := Lib.hid (HB22.out.trans (bI.mono HB22.out.size))
      have HOW23 := Lib.hid (own_below HOW22.out bI)
      clear bI HOW22
      refine ⟨_, rfl, fun _ => HKTs.out.below HB23.out HKTs.out.lt, ?_⟩
      first | simp only [Act.put, List.setIfInBounds_toArray, List.set_cons_zero, List.set_cons_succ] | skip
      refine SqC.effectW rfl rfl ?_
      go_wp2
      obtain ⟨w24, hw24⟩ : ∃ w24, w24 = w23.alloc (.cells #[str x.text] 9) := ⟨_, rfl⟩
      obtain ⟨b1, hb1⟩ : ∃ b1, b1 = w23.heap.size := ⟨_, rfl⟩
      have HB24 : Hid (Below w19.heap.size w19 w24) := Lib.hid (by rw [hw24]; exact HB23.out.alloc HB23.out.size _)
      have HOW24 : Hid (w24.ownsRow w19.heap.size 9 1 (.slice s1 j.rs.length c1) j.rs.length ((texts j).map str)) := Lib.hid (by rw [hw24]; exact own_below HOW23.out (alloc_below _ _))
      have HO1 : Hid (w24.ownsRow w19.heap.size 9 1 (.slice (some ⟨b1, 0, none⟩) 1 1) 1 [str x.text]) := Lib.hid (by rw [hw24, hb1]; exact own_new w23 #[str x.text] 9 1 _ rfl (by decide) HB23.out.size)
      rw [← hw24, ← hb1]
      clear hw24 hb1 HOW23
      refine SqC.here rfl (fun _ => HKTs.out.below HB24.out HKTs.out.lt) ?_
      refine SqC.effectW rfl rfl ?_
      refine wpList_append_szg rfl _ _ 22 rfl w19.heap.size 9 (str []) 16 hTss infoStr rfl (.slice s1 j.rs.length c1) j.rs.length ((texts j).map str) rfl HOW24.out (some ⟨b1, 0, none⟩) 1 1 [str x.text] rfl (fun _ => Sl.of_owns HO1.out) rfl (by intro u hu; simp at hu; rw [hu]; rfl) (by unfold maxLen; omega) (by omega) HB24.out.size ?_
      intro v2 w25 ow2 gr2 lo2
      have HB25 : Hid (Below w19.heap.size w19 w25) := Lib.hid (grown_below (base := w19.heap.size) HB24.out HOW24.out gr2 HB24.out.size)
      have HOW25 : Hid (w25.ownsRow w19.heap.size 9 1 v2 TS.length (TS.map str)) := Lib.hid (by rw [HTSL.out, ← HTSM.out]; exact ow2)
      clear ow2 gr2 lo2 HOW24 HO1
      obtain ⟨s2, c2, rfl, _⟩ := own_slice HOW25.out
      go_wp2
      refine SqC.here rfl (fun _ => HKTs.out.below HB25.out HKTs.out.lt) ?_
      refine SqC.quiet rfl rfl ?_
      go_big_quiet_step (fail)
      refine wpQuiet_nil ?_
      refine SqC.nil ?_
      have HOF2 := Lib.hid (HOF.out.below HB25.out)
      have HRT2 := Lib.hid (own_below HRT19.out HB25.out)
      have HBW := Lib.hid (HB19.out.trans (HB25.out.mono HB19.out.size))
      go_wp2_with fail
      refine (sanity_any w25 (HK.out.below HBW.out HL1W.out) (Nat.lt_of_lt_of_le HL1W.out HBW.out.size)).mono ?_
      rintro e w26 ⟨rfl, b26⟩
      have HOF3 := Lib.hid (HOF2.out.below b26)
      have HRT3 := Lib.hid (own_below HRT2.out b26)
      have HOW26 := Lib.hid (own_below HOW25.out b26)
      have HBW2 := Lib.hid (HBW.out.trans (b26.mono HBW.out.size)); clear b26 HOF2 HRT2 HOW25 HBW
      rcases HCB.out with hc | ⟨hc0, hc⟩
      · have ht : texts kj = TS := by unfold texts; rw [hc, HTS.out, List.map_append]; rfl
        rw [ht] at HOF3
        go_wp2_with fail
        refine (sameT_any TS vF _ w26 HOF3.out (Sl.of_owns HOW26.out) (by rw [HTSL.out]; omega)).mono ?_
        rintro e w27 ⟨rfl, b27⟩
        have HBE := Lib.hid (HBT.out.trans ((HBW2.out.trans (b27.mono HBW2.out.size)).mono HBT.out.size)); clear b27 ht hc
        go_wp2
        go_ret
        exact ⟨rfl, HBE.out⟩
      · have ht : texts kj = texts j := by unfold texts; rw [hc]
        rw [ht, HTL.out] at HOF3
        obtain ⟨sF, cF, rfl, _⟩ := sl_slice HOF3.out
        have hne : (texts j == TS) = false := by
          have : texts j ≠ TS := fun e => by have := congrArg List.length e; rw [HTSL.out, HTL.out] at this; omega
          simpa using this
        have HNE := Lib.hid hne; clear hne
        have her0 : (er == 0) = false := by simpa using hc0
        have her1 : (er != 0) = true := by simpa using hc0
        have hSF : Sl w26 1 (.slice sF (texts j).length cF) (texts j).length ((texts j).map str) := by rw [HTL.out]; exact HOF3.out
        have hcm := sameTexts_any (texts j) TS sF s2 cF c2 w26 hSF (Sl.of_owns HOW26.out) (.inl (by rw [HTL.out]; omega))
        rw [HNE.out, HTL.out] at hcm
        have HCM := Lib.hid hcm; clear hcm hSF ht hc hc0
        go_wp2_with fail
        refine HCM.out.mono ?_
        rintro e w27 ⟨rfl, b27⟩
        have HOF4 := Lib.hid (HOF3.out.below b27)
        have HRT4 := Lib.hid (own_below HRT3.out b27)
        have HBW3 := Lib.hid (HBW2.out.trans (b27.mono HBW2.out.size)); clear b27 HCM
        go_wp2_with fail
        refine (sameT_any (texts j) _ _ w27 (by rw [HTL.out]; exact HOF4.out) (by rw [HTL.out]; exact Sl.of_owns HRT4.out) (by rw [HTL.out]; omega)).mono ?_
        rintro e w28 ⟨rfl, b28⟩
        have HBE := Lib.hid (HBT.out.trans ((HBW3.out.trans (b28.mono HBW3.out.size)).mono HBT.out.size)); clear b28
        go_wp2
        go_ret
        exact ⟨rfl, HBE.out⟩
end Go.Proofs.YtbmnbdkbgpajeaaGreatDoor
end

/- journal: the law JournalGoesOn, walked. -/
import Derived.Test.YtbmnbdkbgpajeaaDoorZb24
import Derived.Test.YtbmnbdkbgpajeaaDoorZb23
import Derived.Deep.CutBlock
/- journal: the law JournalGoesOn, walked. -/
section
namespace Go.Proofs.YtbmnbdkbgpajeaaDoor
open Go.RowKit Go.Own Go.Jn Go.Disk Go.BigFrame Go.Sha
attribute [local irreducible] SqW
attribute [local go_sem] setCell_twice str_size op_str_eql op_str_neq
/-- what is known in a round -/
structure GoR (w W : World) (f : Ft) (J : Jf) (j : JS) (d : DS) (A B : List Sec) (vn vt : Value) (lst : Nat) : Prop where
  san : San w W f J j d
  inv : Jn.Inv d j A B
  rn : W.ownsRow w.heap.size 3 1 vn j.rs.length (intsV (nums j))
  rt : W.ownsRow w.heap.size 9 1 vt j.rs.length ((texts j).map str)
  ap : ∀ g ∈ ownF vn vt, g ∉ f.all ++ J.all
  lst : lst < j.next
theorem GoR.below {w W W' : World} {f : Ft} {J : Jf} {j : JS} {d : DS} {A B : List Sec} {vn vt : Value} {lst : Nat} (h : GoR w W f J j d A B vn vt lst) (hb : Below W.heap.size W W') : GoR w W' f J j d A B vn vt lst :=
  ⟨h.san.below hb, h.inv, own_below h.rn hb, own_below h.rt hb, h.ap, h.lst⟩
theorem GoR.step {w W W' : World} {f : Ft} {J J' : Jf} {j j' : JS} {d d' : DS} {A B : List Sec} {vn vt : Value} {lst : Nat} (h : GoR w W f J j d A B vn vt lst) (hg : J'.g = J.g) (hjm : JM W' f J' j') (hpd : PD W' f d')
    (hch : Chg (f.all ++ J.all) W W') (hall : ∀ x ∈ J'.all, x ∈ J.all ∨ W.heap.size ≤ x) :
    San w W' f J' j' d' ∧ W'.ownsRow w.heap.size 3 1 vn j.rs.length (intsV (nums j)) ∧ W'.ownsRow w.heap.size 9 1 vt j.rs.length ((texts j).map str) ∧ ∀ g ∈ ownF vn vt, g ∉ f.all ++ J'.all := by
  refine ⟨⟨hjm, hpd, h.san.b.trans (hch.below h.san.b.size fun x hx => ?_), by rw [hg]; exact h.san.hj, h.san.hf⟩, own_chg h.rn hch fun b hb => h.ap b (ownF_l hb), own_chg h.rt hch fun b hb => h.ap b (ownF_r hb), fun g hm hx => ?_⟩
  · rcases List.mem_append.1 hx with hx | hx
    · exact h.san.hf x hx
    · exact Nat.le_trans h.san.hj (h.san.jm.lo x hx).1
  · have h9 := h.ap g hm
    have hlt : g < W.heap.size := by
      simp only [ownF, List.mem_append, Option.mem_toList] at hm
      rcases hm with hm | hm
      · exact (h.rn.lt g hm).2
      · exact (h.rt.lt g hm).2
    rcases List.mem_append.1 hx with hx | hx
    · exact h9 (List.mem_append_left _ hx)
    · rcases hall g hx with hx | hx
      · exact h9 (List.mem_append_right _ hx)
      · omega
theorem sameN_any (l : List Nat) (u v : Value) (w : World) (hu : Sl w 1 u l.length (intsV l)) (hv : Sl w 1 v l.length (intsV l)) (hm : l.length ≤ 1000000) : Calls Tryd.prog 18 #[u, v] w fun e w' => e = .returned (.bool true) ∧ Below w.heap.size w w' := by
  obtain ⟨sa, ca, rfl, _⟩ := sl_slice hu
  obtain ⟨sb, cb, rfl, _⟩ := sl_slice hv
  have hl : (l.map fun n : Nat => (n : Int)).length = l.length := by simp
  have e : intsV l = (l.map fun n : Nat => (n : Int)).map (.int .i64) := by simp [intsV]
  rw [e] at hu hv
  rw [← hl] at hu hv ⊢
  refine (sameInts_any _ _ sa sb ca cb w hu hv (.inl (by rw [hl]; exact hm))).mono ?_
  rintro e w' ⟨rfl, hb⟩
  exact ⟨by rw [beq_self_eq_true], hb⟩
theorem sameT_any (l : List (List UInt8)) (u v : Value) (w : World) (hu : Sl w 1 u l.length (l.map str)) (hv : Sl w 1 v l.length (l.map str)) (hm : l.length ≤ 1000000) : Calls Tryd.prog 10 #[u, v] w fun e w' => e = .returned (.bool true) ∧ Below w.heap.size w w' := by
  obtain ⟨sa, ca, rfl, _⟩ := sl_slice hu
  obtain ⟨sb, cb, rfl, _⟩ := sl_slice hv
  refine (sameTexts_any l l sa sb ca cb w hu hv (.inl hm)).mono ?_
  rintro e w' ⟨rfl, hb⟩
  exact ⟨by rw [beq_self_eq_true], hb⟩
theorem GoR.push {w W W' : World} {f : Ft} {J : Jf} {j j' : JS} {d : DS} {A B : List Sec} {vn vt : Value} {t : List UInt8} (hS : San w W f J j' d) (hI : Jn.Inv d j' A B) (hr : j'.rs = j.rs ++ [(j.next, t)]) (hnx : j'.next = j.next + 1)
    (ap : ∀ g ∈ ownF vn vt, g ∉ f.all ++ J.all) (hc : Chg (ownF vn vt) W.drew W') (rn : W.ownsRow w.heap.size 3 1 vn j.rs.length (intsV (nums j))) (rt : W.ownsRow w.heap.size 9 1 vt j.rs.length ((texts j).map str)) {g1 c1 g2 c2 : Nat}
    (o1 : W'.ownsRow w.heap.size 3 1 (.slice (some ⟨g1, 0, none⟩) (j.rs.length + 1) c1) (j.rs.length + 1) (intsV (nums j) ++ [.int .i64 (j.next : Int)])) (n1 : vn.ownBlock = some g1 ∨ W.heap.size ≤ g1)
    (o2 : W'.ownsRow w.heap.size 9 1 (.slice (some ⟨g2, 0, none⟩) (j.rs.length + 1) c2) (j.rs.length + 1) ((texts j).map str ++ [str t])) (n2 : vt.ownBlock = some g2 ∨ W.heap.size ≤ g2) :
    GoR w W' f J j' d A B (.slice (some ⟨g1, 0, none⟩) (j.rs.length + 1) c1) (.slice (some ⟨g2, 0, none⟩) (j.rs.length + 1) c2) j.next := by
  have hb : Below w.heap.size w W' := hS.b.drew.trans (hc.below hS.b.size fun g hg => ?_)
  have hlj : j'.rs.length = j.rs.length + 1 := by rw [hr]; simp
  refine ⟨⟨hS.jm.below ((Below.refl _ W).drew) |>.chg hc fun x hx hm => ap x hm (List.mem_append_right _ hx), hS.pd.below ((Below.refl _ W).drew) |>.chg hc fun x hx hm => ap x hm (List.mem_append_left _ hx), hb, hS.hj, hS.hf⟩, hI, ?_, ?_, ?_, by omega⟩
  · rw [hlj]
    have e : intsV (nums j') = intsV (nums j) ++ [.int .i64 (j.next : Int)] := by simp [intsV, nums, hr]
    rw [e]; exact o1
  · rw [hlj]
    have e : (texts j').map str = (texts j).map str ++ [str t] := by simp [texts, hr]
    rw [e]; exact o2
  · intro g hg hx
    have hlt : g < W.heap.size := by
      rcases List.mem_append.1 hx with hx | hx
      · exact hS.pd.lt g hx
      · exact (hS.jm.lo g hx).2
    simp only [ownF, Value.ownBlock, Option.toList_some, List.cons_append, List.nil_append, List.mem_cons, List.not_mem_nil, or_false] at hg
    rcases hg with rfl | rfl
    · rcases n1 with n1 | n1
      · exact ap _ (ownF_l n1) hx
      · omega
    · rcases n2 with n2 | n2
      · exact ap _ (ownF_r n2) hx
      · omega
  simp only [ownF, List.mem_append, Option.mem_toList] at hg
  rcases hg with hg | hg
  · exact (rn.lt g hg).1
  · exact (rt.lt g hg).1
theorem GoR.kept {w W : World} {f : Ft} {J : Jf} {j j' : JS} {d : DS} {A B : List Sec} {vn vt : Value} {lst : Nat} (hS : San w W f J j' d) (hI : Jn.Inv d j' A B) (hr : j'.rs = j.rs) (rn : W.ownsRow w.heap.size 3 1 vn j.rs.length (intsV (nums j)))
    (rt : W.ownsRow w.heap.size 9 1 vt j.rs.length ((texts j).map str)) (ap : ∀ g ∈ ownF vn vt, g ∉ f.all ++ J.all) (hl : lst < j'.next) : GoR w W f J j' d A B vn vt lst := by
  refine ⟨hS, hI, ?_, ?_, ap, hl⟩
  · unfold nums at rn ⊢; rw [hr]; exact rn
  · unfold texts at rt ⊢; rw [hr]; exact rt
set_option maxRecDepth 100000 in
set_option maxHeartbeats 4000000 in
theorem goesOn_any (w : World) (s : Int) (l : List Stm) (worn : List UInt8) (sa sb : Option Addr) (ca cb : Nat) (hl : StAt w (.slice sa l.length ca) l) (hw : Sl w 1 (.slice sb worn.length cb) worn.length (worn.map byv))
    (hK : Cells w 2 0 (Kt.map U)) (h1 : 2 < w.heap.size) :
    Calls Tryd.prog 4 #[.int .i64 s, .slice sa l.length ca, .slice sb worn.length cb] w fun e w' => e = .returned (.bool true) ∧ Below w.heap.size w w' := by
  by_cases a1 : 200 < s
  · have q1 : (200 < s) = True := eq_true a1
    go_enter Tryd.func4, Tryd.ntmps4
    go_wp2_with fail
    refine (sanity_any w hK h1).mono ?_
    rintro e w1 ⟨rfl, b1⟩
    go_wp2
    go_ret
    exact ⟨rfl, b1⟩
  have q1 : (200 < s) = False := eq_false a1
  by_cases a2 : 20 < l.length
  · have q2 : ((20 : Int) < l.length) = True := eq_true (by omega)
    go_enter Tryd.func4, Tryd.ntmps4
    go_wp2_with fail
    refine (sanity_any w hK h1).mono ?_
    rintro e w1 ⟨rfl, b1⟩
    go_wp2
    go_ret
    exact ⟨rfl, b1⟩
  have q2 : ((20 : Int) < l.length) = False := eq_false (by omega)
  by_cases a3 : 8 < worn.length
  · have q3 : ((8 : Int) < worn.length) = True := eq_true (by omega)
    go_enter Tryd.func4, Tryd.ntmps4
    go_wp2_with fail
    refine (sanity_any w hK h1).mono ?_
    rintro e w1 ⟨rfl, b1⟩
    go_wp2
    go_ret
    exact ⟨rfl, b1⟩
  have q3 : ((8 : Int) < worn.length) = False := eq_false (by omega)
  by_cases a4 : s < 1
  · go_enter Tryd.func4, Tryd.ntmps4
    go_wp2_with fail
    refine (new_bad s (.inl a4) w).mono ?_
    rintro e w1 ⟨rfl, rfl⟩
    go_wp2_with fail
    refine (sanity_any w1 hK h1).mono ?_
    rintro e w2 ⟨rfl, b1⟩
    have q4 : (s < 1) = True := eq_true a4
    go_wp2
    go_ret
    exact ⟨rfl, b1⟩
  obtain ⟨n, rfl⟩ : ∃ n : Nat, s = n := ⟨s.toNat, by omega⟩
  have hn1 : 1 ≤ n := by omega
  have hn2 : n ≤ 200 := by omega
  clear a1 a4
  have HK := Lib.hid hK; clear hK
  have HL1 := Lib.hid h1; clear h1
  have HST := Lib.hid hl; clear hl
  have HWN := Lib.hid hw; clear hw
  have hl20 : l.length ≤ 20 := by omega
  have hw8 : worn.length ≤ 8 := by omega
  go_enter Tryd.func4, Tryd.ntmps4
  go_wp2_with fail
  refine (new_any n hn1 (by omega) w).mono ?_
  rintro e w1 ⟨f, rfl, hP1, hf1, b1⟩
  have HD1 : Hid (Dk w w1 f (Disk.fresh n)) := Lib.hid ⟨hP1, b1, hf1⟩
  have HF1 : Hid (Fr (Disk.fresh n) n) := Lib.hid (Fr.fresh n)
  clear hP1 hf1 b1
  go_wp2
  go_loopw [49] (fun c wr => ∃ (k : Nat) (d : DS), k ≤ worn.length ∧ c = .int .i64 k ∧ Hid (Dk w wr f d) ∧ Hid (Fr d n)) (fun c _ => worn.length - (jInt c).toNat)
  case atStart => exact ⟨0, _, by omega, rfl, HD1, HF1⟩
  case round =>
    obtain ⟨k, d, hk, rfl, HD, HF⟩ := hrel
    clear HD1 HF1
    by_cases hkl : k < worn.length
    · have hki : ((k : Int) < worn.length) = True := eq_true (by omega)
      obtain ⟨b, off, rfl, _, _, hC, hlt⟩ := sl_cases HWN.out (by omega)
      obtain ⟨x, hx⟩ : ∃ x, x = worn[k] := ⟨_, rfl⟩
      have cx : wr.cell? ⟨b, off + k, none⟩ = some (byv x) := (hC.below HD.out.b hlt) k _ (by simp [hkl, hx])
      have HX := Lib.hid hx; clear hx
      have hn0 : ((n : Int) = 0) = False := eq_false (by omega)
      go_wp2_with fail
      refine (HD.out.wear _).mono ?_
      rintro e w2 ⟨rfl, h2⟩
      have HD2 := Lib.hid h2; clear h2
      go_wp2
      go_roundw
      case rel => exact ⟨k + 1, _, by omega, by go_num, HD2, Lib.hid (HF.out.wear _)⟩
      case measure => simp [jInt]; omega
    · obtain rfl : k = worn.length := by omega
      have hki : ((worn.length : Int) < worn.length) = False := eq_false (by omega)
      obtain ⟨hfnd, hinv⟩ := HF.out.start
      have ho := San.open HD.out.pd HD.out.b HD.out.hf HK.out HL1.out HF.out.off
      rw [show parts0 d = d.s.map cont from rfl, hfnd] at ho
      have HO := Lib.hid ho; clear ho hfnd
      have HI := Lib.hid hinv; clear hinv
      go_wp2_with fail
      refine HO.out.mono ?_
      rintro e w2 ⟨J, rfl, hS⟩
      have HS2 := Lib.hid hS; clear hS HO
      obtain ⟨G, jn0, jb0, jt0⟩ := J
      have hR0 : GoR w w2 f ⟨G, jn0, jb0, jt0⟩ ⟨[], [], 1, 0, false⟩ d [] d.s (.slice none 0 0) (.slice none 0 0) 0 :=
        ⟨HS2.out, HI.out, World.ownsRow_nil _ _ _ _, World.ownsRow_nil _ _ _ _, fun g hg => by simp [ownF, Value.ownBlock] at hg, Nat.zero_lt_one⟩
      have HR0 := Lib.hid hR0; clear hR0 HS2 HI HF HD
      go_wp2
      go_loopw [13, 14, 15, 73] (fun vn vt vl c wr => ∃ (k : Nat) (J : Jf) (j : JS) (d : DS) (A B : List Sec) (lst : Nat) (un ut : Value), un = vn ∧ ut = vt ∧ k ≤ l.length ∧ c = .int .i64 k ∧ vl = .int .i64 lst ∧ J.g = G ∧ j.rs.length ≤ k ∧ Hid (GoR w wr f J j d A B un ut lst)) (fun _ _ _ c _ => l.length - (jInt c).toNat)
      case atStart => exact ⟨0, _, _, _, _, _, 0, _, _, rfl, rfl, by omega, rfl, rfl, rfl, by simp, HR0⟩
      case round =>
        clear HR0
        obtain ⟨k, J, j, d, A, B, lst, vn, vt, rfl, rfl, hk, rfl, rfl, hG, hrs, HR⟩ := hrel
        obtain ⟨G', jn, jb, jt⟩ := J
        obtain rfl : G = G' := hG.symm
        by_cases hkl : k < l.length
        · have hkli : ((k : Int) < l.length) = True := eq_true (by omega)
          obtain ⟨x, hx⟩ : ∃ x, l[k]? = some x := ⟨l[k], by simp [hkl]⟩
          obtain ⟨b, off, cap, hv, hC0, hlt⟩ := HST.out.cells hx
          injection hv with hv1 hv2 hv3
          subst hv1
          obtain rfl : ca = cap := hv3
          clear hv2
          have hC := hC0.below HR.out.san.b hlt
          have HX := Lib.hid hx; clear hx hC0
          go_wp2_with (first | (refine wpList_load_agg (stcells x) hC rfl rfl rfl aggSt infoSt ?_) | (refine wpList_store_blk (ty := 46) (n := 6) (vs := stcells x) (Blk.new _ _ 46) rfl rfl rfl rfl rfl infoSt rfl (by simp) (by intro u hu; simp [stcells] at hu; rcases hu with rfl | rfl | rfl | rfl | rfl | rfl <;> rfl) ?_))
          intro w3 hb3 ho3
          have b3 : Below wr.heap.size wr w3 := ho3.below (alloc_below _ _) (Nat.le_refl _)
          obtain ⟨T, hT⟩ : ∃ T, T = wr.heap.size := ⟨_, rfl⟩
          have k3 : Blk w3 T (stcells x) 46 := by rw [hT]; exact hb3
          rw [← hT]
          have HR3 := Lib.hid (HR.out.below b3)
          have hTG : T ∉ f.all ++ (⟨G, jn, jb, jt⟩ : Jf).all ∧ ∀ g ∈ ownF vn vt, g ≠ T := by
            have hsz : ∀ g, g ∈ f.all ++ (⟨G, jn, jb, jt⟩ : Jf).all → g < wr.heap.size := fun g hg => by
              rcases List.mem_append.1 hg with hg | hg
              · exact HR.out.san.pd.lt g hg
              · exact (HR.out.san.jm.lo g hg).2
            rw [hT]
            refine ⟨fun hm => Nat.lt_irrefl _ (hsz _ hm), fun g hg e => ?_⟩
            simp only [ownF, List.mem_append, Option.mem_toList] at hg
            subst e
            rcases hg with hg | hg
            · exact Nat.lt_irrefl _ (HR.out.rn.lt _ hg).2
            · exact Nat.lt_irrefl _ (HR.out.rt.lt _ hg).2
          have HTG := Lib.hid hTG; clear hTG
          have HK3 := Lib.hid k3; clear k3 hb3 ho3 b3 hT hC
          have HC3 := Lib.hid (HK3.out.cells 0 (stcells x) rfl)
          go_wp2_with (refine wpList_load_agg (stcells x) HC3.out rfl rfl rfl aggSt infoSt ?_)
          refine (rtext_st x w3).mono ?_
          rintro e w4 ⟨rfl, b4⟩
          have HR4 := Lib.hid (HR3.out.below b4); clear HR3
          have HK4 := Lib.hid (HK3.out.below b4 HK3.out.lt); clear HK3 HC3
          have ha := append_any HR4.out.san.jm HR4.out.san.pd (HK.out.below HR4.out.san.b HL1.out) (Nat.lt_of_lt_of_le HL1.out HR4.out.san.b.size) x.text (by have := x.text_len; unfold maxLen; omega)
          have HA := Lib.hid ha; clear ha
          go_wp2_with fail
          refine HA.out.mono ?_
          rintro e w5 ⟨J', hg', rfl, hjm, hpd, hch, hall⟩
          have HK5 := Lib.hid (HK4.out.chg hch HTG.out.1)
          clear HA
          obtain ⟨hS5, rn5, rt5, ap5⟩ := HR4.out.step hg' hjm hpd hch hall
          obtain ⟨A', B', hst⟩ := aappend_step HR4.out.inv x.text
          have hi5 := hst.inv
          have hlst := HR4.out.lst
          obtain ⟨G', jn', jb', jt'⟩ := J'
          obtain rfl : G = G' := hg'.symm
          clear hjm hpd hch hall
          rcases hst.res with ⟨e1, e2, e3, e4⟩ | ⟨e1, e3, e4⟩
          · rw [e1, e2]
            have hnx := hi5.next
            have hnl : (nums j).length = j.rs.length := by simp [nums]
            obtain ⟨sn, cn, rfl, _⟩ := own_slice rn5
            obtain ⟨st, ct, rfl, _⟩ := own_slice rt5
            have HRO := Lib.hid rn5; clear rn5
            have HRX := Lib.hid rt5; clear rt5
            have HAP := Lib.hid ap5; clear ap5
            have hk5 : Blk w5 T (stcells x) 46 := HK5.out
            have HSW : Hid (∀ W1 : World, (ExtA (ownF (.slice sn j.rs.length cn) (.slice st j.rs.length ct)) w.heap.size (goodA j.rs.length (intsV (nums j)) (.int .i64 (j.next : Int)) ((texts j).map str) (str x.text))) w5.drew W1 → w5.heap.size ≤ W1.heap.size) := Lib.hid (fun W1 hx => hx.chg.size)
            have hw05 : w.heap.size ≤ w5.heap.size := hS5.b.size
            have HSZ : Hid (∀ W1 : World, (ExtA (ownF (.slice sn j.rs.length cn) (.slice st j.rs.length ct)) w.heap.size (goodA j.rs.length (intsV (nums j)) (.int .i64 (j.next : Int)) ((texts j).map str) (str x.text))) w5.drew W1 → w.heap.size ≤ W1.heap.size) := Lib.hid (fun W1 hx => Nat.le_trans hw05 hx.chg.size)
            have HXL : Hid ((intsV (nums j)).length = j.rs.length) := Lib.hid (by simp [intsV, nums])
            have HYL : Hid (((texts j).map str).length = j.rs.length) := Lib.hid (by simp [texts])
            have HRNN : Hid (∀ W1 : World, (ExtA (ownF (.slice sn j.rs.length cn) (.slice st j.rs.length ct)) w.heap.size (goodA j.rs.length (intsV (nums j)) (.int .i64 (j.next : Int)) ((texts j).map str) (str x.text))) w5.drew W1 → W1.ownsRow w.heap.size 3 1 (.slice sn j.rs.length cn) j.rs.length (intsV (nums j))) := Lib.hid (fun W1 hx => hx.rows _ _ _ _ _ (.inl ⟨rfl, rfl, .inr (.inl ⟨rfl, rfl⟩)⟩) (own_below HRO.out (Below.refl w5.heap.size w5).drew))
            have HRT : Hid (∀ W1 : World, (ExtA (ownF (.slice sn j.rs.length cn) (.slice st j.rs.length ct)) w.heap.size (goodA j.rs.length (intsV (nums j)) (.int .i64 (j.next : Int)) ((texts j).map str) (str x.text))) w5.drew W1 → W1.ownsRow w.heap.size 9 1 (.slice st j.rs.length ct) j.rs.length ((texts j).map str)) := Lib.hid (fun W1 hx => hx.rows _ _ _ _ _ (.inr ⟨rfl, rfl, .inr (.inl ⟨rfl, rfl⟩)⟩) (own_below HRX.out (Below.refl w5.heap.size w5).drew))
            have HBX : Hid (∀ W1 : World, (ExtA (ownF (.slice sn j.rs.length cn) (.slice st j.rs.length ct)) w.heap.size (goodA j.rs.length (intsV (nums j)) (.int .i64 (j.next : Int)) ((texts j).map str) (str x.text))) w5.drew W1 → Blk W1 T (stcells x) 46) := Lib.hid (fun W1 hx => (hk5.drew).chg hx.chg (fun hm => HTG.out.2 T hm rfl))
            have HS5 := Lib.hid hS5; clear hS5 hw05 hk5 hnl
            have HI5 := Lib.hid hi5; clear hi5 hst
            have hlt2 : ((j.next : Int) ≤ lst) = False := eq_false (by omega)
            have HE3 := Lib.hid e3; clear e3
            have HE4 := Lib.hid e4; clear e4 hg' e1 e2
            go_upto_region 26 with (fail)
            refine SqE.wp_region_sqE 10 9 99 18 _ rfl 10 [2, 3, 5, 6, 7, 8] (ExtA (ownF (.slice sn j.rs.length cn) (.slice st j.rs.length ct)) w.heap.size (goodA j.rs.length (intsV (nums j)) (.int .i64 (j.next : Int)) ((texts j).map str) (str x.text))) (fun i v W => match i with
              | 2 => ∃ b, v = .slice (some ⟨b, 0, none⟩) 1 1 ∧ W.ownsRow w.heap.size 3 1 v 1 [(.int .i64 (j.next : Int))]
              | 3 => ∃ g cap, v = .slice (some ⟨g, 0, none⟩) (j.rs.length + 1) cap ∧ W.ownsRow w.heap.size 3 1 v (j.rs.length + 1) ((intsV (nums j)) ++ [(.int .i64 (j.next : Int))]) ∧ (((.slice sn j.rs.length cn) : Value).ownBlock = some g ∨ w5.heap.size ≤ g)
              | 5 => v = .agg (stcells x).toArray
              | 6 => v = (str x.text)
              | 7 => ∃ b, v = .slice (some ⟨b, 0, none⟩) 1 1 ∧ W.ownsRow w.heap.size 9 1 v 1 [(str x.text)]
              | 8 => ∃ g cap, v = .slice (some ⟨g, 0, none⟩) (j.rs.length + 1) cap ∧ W.ownsRow w.heap.size 9 1 v (j.rs.length + 1) (((texts j).map str) ++ [(str x.text)]) ∧ (((.slice st j.rs.length ct) : Value).ownBlock = some g ∨ w5.heap.size ≤ g)
              | _ => True) (by kernel_rfl) (by kernel_rfl) (by kernel_rfl) (ExtA.refl _ _ _) (ExtA.trans _ _ _) ?stable ?main
            case stable =>
              intro i v W W' h hb
              match i, h with
              | 0, h => exact h
              | 1, h => exact h
              | 2, h => exact (by obtain ⟨b, h1, h2⟩ := h; exact ⟨b, h1, hb.rows _ _ _ _ _ (.inl ⟨rfl, rfl, .inl ⟨rfl, rfl⟩⟩) h2⟩)
              | 3, h => exact (by obtain ⟨g, cap, h1, h2, h3⟩ := h; exact ⟨g, cap, h1, hb.rows _ _ _ _ _ (.inl ⟨rfl, rfl, .inr (.inr ⟨rfl, rfl⟩)⟩) h2, h3⟩)
              | 4, h => exact h
              | 5, h => exact h
              | 6, h => exact h
              | 7, h => exact (by obtain ⟨b, h1, h2⟩ := h; exact ⟨b, h1, hb.rows _ _ _ _ _ (.inr ⟨rfl, rfl, .inl ⟨rfl, rfl⟩⟩) h2⟩)
              | 8, h => exact (by obtain ⟨g, cap, h1, h2, h3⟩ := h; exact ⟨g, cap, h1, hb.rows _ _ _ _ _ (.inr ⟨rfl, rfl, .inr (.inr ⟨rfl, rfl⟩)⟩) h2, h3⟩)
              | _ + 9, _ => exact trivial
            simp only [SqE.addE, List.set_cons_zero, List.set_cons_succ, List.getD_cons_zero, List.getD_cons_succ]
            simp only [List.take_succ_cons, List.take_zero, List.drop_succ_cons, List.drop_zero]
            repeat (refine sqw_quiet rfl rfl (ExtA.refl _ _ _ _) ?_; go_big_quiet_step (rfl); refine wpQuiet_nil ?_)
            refine sqw_postY rfl rfl rfl ?_ ?_
            · intro W1 hx hf
              refine buildOne_exec (e := 3) (v := (.int .i64 (j.next : Int))) (F := (ownF (.slice sn j.rs.length cn) (.slice st j.rs.length ct))) (good := (goodA j.rs.length (intsV (nums j)) (.int .i64 (j.next : Int)) ((texts j).map str) (str x.text))) ?_ (HSZ.out W1 hx) (fun b W' _ h2 h3 => ⟨⟨b, rfl, h2⟩, h3⟩)
              go_simp
            intro v Wj hv
            obtain ⟨L1, rfl, _⟩ := hv
            simp only [Act.put, List.setIfInBounds_toArray, List.set_cons_zero, List.set_cons_succ]
            repeat (refine sqw_quiet rfl rfl (ExtA.refl _ _ _ _) ?_; go_big_quiet_step (rfl); refine wpQuiet_nil ?_)
            refine sqw_postY rfl rfl rfl ?_ ?_
            · intro W1 hx hf
              obtain ⟨b, hb1, hb2⟩ := hf 2 92 (by kernel_rfl) rfl rfl (fun o h => by obtain rfl := Option.some.inj h; rfl)
              injection hb1 with hb1
              injection hb1 with hb1
              injection hb1 with hb1
              subst hb1
              refine yields_append1 _ _ 44 rfl w.heap.size 3 (.int .i64 0) 8 hTints infoInt rfl (.slice sn j.rs.length cn) j.rs.length (intsV (nums j)) rfl (HRNN.out W1 hx) _ 1 (.int .i64 (j.next : Int)) rfl (own_cell1 hb2) rfl (by unfold maxLen; omega) (by omega) (HSZ.out W1 hx) (fun k hk => ownF_l hk) (goodA_int HXL.out) (fun _ _ _ h => goodA_size h) (fun g cap W' h1 h2 h3 => ⟨⟨g, cap, rfl, h1, h2.imp (fun h => h) (fun h => Nat.le_trans (HSW.out W1 hx) h)⟩, h3⟩)
            intro v Wj hv
            obtain ⟨g1, cap1, rfl, _⟩ := hv
            simp only [Act.put, List.setIfInBounds_toArray, List.set_cons_zero, List.set_cons_succ]
            repeat (refine sqw_quiet rfl rfl (ExtA.refl _ _ _ _) ?_; go_big_quiet_step (rfl); refine wpQuiet_nil ?_)
            refine sqw_postY rfl rfl rfl ?_ ?_
            · intro W1 hx hf
              refine yields_load (g := T) (off := 0) (n := 6) (vs := stcells x) rfl ((HBX.out W1 hx).cells 0 (stcells x) rfl) rfl Tryd.underlying46 rfl infoSt rfl ⟨rfl, ExtA.refl _ _ _ _⟩
            intro v Wj hv
            obtain rfl : v = .agg (stcells x).toArray := hv
            simp only [Act.put, List.setIfInBounds_toArray, List.set_cons_zero, List.set_cons_succ]
            repeat (refine sqw_quiet rfl rfl (ExtA.refl _ _ _ _) ?_; go_big_quiet_step (rfl); refine wpQuiet_nil ?_)
            refine sqw_postY rfl rfl rfl ?_ ?_
            · intro W1 hx hf
              refine yields_call rfl (by kernel_rfl) rfl rfl ((rtext_st x W1).mono ?_)
              rintro e w' ⟨rfl, hb⟩
              exact ⟨_, rfl, rfl, ExtA.of hb⟩
            intro v Wj hv
            obtain rfl : v = (str x.text) := hv
            simp only [Act.put, List.setIfInBounds_toArray, List.set_cons_zero, List.set_cons_succ]
            repeat (refine sqw_quiet rfl rfl (ExtA.refl _ _ _ _) ?_; go_big_quiet_step (rfl); refine wpQuiet_nil ?_)
            refine sqw_postY rfl rfl rfl ?_ ?_
            · intro W1 hx hf
              refine buildOne_exec (e := 9) (v := (str x.text)) (F := (ownF (.slice sn j.rs.length cn) (.slice st j.rs.length ct))) (good := (goodA j.rs.length (intsV (nums j)) (.int .i64 (j.next : Int)) ((texts j).map str) (str x.text))) ?_ (HSZ.out W1 hx) (fun b W' _ h2 h3 => ⟨⟨b, rfl, h2⟩, h3⟩)
              go_simp
            intro v Wj hv
            obtain ⟨L2, rfl, _⟩ := hv
            simp only [Act.put, List.setIfInBounds_toArray, List.set_cons_zero, List.set_cons_succ]
            repeat (refine sqw_quiet rfl rfl (ExtA.refl _ _ _ _) ?_; go_big_quiet_step (rfl); refine wpQuiet_nil ?_)
            refine sqw_postY rfl rfl rfl ?_ ?_
            · intro W1 hx hf
              obtain ⟨b, hb1, hb2⟩ := hf 7 97 (by kernel_rfl) rfl rfl (fun o h => by obtain rfl := Option.some.inj h; rfl)
              injection hb1 with hb1
              injection hb1 with hb1
              injection hb1 with hb1
              subst hb1
              refine yields_append1 _ _ 23 rfl w.heap.size 9 (str []) 16 hTss infoStr rfl (.slice st j.rs.length ct) j.rs.length ((texts j).map str) rfl (HRT.out W1 hx) _ 1 (str x.text) rfl (own_cell1 hb2) rfl (by unfold maxLen; omega) (by omega) (HSZ.out W1 hx) (fun k hk => ownF_r hk) (goodA_str HYL.out) (fun _ _ _ h => goodA_size h) (fun g cap W' h1 h2 h3 => ⟨⟨g, cap, rfl, h1, h2.imp (fun h => h) (fun h => Nat.le_trans (HSW.out W1 hx) h)⟩, h3⟩)
            intro v Wj hv
            obtain ⟨g2, cap2, rfl, _⟩ := hv
            simp only [Act.put, List.setIfInBounds_toArray, List.set_cons_zero, List.set_cons_succ]
            repeat (refine sqw_quiet rfl rfl (ExtA.refl _ _ _ _) ?_; go_big_quiet_step (rfl); refine wpQuiet_nil ?_)
            refine sqw_nil ?_
            intro w6 hx hf
            obtain ⟨ga, ca1, ea, o1, n1⟩ := hf 3 93 (by decide) (by kernel_rfl) rfl (fun o h => by obtain rfl := Option.some.inj h; rfl)
            cases ea
            obtain ⟨gb, cb1, eb, o2, n2⟩ := hf 8 98 (by decide) (by kernel_rfl) rfl (fun o h => by obtain rfl := Option.some.inj h; rfl)
            cases eb
            clear hf
            have hnew := GoR.push HS5.out HI5.out HE3.out HE4.out HAP.out hx.chg HRO.out HRX.out o1 n1 o2 n2
            have HN := Lib.hid hnew; clear hnew o1 n1 o2 n2
            have HL : Hid ((aappend d j x.text).2.2.1.rs.length ≤ k + 1) := Lib.hid (by rw [HE3.out]; simp; omega)
            go_wp2
            refine SqE.nrm ?_
            go_wp2
            go_roundw
            case rel => exact ⟨k + 1, _, _, _, _, _, j.next, _, _, rfl, rfl, by omega, by go_num, rfl, rfl, HL.out, HN⟩
            case measure => simp [jInt]; omega
          · have hnew : GoR w w5 f ⟨G, jn', jb', jt'⟩ (aappend d j x.text).2.2.1 (aappend d j x.text).2.2.2 A' B' vn vt lst := GoR.kept hS5 hi5 e3 rn5 rt5 ap5 (by omega)
            have hlen : (aappend d j x.text).2.2.1.rs.length ≤ k + 1 := by rw [e3]; omega
            have HN := Lib.hid hnew
            have HL := Lib.hid hlen
            clear hnew hlen hS5 rn5 rt5 ap5 hi5 hst e3 e4 hlst hg'
            rcases e1 with e1 | e1 | e1
            · rw [e1]
              clear e1
              go_wp2
              go_roundw
              case rel => exact ⟨k + 1, _, _, _, _, _, lst, _, _, rfl, rfl, by omega, by go_num, rfl, rfl, HL.out, HN⟩
              case measure => simp [jInt]; omega
            · rw [e1]
              clear e1
              go_wp2
              go_roundw
              case rel => exact ⟨k + 1, _, _, _, _, _, lst, _, _, rfl, rfl, by omega, by go_num, rfl, rfl, HL.out, HN⟩
              case measure => simp [jInt]; omega
            · rw [e1]
              clear e1
              go_wp2
              go_roundw
              case rel => exact ⟨k + 1, _, _, _, _, _, lst, _, _, rfl, rfl, by omega, by go_num, rfl, rfl, HL.out, HN⟩
              case measure => simp [jInt]; omega
        · obtain rfl : k = l.length := by omega
          have hkli : ((l.length : Int) < l.length) = False := eq_false (by omega)
          have ho2 := open_any f d wr HR.out.san.pd HR.out.inv.off (HK.out.below HR.out.san.b HL1.out) (Nat.lt_of_lt_of_le HL1.out HR.out.san.b.size)
          have HO2 := Lib.hid ho2; clear ho2
          go_wp2_with fail
          refine HO2.out.mono ?_
          rintro e w6 ⟨J2, rfl, hj2, _, b6⟩
          clear HO2
          have hrs2 : (found (parts0 d)).rs = j.rs := HR.out.inv.found
          obtain ⟨j2, hj2e⟩ : ∃ j2, j2 = found (parts0 d) := ⟨_, rfl⟩
          rw [← hj2e] at hj2 hrs2
          clear hj2e
          have hn2 : nums j2 = nums j := by unfold nums; rw [hrs2]
          have ht2 : texts j2 = texts j := by unfold texts; rw [hrs2]
          have hnl : (nums j).length = j.rs.length := by simp [nums]
          have htl : (texts j).length = j.rs.length := by simp [texts]
          have HN2 := Lib.hid hn2; clear hn2
          have HT2 := Lib.hid ht2; clear ht2 hrs2
          have HNL := Lib.hid hnl; clear hnl
          have HTL := Lib.hid htl; clear htl
          have HR6 := Lib.hid (HR.out.below b6)
          have HJ6 := Lib.hid hj2; clear hj2 b6 HR
          go_wp2_with fail
          refine (sanity_any w6 (HK.out.below HR6.out.san.b HL1.out) (Nat.lt_of_lt_of_le HL1.out HR6.out.san.b.size)).mono ?_
          rintro e w7 ⟨rfl, b7⟩
          have HR7 := Lib.hid (HR6.out.below b7)
          have HJ7 := Lib.hid (HJ6.out.below b7); clear HR6 HJ6 b7
          go_wp2_with fail
          refine (numbers_any HR7.out.san.jm).mono ?_
          rintro e w8 ⟨v8, rfl, o8, b8⟩
          have HR8 := Lib.hid (HR7.out.below b8)
          have HJ8 := Lib.hid (HJ7.out.below b8); clear HR7 HJ7 b8
          have HO8 := Lib.hid o8; clear o8
          go_wp2_with fail
          refine (sameN_any (nums j) v8 vn w8 (Sl.of_owns HO8.out) (by have := Sl.of_owns HR8.out.rn; rw [HNL.out]; exact this) (by rw [HNL.out]; omega)).mono ?_
          rintro e w9 ⟨rfl, b9⟩
          have HR9 := Lib.hid (HR8.out.below b9)
          have HJ9 := Lib.hid (HJ8.out.below b9); clear HR8 HJ8 b9 HO8
          go_wp2_with fail
          refine (texts_any HR9.out.san.jm).mono ?_
          rintro e w10 ⟨v10, rfl, o10, b10⟩
          have HR10 := Lib.hid (HR9.out.below b10)
          have HJ10 := Lib.hid (HJ9.out.below b10); clear HR9 HJ9 b10
          have HO10 := Lib.hid o10; clear o10
          go_wp2_with fail
          refine (sameT_any (texts j) v10 vt w10 (Sl.of_owns HO10.out) (by have := Sl.of_owns HR10.out.rt; rw [HTL.out]; exact this) (by rw [HTL.out]; omega)).mono ?_
          rintro e w11 ⟨rfl, b11⟩
          have HR11 := Lib.hid (HR10.out.below b11)
          have HJ11 := Lib.hid (HJ10.out.below b11); clear HR10 HJ10 b11 HO10
          go_wp2_with fail
          refine (numbers_any HJ11.out).mono ?_
          rw [HN2.out]
          rintro e w12 ⟨v12, rfl, o12, b12⟩
          have HR12 := Lib.hid (HR11.out.below b12)
          have HJ12 := Lib.hid (HJ11.out.below b12); clear HR11 HJ11 b12
          have HO12 := Lib.hid o12; clear o12
          go_wp2_with fail
          refine (sameN_any (nums j) v12 vn w12 (Sl.of_owns HO12.out) (by have := Sl.of_owns HR12.out.rn; rw [HNL.out]; exact this) (by rw [HNL.out]; omega)).mono ?_
          rintro e w13 ⟨rfl, b13⟩
          have HR13 := Lib.hid (HR12.out.below b13)
          have HJ13 := Lib.hid (HJ12.out.below b13); clear HR12 HJ12 b13 HO12
          go_wp2_with fail
          refine (texts_any HJ13.out).mono ?_
          rw [HT2.out]
          rintro e w14 ⟨v14, rfl, o14, b14⟩
          have HR14 := Lib.hid (HR13.out.below b14); clear HR13 HJ13 b14
          have HO14 := Lib.hid o14; clear o14
          go_wp2_with fail
          refine (sameT_any (texts j) v14 vt w14 (Sl.of_owns HO14.out) (by have := Sl.of_owns HR14.out.rt; rw [HTL.out]; exact this) (by rw [HTL.out]; omega)).mono ?_
          rintro e w15 ⟨rfl, b15⟩
          have HR15 := Lib.hid (HR14.out.below b15); clear HR14 b15 HO14
          go_wp2
          go_ret
          exact ⟨rfl, HR15.out.san.b⟩
end Go.Proofs.YtbmnbdkbgpajeaaDoor
end
/- JournalGoesOn: the row: for every input the law returns true and leaves its arguments alone. Conditions: the row's own, nothing more. -/
section
namespace Go.Proofs.YtbmnbdkbgpajeaaDoor
open Go.ChangeShapes Go.WideShapes Go.ChangeAt Go.WideMaps Go.WideElems Go.RowKit Go.Sha Go.Own Go.ChangeMaps
set_option maxRecDepth 100000 in
theorem journalGoesOn_lifted (os : Os) (started : os.Started) (H : Type) (enc : TypeId × Value → H) :
    ReturnsInHanded {} Tryd.checked os 4 .any (fun w args => (Rows.journalGoesOnSpec.pre enc Tryd.prog Tryd.f4 [] false w args ∧ laidMetH Tryd.prog lay1 w) ∧ sizedMet enc Tryd.prog Tryd.f4 (OpenSpec.ofChange Rows.journalGoesOnSpec) false w args)
      (Rows.journalGoesOnSpec.post enc Tryd.prog Tryd.f4 false true false false) := by
  refine returnsInHanded_of_change_and (C := Tryd.checked) (X := fun w _ => laidMetH Tryd.prog lay1 w) (fun _ _ _ hh h => h.of_heap hh) ownK started (by kernel_rfl) Tryd.func4
    (ChangeSpec.witness_shaped (enc := enc) (C := Tryd.checked) (os := os) (X := fun w _ => laidMetH Tryd.prog lay1 w) false (World.doorLaid Tryd.prog 4000 os) #[.int .i64 0, .slice none 0 0, .slice none 0 0] 8 rfl (World.shaped_of_RefB (by kernel_rfl) (by kernel_rfl)) (by kernel_rfl) (by kernel_rfl) (by kernel_rfl) (door_met1 os _)) ?_
  intro W base args ds gs before hval0 hW _ hq hL hSz
  have hval : ∀ (j : Nat) t v, Tryd.f4.params[j]? = some t → args[j]? = some v → Value.okWide Tryd.prog W .any base t v := hval0
  have hW' := hW
  obtain ⟨p, q, hA0, hV, rfl, hfz, hnd⟩ := hW
  have hA : DataW.TrodAll enc Tryd.prog W 0 (fun _ => true) true Tryd.f4.params.toList args.toList ds p := hA0
  rw [Tryd.params4] at hA hval
  obtain ⟨v0, v1, v2, d0, d1, d2, p0, p1, p2, rfl, rfl, rfl, h0, h1, h2⟩ := trodAll_three hA
  obtain ⟨rfl, rfl⟩ := trodVars_none hV
  have k0 := hval 0 3 v0 rfl rfl
  obtain ⟨z0, rfl, rfl, rfl, wf0⟩ := open_int Tryd.underlying3 k0 h0
  have k1 := hval 1 35 v1 rfl rfl
  obtain ⟨l1, sa1, ca1, rfl, hs1⟩ := st_of k1 h1
  have k2 := hval 2 36 v2 rfl rfl
  obtain ⟨m2, hs2, hl2⟩ := sl_of_bytes Tryd.underlying36 Tryd.underlying5 cellsByte k2 h2
  obtain ⟨sa2, ca2, rfl, _⟩ := sl_slice hs2
  obtain ⟨hK, hk⟩ := of_laid1 hL
  have hw := goesOn_any W z0 l1 m2 sa1 sa2 ca1 ca2 hs1 hs2 hK hk
  refine hw.mono fun e W' ⟨he, hb⟩ => ?_
  subst he
  exact ⟨_, rfl, law_post laidOutK (by kernel_rfl) (show Tryd.f4.resultTypes = #[4] by kernel_rfl) Tryd.underlying4 rfl ⟨rfl, rfl, rfl⟩ hW' hb⟩
theorem goesOn_holds : Rows.JournalGoesOnSaid :=
  OpenClaim.holds_of_wide 4 Tryd.f4 rfl rfl rfl rfl rfl rfl rfl ⟨rfl, rfl, rfl, rfl, rfl⟩ rfl rfl rfl rfl rfl (by kernel_rfl) Tryd.func4 (by kernel_rfl)
    (of_decide_eq_true (by kernel_rfl)) (by unfold Func.isWrapper; first | (rw [if_pos (by decide +kernel)]; kernel_rfl) | (rw [if_neg (by decide +kernel)]; exact ⟨rfl, rfl⟩))
    (fun os started H enc _ => journalGoesOn_lifted os started H enc)
#print axioms goesOn_holds
end Go.Proofs.YtbmnbdkbgpajeaaDoor
end

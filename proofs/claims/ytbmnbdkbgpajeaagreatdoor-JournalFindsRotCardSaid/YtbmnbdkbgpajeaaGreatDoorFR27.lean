/- journal: filled: a disk with a journal to which texts were appended. -/
import Derived.Test.YtbmnbdkbgpajeaaGreatDoorFR23
import Derived.Test.YtbmnbdkbgpajeaaGreatDoorFR22
import Derived.Test.YtbmnbdkbgpajeaaGreatDoorFR26
import Derived.Deep.CutBlock
import Derived.OwnWalk
/- journal: filled: a disk with a journal to which texts were appended. -/
section
namespace Go.Proofs.YtbmnbdkbgpajeaaGreatDoor
open Go.RowKit Go.Own Go.Jn Go.Disk Go.BigFrame Go.Sha
attribute [local irreducible] SqW
attribute [local go_sem] setCell_twice str_size op_str_eql op_str_neq
/-- what is known in a round -/
structure FiR (w W : World) (f : Ft) (J : Jf) (j : JS) (d : DS) (A B : List Sec) (vt : Value) : Prop where
  san : San w W f J j d
  inv : Jn.Inv3 d j A B
  rt : W.ownsRow w.heap.size 9 1 vt j.rs.length ((texts j).map str)
  ap : ∀ g, vt.ownBlock = some g → g ∉ f.all ++ J.all
  tl : ∀ t ∈ texts j, t.length ≤ 8100
theorem FiR.below {w W W' : World} {f : Ft} {J : Jf} {j : JS} {d : DS} {A B : List Sec} {vt : Value} (h : FiR w W f J j d A B vt) (hb : Below W.heap.size W W') : FiR w W' f J j d A B vt :=
  ⟨h.san.below hb, h.inv, own_below h.rt hb, h.ap, h.tl⟩
theorem FiR.step {w W W' : World} {f : Ft} {J J' : Jf} {j j' : JS} {d d' : DS} {A B : List Sec} {vt : Value} (h : FiR w W f J j d A B vt) (hg : J'.g = J.g) (hjm : JM W' f J' j') (hpd : PD W' f d')
    (hch : Chg (f.all ++ J.all) W W') (hall : ∀ x ∈ J'.all, x ∈ J.all ∨ W.heap.size ≤ x) :
    San w W' f J' j' d' ∧ W'.ownsRow w.heap.size 9 1 vt j.rs.length ((texts j).map str) ∧ ∀ g, vt.ownBlock = some g → g ∉ f.all ++ J'.all := by
  refine ⟨⟨hjm, hpd, h.san.b.trans (hch.below h.san.b.size fun x hx => ?_), by rw [hg]; exact h.san.hj, h.san.hf⟩, own_chg h.rt hch fun b hb => h.ap b hb, fun g hm hx => ?_⟩
  · rcases List.mem_append.1 hx with hx | hx
    · exact h.san.hf x hx
    · exact Nat.le_trans h.san.hj (h.san.jm.lo x hx).1
  · have h9 := h.ap g hm
    have hlt : g < W.heap.size := (h.rt.lt g hm).2
    rcases List.mem_append.1 hx with hx | hx
    · exact h9 (List.mem_append_left _ hx)
    · rcases hall g hx with hx | hx
      · exact h9 (List.mem_append_right _ hx)
      · omega
theorem FiR.kept {w W : World} {f : Ft} {J : Jf} {j j' : JS} {d : DS} {A B : List Sec} {vt : Value} (hS : San w W f J j' d) (hI : Jn.Inv3 d j' A B) (hr : j'.rs = j.rs)
    (rt : W.ownsRow w.heap.size 9 1 vt j.rs.length ((texts j).map str)) (ap : ∀ g, vt.ownBlock = some g → g ∉ f.all ++ J.all) (tl : ∀ t ∈ texts j, t.length ≤ 8100) : FiR w W f J j' d A B vt := by
  refine ⟨hS, hI, ?_, ap, by unfold texts at tl ⊢; rw [hr]; exact tl⟩
  unfold texts at rt ⊢; rw [hr]; exact rt
theorem FiR.push {w W W' : World} {f : Ft} {J : Jf} {j j' : JS} {d : DS} {A B : List Sec} {vt : Value} {n : Nat} {t : List UInt8} (hS : San w W f J j' d) (hI : Jn.Inv3 d j' A B) (hr : j'.rs = j.rs ++ [(n, t)])
    (ap : ∀ g, vt.ownBlock = some g → g ∉ f.all ++ J.all) (rt : W.ownsRow w.heap.size 9 1 vt j.rs.length ((texts j).map str)) (hg : W.grownBy W' vt.ownBlock) {g2 c2 : Nat}
    (o2 : W'.ownsRow w.heap.size 9 1 (.slice (some ⟨g2, 0, none⟩) (j.rs.length + 1) c2) (j.rs.length + 1) ((texts j).map str ++ [str t])) (n2 : vt.ownBlock = some g2 ∨ W.heap.size ≤ g2) (tl : ∀ t ∈ texts j, t.length ≤ 8100) (ht : t.length ≤ 8100) :
    FiR w W' f J j' d A B (.slice (some ⟨g2, 0, none⟩) (j.rs.length + 1) c2) := by
  have hc : Chg (vt.ownBlock.toList) W W' := ⟨hg.os, hg.tape, hg.output, hg.size, fun k hk hn => hg.block k hk (fun e => hn (by simp [← e]))⟩
  have hlj : j'.rs.length = j.rs.length + 1 := by rw [hr]; simp
  refine ⟨⟨hS.jm.chg hc fun x hx hm => ap x (by simpa using hm) (List.mem_append_right _ hx), hS.pd.chg hc fun x hx hm => ap x (by simpa using hm) (List.mem_append_left _ hx), hS.b.trans (hc.below hS.b.size fun g hm => (rt.lt g (by simpa using hm)).1), hS.hj, hS.hf⟩, hI, ?_, ?_, fun y hy => ?_⟩
  · rw [hlj]
    have e : (texts j').map str = (texts j).map str ++ [str t] := by simp [texts, hr]
    rw [e]; exact o2
  · intro g hm hx
    have hlt : g < W.heap.size := by
      rcases List.mem_append.1 hx with hx | hx
      · exact hS.pd.lt g hx
      · exact (hS.jm.lo g hx).2
    obtain rfl : g2 = g := by simpa [Value.ownBlock] using hm
    rcases n2 with n2 | n2
    · exact ap _ n2 hx
    · omega
  · unfold texts at hy tl
    rw [hr, List.map_append] at hy
    rcases List.mem_append.1 hy with hy | hy
    · exact tl y hy
    · obtain rfl : y = t := by simpa using hy
      exact ht
/-- what filled returns -/
structure Fil (w W : World) (f : Ft) (d : DS) (j : JS) (A B : List Sec) (vt : Value) : Prop where
  pd : PD W f d
  hf : ∀ x ∈ f.all, w.heap.size ≤ x
  b : Below w.heap.size w W
  inv : Jn.Inv3 d j A B
  rt : W.ownsRow w.heap.size 9 1 vt j.rs.length ((texts j).map str)
  ap : ∀ g, vt.ownBlock = some g → g ∉ f.all
  tl : ∀ t ∈ texts j, t.length ≤ 8100
set_option maxRecDepth 100000 in
set_option maxHeartbeats 4000000 in
theorem filled_bad (w : World) (s : Int) (l : List Stm) (sa : Option Addr) (ca : Nat) (a4 : s < 1) : Calls Tryz.prog 15 #[.int .i64 s, .slice sa l.length ca] w fun e w' => e = .returned (.tuple #[.pointer none, .slice none 0 0, .bool false]) ∧ Below w.heap.size w w' := by
  go_enter Tryz.func15, Tryz.ntmps15
  go_wp2_with fail
  refine (new_bad s (.inl a4) w).mono ?_
  rintro e w1 ⟨rfl, rfl⟩
  go_wp2
  go_ret3
  exact ⟨rfl, Below.refl _ _⟩
set_option maxRecDepth 100000 in
set_option maxHeartbeats 4000000 in
theorem filled_any (w : World) (n : Nat) (hn1 : 1 ≤ n) (hn2 : n ≤ 200) (l : List Stm) (sa : Option Addr) (ca : Nat) (hl : StAt w (.slice sa l.length ca) l) (hl12 : l.length ≤ 12)
    (hK : Cells w 2 0 (Kt.map U)) (h1 : 2 < w.heap.size) :
    Calls Tryz.prog 15 #[.int .i64 n, .slice sa l.length ca] w fun e w' => ∃ (f : Ft) (d : DS) (j : JS) (A B : List Sec) (vt : Value), e = .returned (.tuple #[.pointer (some ⟨f.p, 0, none⟩), vt, .bool true]) ∧ Fil w w' f d j A B vt ∧ j.rs.length ≤ l.length := by
  have HK := Lib.hid hK; clear hK
  have HL1 := Lib.hid h1; clear h1
  have HST := Lib.hid hl; clear hl
  go_enter Tryz.func15, Tryz.ntmps15
  go_wp2_with fail
  refine (new_any n hn1 (by omega) w).mono ?_
  rintro e w1 ⟨f, rfl, hP1, hf1, b1⟩
  have hfr : Fr (Disk.fresh n) n := Fr.fresh n
  have hi0 := Inv3.start hfr.off hfr.left hfr.z (fun x hx => by rw [List.eq_of_mem_replicate hx]) (by unfold Disk.fresh; rw [List.length_replicate]; exact hn2)
  have ho := San.open hP1 b1 hf1 HK.out HL1.out hfr.off
  rw [show parts0 (Disk.fresh n) = (Disk.fresh n).s.map cont from rfl, hfr.start.1] at ho
  have HO := Lib.hid ho; clear ho hP1 hf1 b1 hfr
  have HI := Lib.hid hi0; clear hi0
  go_wp2_with fail
  refine HO.out.mono ?_
  rintro e w2 ⟨J, rfl, hS⟩
  obtain ⟨G, jn0, jb0, jt0⟩ := J
  have hR0 : FiR w w2 f ⟨G, jn0, jb0, jt0⟩ ⟨[], [], 1, 0, false⟩ (Disk.fresh n) [] (Disk.fresh n).s (.slice none 0 0) :=
    ⟨hS, HI.out, World.ownsRow_nil _ _ _ _, fun g hg => by simp [Value.ownBlock] at hg, fun t ht => by cases ht⟩
  have HR0 := Lib.hid hR0; clear hR0 hS HI HO
  go_wp2
  go_loopw [11, 40] (fun vt c wr => ∃ (k : Nat) (J : Jf) (j : JS) (d : DS) (A B : List Sec) (ut : Value), ut = vt ∧ k ≤ l.length ∧ c = .int .i64 k ∧ J.g = G ∧ j.rs.length ≤ k ∧ Hid (FiR w wr f J j d A B ut)) (fun _ c _ => l.length - (jInt c).toNat)
  case atStart => exact ⟨0, _, _, _, _, _, _, rfl, by omega, rfl, rfl, by simp, HR0⟩
  case round =>
    clear HR0
    obtain ⟨k, J, j, d, A, B, vt, rfl, hk, rfl, hG, hrs, HR⟩ := hrel
    obtain ⟨G', jn, jb, jt⟩ := J
    obtain rfl : G = G' := hG.symm
    by_cases hkl : k < l.length
    · have hkli : ((k : Int) < l.length) = True := eq_true (by omega)
      obtain ⟨x, hx⟩ : ∃ x, l[k]? = some x := ⟨l[k], by simp [hkl]⟩
      obtain ⟨b, off, cap, hv, hC0, hlt⟩ := HST.out.cells hx
      injection hv with hv1 hv2 hv3
      subst hv1
      obtain rfl : ca = cap := hv3
      clear hv2
      have hC := hC0.below HR.out.san.b hlt
      have HX := Lib.hid hx; clear hx hC0
      go_wp2_with (first | (refine wpList_load_agg (stcells x) hC rfl rfl rfl aggSt infoSt ?_) | (refine wpList_store_blk (ty := 56) (n := 6) (vs := stcells x) (Blk.new _ _ 56) rfl rfl rfl rfl rfl infoSt rfl (by simp) (by intro u hu; simp [stcells] at hu; rcases hu with rfl | rfl | rfl | rfl | rfl | rfl <;> rfl) ?_))
      intro w3 hb3 ho3
      have b3 : Below wr.heap.size wr w3 := ho3.below (alloc_below _ _) (Nat.le_refl _)
      obtain ⟨T, hT⟩ : ∃ T, T = wr.heap.size := ⟨_, rfl⟩
      have k3 : Blk w3 T (stcells x) 56 := by rw [hT]; exact hb3
      rw [← hT]
      have HR3 := Lib.hid (HR.out.below b3)
      have hTG : T ∉ f.all ++ (⟨G, jn, jb, jt⟩ : Jf).all ∧ ∀ g, vt.ownBlock = some g → g ≠ T := by
        have hsz : ∀ g, g ∈ f.all ++ (⟨G, jn, jb, jt⟩ : Jf).all → g < wr.heap.size := fun g hg => by
          rcases List.mem_append.1 hg with hg | hg
          · exact HR.out.san.pd.lt g hg
          · exact (HR.out.san.jm.lo g hg).2
        rw [hT]
        exact ⟨fun hm => Nat.lt_irrefl _ (hsz _ hm), fun g hg e => by subst e; exact Nat.lt_irrefl _ (HR.out.rt.lt _ hg).2⟩
      have HTG := Lib.hid hTG; clear hTG
      have HK3 := Lib.hid k3; clear k3 hb3 ho3 b3 hT hC
      have HC3 := Lib.hid (HK3.out.cells 0 (stcells x) rfl)
      go_wp2_with (refine wpList_load_agg (stcells x) HC3.out rfl rfl rfl aggSt infoSt ?_)
      refine (rtext_st x w3).mono ?_
      rintro e w4 ⟨rfl, b4⟩
      have HR4 := Lib.hid (HR3.out.below b4); clear HR3
      have HK4 := Lib.hid (HK3.out.below b4 HK3.out.lt); clear HK3 HC3
      have ha := append_any HR4.out.san.jm HR4.out.san.pd (HK.out.below HR4.out.san.b HL1.out) (Nat.lt_of_lt_of_le HL1.out HR4.out.san.b.size) x.text (by have := x.text_len; unfold maxLen; omega)
      have HA := Lib.hid ha; clear ha
      go_wp2_with fail
      refine HA.out.mono ?_
      rintro e w5 ⟨J', hg', rfl, hjm, hpd, hch, hall⟩
      have HK5 := Lib.hid (HK4.out.chg hch HTG.out.1)
      clear HA
      obtain ⟨hS5, rt5, ap5⟩ := HR4.out.step hg' hjm hpd hch hall
      have HTL := Lib.hid HR4.out.tl
      obtain ⟨A', B', hi5, hst⟩ := aappend_step3 HR4.out.inv x.text (text_up x)
      obtain ⟨G', jn', jb', jt'⟩ := J'
      obtain rfl : G = G' := hg'.symm
      clear hjm hpd hch hall
      rcases hst.res with ⟨e1, e2, e3, e4⟩ | ⟨e1, e3, e4⟩
      · rw [e1, e2]
        have HE3 := Lib.hid e3
        clear e1 e2 e3 e4 hst hg'
        have HS5 := Lib.hid hS5; clear hS5
        have HI5 := Lib.hid hi5; clear hi5
        have HAP := Lib.hid ap5; clear ap5
        have HC5 := Lib.hid (HK5.out.cells 0 (stcells x) rfl)
        have HRT := Lib.hid rt5; clear rt5
        go_wp2_with (refine wpList_load_agg (stcells x) HC5.out rfl rfl rfl aggSt infoSt ?_)
        refine (rtext_st x w5).mono ?_
        rintro e w6 ⟨rfl, b6⟩
        have HS6 := Lib.hid (HS5.out.below b6)
        have HRT6 := Lib.hid (own_below HRT.out b6)
        clear HS5 HRT HC5 b6
        obtain ⟨st, ct, rfl, _⟩ := own_slice HRT6.out
        have hsz : w.heap.size ≤ w6.heap.size := HS6.out.b.size
        obtain ⟨i, hi1, hi2, hi3, hi4⟩ := info_parts infoStr
        have HII := Lib.hid (show i.zero = some (str []) ∧ i.size = 1 ∧ i.bytes = 16 from ⟨hi2, hi3, hi4⟩)
        have HI1 := Lib.hid hi1; clear hi1 hi2 hi3 hi4
        go_wp2_with (refine wpList_append_lies _ rfl _ _ 22 rfl w.heap.size 9 i (str []) 1 16 hTss HI1.out HII.out.1 HII.out.2.1 HII.out.2.2 rfl (by decide) _ j.rs.length _ rfl (own_below HRT6.out (alloc_below _ _)) ⟨w6.heap.size, 0, none⟩ 1 1 [_] rfl rfl (World.news_of_block (Blk.new w6 _ 9)) (by intro u hu; simp at hu; rw [hu]; rfl) (by decide) (by unfold maxLen; omega) (by omega) (by simp; omega) _ rfl ?_)
        intro g5 cap5 w9 m1 m2 m3 m4
        have hS7 := HS6.out.below (alloc_below w6 (.cells #[str x.text] 9))
        have hnew := FiR.push hS7 HI5.out HE3.out HAP.out (own_below HRT6.out (alloc_below w6 _)) m2 m1 (m3.imp id (fun h => by simp at h ⊢; omega)) HTL.out x.text_len
        have HN := Lib.hid hnew; clear hnew m1 m2 m3 hS7
        have HL : Hid ((aappend d j x.text).2.2.1.rs.length ≤ k + 1) := Lib.hid (by rw [HE3.out]; simp; omega)
        go_wp2
        go_roundw
        case rel => exact ⟨k + 1, _, _, _, _, _, _, rfl, by omega, by go_num, rfl, HL.out, HN⟩
        case measure => simp [jInt]; omega
      · have hnew : FiR w w5 f ⟨G, jn', jb', jt'⟩ (aappend d j x.text).2.2.1 (aappend d j x.text).2.2.2 A' B' vt := FiR.kept hS5 hi5 e3 rt5 ap5 HTL.out
        have hlen : (aappend d j x.text).2.2.1.rs.length ≤ k + 1 := by rw [e3]; omega
        have HN := Lib.hid hnew
        have HL := Lib.hid hlen
        clear hnew hlen hS5 rt5 ap5 hi5 hst e3 e4 hg'
        rcases e1 with e1 | e1 | e1
        · rw [e1]
          clear e1
          go_wp2
          go_roundw
          case rel => exact ⟨k + 1, _, _, _, _, _, _, rfl, by omega, by go_num, rfl, HL.out, HN⟩
          case measure => simp [jInt]; omega
        · rw [e1]
          clear e1
          go_wp2
          go_roundw
          case rel => exact ⟨k + 1, _, _, _, _, _, _, rfl, by omega, by go_num, rfl, HL.out, HN⟩
          case measure => simp [jInt]; omega
        · rw [e1]
          clear e1
          go_wp2
          go_roundw
          case rel => exact ⟨k + 1, _, _, _, _, _, _, rfl, by omega, by go_num, rfl, HL.out, HN⟩
          case measure => simp [jInt]; omega
    · obtain rfl : k = l.length := by omega
      have hkli : ((l.length : Int) < l.length) = False := eq_false (by omega)
      go_wp2
      go_ret3
      exact ⟨f, d, j, A, B, vt, rfl, ⟨HR.out.san.pd, HR.out.san.hf, HR.out.san.b, HR.out.inv, HR.out.rt, fun g hg hx => HR.out.ap g hg (List.mem_append_left _ hx), HR.out.tl⟩, hrs⟩
end Go.Proofs.YtbmnbdkbgpajeaaGreatDoor
end

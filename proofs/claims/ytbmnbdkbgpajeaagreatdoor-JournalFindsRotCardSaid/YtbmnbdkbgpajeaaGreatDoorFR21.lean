/- journal: Append. -/
import Derived.Test.YtbmnbdkbgpajeaaGreatDoorFR20
import Derived.Deep.CutBlock
import Derived.Test.YtbmnbdkbgpajeaaGreatDoorFR17
/- journal: Append. -/
section
namespace Go.Proofs.YtbmnbdkbgpajeaaGreatDoor
open Go.RowKit Go.Own Go.Jn Go.Disk Go.BigFrame Go.Sha
attribute [local irreducible] SqW
attribute [local go_sem] setCell_twice str_size op_str_eql op_str_neq
set_option maxRecDepth 100000 in
set_option maxHeartbeats 4000000 in
theorem append_any {w : World} {f : Ft} {J : Jf} {j : JS} {d : DS} (h : JM w f J j) (hd : PD w f d) (hK : Cells w 2 0 (Kt.map U)) (h1 : 2 < w.heap.size) (t : List UInt8) (ht : t.length ≤ maxLen) :
    Calls Tryz.prog 26 #[.pointer (some ⟨J.g, 0, none⟩), str t] w fun e w' => ∃ J' : Jf, J'.g = J.g ∧ e = .returned (.tuple #[.int .i64 (aappend d j t).1, .int .i64 (aappend d j t).2.1]) ∧
      JM w' f J' (aappend d j t).2.2.1 ∧ PD w' f (aappend d j t).2.2.2 ∧ Chg (f.all ++ J.all) w w' ∧ (∀ x ∈ J'.all, x ∈ J.all ∨ w.heap.size ≤ x) := by
  obtain ⟨G, vn, vb, vt⟩ := J
  have HJ := Lib.hid h
  have HD := Lib.hid hd; clear hd
  have c6 : w.cell? ⟨G, 6, none⟩ = some (.bool j.closed) := h.head.cell rfl
  have c4 : w.cell? ⟨G, 4, none⟩ = some (.int .i64 j.next) := h.head.cell rfl
  have hnx := h.next
  have hfn := h.fin
  have hall : ∀ x ∈ (⟨G, vn, vb, vt⟩ : Jf).all, x ∈ (⟨G, vn, vb, vt⟩ : Jf).all ∨ w.heap.size ≤ x := fun x hx => .inl hx
  clear h
  obtain ⟨R, hR⟩ : ∃ R, R = aappend d j t := ⟨_, rfl⟩
  rw [← hR]
  have hR2 := hR
  unfold aappend at hR2
  have HR := Lib.hid hR; clear hR
  dsimp only
  go_enter Tryz.func26, Tryz.ntmps26
  cases hcl : j.closed with
  | true =>
    rw [hcl] at c6
    rw [if_pos hcl] at hR2
    have HR3 := Lib.hid hR2; clear hR2 hcl
    go_wp2
    go_ret2
    rw [HR3.out]
    exact ⟨⟨G, vn, vb, vt⟩, rfl, rfl, HJ.out, HD.out, Chg.refl _ _, hall⟩
  | false =>
    rw [hcl] at c6
    rw [if_neg (by rw [hcl]; simp)] at hR2
    have HCL := Lib.hid hcl; clear hcl
    by_cases h8 : 8000 < t.length
    · rw [if_pos (.inl h8)] at hR2
      have HR3 := Lib.hid hR2; clear hR2
      have h8i : (8000 : Int) < t.length := by omega
      go_wp2
      go_ret2
      rw [HR3.out]
      exact ⟨⟨G, vn, vb, vt⟩, rfl, rfl, HJ.out, HD.out, Chg.refl _ _, hall⟩
    · have h8i : ¬ (8000 : Int) < t.length := by omega
      by_cases hn : 4096 < j.next
      · rw [if_pos (.inr hn)] at hR2
        have HR3 := Lib.hid hR2; clear hR2
        have hni : (4096 : Int) < j.next := by omega
        go_wp2
        go_ret2
        rw [HR3.out]
        exact ⟨⟨G, vn, vb, vt⟩, rfl, rfl, HJ.out, HD.out, Chg.refl _ _, hall⟩
      · rw [if_neg (by omega)] at hR2
        have hni : ¬ (4096 : Int) < j.next := by omega
        have hcnt := count_any (t.length : Int) w
        have hroom := room_any HJ.out HD.out
        dsimp only at hroom
        have ecn : cntI (t.length : Int) = (cntN t.length : Int) := by unfold cntI; rw [if_neg (by omega)]; simp
        rw [ecn] at hcnt
        have HCN := Lib.hid hcnt; clear hcnt ecn
        have HRO := Lib.hid hroom; clear hroom
        obtain ⟨c, hc⟩ : ∃ c, c = cntN t.length := ⟨_, rfl⟩
        obtain ⟨rm, hrm⟩ : ∃ rm, rm = room d j := ⟨_, rfl⟩
        have hc2 := cntN_le (n := t.length) (by omega)
        rw [← hc] at HCN hR2 hc2
        rw [← hrm] at HRO hR2
        have HC := Lib.hid hc; clear hc
        have HRM := Lib.hid hrm; clear hrm
        by_cases hfull : rm < (c : Int)
        · rw [if_pos hfull] at hR2
          have HR3 := Lib.hid hR2; clear hR2
          go_wp2_with (first | (refine HCN.out.mono ?_; rintro e w2 ⟨rfl, hw2⟩; subst hw2) | (refine HRO.out.mono ?_; rintro e w2 ⟨rfl, n2, rfl⟩))
          go_ret2
          rw [HR3.out]
          exact ⟨⟨G, vn, vb, vt⟩, rfl, rfl, HJ.out.below (below_drewN (Below.refl _ _) n2), HD.out.below (below_drewN (Below.refl _ _) n2), .of_below (below_drewN (Below.refl _ _) n2), hall⟩
        · clear hR2
          have ha := aappend_awr d j t HCL.out (by omega) (by omega) (by rw [← HC.out, ← HRM.out]; omega)
          have hr := HR.out
          rw [ha] at hr
          obtain ⟨A, hA⟩ : ∃ A, A = awr d j.fin (pack j.next t) := ⟨_, rfl⟩
          rw [← hA, ← HC.out] at hr
          have HR3 := Lib.hid hr; clear hr ha
          have HA := Lib.hid hA; clear hA
          go_wp2_with (first | (refine HCN.out.mono ?_; rintro e w2 ⟨rfl, hw2⟩; subst hw2) | (refine HRO.out.mono ?_; rintro e w3 ⟨rfl, n2, hw3⟩; subst hw3))
          obtain ⟨w3, hw3⟩ : ∃ w3, w2.drewN n2 = w3 := ⟨_, rfl⟩
          have b3 : Below w2.heap.size w2 w3 := by rw [← hw3]; exact below_drewN (Below.refl _ _) n2
          rw [hw3]
          clear hw3 c4 c6 HCN HRO
          have HJ3 := Lib.hid (HJ.out.below b3)
          have d4 : w3.cell? ⟨G, 4, none⟩ = some (.int .i64 j.next) := HJ3.out.head.cell rfl
          have d5 : w3.cell? ⟨G, 5, none⟩ = some (.int .i64 j.fin) := HJ3.out.head.cell rfl
          go_upto_region 7 with (fail)
          refine wp_region_quiet_lit (by kernel_rfl) (by kernel_rfl) ?_
          iterate 10 (go_big_quiet_step (fail))
          refine wpQuiet_nil ?_
          rintro _ ⟨nq, rfl⟩
          obtain ⟨w4, hw4⟩ : ∃ w4, w3.drewN nq = w4 := ⟨_, rfl⟩
          have b4 : Below w2.heap.size w2 w4 := by rw [← hw4]; exact below_drewN b3 nq
          rw [hw4]
          clear hw4 d4 d5 HJ3 b3
          have HJ4 := Lib.hid (HJ.out.below b4)
          have HD4 := Lib.hid (HD.out.below b4)
          have hpk := pack_any (j.next : Int) t ht w4 (hK.below b4 h1) (Nat.lt_of_lt_of_le h1 b4.size)
          rw [packE_ok hnx.1 (by omega) (by omega)] at hpk
          dsimp only at hpk
          have hpl := pack_len j.next t
          obtain ⟨L, hL⟩ : ∃ L, L = pack j.next t := ⟨_, rfl⟩
          rw [← hL] at hpk hpl
          rw [← HC.out] at hpl
          have HL := Lib.hid hL; clear hL
          have HPK := Lib.hid hpk; clear hpk
          have HB4 := Lib.hid b4; clear b4
          go_wp2_with fail
          refine HPK.out.mono ?_
          rintro e w5 ⟨v5, rfl, o5, b5⟩
          obtain ⟨s5, c5, rfl, _⟩ := own_slice o5
          subst hpl
          have hJ5 := HJ4.out.below b5
          have hlow : ∀ x ∈ f.all, x < G := HJ4.out.low
          have hGw : G < w4.heap.size := HJ4.out.head.lt
          have hmost := HD4.out.ok.most
          have hrm := HRM.out
          unfold room at hrm
          have e1 : ((j.next + 1 : Nat) : Int) = (j.next : Int) + 1 := by omega
          have e2 : ((j.fin + L.length : Nat) : Int) = (j.fin : Int) + (L.length : Int) := by omega
          have hJ6 := hJ5.set45 (j.next + 1) (j.fin + L.length) ⟨by omega, by omega⟩ (by omega)
          have hx4 : w5.cell? ⟨G, 4, none⟩ = some (.int .i64 j.next) := hJ5.head.cell rfl
          have hf4 : w5.frozen? ⟨G, 4, none⟩ = false := hJ5.head.frozen 4
          have hx5 : (w5.setCell ⟨G, 4, none⟩ (.int .i64 ((j.next : Int) + 1))).cell? ⟨G, 5, none⟩ = some (.int .i64 j.fin) := (hJ5.head.set 4 _).cell rfl
          have hf5 : (w5.setCell ⟨G, 4, none⟩ (.int .i64 ((j.next : Int) + 1))).frozen? ⟨G, 5, none⟩ = false := (hJ5.head.set 4 _).frozen 5
          have hc6 : Chg [G] w5 ((w5.setCell ⟨G, 4, none⟩ (.int .i64 ((j.next + 1 : Nat) : Int))).setCell ⟨G, 5, none⟩ (.int .i64 ((j.fin + L.length : Nat) : Int))) := ((Chg.refl [G] w5).set (a := ⟨G, 4, none⟩) _ (by simp)).set (a := ⟨G, 5, none⟩) _ (by simp)
          have hD6 := (HD4.out.below b5).chg hc6 (fun x hx hm => by have := hlow x hx; simp at hm; omega)
          have hS6 := (Sl.of_owns o5).chg hc6 (fun b hb hm => by have := (o5.lt b hb).1; simp at hm; omega)
          have hW6 := jwrite_any hJ6 hD6 L s5 c5 hS6 (fun b hb hm => by have := (o5.lt b hb).1; have := hlow b hm; omega) (by omega) j.fin (by omega)
          rw [HL.out, ← HA.out] at hW6
          rw [← HL.out] at hW6
          dsimp only at hW6
          rw [e1, e2] at hW6 hJ6 hc6
          have HW6 := Lib.hid hW6; clear hW6 hD6 hS6 o5
          have HJ6' := Lib.hid hJ6; clear hJ6 hJ5
          have HC6 := Lib.hid hc6; clear hc6 hrm e1 e2
          have HB5 := Lib.hid b5; clear b5
          go_wp2_with fail
          refine HW6.out.mono ?_
          rintro e w7 ⟨rfl, hP7, hC7⟩
          have hJ7 := HJ6'.out.chg hC7 (fun x hx hm => HJ6'.out.apart x hx hm)
          have hch : Chg (f.all ++ (⟨G, vn, vb, vt⟩ : Jf).all) w2 w7 := (((Chg.of_below HB4.out).trans (.of_below HB5.out)).trans (HC6.out.mono (fun x hx => by simp at hx; subst hx; simp [Jf.all]))).trans (hC7.mono (fun x hx => List.mem_append_left _ hx))
          have hGa : G ∈ f.all ++ (⟨G, vn, vb, vt⟩ : Jf).all := List.mem_append_right _ (by simp [Jf.all])
          have HJ7 := Lib.hid hJ7; clear hJ7 HJ6' HW6 HC6 HB5
          have HCH := Lib.hid hch; clear hch hC7
          have HP7 := Lib.hid hP7; clear hP7
          have HGA := Lib.hid hGa; clear hGa
          have HALL := Lib.hid hall; clear hall
          have HLOW := Lib.hid hlow; clear hlow
          obtain ⟨⟨y, b⟩, d2⟩ := A
          have hr := HR3.out
          dsimp only at hr
          have HR4 := Lib.hid hr; clear hr HR3
          dsimp only at HP7
          by_cases hy : y = 0
          · have hr := HR4.out
            rw [if_neg (fun h => h hy)] at hr
            subst hy
            cases b with
            | false =>
              rw [if_neg Bool.false_ne_true] at hr
              have HR5 := Lib.hid hr; clear hr HR4
              go_wp2
              go_ret2
              rw [HR5.out]
              exact ⟨⟨G, vn, vb, vt⟩, rfl, rfl, HJ7.out, HP7.out, HCH.out, HALL.out⟩
            | true =>
              rw [if_pos rfl] at hr
              have HR5 := Lib.hid hr; clear hr HR4
              have hal : j.rs.length ≤ 8193 := by have h8 : j.rs.length ≤ 4096 + (j.next + 1) := HJ7.out.few.1; omega
              have hfew : j.rs.length + 1 ≤ 4096 + (j.next + 1) := by have h8 : j.rs.length ≤ 4096 + j.next := HJ.out.few.1; omega
              have hro : w7.ownsRow (G + 1) 3 1 vn j.rs.length (intsV (nums j)) := HJ7.out.rn
              have hrt : w7.ownsRow (G + 1) 9 1 vt j.rs.length ((texts j).map str) := HJ7.out.rt
              have HRO := Lib.hid hro; clear hro
              have HRX := Lib.hid hrt; clear hrt
              obtain ⟨sn, cn, rfl, _⟩ := own_slice HRO.out
              obtain ⟨st, ct, rfl, _⟩ := own_slice HRX.out
              have hGF : ∀ g, g = G → g ∉ ownF (.slice sn j.rs.length cn) (.slice st j.rs.length ct) := fun g hg hm => by
                simp only [ownF, List.mem_append, Option.mem_toList] at hm
                subst hg
                rcases hm with hm | hm
                · have := (HRO.out.lt g hm).1; omega
                · have := (HRX.out.lt g hm).1; omega
              have HGF := Lib.hid hGF; clear hGF
              have l7 : G < w7.heap.size := HJ7.out.head.lt
              have HSW : Hid (∀ W1 : World, ExtA (ownF (.slice sn j.rs.length cn) (.slice st j.rs.length ct)) (G + 1) (goodA j.rs.length (intsV (nums j)) (.int .i64 (j.next : Int)) ((texts j).map str) (str t)) w7.drew W1 → w7.heap.size ≤ W1.heap.size) := Lib.hid (fun W1 hx => hx.chg.size)
              have HSZ : Hid (∀ W1 : World, ExtA (ownF (.slice sn j.rs.length cn) (.slice st j.rs.length ct)) (G + 1) (goodA j.rs.length (intsV (nums j)) (.int .i64 (j.next : Int)) ((texts j).map str) (str t)) w7.drew W1 → G + 1 ≤ W1.heap.size) := Lib.hid (fun W1 hx => Nat.le_trans l7 hx.chg.size)
              have HXL : Hid ((intsV (nums j)).length = j.rs.length) := Lib.hid (by simp [intsV, nums])
              have HYL : Hid (((texts j).map str).length = j.rs.length) := Lib.hid (by simp [texts])
              have HRNN : Hid (∀ W1 : World, ExtA (ownF (.slice sn j.rs.length cn) (.slice st j.rs.length ct)) (G + 1) (goodA j.rs.length (intsV (nums j)) (.int .i64 (j.next : Int)) ((texts j).map str) (str t)) w7.drew W1 → W1.ownsRow (G + 1) 3 1 (.slice sn j.rs.length cn) j.rs.length (intsV (nums j))) := Lib.hid (fun W1 hx => hx.rows _ _ _ _ _ (.inl ⟨rfl, rfl, .inr (.inl ⟨rfl, rfl⟩)⟩) (own_below HRO.out (Below.refl w7.heap.size w7).drew))
              have HRT : Hid (∀ W1 : World, ExtA (ownF (.slice sn j.rs.length cn) (.slice st j.rs.length ct)) (G + 1) (goodA j.rs.length (intsV (nums j)) (.int .i64 (j.next : Int)) ((texts j).map str) (str t)) w7.drew W1 → W1.ownsRow (G + 1) 9 1 (.slice st j.rs.length ct) j.rs.length ((texts j).map str)) := Lib.hid (fun W1 hx => hx.rows _ _ _ _ _ (.inr ⟨rfl, rfl, .inr (.inl ⟨rfl, rfl⟩)⟩) (own_below HRX.out (Below.refl w7.heap.size w7).drew))
              go_upto_region 16 with (fail)
              refine SqE.wp_region_sqE 18 1 79 0 _ rfl 18 [5, 7, 8, 12, 14, 15] (ExtA (ownF (.slice sn j.rs.length cn) (.slice st j.rs.length ct)) (G + 1) (goodA j.rs.length (intsV (nums j)) (.int .i64 (j.next : Int)) ((texts j).map str) (str t))) (fun i v W => match i with
                | 5 => v = (.slice sn j.rs.length cn)
                | 7 => ∃ b, v = .slice (some ⟨b, 0, none⟩) 1 1 ∧ W.ownsRow (G + 1) 3 1 v 1 [(.int .i64 (j.next : Int))]
                | 8 => ∃ g cap, v = .slice (some ⟨g, 0, none⟩) (j.rs.length + 1) cap ∧ W.ownsRow (G + 1) 3 1 v (j.rs.length + 1) ((intsV (nums j)) ++ [(.int .i64 (j.next : Int))]) ∧ (((.slice sn j.rs.length cn) : Value).ownBlock = some g ∨ w7.heap.size ≤ g)
                | 12 => v = (.slice st j.rs.length ct)
                | 14 => ∃ b, v = .slice (some ⟨b, 0, none⟩) 1 1 ∧ W.ownsRow (G + 1) 9 1 v 1 [(str t)]
                | 15 => ∃ g cap, v = .slice (some ⟨g, 0, none⟩) (j.rs.length + 1) cap ∧ W.ownsRow (G + 1) 9 1 v (j.rs.length + 1) (((texts j).map str) ++ [(str t)]) ∧ (((.slice st j.rs.length ct) : Value).ownBlock = some g ∨ w7.heap.size ≤ g)
                | _ => True) (by kernel_rfl) (by kernel_rfl) (by kernel_rfl) (ExtA.refl _ _ _) (ExtA.trans _ _ _) ?stable ?main
              case stable =>
                intro i v W W' h hb
                match i, h with
                | 0, h => exact h
                | 1, h => exact h
                | 2, h => exact h
                | 3, h => exact h
                | 4, h => exact h
                | 5, h => exact h
                | 6, h => exact h
                | 7, h => exact (by obtain ⟨b, h1, h2⟩ := h; exact ⟨b, h1, hb.rows _ _ _ _ _ (.inl ⟨rfl, rfl, .inl ⟨rfl, rfl⟩⟩) h2⟩)
                | 8, h => exact (by obtain ⟨g, cap, h1, h2, h3⟩ := h; exact ⟨g, cap, h1, hb.rows _ _ _ _ _ (.inl ⟨rfl, rfl, .inr (.inr ⟨rfl, rfl⟩)⟩) h2, h3⟩)
                | 9, h => exact h
                | 10, h => exact h
                | 11, h => exact h
                | 12, h => exact h
                | 13, h => exact h
                | 14, h => exact (by obtain ⟨b, h1, h2⟩ := h; exact ⟨b, h1, hb.rows _ _ _ _ _ (.inr ⟨rfl, rfl, .inl ⟨rfl, rfl⟩⟩) h2⟩)
                | 15, h => exact (by obtain ⟨g, cap, h1, h2, h3⟩ := h; exact ⟨g, cap, h1, hb.rows _ _ _ _ _ (.inr ⟨rfl, rfl, .inr (.inr ⟨rfl, rfl⟩)⟩) h2, h3⟩)
                | _ + 16, _ => exact trivial
              simp only [SqE.addE, List.set_cons_zero, List.set_cons_succ, List.getD_cons_zero, List.getD_cons_succ]
              simp only [List.take_succ_cons, List.take_zero, List.drop_succ_cons, List.drop_zero]
              repeat (refine sqw_quiet rfl rfl (ExtA.refl _ _ _ _) ?_; go_big_quiet_step (rfl); refine wpQuiet_nil ?_)
              refine sqw_postY rfl rfl rfl ?_ ?_
              · intro W1 hx hf
                have cx := ((HJ7.out.head.drew).chg hx.chg (HGF.out G rfl)).cell (i := 1) rfl
                refine yields_value (v := (.slice sn j.rs.length cn)) (w' := W1) ?_ ⟨rfl, ExtA.refl _ _ _ _⟩
                go_simp
              intro v Wj hv
              obtain rfl : v = (.slice sn j.rs.length cn) := hv
              simp only [Act.put, List.setIfInBounds_toArray, List.set_cons_zero, List.set_cons_succ]
              repeat (refine sqw_quiet rfl rfl (ExtA.refl _ _ _ _) ?_; go_big_quiet_step (rfl); refine wpQuiet_nil ?_)
              refine sqw_postY rfl rfl rfl ?_ ?_
              · intro W1 hx hf
                refine buildOne_exec (e := 3) (v := (.int .i64 (j.next : Int))) (F := ownF (.slice sn j.rs.length cn) (.slice st j.rs.length ct)) (good := goodA j.rs.length (intsV (nums j)) (.int .i64 (j.next : Int)) ((texts j).map str) (str t)) ?_ (HSZ.out W1 hx) (fun b W' _ h2 h3 => ⟨⟨b, rfl, h2⟩, h3⟩)
                go_simp
              intro v Wj hv
              obtain ⟨L1, rfl, _⟩ := hv
              simp only [Act.put, List.setIfInBounds_toArray, List.set_cons_zero, List.set_cons_succ]
              repeat (refine sqw_quiet rfl rfl (ExtA.refl _ _ _ _) ?_; go_big_quiet_step (rfl); refine wpQuiet_nil ?_)
              refine sqw_postY rfl rfl rfl ?_ ?_
              · intro W1 hx hf
                obtain ⟨b, hb1, hb2⟩ := hf 7 85 (by kernel_rfl) rfl rfl (fun o h => by obtain rfl := Option.some.inj h; rfl)
                injection hb1 with hb1
                injection hb1 with hb1
                injection hb1 with hb1
                subst hb1
                refine yields_append1 _ _ 51 rfl (G + 1) 3 (.int .i64 0) 8 hTints infoInt rfl (.slice sn j.rs.length cn) j.rs.length (intsV (nums j)) rfl (HRNN.out W1 hx) _ 1 (.int .i64 (j.next : Int)) rfl (own_cell1 hb2) rfl (by unfold maxLen; omega) (by omega) (HSZ.out W1 hx) (fun k hk => ownF_l hk) (goodA_int HXL.out) (fun _ _ _ h => goodA_size h) (fun g cap W' h1 h2 h3 => ⟨⟨g, cap, rfl, h1, h2.imp (fun h => h) (fun h => Nat.le_trans (HSW.out W1 hx) h)⟩, h3⟩)
              intro v Wj hv
              obtain ⟨g1, cap1, rfl, _⟩ := hv
              simp only [Act.put, List.setIfInBounds_toArray, List.set_cons_zero, List.set_cons_succ]
              repeat (refine sqw_quiet rfl rfl (ExtA.refl _ _ _ _) ?_; go_big_quiet_step (rfl); refine wpQuiet_nil ?_)
              refine sqw_postY rfl rfl rfl ?_ ?_
              · intro W1 hx hf
                have cx := ((HJ7.out.head.drew).chg hx.chg (HGF.out G rfl)).cell (i := 3) rfl
                refine yields_value (v := (.slice st j.rs.length ct)) (w' := W1) ?_ ⟨rfl, ExtA.refl _ _ _ _⟩
                go_simp
              intro v Wj hv
              obtain rfl : v = (.slice st j.rs.length ct) := hv
              simp only [Act.put, List.setIfInBounds_toArray, List.set_cons_zero, List.set_cons_succ]
              repeat (refine sqw_quiet rfl rfl (ExtA.refl _ _ _ _) ?_; go_big_quiet_step (rfl); refine wpQuiet_nil ?_)
              refine sqw_postY rfl rfl rfl ?_ ?_
              · intro W1 hx hf
                refine buildOne_exec (e := 9) (v := (str t)) (F := ownF (.slice sn j.rs.length cn) (.slice st j.rs.length ct)) (good := goodA j.rs.length (intsV (nums j)) (.int .i64 (j.next : Int)) ((texts j).map str) (str t)) ?_ (HSZ.out W1 hx) (fun b W' _ h2 h3 => ⟨⟨b, rfl, h2⟩, h3⟩)
                go_simp
              intro v Wj hv
              obtain ⟨L2, rfl, _⟩ := hv
              simp only [Act.put, List.setIfInBounds_toArray, List.set_cons_zero, List.set_cons_succ]
              repeat (refine sqw_quiet rfl rfl (ExtA.refl _ _ _ _) ?_; go_big_quiet_step (rfl); refine wpQuiet_nil ?_)
              refine sqw_postY rfl rfl rfl ?_ ?_
              · intro W1 hx hf
                obtain ⟨b, hb1, hb2⟩ := hf 14 92 (by kernel_rfl) rfl rfl (fun o h => by obtain rfl := Option.some.inj h; rfl)
                injection hb1 with hb1
                injection hb1 with hb1
                injection hb1 with hb1
                subst hb1
                refine yields_append1 _ _ 22 rfl (G + 1) 9 (str []) 16 hTss infoStr rfl (.slice st j.rs.length ct) j.rs.length ((texts j).map str) rfl (HRT.out W1 hx) _ 1 (str t) rfl (own_cell1 hb2) rfl (by unfold maxLen; omega) (by omega) (HSZ.out W1 hx) (fun k hk => ownF_r hk) (goodA_str HYL.out) (fun _ _ _ h => goodA_size h) (fun g cap W' h1 h2 h3 => ⟨⟨g, cap, rfl, h1, h2.imp (fun h => h) (fun h => Nat.le_trans (HSW.out W1 hx) h)⟩, h3⟩)
              intro v Wj hv
              obtain ⟨g2, cap2, rfl, _⟩ := hv
              simp only [Act.put, List.setIfInBounds_toArray, List.set_cons_zero, List.set_cons_succ]
              repeat (refine sqw_quiet rfl rfl (ExtA.refl _ _ _ _) ?_; go_big_quiet_step (rfl); refine wpQuiet_nil ?_)
              refine sqw_nil ?_
              intro w8 hx hf
              obtain ⟨ga, ca, ea, o1, n1⟩ := hf 8 86 (by decide) (by kernel_rfl) rfl (fun o h => by obtain rfl := Option.some.inj h; rfl)
              cases ea
              obtain ⟨gb, cb, eb, o2, n2⟩ := hf 15 93 (by decide) (by kernel_rfl) rfl (fun o h => by obtain rfl := Option.some.inj h; rfl)
              cases eb
              clear hf
              have hh8 := HJ7.out.head.drew.chg hx.chg (HGF.out G rfl)
              have hpush := HJ7.out.push (n := j.next) (t := t) hx.chg o1 n1 o2 hfew
              have hP8 : PD ((w8.setCell ⟨G, 1, none⟩ (.slice (some ⟨g1, 0, none⟩) (j.rs.length + 1) cap1)).setCell ⟨G, 3, none⟩ (.slice (some ⟨g2, 0, none⟩) (j.rs.length + 1) cap2)) f d2 := by
                refine ((HP7.out.below ((Below.refl w7.heap.size w7).drew)).chg hx.chg (fun x hx hm => ?_)).chg (((Chg.refl [G] w8).set (a := ⟨G, 1, none⟩) _ (by simp)).set (a := ⟨G, 3, none⟩) _ (by simp)) (fun x hx hm => by have := HLOW.out x hx; simp at hm; omega)
                have h8 := HLOW.out x hx
                simp only [ownF, List.mem_append, Option.mem_toList] at hm
                rcases hm with hm | hm
                · have := (HRO.out.lt x hm).1; omega
                · have := (HRX.out.lt x hm).1; omega
              have hch8 : Chg (f.all ++ (⟨G, .slice sn j.rs.length cn, vb, .slice st j.rs.length ct⟩ : Jf).all) w2 ((w8.setCell ⟨G, 1, none⟩ (.slice (some ⟨g1, 0, none⟩) (j.rs.length + 1) cap1)).setCell ⟨G, 3, none⟩ (.slice (some ⟨g2, 0, none⟩) (j.rs.length + 1) cap2)) := by
                refine ((HCH.out.drew.trans (hx.chg.mono (fun x hm => List.mem_append_right _ ?_))).set (a := ⟨G, 1, none⟩) _ HGA.out).set (a := ⟨G, 3, none⟩) _ HGA.out
                simp only [ownF, List.mem_append, Option.mem_toList] at hm
                simp only [Jf.all, List.mem_cons, List.mem_append, Option.mem_toList]
                rcases hm with hm | hm
                · exact .inr (.inl hm)
                · exact .inr (.inr (.inr hm))
              have hall8 : ∀ x ∈ (⟨G, .slice (some ⟨g1, 0, none⟩) (j.rs.length + 1) cap1, vb, .slice (some ⟨g2, 0, none⟩) (j.rs.length + 1) cap2⟩ : Jf).all, x ∈ (⟨G, .slice sn j.rs.length cn, vb, .slice st j.rs.length ct⟩ : Jf).all ∨ w2.heap.size ≤ x := fun x hm => by
                have hz := HCH.out.size
                simp only [Jf.all, List.mem_cons, List.mem_append, Option.mem_toList] at hm ⊢
                rcases hm with hm | hm | hm | hm
                · exact .inl (.inl hm)
                · injection hm with hm
                  subst hm
                  rcases n1 with n1 | n1
                  · exact .inl (.inr (.inl n1))
                  · exact .inr (Nat.le_trans hz n1)
                · exact .inl (.inr (.inr (.inl hm)))
                · injection hm with hm
                  subst hm
                  rcases n2 with n2 | n2
                  · exact .inl (.inr (.inr (.inr n2)))
                  · exact .inr (Nat.le_trans hz n2)
              have HCH8 := Lib.hid hch8; clear hch8
              have HALL8 := Lib.hid hall8; clear hall8
              have HPU := Lib.hid hpush; clear hpush o1 o2 n1 n2
              have cf1 : w8.frozen? ⟨G, 1, none⟩ = false := hh8.frozen 1
              have cc1 : w8.cell? ⟨G, 1, none⟩ = some (.slice sn j.rs.length cn) := hh8.cell rfl
              have cc3 : (w8.setCell ⟨G, 1, none⟩ (.slice (some ⟨g1, 0, none⟩) (j.rs.length + 1) cap1)).cell? ⟨G, 3, none⟩ = some (.slice st j.rs.length ct) := (hh8.set 1 _).cell rfl
              have cf3 : (w8.setCell ⟨G, 1, none⟩ (.slice (some ⟨g1, 0, none⟩) (j.rs.length + 1) cap1)).frozen? ⟨G, 3, none⟩ = false := (hh8.set 1 _).frozen 3
              clear hh8
              have HP8 := Lib.hid hP8; clear hP8
              go_wp2
              refine SqE.nrm ?_
              go_wp2
              go_ret2
              rw [HR5.out]
              exact ⟨_, rfl, rfl, HPU.out, HP8.out, HCH8.out, HALL8.out⟩
          · have hr := HR4.out
            rw [if_pos hy] at hr
            have HR5 := Lib.hid hr; clear hr HR4
            have hx6 : w7.cell? ⟨G, 6, none⟩ = some (.bool j.closed) := HJ7.out.head.cell rfl
            have hf6 : w7.frozen? ⟨G, 6, none⟩ = false := HJ7.out.head.frozen 6
            go_wp2
            go_ret2
            rw [HR5.out]
            refine ⟨⟨G, vn, vb, vt⟩, rfl, rfl, HJ7.out.shut, HP7.out.chg ((Chg.refl [G] w7).set (a := ⟨G, 6, none⟩) _ (by simp)) (fun x hx hm => by have := HLOW.out x hx; simp at hm; omega), HCH.out.set _ HGA.out, HALL.out⟩
end Go.Proofs.YtbmnbdkbgpajeaaGreatDoor
end
/- SameTexts, SameInts of the reference. -/
section
namespace Go.Own
theorem take_succ_eq {α : Type} {la lb : List α} {k : Nat} (h1 : k < la.length) (h2 : k < lb.length) (h : la.take k = lb.take k) (he : la[k] = lb[k]) : la.take (k + 1) = lb.take (k + 1) := by
  rw [List.take_succ_eq_append_getElem h1, List.take_succ_eq_append_getElem h2, h, he]
theorem ne_of_get {α : Type} {la lb : List α} {k : Nat} (h1 : k < la.length) (h2 : k < lb.length) (he : la[k] ≠ lb[k]) : la ≠ lb := by
  intro e; subst e; exact he rfl
end Go.Own
namespace Go.Proofs.YtbmnbdkbgpajeaaGreatDoor
open Go.RowKit Go.Own Go.Disk Go.BigFrame
attribute [local go_sem] setCell_twice str_size op_str_eql op_str_neq
set_option maxRecDepth 100000 in
theorem sameTexts_any (la lb : List (List UInt8)) (sa sb : Option Addr) (ca cb : Nat) (w : World) (ha : Sl w 1 (.slice sa la.length ca) la.length (la.map str)) (hb : Sl w 1 (.slice sb lb.length cb) lb.length (lb.map str)) (hm : la.length ≤ 1000000 ∨ lb.length ≤ 1000000) :
    Calls Tryz.prog 20 #[.slice sa la.length ca, .slice sb lb.length cb] w fun e w' => e = .returned (.bool (la == lb)) ∧ Below w.heap.size w w' := by
  go_enter Tryz.func20, Tryz.ntmps20
  by_cases hl : la.length = lb.length
  · have hl' : ((la.length : Int) != (lb.length : Int)) = false := by simp [hl]
    go_wp2
    go_loopw [5] (fun c wr => ∃ k : Nat, k ≤ la.length ∧ c = .int .i64 k ∧ la.take k = lb.take k ∧ Below w.heap.size w wr) (fun c _ => la.length - (jInt c).toNat)
    case atStart => exact ⟨0, by omega, rfl, rfl, Below.refl _ _⟩
    case round =>
      obtain ⟨k, hk, rfl, he, hbr⟩ := hrel
      by_cases hkl : k < la.length
      · have hkl2 : k < lb.length := by omega
        obtain ⟨ba, oa, rfl, _, _, hCa, hal⟩ := sl_cases ha (by omega)
        obtain ⟨bb, ob, rfl, _, _, hCb, hbl⟩ := sl_cases hb (by omega)
        obtain ⟨x, hx⟩ : ∃ x, x = la[k] := ⟨_, rfl⟩
        obtain ⟨y, hy⟩ : ∃ y, y = lb[k] := ⟨_, rfl⟩
        have cx : wr.cell? ⟨ba, oa + k, none⟩ = some (str x) := (hCa.below hbr hal) k _ (by simp [hkl, hx])
        have cy : wr.cell? ⟨bb, ob + k, none⟩ = some (str y) := (hCb.below hbr hbl) k _ (by simp [hkl2, hy])
        have HX := Lib.hid hx; clear hx
        have HY := Lib.hid hy; clear hy
        by_cases hxy : x = y
        · subst hxy
          have ht := take_succ_eq hkl hkl2 he (by rw [← HX.out, ← HY.out])
          go_wp2
          go_quiet (fail)
          go_wp2
          go_roundw
          case rel => exact ⟨k + 1, by omega, by go_num, ht, below_drewN hbr _⟩
          case measure => simp [jInt]; omega
        · have hq : (x == y) = false := by simpa using hxy
          have hne : (la == lb) = false := by
            have := ne_of_get hkl hkl2 (by rw [← HX.out, ← HY.out]; exact hxy)
            simpa using this
          clear hxy
          go_wp2
          go_quiet (fail)
          go_wp2
          go_ret
          rw [hne]
          exact ⟨rfl, below_drewN hbr _⟩
      · have e : la = lb := by rwa [List.take_of_length_le (by omega), List.take_of_length_le (by omega)] at he
        have hq : (la == lb) = true := by simpa using e
        clear e he
        go_wp2
        go_ret
        rw [hq]
        exact ⟨rfl, hbr⟩
  · have hl' : ((la.length : Int) != (lb.length : Int)) = true := by simp; omega
    have hne : (la == lb) = false := by
      have : la ≠ lb := fun e => hl (by rw [e])
      simpa using this
    go_wp2
    go_ret
    rw [hne]
    exact ⟨rfl, Below.refl _ _⟩
set_option maxRecDepth 100000 in
theorem sameInts_any (la lb : List Int) (sa sb : Option Addr) (ca cb : Nat) (w : World) (ha : Sl w 1 (.slice sa la.length ca) la.length (la.map (.int .i64))) (hb : Sl w 1 (.slice sb lb.length cb) lb.length (lb.map (.int .i64))) (hm : la.length ≤ 1000000 ∨ lb.length ≤ 1000000) :
    Calls Tryz.prog 23 #[.slice sa la.length ca, .slice sb lb.length cb] w fun e w' => e = .returned (.bool (la == lb)) ∧ Below w.heap.size w w' := by
  go_enter Tryz.func23, Tryz.ntmps23
  by_cases hl : la.length = lb.length
  · have hl' : ((la.length : Int) != (lb.length : Int)) = false := by simp [hl]
    go_wp2
    go_loopw [5] (fun c wr => ∃ k : Nat, k ≤ la.length ∧ c = .int .i64 k ∧ la.take k = lb.take k ∧ Below w.heap.size w wr) (fun c _ => la.length - (jInt c).toNat)
    case atStart => exact ⟨0, by omega, rfl, rfl, Below.refl _ _⟩
    case round =>
      obtain ⟨k, hk, rfl, he, hbr⟩ := hrel
      by_cases hkl : k < la.length
      · have hkl2 : k < lb.length := by omega
        obtain ⟨ba, oa, rfl, _, _, hCa, hal⟩ := sl_cases ha (by omega)
        obtain ⟨bb, ob, rfl, _, _, hCb, hbl⟩ := sl_cases hb (by omega)
        obtain ⟨x, hx⟩ : ∃ x, x = la[k] := ⟨_, rfl⟩
        obtain ⟨y, hy⟩ : ∃ y, y = lb[k] := ⟨_, rfl⟩
        have cx : wr.cell? ⟨ba, oa + k, none⟩ = some (.int .i64 x) := (hCa.below hbr hal) k _ (by simp [hkl, hx])
        have cy : wr.cell? ⟨bb, ob + k, none⟩ = some (.int .i64 y) := (hCb.below hbr hbl) k _ (by simp [hkl2, hy])
        have HX := Lib.hid hx; clear hx
        have HY := Lib.hid hy; clear hy
        by_cases hxy : x = y
        · subst hxy
          have ht := take_succ_eq hkl hkl2 he (by rw [← HX.out, ← HY.out])
          go_wp2
          go_quiet (fail)
          go_wp2
          go_roundw
          case rel => exact ⟨k + 1, by omega, by go_num, ht, below_drewN hbr _⟩
          case measure => simp [jInt]; omega
        · have hq : (x == y) = false := by simpa using hxy
          have hq2 : (x != y) = true := by simpa using hxy
          have hne : (la == lb) = false := by
            have := ne_of_get hkl hkl2 (by rw [← HX.out, ← HY.out]; exact hxy)
            simpa using this
          clear hxy
          go_wp2
          go_quiet (fail)
          go_wp2
          go_ret
          rw [hne]
          exact ⟨rfl, below_drewN hbr _⟩
      · have e : la = lb := by rwa [List.take_of_length_le (by omega), List.take_of_length_le (by omega)] at he
        have hq : (la == lb) = true := by simpa using e
        clear e he
        go_wp2
        go_ret
        rw [hq]
        exact ⟨rfl, hbr⟩
  · have hl' : ((la.length : Int) != (lb.length : Int)) = true := by simp; omega
    have hne : (la == lb) = false := by
      have : la ≠ lb := fun e => hl (by rw [e])
      simpa using this
    go_wp2
    go_ret
    rw [hne]
    exact ⟨rfl, Below.refl _ _⟩
end Go.Proofs.YtbmnbdkbgpajeaaGreatDoor
end
/- Mount of the program's disk. -/
section
namespace Go.Proofs.YtbmnbdkbgpajeaaGreatDoor
open Go.RowKit Go.Own Go.Disk
attribute [local go_sem] setCell_twice str_size
set_option maxHeartbeats 1600000 in
set_option maxRecDepth 100000 in
theorem mount_any (f : Ft) (d : DS) (ps : List Int) (sp : Option Addr) (pc : Nat) (w : World) (h : PD w f d) (hps : ps ≠ [] → Sl w 1 (.slice sp ps.length pc) ps.length (ps.map fun z => .int .i64 z)) (hpn : ps ≠ [] → ∀ b, (Value.slice sp ps.length pc).ownBlock = some b → b ∉ f.all) :
    Calls Tryz.prog 28 #[.pointer (some ⟨f.p, 0, none⟩), .slice sp ps.length pc] w fun e w' => e = .returned (.tuple #[]) ∧ PD w' f (amount d ps) ∧ Chg f.all w w' := by
  go_enter Tryz.func28, Tryz.ntmps28
  go_wp2_with (go_at_call 64; refine (pending_any f d _ h).mono ?_; rintro e w2 ⟨v, rfl, hrow, hb2⟩; obtain ⟨sa, cap, rfl, hge⟩ := own_slice hrow)
  obtain ⟨L, hL⟩ : ∃ L, L = apend d.s := ⟨_, rfl⟩
  have hLs : L.Pairwise (· < ·) := by rw [hL]; exact range_filter_lt _ _
  have hI0 := LoopI.start ps d.s
  have hLl : L.length ≤ 4096 := by
    have e2 := List.length_filter_le (fun i => (d.s.getD i default).p.isSome) (List.range d.s.length)
    rw [List.length_range] at e2
    have := h.ok.most
    rw [hL]; unfold apend; omega
  have hsl := Sl.of_owns hrow
  have hF : ∀ x ∈ f.all, x < w.heap.size := h.lt
  have h2 := h.below hb2
  have hps2 := fun hne => (hps hne).below hb2
  have HK : Hid (amount d ps = { s := settleTo ps L d.s, off := false, left := -1 }) := Lib.hid (by rw [hL]; rfl)
  rw [← hL] at hI0 hsl hge
  try rw [← hL]
  have HL := Lib.hid hL; clear hL
  clear hrow
  have HSL := Lib.hid hsl; clear hsl
  have HPS := Lib.hid hps2; clear hps2 hps
  go_loopw [10] (fun c wr => ∃ k : Nat, ∃ s : List Sec, k ≤ L.length ∧ c = .int .i64 k ∧ LoopI ps L d.s k s ∧ PD wr f { d with s := s } ∧ s.length = d.s.length ∧ Chg f.all w2 wr) (fun c _ => L.length - (intOf c).toNat)
  case atStart => exact ⟨0, d.s, by omega, rfl, hI0, h2, rfl, Chg.refl _ _⟩
  case round =>
    obtain ⟨k, s, hk, rfl, hI, hP, hsl', hC⟩ := hrel
    by_cases hkl : k < L.length
    · obtain ⟨hj1, hj2⟩ := hI.here hkl
      have hS := HSL.out.chg hC (fun b hb hx => by have := hge b hb; have := hF b hx; omega)
      obtain ⟨b0, off, cap', e0, hCs, _⟩ := sl_cell hS (by omega)
      injection e0 with e0 _ e1
      subst e0 e1
      have cx : wr.cell? ⟨b0, off + k, none⟩ = some (.int .i64 (L.getD k 0)) := hCs k _ (by rw [List.getElem?_map, List.getElem?_eq_getElem hkl, List.getD_eq_getElem?_getD, List.getElem?_eq_getElem hkl]; rfl)
      have HI := Lib.hid hI; clear hI
      obtain ⟨j, hj⟩ : ∃ j, j = L.getD k 0 := ⟨_, rfl⟩
      have hI' := HI.out.step hLs hkl
      rw [← hj] at cx hj1 hj2 hI'
      have HI' := Lib.hid hI'; clear hI'
      have HJ := Lib.hid hj; clear hj
      have hjR : inR { d with s := s } j = true := inR_nat hj1
      by_cases hpk : k < ps.length
      · have hne : ps ≠ [] := by intro e; rw [e] at hpk; simp at hpk
        have hS2 := (HPS.out hne).chg hC (hpn hne)
        clear hne
        obtain ⟨b1, off1, cap1, e0, hCs1, _⟩ := sl_cell hS2 (by omega)
        injection e0 with e0 _ e1
        subst e0 e1
        obtain ⟨p, hp⟩ : ∃ p, p = ps.getD k 64 := ⟨_, rfl⟩
        have cp : wr.cell? ⟨b1, off1 + k, none⟩ = some (.int .i64 p) := hCs1 k _ (by rw [List.getElem?_map, List.getElem?_eq_getElem hpk, hp, List.getD_eq_getElem?_getD, List.getElem?_eq_getElem hpk]; rfl)
        have HP := Lib.hid hp; clear hp
        go_wp2_with (go_at_call 65; refine (settle_any f { d with s := s } j p _ hP hjR hj2).mono ?_; rintro e w3 ⟨rfl, hP', hC'⟩)
        go_roundw
        case rel => exact ⟨k + 1, s.modify j (settle1 p), by omega, by go_num, by rw [HP.out]; exact HI'.out, hP', by simp [hsl'], hC.trans hC'⟩
        case measure => simp [intOf]; omega
      · have hp : ps.getD k 64 = 64 := by rw [List.getD_eq_getElem?_getD, List.getElem?_eq_none (by omega)]; rfl
        have HP := Lib.hid hp; clear hp
        go_wp2_with (go_at_call 65; refine (settle_any f { d with s := s } j 64 _ hP hjR hj2).mono ?_; rintro e w3 ⟨rfl, hP', hC'⟩)
        go_roundw
        case rel => exact ⟨k + 1, s.modify j (settle1 64), by omega, by go_num, by rw [← HP.out]; exact HI'.out, hP', by simp [hsl'], hC.trans hC'⟩
        case measure => simp [intOf]; omega
    · obtain rfl : k = L.length := by omega
      have hfin := hI.last
      obtain ⟨l, hB, _⟩ := hP.head
      have hfr := hB.frozen
      have c3 : wr.cell? ⟨f.p, 3, none⟩ = some (.bool d.off) := hB.cell rfl
      have c4 : wr.cell? ⟨f.p, 4, none⟩ = some (.int .i64 l) := hB.cell rfl
      have kk := hP.withHead (d' := { s := s, off := false, left := -1 }) (w' := (wr.setCell ⟨f.p, 3, none⟩ (.bool false)).setCell ⟨f.p, 4, none⟩ (.int .i64 (-1))) rfl (by simp) (-1) ((hB.set 3 _).set 4 _) rfl (by decide) (((Chg.refl _ _).set _ (by simp)).set _ (by simp))
      have hc9 : Chg f.all wr ((wr.setCell ⟨f.p, 3, none⟩ (.bool false)).setCell ⟨f.p, 4, none⟩ (.int .i64 (-1))) := ((Chg.refl _ _).set _ (by simp [Ft.all])).set _ (by simp [Ft.all])
      have HF := Lib.hid hfin; clear hfin
      go_wp2
      refine bodyPost_end (results_none rfl _ _ _) rfl ?_
      rw [HK.out, ← HF.out]
      exact ⟨rfl, kk, ((Chg.of_below hb2).trans hC).trans hc9⟩
end Go.Proofs.YtbmnbdkbgpajeaaGreatDoor
end

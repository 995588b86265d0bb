/- journal: the reference: Append. -/
import Derived.Test.YtbmnbdkbgpajeaaGreatDoorZe28
import Derived.Test.YtbmnbdkbgpajeaaGreatDoorZe30
import Derived.Deep.CutBlock
/- journal: the reference: Append. -/
section
namespace Go.Jn
open Go.Disk
theorem awr_w {d d2 : DS} {i : Nat} {l : List (List UInt8)} {y : Int} (h : awrites d i l = (y, d2)) (hy : y ≠ 0) : awr d i l = ((y, false), d2) := by
  unfold awr; rw [h, if_pos hy]
theorem awr_f {d d1 d2 : DS} {i : Nat} {l : List (List UInt8)} {y : Int} (h : awrites d i l = (0, d1)) (h2 : aflush d1 = (y, d2)) (hy : y ≠ 0) : awr d i l = ((y, false), d2) := by
  unfold awr; rw [h, if_neg (by simp), h2, if_pos hy]
theorem awr_r {d d1 d2 : DS} {i : Nat} {l : List (List UInt8)} {y : Int} {b : Bool} (h : awrites d i l = (0, d1)) (h2 : aflush d1 = (0, d2)) (h3 : areads d2 i l true = (y, b)) (hy : y ≠ 0) : awr d i l = ((y, false), d2) := by
  unfold awr; rw [h, if_neg (by simp), h2, if_neg (by simp), h3, if_pos hy]
theorem awr_ok {d d1 d2 : DS} {i : Nat} {l : List (List UInt8)} {b : Bool} (h : awrites d i l = (0, d1)) (h2 : aflush d1 = (0, d2)) (h3 : areads d2 i l true = (0, b)) : awr d i l = ((0, b), d2) := by
  unfold awr; rw [h, if_neg (by simp), h2, if_neg (by simp), h3, if_neg (by simp)]
end Go.Jn
namespace Go.Proofs.YtbmnbdkbgpajeaaGreatDoor
open Go.RowKit Go.Own Go.Jn Go.Disk Go.BigFrame Go.Sha
attribute [local irreducible] SqW
attribute [local go_sem] setCell_twice str_size op_str_eql op_str_neq
theorem RJ.own_ne {w : World} {f : Rt} {J : Jf} {j : JS} (_ : RJ w f J j) {v : Value} {size n : Nat} {e : TypeId} {xs : List Value} {W : World} (ho : W.ownsRow (J.g + 1) e size v n xs) : ∀ b, v.ownBlock = some b → b ≠ J.g := fun b hb => by have := (ho.lt b hb).1; omega
theorem RJ.set45 {w : World} {f : Rt} {J : Jf} {j : JS} (h : RJ w f J j) (n k : Nat) (hn : j.next ≤ n ∧ n ≤ 4097) (hk : k ≤ 4096) :
    RJ ((w.setCell ⟨J.g, 4, none⟩ (.int .i64 n)).setCell ⟨J.g, 5, none⟩ (.int .i64 k)) f J { j with next := n, fin := k } := by
  have h0 := h.next
  have h9 := h.few
  refine ⟨(h.head.set 4 _).set 5 _, ?_, ?_, ?_, h.low, h.nb, hk, ⟨by dsimp only; omega, hn.2⟩, ⟨by dsimp only; omega, h9.2⟩⟩
  · exact own_set (own_set h.rn (fun b hb => by have := h.own_ne h.rn b hb; simpa using this)) (fun b hb => by have := h.own_ne h.rn b hb; simpa using this)
  · exact own_set (own_set h.rb (fun b hb => by have := h.own_ne h.rb b hb; simpa using this)) (fun b hb => by have := h.own_ne h.rb b hb; simpa using this)
  · exact own_set (own_set h.rt (fun b hb => by have := h.own_ne h.rt b hb; simpa using this)) (fun b hb => by have := h.own_ne h.rt b hb; simpa using this)
theorem RJ.shut {w : World} {f : Rt} {J : Jf} {j : JS} (h : RJ w f J j) : RJ (w.setCell ⟨J.g, 6, none⟩ (.bool true)) f J { j with closed := true } := by
  refine ⟨h.head.set 6 _, ?_, ?_, ?_, h.low, h.nb, h.fin, h.next, h.few⟩
  · exact own_set h.rn (fun b hb => by have := h.own_ne h.rn b hb; simpa using this)
  · exact own_set h.rb (fun b hb => by have := h.own_ne h.rb b hb; simpa using this)
  · exact own_set h.rt (fun b hb => by have := h.own_ne h.rt b hb; simpa using this)
/-- a number was written, its text not yet -/
structure RV (w : World) (r : Rt) (J : Jf) (j : JS) (n : Nat) : Prop where
  head : Blk w J.g [.pointer (some ⟨r.p, 0, none⟩), J.vn, J.vt, J.vb, .int .i64 j.next, .int .i64 j.fin, .bool j.closed] 66
  rn : w.ownsRow (J.g + 1) 3 1 J.vn (j.rs.length + 1) (intsV (nums j) ++ [.int .i64 (n : Int)])
  rb : w.ownsRow (J.g + 1) 3 1 J.vb j.bad.length (intsV j.bad)
  rt : w.ownsRow (J.g + 1) 9 1 J.vt j.rs.length ((texts j).map str)
  nb : ∀ b, J.vn.ownBlock = some b → J.vb.ownBlock ≠ some b
theorem RV.below {w w' : World} {r : Rt} {J : Jf} {j : JS} {n : Nat} (h : RV w r J j n) (hb : Below w.heap.size w w') : RV w' r J j n := ⟨h.head.below hb h.head.lt, own_below h.rn hb, own_below h.rb hb, own_below h.rt hb, h.nb⟩
theorem RJ.num {w w' : World} {r : Rt} {G : Nat} {vn vb vt : Value} {j : JS} (h : RJ w r ⟨G, vn, vb, vt⟩ j) (hg : w.grownBy w' vn.ownBlock) {g1 c1 n : Nat}
    (o1 : w'.ownsRow (G + 1) 3 1 (.slice (some ⟨g1, 0, none⟩) (j.rs.length + 1) c1) (j.rs.length + 1) (intsV (nums j) ++ [.int .i64 (n : Int)])) (n1 : vn.ownBlock = some g1 ∨ w.heap.size ≤ g1) :
    RV (w'.setCell ⟨G, 1, none⟩ (.slice (some ⟨g1, 0, none⟩) (j.rs.length + 1) c1)) r ⟨G, .slice (some ⟨g1, 0, none⟩) (j.rs.length + 1) c1, vb, vt⟩ j n := by
  have hh := h.head.grown hg (fun e => by have := (h.rn.lt G e.symm).1; dsimp only at this; omega)
  have rt := own_far h.rt hg (fun b hb e => own_types h.rn h.rt (by decide) b e hb)
  have rb := own_far h.rb hg (fun b hb e => h.nb b e hb)
  have ne : ∀ {v : Value} {size n : Nat} {e : TypeId} {xs : List Value} {w : World}, w.ownsRow (G + 1) e size v n xs → ∀ b, v.ownBlock = some b → b ≠ G := fun ho b hb => by have := (ho.lt b hb).1; omega
  refine ⟨hh.set 1 _, own_set o1 (fun b hb => by have := ne o1 b hb; simpa using this), own_set rb (fun b hb => by have := ne rb b hb; simpa using this), own_set rt (fun b hb => by have := ne rt b hb; simpa using this), fun b hb hv => ?_⟩
  obtain rfl : g1 = b := by simpa [Value.ownBlock] using hb
  rcases n1 with n1 | n1
  · exact h.nb _ n1 hv
  · have := (h.rb.lt _ hv).2
    omega
theorem RV.txt {w w' : World} {r : Rt} {G : Nat} {vn vb vt : Value} {j : JS} {n : Nat} (h : RV w r ⟨G, vn, vb, vt⟩ j n) (hg : w.grownBy w' vt.ownBlock) {g2 c2 : Nat} {t : List UInt8}
    (o2 : w'.ownsRow (G + 1) 9 1 (.slice (some ⟨g2, 0, none⟩) (j.rs.length + 1) c2) (j.rs.length + 1) ((texts j).map str ++ [str t])) (low : ∀ x ∈ r.all, x < G) (hf : j.fin ≤ 4096) (hn : 1 ≤ j.next ∧ j.next ≤ 4097) (hw : j.rs.length + 1 ≤ 4096 + j.next ∧ j.bad.length ≤ 4096) :
    RJ (w'.setCell ⟨G, 2, none⟩ (.slice (some ⟨g2, 0, none⟩) (j.rs.length + 1) c2)) r ⟨G, vn, vb, .slice (some ⟨g2, 0, none⟩) (j.rs.length + 1) c2⟩ { j with rs := j.rs ++ [(n, t)] } := by
  have hh := h.head.grown hg (fun e => by have := (h.rt.lt G e.symm).1; dsimp only at this; omega)
  have rn := own_far h.rn hg (fun b hb e => own_types h.rn h.rt (by decide) b hb e)
  have rb := own_far h.rb hg (fun b hb e => own_types h.rt h.rb (by decide) b e hb)
  have ne : ∀ {v : Value} {size n : Nat} {e : TypeId} {xs : List Value} {w : World}, w.ownsRow (G + 1) e size v n xs → ∀ b, v.ownBlock = some b → b ≠ G := fun ho b hb => by have := (ho.lt b hb).1; omega
  refine ⟨hh.set 2 _, ?_, own_set rb (fun b hb => by have := ne rb b hb; simpa using this), ?_, low, h.nb, hf, hn, ⟨by dsimp only; rw [List.length_append]; exact hw.1, hw.2⟩⟩
  · have e : intsV (nums { j with rs := j.rs ++ [(n, t)] }) = intsV (nums j) ++ [.int .i64 (n : Int)] := by simp [intsV, nums]
    rw [e, List.length_append]
    exact own_set rn (fun b hb => by have := ne rn b hb; simpa using this)
  · have e : (texts { j with rs := j.rs ++ [(n, t)] }).map str = (texts j).map str ++ [str t] := by simp [texts]
    rw [e, List.length_append]
    exact own_set o2 (fun b hb => by have := ne o2 b hb; simpa using this)
set_option maxRecDepth 100000 in
set_option maxHeartbeats 4000000 in
theorem rappend_any {w : World} {r : Rt} {J : Jf} {j : JS} {d : DS} (h : RJ w r J j) (hd : RD w r d) (hK : Cells w 0 0 (Kt.map U)) (h1 : 0 < w.heap.size) (t : List UInt8) (ht : t.length ≤ maxLen) :
    Calls Tryz.prog 30 #[.pointer (some ⟨J.g, 0, none⟩), str t] w fun e w' => ∃ J' : Jf, J'.g = J.g ∧ e = .returned (.tuple #[.int .i64 (aappend d j t).1, .int .i64 (aappend d j t).2.1]) ∧
      RJ w' r J' (aappend d j t).2.2.1 ∧ RD w' r (aappend d j t).2.2.2 ∧ Chg (r.all ++ J.all) w w' ∧ (∀ x ∈ J'.all, x ∈ J.all ∨ w.heap.size ≤ x) := by
  obtain ⟨G, vn, vb, vt⟩ := J
  have HJ := Lib.hid h
  have HD := Lib.hid hd; clear hd
  have c6 : w.cell? ⟨G, 6, none⟩ = some (.bool j.closed) := h.head.cell rfl
  have c4 : w.cell? ⟨G, 4, none⟩ = some (.int .i64 j.next) := h.head.cell rfl
  have c5 : w.cell? ⟨G, 5, none⟩ = some (.int .i64 j.fin) := h.head.cell rfl
  have hnx := h.next
  have hfn := h.fin
  have hfew := h.few
  have hall : ∀ x ∈ (⟨G, vn, vb, vt⟩ : Jf).all, x ∈ (⟨G, vn, vb, vt⟩ : Jf).all ∨ w.heap.size ≤ x := fun x hx => .inl hx
  have HLOW : Hid (∀ x ∈ r.all, x < G) := Lib.hid h.low
  have HAP : Hid (∀ x ∈ (⟨G, vn, vb, vt⟩ : Jf).all, x ∉ r.all) := Lib.hid h.apart
  have HLO : Hid (∀ x ∈ (⟨G, vn, vb, vt⟩ : Jf).all, G ≤ x ∧ x < w.heap.size) := Lib.hid h.lo
  have hGw : G < w.heap.size := h.head.lt
  have hmost := HD.out.ok.most
  have HKK := Lib.hid hK; clear hK
  clear h
  obtain ⟨R, hR⟩ : ∃ R, R = aappend d j t := ⟨_, rfl⟩
  rw [← hR]
  have hR2 := hR
  clear hR
  dsimp only
  cases hcl : j.closed with
  | true =>
    rw [hcl] at c6
    unfold aappend at hR2
    rw [if_pos hcl] at hR2
    have HRR := Lib.hid hR2; clear hR2 hcl
    go_enter Tryz.func30, Tryz.ntmps30
    go_wp2
    go_ret2
    rw [HRR.out]
    exact ⟨⟨G, vn, vb, vt⟩, rfl, rfl, HJ.out, HD.out, Chg.refl _ _, hall⟩
  | false =>
    rw [hcl] at c6
    by_cases hlim : 8000 < t.length ∨ 4096 < j.next
    · unfold aappend at hR2
      rw [if_neg (by rw [hcl]; simp), if_pos hlim] at hR2
      have HRR := Lib.hid hR2; clear hR2 hcl
      by_cases g1 : 8000 < t.length
      · have g1i : ((8000 : Int) < t.length) = True := eq_true (by omega)
        go_enter Tryz.func30, Tryz.ntmps30
        go_wp2
        go_ret2
        rw [HRR.out]
        exact ⟨⟨G, vn, vb, vt⟩, rfl, rfl, HJ.out, HD.out, Chg.refl _ _, hall⟩
      · have g1i : ((8000 : Int) < t.length) = False := eq_false (by omega)
        have g2i : ((4096 : Int) < j.next) = True := eq_true (by omega)
        go_enter Tryz.func30, Tryz.ntmps30
        go_wp2
        go_ret2
        rw [HRR.out]
        exact ⟨⟨G, vn, vb, vt⟩, rfl, rfl, HJ.out, HD.out, Chg.refl _ _, hall⟩
    have g1i : ((8000 : Int) < t.length) = False := eq_false (by omega)
    have g2i : ((4096 : Int) < j.next) = False := eq_false (by omega)
    have ht8 : t.length ≤ 8000 := by omega
    have hnx4 : j.next ≤ 4096 := by omega
    clear hlim
    have hcn := cntN_le ht8
    obtain ⟨cn, hcne⟩ : ∃ cn, cn = cntN t.length := ⟨_, rfl⟩
    rw [← hcne] at hcn
    obtain ⟨rm, hrm⟩ : ∃ rm, rm = room d j := ⟨_, rfl⟩
    have hrmv : rm = (d.s.length : Int) - j.fin := hrm
    have hroom := rroom_any HJ.out HD.out
    rw [← hrm] at hroom
    have HRM := Lib.hid hroom; clear hroom
    have HCNE := Lib.hid hcne; clear hcne
    have HRME := Lib.hid hrm; clear hrm
    go_enter Tryz.func30, Tryz.ntmps30
    go_wp2_with fail
    refine (rcount_any (t.length : Int) w).mono ?_
    rintro e w1 ⟨rfl, hw1⟩
    rw [hw1, cntI_nat, ← HCNE.out]
    clear hw1
    go_wp2_with fail
    refine HRM.out.mono ?_
    rintro e w2 ⟨rfl, n2, hw2⟩
    have b2 : Below w.heap.size w w2 := by rw [hw2]; exact below_drewN (Below.refl _ _) n2
    clear hw2 HRM
    have HJ2 := Lib.hid (HJ.out.below b2)
    have HD2 := Lib.hid (HD.out.below b2)
    have HC2 : Hid (Chg (r.all ++ (⟨G, vn, vb, vt⟩ : Jf).all) w w2) := Lib.hid (.of_below b2)
    clear HJ HD
    have c4 : w2.cell? ⟨G, 4, none⟩ = some (.int .i64 j.next) := HJ2.out.head.cell rfl
    have c5 : w2.cell? ⟨G, 5, none⟩ = some (.int .i64 j.fin) := HJ2.out.head.cell rfl
    by_cases hrc : rm < (cn : Int)
    · have hrci : (rm < (cn : Int)) = True := eq_true hrc
      unfold aappend at hR2
      rw [if_neg (by rw [hcl]; simp), if_neg (by omega), if_pos (by rw [← HRME.out, ← HCNE.out]; exact hrc)] at hR2
      have HRR := Lib.hid hR2; clear hR2 hcl
      go_wp2
      go_ret2
      rw [HRR.out]
      exact ⟨⟨G, vn, vb, vt⟩, rfl, rfl, HJ2.out, HD2.out, HC2.out, hall⟩
    have hrci : (rm < (cn : Int)) = False := eq_false hrc
    have hle : j.fin + cn ≤ d.s.length := by omega
    rw [aappend_awr d j t hcl ht8 hnx4 (by rw [← HRME.out, ← HCNE.out]; omega)] at hR2
    rw [← HCNE.out] at hR2
    have HRR := Lib.hid hR2; clear hR2
    have hpk := rpack_ok w2 j.next t ⟨hnx.1, hnx4⟩ ht8 (HKK.out.below b2 h1) (Nat.lt_of_lt_of_le h1 b2.size)
    have HPK := Lib.hid hpk; clear hpk
    go_wp2_with fail
    refine HPK.out.mono ?_
    rintro e w3 ⟨vL, rfl, oL, b3⟩
    clear HPK
    rw [← HCNE.out] at oL
    obtain ⟨sL, cL, rfl, hoL⟩ := own_slice oL
    obtain ⟨L, hL⟩ : ∃ L, L = pack j.next t := ⟨_, rfl⟩
    rw [← hL] at oL
    have hLl : L.length = cn := by rw [hL, pack_len, HCNE.out]
    have HJ3 := Lib.hid (HJ2.out.below b3)
    have HD3 := Lib.hid (HD2.out.below b3)
    have HC3 := Lib.hid (HC2.out.trans (.of_below (F := r.all ++ (⟨G, vn, vb, vt⟩ : Jf).all) b3))
    have hLb : ∀ b, (Value.slice sL cn cL).ownBlock = some b → w.heap.size ≤ b := fun b hb => by
      have := (oL.lt b hb).1
      have := b2.size
      omega
    have HLB := Lib.hid hLb; clear hLb
    have HOL := Lib.hid oL; clear oL b3 b2 HJ2 HD2 HC2 hoL
    have HL := Lib.hid hL; clear hL
    have HLL := Lib.hid hLl; clear hLl
    have hrw : ∀ x ∈ r.all, x < w.heap.size := fun x hx => by have := HLOW.out x hx; omega
    have HRW := Lib.hid hrw; clear hrw
    have cc4 : w3.cell? ⟨G, 4, none⟩ = some (.int .i64 j.next) := HJ3.out.head.cell rfl
    have cf4 : w3.frozen? ⟨G, 4, none⟩ = false := HJ3.out.head.frozen 4
    have cc5 : (w3.setCell ⟨G, 4, none⟩ (.int .i64 ((j.next : Int) + 1))).cell? ⟨G, 5, none⟩ = some (.int .i64 j.fin) := (HJ3.out.head.set 4 _).cell rfl
    have cf5 : (w3.setCell ⟨G, 4, none⟩ (.int .i64 ((j.next : Int) + 1))).frozen? ⟨G, 5, none⟩ = false := (HJ3.out.head.set 4 _).frozen 5
    obtain ⟨w4, hw4⟩ : ∃ w4, w4 = (w3.setCell ⟨G, 4, none⟩ (.int .i64 ((j.next : Int) + 1))).setCell ⟨G, 5, none⟩ (.int .i64 ((j.fin : Int) + cn)) := ⟨_, rfl⟩
    obtain ⟨j1, hj1⟩ : ∃ j1 : JS, j1 = { j with next := j.next + 1, fin := j.fin + cn } := ⟨_, rfl⟩
    have hJ4 : RJ w4 r ⟨G, vn, vb, vt⟩ j1 := by
      have := HJ3.out.set45 (j.next + 1) (j.fin + cn) ⟨by omega, by omega⟩ (by omega)
      rw [show ((j.next + 1 : Nat) : Int) = (j.next : Int) + 1 by omega, show ((j.fin + cn : Nat) : Int) = (j.fin : Int) + cn by omega] at this
      rw [hw4, hj1]
      exact this
    have hGr : G ∉ r.all := fun hm => by have := HLOW.out G hm; omega
    have hch4 : Chg [G] w3 w4 := by rw [hw4]; exact ((Chg.refl [G] w3).set (a := ⟨G, 4, none⟩) _ (by simp)).set (a := ⟨G, 5, none⟩) _ (by simp)
    have HJ4 := Lib.hid hJ4; clear hJ4
    have HD4 := Lib.hid (HD3.out.chg hch4 fun x hx hm => by simp at hm; subst hm; exact hGr hx)
    have HC4 := Lib.hid (HC3.out.trans (hch4.mono fun x hx => by simp at hx; subst hx; exact List.mem_append_right _ (by simp [Jf.all])))
    have HS4 : Hid (Sl w4 1 (.slice sL cn cL) cn (L.map str)) := Lib.hid ((Sl.of_owns HOL.out).chg hch4 fun b hb hm => by have := HLB.out b hb; simp at hm; omega)
    have HJ1 := Lib.hid hj1; clear hj1 hch4 HOL HD3 HC3
    go_upto_region 12 with (fail)
    rw [← hw4]
    clear hw4 cc4 cf4 cc5 cf5 HJ3
    have HSQ : Hid (∀ W, Chg r.all w4 W → Sl W 1 (.slice sL cn cL) cn (L.map str)) := Lib.hid fun W hc => HS4.out.chg hc fun b hb hm => by have := HLB.out b hb; have := HRW.out b hm; omega
    have HGQ : Hid (∀ W, Chg r.all w4 W → RJ W r ⟨G, vn, vb, vt⟩ j1) := Lib.hid fun W hc => HJ4.out.chg hc HAP.out
    clear HS4
    go_wp2_with fail
    go_loopw [10] (fun c wr => ∃ (q : Nat) (d1 : DS), q ≤ cn ∧ c = .int .i64 q ∧ Hid (awrites d j.fin L = awrites d1 (j.fin + q) (L.drop q)) ∧ Hid (RD wr r d1) ∧ Hid (Chg r.all w4 wr)) (fun c _ => cn - (jInt c).toNat)
    case atStart => exact ⟨0, d, Nat.zero_le _, rfl, Lib.hid (by rw [List.drop_zero, Nat.add_zero]), HD4, Lib.hid (Chg.refl _ _)⟩
    case round =>
      obtain ⟨q, d1, hq, rfl, hA, hP, hW⟩ := hrel
      have hjr := HGQ.out wr hW.out
      have c0 : wr.cell? ⟨G, 0, none⟩ = some (.pointer (some ⟨r.p, 0, none⟩)) := hjr.head.cell rfl
      have HJR := Lib.hid hjr; clear hjr
      by_cases hlt : q < cn
      · have hlc : ((q : Int) < cn) = True := eq_true (by omega)
        have hqL : q < L.length := by rw [HLL.out]; exact hlt
        obtain ⟨g, o9, rfl, hcell⟩ := sl_strcell (sa := sL) (ca := cL) (l := L) (W := wr) (by rw [HLL.out]; exact HSQ.out wr hW.out) hqL
        obtain ⟨s, hs⟩ : ∃ s, s = L[q] := ⟨_, rfl⟩
        have hA2 : awrites d j.fin L = if (awrite d1 ((j.fin : Int) + q) s).1 ≠ 0 then awrite d1 ((j.fin : Int) + q) s else awrites (awrite d1 ((j.fin : Int) + q) s).2 (j.fin + (q + 1)) (L.drop (q + 1)) := by
          rw [hA.out, List.drop_eq_getElem_cons hqL, ← hs]
          rw [show ((j.fin : Int) + q) = ((j.fin + q : Nat) : Int) by omega]
          rfl
        rw [← hs] at hcell
        have hwr := fun nq => rwrite_any r d1 ((j.fin : Int) + (q : Int)) s (wr.drewN nq) (hP.out.below (below_drewN (Below.refl _ wr) nq))
        obtain ⟨x, hx⟩ : ∃ x, x = awrite d1 ((j.fin : Int) + (q : Int)) s := ⟨_, rfl⟩
        rw [← hx] at hwr hA2
        obtain ⟨y, d2⟩ := x
        dsimp only at hwr hA2
        have HA2 := Lib.hid hA2; clear hA2 hx hs hA
        have HWR := Lib.hid hwr; clear hwr
        have hsum : (j.fin : Int) + q ≤ 5000 := by omega
        go_upto_region 15 with (fail)
        refine wp_region_tail 11 (by kernel_rfl) (by kernel_rfl) ?_
        simp only [List.take_succ_cons, List.take_zero, List.drop_succ_cons, List.drop_zero]
        iterate 11 (go_big_quiet_step (rfl))
        refine wpQuiet_nil ?_
        intro nq
        go_wp2_with fail
        refine (HWR.out nq).mono ?_
        rintro e w6 ⟨rfl, hP6, hC6⟩
        have HP6 := Lib.hid hP6; clear hP6
        have HC6 := Lib.hid ((hW.out.trans (.of_below (F := r.all) (below_drewN (Below.refl wr.heap.size wr) nq))).trans hC6)
        have HCW := Lib.hid (HC4.out.trans (HC6.out.mono fun x hx => List.mem_append_left _ hx))
        clear hC6 HWR c0 hcell HJR
        have hj6 := HGQ.out w6 HC6.out
        have cf6 : w6.frozen? ⟨G, 6, none⟩ = false := hj6.head.frozen 6
        have cc6 : w6.cell? ⟨G, 6, none⟩ = some (.bool j1.closed) := hj6.head.cell rfl
        have HJ6 := Lib.hid hj6; clear hj6
        by_cases hy : y = 0
        · subst hy
          have hA3 := HA2.out
          rw [if_neg (by simp)] at hA3
          have HA3 := Lib.hid hA3; clear hA3 HA2
          go_wp2
          go_roundw
          case rel => exact ⟨q + 1, d2, by omega, by go_num, HA3, HP6, HC6⟩
          case measure => simp [jInt]; omega
        · have hA3 := HA2.out
          rw [if_pos hy] at hA3
          have hy1 : (y == 0) = false := by simpa using hy
          have hy2 : (y != 0) = true := by simpa using hy
          have hRE : R = (0, y, { j1 with closed := true }, d2) := by
            rw [HRR.out, ← HL.out, awr_w hA3 hy, if_pos hy, HJ1.out]
          have hfin := HJ6.out.shut
          have hdf := HP6.out.chg ((Chg.refl [G] w6).set (a := ⟨G, 6, none⟩) (.bool true) (by simp)) (fun x hx hm => by simp at hm; subst hm; exact hGr hx)
          have hcf := HCW.out.set (a := ⟨G, 6, none⟩) (.bool true) (List.mem_append_right _ (by simp [Jf.all]))
          have HRE := Lib.hid hRE; clear hRE hA3
          have HFI := Lib.hid hfin; clear hfin
          have HDF := Lib.hid hdf; clear hdf
          have HCF := Lib.hid hcf; clear hcf hy
          go_wp2
          go_ret2
          rw [HRE.out]
          exact ⟨⟨G, vn, vb, vt⟩, rfl, rfl, HFI.out, HDF.out, HCF.out, hall⟩
      · obtain rfl : cn = q := by omega
        have hlc : ((cn : Int) < cn) = False := eq_false (by omega)
        have hA4 := hA.out
        rw [List.drop_of_length_le (by rw [HLL.out]; exact Nat.le_refl _)] at hA4
        have hA5 : awrites d j.fin L = (0, d1) := hA4
        have HA5 := Lib.hid hA5; clear hA5 hA4 hA
        have hfl := rflush_any r d1 wr hP.out
        obtain ⟨x, hx⟩ : ∃ x, x = aflush d1 := ⟨_, rfl⟩
        rw [← hx] at hfl
        obtain ⟨y, d2⟩ := x
        dsimp only at hfl
        have HFLS := Lib.hid hfl; clear hfl
        have HAF := Lib.hid hx.symm; clear hx
        go_wp2_with fail
        refine HFLS.out.mono ?_
        rintro e w6 ⟨rfl, hP6, hC6⟩
        have HP6 := Lib.hid hP6; clear hP6
        have HC6 := Lib.hid (hW.out.trans hC6)
        have HCW := Lib.hid (HC4.out.trans (HC6.out.mono fun x hx => List.mem_append_left _ hx))
        clear hC6 HFLS c0 HJR
        have hj6 := HGQ.out w6 HC6.out
        have cf6 : w6.frozen? ⟨G, 6, none⟩ = false := hj6.head.frozen 6
        have cc6 : w6.cell? ⟨G, 6, none⟩ = some (.bool j1.closed) := hj6.head.cell rfl
        have c0 : w6.cell? ⟨G, 0, none⟩ = some (.pointer (some ⟨r.p, 0, none⟩)) := hj6.head.cell rfl
        have HJ6 := Lib.hid hj6; clear hj6
        by_cases hy : y = 0
        · subst hy
          go_wp2_with fail
          go_loopw [13, 14] (fun sv c wr => ∃ (q : Nat) (sb : Bool), sv = .bool sb ∧ q ≤ cn ∧ c = .int .i64 q ∧ wr = w6 ∧ Hid (areads d2 j.fin L true = areads d2 (j.fin + q) (L.drop q) sb)) (fun _ c _ => cn - (jInt c).toNat)
          case atStart => exact ⟨0, true, rfl, Nat.zero_le _, rfl, rfl, Lib.hid (by rw [List.drop_zero, Nat.add_zero])⟩
          case round =>
            obtain ⟨q, sb, rfl, hq, rfl, hw6, hA⟩ := hrel
            rw [hw6]
            clear hw6
            by_cases hlt : q < cn
            · have hlc2 : ((q : Int) < cn) = True := eq_true (by omega)
              have hqL : q < L.length := by rw [HLL.out]; exact hlt
              obtain ⟨g, o9, rfl, hcell⟩ := sl_strcell (sa := sL) (ca := cL) (l := L) (W := w6) (by rw [HLL.out]; exact HSQ.out w6 HC6.out) hqL
              obtain ⟨s, hs⟩ : ∃ s, s = L[q] := ⟨_, rfl⟩
              have hA2 : areads d2 j.fin L true = if (aread d2 ((j.fin : Int) + q)).2 ≠ 0 then ((aread d2 ((j.fin : Int) + q)).2, false) else areads d2 (j.fin + (q + 1)) (L.drop (q + 1)) (sb && decide (s = (aread d2 ((j.fin : Int) + q)).1)) := by
                rw [hA.out, List.drop_eq_getElem_cons hqL, ← hs]
                rw [show ((j.fin : Int) + q) = ((j.fin + q : Nat) : Int) by omega]
                rfl
              rw [← hs] at hcell
              have hrd := rread_any r d2 ((j.fin : Int) + (q : Int)) w6 HP6.out
              obtain ⟨x, hx⟩ : ∃ x, x = aread d2 ((j.fin : Int) + (q : Int)) := ⟨_, rfl⟩
              rw [← hx] at hrd hA2
              obtain ⟨x1, y⟩ := x
              dsimp only at hrd hA2
              have HA2 := Lib.hid hA2; clear hA2 hx hs hA
              have HRD := Lib.hid hrd; clear hrd
              have hsum : (j.fin : Int) + q ≤ 5000 := by omega
              go_wp2_with fail
              refine HRD.out.mono ?_
              rintro e w7 ⟨rfl, hw7⟩
              rw [hw7]
              clear hw7 HRD
              by_cases hy : y = 0
              · subst hy
                have hA3 := HA2.out
                rw [if_neg (by simp)] at hA3
                cases sb with
                | false =>
                  rw [Bool.false_and] at hA3
                  have HA3 := Lib.hid hA3; clear hA3 HA2
                  go_wp2
                  go_roundw
                  case rel => exact ⟨q + 1, false, rfl, by omega, by go_num, by first | rfl | trivial, HA3⟩
                  case measure => simp [jInt]; omega
                | true =>
                  rw [Bool.true_and] at hA3
                  by_cases hxs : x1 = s
                  · subst hxs
                    rw [decide_eq_true rfl] at hA3
                    have hbe : (x1 == x1) = true := by simp
                    have HA3 := Lib.hid hA3; clear hA3 HA2
                    go_wp2
                    go_roundw
                    case rel => exact ⟨q + 1, true, rfl, by omega, by go_num, by first | rfl | trivial, HA3⟩
                    case measure => simp [jInt]; omega
                  · rw [decide_eq_false (fun e => hxs e.symm)] at hA3
                    have hbe : (x1 == s) = false := by simpa using hxs
                    have HA3 := Lib.hid hA3; clear hA3 HA2 hxs
                    go_wp2
                    go_roundw
                    case rel => exact ⟨q + 1, false, rfl, by omega, by go_num, by first | rfl | trivial, HA3⟩
                    case measure => simp [jInt]; omega
              · have hA3 := HA2.out
                rw [if_pos hy] at hA3
                have hy1 : (y == 0) = false := by simpa using hy
                have hy2 : (y != 0) = true := by simpa using hy
                have hRE : R = (0, y, { j1 with closed := true }, d2) := by
                  rw [HRR.out, ← HL.out, awr_r HA5.out HAF.out hA3 hy, if_pos hy, HJ1.out]
                have hfin := HJ6.out.shut
                have hdf := HP6.out.chg ((Chg.refl [G] w6).set (a := ⟨G, 6, none⟩) (.bool true) (by simp)) (fun x hx hm => by simp at hm; subst hm; exact hGr hx)
                have hcf := HCW.out.set (a := ⟨G, 6, none⟩) (.bool true) (List.mem_append_right _ (by simp [Jf.all]))
                have HRE := Lib.hid hRE; clear hRE hA3
                have HFI := Lib.hid hfin; clear hfin
                have HDF := Lib.hid hdf; clear hdf
                have HCF := Lib.hid hcf; clear hcf hy
                go_wp2
                go_ret2
                rw [HRE.out]
                exact ⟨⟨G, vn, vb, vt⟩, rfl, rfl, HFI.out, HDF.out, HCF.out, hall⟩
            · obtain rfl : cn = q := by omega
              have hlc2 : ((cn : Int) < cn) = False := eq_false (by omega)
              have hA4 := hA.out
              rw [List.drop_of_length_le (by rw [HLL.out]; exact Nat.le_refl _)] at hA4
              have hA6 : areads d2 j.fin L true = (0, sb) := hA4
              have hawr := awr_ok HA5.out HAF.out hA6
              have HAWR := Lib.hid hawr; clear hawr hA6 hA4 hA
              cases sb with
              | false =>
                have hRE : R = (0, 26, j1, d2) := by
                  rw [HRR.out, ← HL.out, HAWR.out, if_neg (by simp), if_neg (by simp), HJ1.out]
                have HRE := Lib.hid hRE; clear hRE
                go_wp2
                go_ret2
                rw [HRE.out]
                exact ⟨⟨G, vn, vb, vt⟩, rfl, rfl, HJ6.out, HP6.out, HCW.out, hall⟩
              | true =>
                have hRE : R = ((j.next : Int), 0, { j1 with rs := j1.rs ++ [(j.next, t)] }, d2) := by
                  rw [HRR.out, ← HL.out, HAWR.out, if_neg (by simp), if_pos (by simp), HJ1.out]
                have HRE := Lib.hid hRE; clear hRE
                have hj1n : j1.next = j.next + 1 ∧ j1.rs = j.rs ∧ j1.bad = j.bad := by rw [HJ1.out]; exact ⟨rfl, rfl, rfl⟩
                have HJN := Lib.hid hj1n; clear hj1n
                obtain ⟨sn, cnn, hsn, _⟩ := own_slice HJ6.out.rn
                dsimp only at hsn
                obtain ⟨st, ct, hst, _⟩ := own_slice HJ6.out.rt
                dsimp only at hst
                subst hsn hst
                have hrl : j1.rs.length ≤ 9000 := by rw [HJN.out.2.1]; omega
                have c1 : w6.cell? ⟨G, 1, none⟩ = some (.slice sn j1.rs.length cnn) := HJ6.out.head.cell rfl
                have hG6 : G + 1 ≤ w6.heap.size := HJ6.out.head.lt
                obtain ⟨i1, hi1, hi2, hi3, hi4⟩ := info_parts infoInt
                have HII := Lib.hid (show i1.zero = some (.int .i64 0) ∧ i1.size = 1 ∧ i1.bytes = 8 from ⟨hi2, hi3, hi4⟩)
                have HI1 := Lib.hid hi1; clear hi1 hi2 hi3 hi4
                go_wp2_with (refine wpList_append_lies _ rfl _ _ 51 rfl (G + 1) 3 i1 (.int .i64 0) 1 8 hTints HI1.out HII.out.1 HII.out.2.1 HII.out.2.2 rfl (by decide) _ j1.rs.length _ rfl (own_below HJ6.out.rn (alloc_below _ _)) ⟨w6.heap.size, 0, none⟩ 1 1 [_] rfl rfl (World.news_of_block (Blk.new w6 _ 3)) (by intro u hu; simp at hu; rw [hu]; rfl) (by decide) (by unfold maxLen; omega) (by omega) (by simp; omega) _ rfl ?_)
                intro g1 k1 w7 m1 m2 m3 m4
                have hJa := HJ6.out.below (alloc_below w6 (.cells #[.int .i64 (j.next : Int)] 3))
                have hV := hJa.num (g1 := g1) (c1 := k1) (n := j.next) m2 m1 (m3.imp id fun e => by rw [e]; exact Nat.le_of_eq (alloc_size _ _))
                have hh7 := hJa.head.grown m2 (fun e => by have := (hJa.rn.lt G e.symm).1; dsimp only at this; omega)
                have cf1 : w7.frozen? ⟨G, 1, none⟩ = false := hh7.frozen 1
                have cc1 : w7.cell? ⟨G, 1, none⟩ = some (.slice sn j1.rs.length cnn) := hh7.cell rfl
                have hws : w.heap.size ≤ w6.heap.size := HCW.out.size
                have hg1 : (Value.slice sn j1.rs.length cnn).ownBlock = some g1 ∨ w.heap.size ≤ g1 := m3.imp id fun e => by rw [e]; omega
                have hF7 : ∀ x ∈ (Value.slice sn j1.rs.length cnn).ownBlock.toList, x ∈ (⟨G, .slice sn j1.rs.length cnn, vb, .slice st j1.rs.length ct⟩ : Jf).all := fun x hx => by simp only [Jf.all, List.mem_cons, List.mem_append]; exact .inr (.inl hx)
                have hF9 : ∀ x ∈ (Value.slice st j1.rs.length ct).ownBlock.toList, x ∈ (⟨G, .slice sn j1.rs.length cnn, vb, .slice st j1.rs.length ct⟩ : Jf).all := fun x hx => by simp only [Jf.all, List.mem_cons, List.mem_append]; exact .inr (.inr (.inr hx))
                have hFG : G ∈ (⟨G, .slice sn j1.rs.length cnn, vb, .slice st j1.rs.length ct⟩ : Jf).all := by simp [Jf.all]
                have hc7 : Chg (⟨G, .slice sn j1.rs.length cnn, vb, .slice st j1.rs.length ct⟩ : Jf).all w6 w7 := (Chg.of_below (alloc_below w6 (.cells #[.int .i64 (j.next : Int)] 3))).trans ((Chg.of_grown m2).mono hF7)
                obtain ⟨w8, hw8⟩ : ∃ w8, w8 = w7.setCell ⟨G, 1, none⟩ (.slice (some ⟨g1, 0, none⟩) (j1.rs.length + 1) k1) := ⟨_, rfl⟩
                have hc8 : Chg (⟨G, .slice sn j1.rs.length cnn, vb, .slice st j1.rs.length ct⟩ : Jf).all w6 w8 := by rw [hw8]; exact hc7.set (a := ⟨G, 1, none⟩) _ hFG
                rw [← hw8] at hV
                have HV := Lib.hid hV; clear hV
                have HC8 := Lib.hid hc8; clear hc8 hc7 hh7 hJa m1 m2 m3 m4
                go_upto_region 35 with (fail)
                rw [← hw8]
                clear hw8 cf1 cc1 c1
                have c2 : w8.cell? ⟨G, 2, none⟩ = some (.slice st j1.rs.length ct) := HV.out.head.cell rfl
                have hG8 : G + 1 ≤ w8.heap.size := HV.out.head.lt
                obtain ⟨i2, hi1, hi2, hi3, hi4⟩ := info_parts infoStr
                have HII2 := Lib.hid (show i2.zero = some (str []) ∧ i2.size = 1 ∧ i2.bytes = 16 from ⟨hi2, hi3, hi4⟩)
                have HI2 := Lib.hid hi1; clear hi1 hi2 hi3 hi4
                go_wp2_with (refine wpList_append_lies _ rfl _ _ 22 rfl (G + 1) 9 i2 (str []) 1 16 hTss HI2.out HII2.out.1 HII2.out.2.1 HII2.out.2.2 rfl (by decide) _ j1.rs.length _ rfl (own_below HV.out.rt (alloc_below _ _)) ⟨w8.heap.size, 0, none⟩ 1 1 [_] rfl rfl (World.news_of_block (Blk.new w8 _ 9)) (by intro u hu; simp at hu; rw [hu]; rfl) (by decide) (by unfold maxLen; omega) (by omega) (by simp; omega) _ rfl ?_)
                intro g2 k2 w9 m1 m2 m3 m4
                have hVa := HV.out.below (alloc_below w8 (.cells #[str t] 9))
                have hFI := hVa.txt (g2 := g2) (c2 := k2) (t := t) m2 m1 HLOW.out (by rw [HJ1.out]; dsimp only; omega) (by rw [HJN.out.1]; omega) (by rw [HJN.out.1, HJN.out.2.1, HJN.out.2.2]; omega)
                have hh9 := hVa.head.grown m2 (fun e => by have := (hVa.rt.lt G e.symm).1; dsimp only at this; omega)
                have cf2 : w9.frozen? ⟨G, 2, none⟩ = false := hh9.frozen 2
                have cc2 : w9.cell? ⟨G, 2, none⟩ = some (.slice st j1.rs.length ct) := hh9.cell rfl
                have hg2 : (Value.slice st j1.rs.length ct).ownBlock = some g2 ∨ w.heap.size ≤ g2 := m3.imp id fun e => by have := HC8.out.size; rw [e]; omega
                have hc10 := ((HC8.out.trans (Chg.of_below (alloc_below w8 (.cells #[str t] 9)))).trans ((Chg.of_grown m2).mono hF9)).set (a := ⟨G, 2, none⟩) (.slice (some ⟨g2, 0, none⟩) (j1.rs.length + 1) k2) hFG
                have hDF := HP6.out.chg hc10 fun x hx hm => HAP.out x hm hx
                have hCF := HCW.out.trans (hc10.mono fun x hx => List.mem_append_right _ hx)
                have hal8 : ∀ x ∈ (⟨G, .slice (some ⟨g1, 0, none⟩) (j1.rs.length + 1) k1, vb, .slice (some ⟨g2, 0, none⟩) (j1.rs.length + 1) k2⟩ : Jf).all, x ∈ (⟨G, .slice sn j1.rs.length cnn, vb, .slice st j1.rs.length ct⟩ : Jf).all ∨ w.heap.size ≤ x := fun x hm => by
                  simp only [Jf.all, List.mem_cons, List.mem_append, Option.mem_toList] at hm ⊢
                  rcases hm with hm | hm | hm | hm
                  · exact .inl (.inl hm)
                  · obtain rfl : g1 = x := by simpa [Value.ownBlock] using hm
                    exact hg1.imp (fun h => .inr (.inl h)) id
                  · exact .inl (.inr (.inr (.inl hm)))
                  · obtain rfl : g2 = x := by simpa [Value.ownBlock] using hm
                    exact hg2.imp (fun h => .inr (.inr (.inr h))) id
                have HFI := Lib.hid hFI; clear hFI
                have HDF := Lib.hid hDF; clear hDF
                have HCF := Lib.hid hCF; clear hCF
                have HAL := Lib.hid hal8; clear hal8 hc10 m1 m2 m3 m4 hVa hh9
                go_wp2
                go_ret2
                rw [HRE.out]
                exact ⟨⟨G, _, vb, _⟩, rfl, rfl, HFI.out, HDF.out, HCF.out, HAL.out⟩
        · have hy1 : (y == 0) = false := by simpa using hy
          have hy2 : (y != 0) = true := by simpa using hy
          have hRE : R = (0, y, { j1 with closed := true }, d2) := by
            rw [HRR.out, ← HL.out, awr_f HA5.out HAF.out hy, if_pos hy, HJ1.out]
          have hfin := HJ6.out.shut
          have hdf := HP6.out.chg ((Chg.refl [G] w6).set (a := ⟨G, 6, none⟩) (.bool true) (by simp)) (fun x hx hm => by simp at hm; subst hm; exact hGr hx)
          have hcf := HCW.out.set (a := ⟨G, 6, none⟩) (.bool true) (List.mem_append_right _ (by simp [Jf.all]))
          have HRE := Lib.hid hRE; clear hRE
          have HFI := Lib.hid hfin; clear hfin
          have HDF := Lib.hid hdf; clear hdf
          have HCF := Lib.hid hcf; clear hcf hy
          go_wp2
          go_ret2
          rw [HRE.out]
          exact ⟨⟨G, vn, vb, vt⟩, rfl, rfl, HFI.out, HDF.out, HCF.out, hall⟩
end Go.Proofs.YtbmnbdkbgpajeaaGreatDoor
end

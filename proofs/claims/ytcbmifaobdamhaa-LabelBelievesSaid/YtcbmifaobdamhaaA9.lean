/- label: the program's Valid. -/
import Derived.Test.YtcbmifaobdamhaaA8
import Derived.Test.YtcbmifaobdamhaaRf
namespace Go.Proofs.Ytcbmifaobdamhaa
open Go.RowKit Go.Own Go.Theory Go.BigFrame Go.Ib Go.Label Go.Shelf
attribute [local go_sem] run_store_func
set_option maxRecDepth 100000 in
set_option maxHeartbeats 4000000 in
theorem pvalid_any (b : Lg) (sa sr : Option Addr) (ca cr : Nat) (bs : List Value) (hrg : LgRg b) (w : World) (h : LgAt w b sa sr ca cr bs) (hal : True) :
    Calls Try.prog 12 #[lgV b sa sr ca cr] w fun e w' => e = .returned (.int .i64 (valE b)) ∧ Below w.heap.size w w' := by
  unfold lgV
  obtain ⟨W1, hW1⟩ : ∃ W1, W1 = w.alloc (.cells #[.int .i64 b.facts, .slice sa b.assume.length ca, .slice sr b.rules.length cr] 25) := ⟨_, rfl⟩
  have b1 : Below w.heap.size w W1 := by rw [hW1]; exact alloc_below w _
  have z1 : w.heap.size ≤ W1.heap.size := b1.size
  have z0 : w.heap.size < W1.heap.size := by rw [hW1]; simp
  by_cases h1 : 64 < b.facts
  · have e : valE b = 4 := by unfold valE; rw [if_pos (.inl h1)]
    rw [e]
    go_enter Try.func12, Try.ntmps12
    go_wp2
    go_ret
    rw [← hW1]
    exact ⟨rfl, b1⟩
  have h1' : (64 < b.facts) = False := eq_false h1
  by_cases h2 : 16 < b.assume.length
  · have e : valE b = 4 := by unfold valE; rw [if_pos (.inr (.inl h2))]
    rw [e]
    have h2' : (16 : Int) < b.assume.length := by omega
    go_enter Try.func12, Try.ntmps12
    go_wp2
    go_ret
    rw [← hW1]
    exact ⟨rfl, b1⟩
  have h2' : ((16 : Int) < b.assume.length) = False := eq_false (by omega)
  have h2'' : ((16 : Nat) < b.assume.length) = False := eq_false (by omega)
  by_cases h3 : 64 < b.rules.length
  · have e : valE b = 4 := by unfold valE; rw [if_pos (.inr (.inr (.inl h3)))]
    rw [e]
    have h3' : (64 : Int) < b.rules.length := by omega
    go_enter Try.func12, Try.ntmps12
    go_wp2
    go_ret
    rw [← hW1]
    exact ⟨rfl, b1⟩
  have h3' : ((64 : Int) < b.rules.length) = False := eq_false (by omega)
  have h3'' : ((64 : Nat) < b.rules.length) = False := eq_false (by omega)
  obtain ⟨E, hE⟩ : ∃ E, E = valE b := ⟨_, rfl⟩
  rw [← hE]
  have HE := Lib.hid hE; clear hE
  have hH := h.below b1
  have hbox : ∀ W, Below W1.heap.size W1 W → W.cell? ⟨w.heap.size, 0, none⟩ = some (.int .i64 b.facts) ∧ W.cell? ⟨w.heap.size, 1, none⟩ = some (.slice sa b.assume.length ca) ∧ W.cell? ⟨w.heap.size, 2, none⟩ = some (.slice sr b.rules.length cr) := fun W hW => by
    have hB : Blk W1 w.heap.size [.int .i64 b.facts, .slice sa b.assume.length ca, .slice sr b.rules.length cr] 25 := by rw [hW1]; exact Blk.new w #[.int .i64 b.facts, .slice sa b.assume.length ca, .slice sr b.rules.length cr] 25
    have hB2 := hB.below hW hB.lt
    exact ⟨hB2.cell rfl, hB2.cell rfl, hB2.cell rfl⟩
  clear h
  have hc1 := cfr_any b sa sr ca cr bs 39 #[] longR (enters_of Try.func39 (by kernel_rfl) rfl) W1 hH (by omega) (longP b W1)
  have HBOX := Lib.hid hbox; clear hbox
  have HH := Lib.hid hH; clear hH
  have HRG := Lib.hid hrg; clear hrg
  have HC1 := Lib.hid hc1; clear hc1
  have HW1 := Lib.hid hW1; clear hW1
  go_enter Try.func12, Try.ntmps12
  go_wp2_with (fail)
  rw [← HW1.out]
  refine HC1.out.mono ?_
  clear HC1
  rintro e w2 ⟨rfl, b2⟩
  cases hlong : b.rules.any longR with
  | true =>
    have e : valE b = 4 := by unfold valE; rw [if_pos (.inr (.inr (.inr hlong)))]
    have H4 := Lib.hid e; clear e hlong
    go_wp2
    go_ret
    exact ⟨by rw [HE.out, H4.out]; rfl, b1.trans (b2.mono z1)⟩
  | false =>
    have hne : ¬ (64 < b.facts ∨ 16 < b.assume.length ∨ 64 < b.rules.length ∨ b.rules.any longR = true) := by rw [hlong]; simp; omega
    have HNE := Lib.hid hne; clear hne
    have HLONG := Lib.hid hlong; clear hlong
    obtain ⟨C, hC⟩ : ∃ C, C = w2.heap.size := ⟨_, rfl⟩
    obtain ⟨W3, hW3⟩ : ∃ W3, W3 = w2.alloc (.cells #[.func (.func 41) #[] #[.pointer (some ⟨w.heap.size, 0, none⟩)]] 64) := ⟨_, rfl⟩
    have b3 : Below W1.heap.size W1 W3 := by rw [hW3]; exact b2.alloc b2.size _
    have z3 : W1.heap.size ≤ W3.heap.size := b3.size
    have hblk : Blk W3 w2.heap.size [.func (.func 41) #[] #[.pointer (some ⟨w.heap.size, 0, none⟩)]] 64 := by rw [hW3]; exact Blk.new w2 #[.func (.func 41) #[] #[.pointer (some ⟨w.heap.size, 0, none⟩)]] 64
    obtain ⟨c0, c1, c2⟩ := HBOX.out w2 b2
    have HB2 := Lib.hid b2; clear b2
    have HB3 := Lib.hid b3; clear b3
    have z02 : w.heap.size < w2.heap.size := Nat.lt_of_lt_of_le z0 HB2.out.size
    have hW3' : w2.alloc (.cells #[.func (.func 41) #[] #[.pointer (some ⟨w.heap.size, 0, none⟩)]] 64) = W3 := hW3.symm
    have HW3 := Lib.hid hW3'; clear hW3' hW3
    have HBLK := Lib.hid hblk; clear hblk
    by_cases h5 : b.facts < 0
    · have e : valE b = 1 := by unfold valE; rw [if_neg HNE.out, if_pos (.inl h5)]
      have H4 := Lib.hid e; clear e
      go_wp2
      go_ret
      rw [HW3.out]
      exact ⟨by rw [HE.out, H4.out]; rfl, b1.trans (HB3.out.mono z1)⟩
    have h5' : (b.facts < 0) = False := eq_false h5
    obtain ⟨d0, d1, d2⟩ := HBOX.out W3 HB3.out
    have hcn := cno_any b.facts b.assume sa ca w.heap.size W3 (HH.out.asm.below HB3.out) (by omega) (Nat.lt_of_lt_of_le z0 z3) d0
    clear d0 d1 d2
    have HCN := Lib.hid hcn; clear hcn
    go_wp2_with (fail)
    rw [HW3.out]
    refine HCN.out.mono ?_
    clear HCN
    rintro e w4 ⟨rfl, q, rfl⟩
    clear c0 c1 c2 z02
    cases hno : b.assume.any (noB b.facts) with
    | true =>
      have e : valE b = 1 := by unfold valE; rw [if_neg HNE.out, if_pos (.inr (.inl hno))]
      have H4 := Lib.hid e; clear e hno
      go_wp2
      go_ret
      exact ⟨by rw [HE.out, H4.out]; rfl, b1.trans ((below_drewN HB3.out q).mono z1)⟩
    | false =>
      have HNO := Lib.hid hno; clear hno
      go_wp2
      go_loopw [5] (fun vi wq => ∃ i : Nat, 1 ≤ i ∧ (i ≤ b.assume.length ∨ i = 1) ∧ vi = .int .i64 i ∧ (∀ j (hj : j + 1 < b.assume.length), j + 1 < i → b.assume[j] < b.assume[j + 1]) ∧ Below W3.heap.size W3 wq) (fun vi _ => b.assume.length - (vInt vi).toNat)
      case atStart => exact ⟨1, by omega, .inr rfl, rfl, fun j hj h => absurd h (by omega), below_drewN (Below.refl _ _) q⟩
      case round =>
        obtain ⟨i, hi1, hi2, rfl, hup, hbq⟩ := hrel
        have hb1 : Below W1.heap.size W1 wr := HB3.out.trans (hbq.mono z3)
        obtain ⟨c0, c1, c2⟩ := HBOX.out wr hb1
        have HUP := Lib.hid hup; clear hup
        have HBQ := Lib.hid hbq; clear hbq
        have HB1 := Lib.hid hb1; clear hb1
        have HI2 := Lib.hid hi2; clear hi2
        by_cases h6 : i < b.assume.length
        · have h6' : (i : Int) < b.assume.length := by omega
          obtain ⟨g, o, rfl, _, _, hC, hlt⟩ := sl_at (HH.out.asm (by omega)) (by omega)
          obtain ⟨m, rfl⟩ : ∃ m, i = m + 1 := ⟨i - 1, by omega⟩
          have hCw := hC.below HB1.out hlt
          obtain ⟨a, ha⟩ : ∃ a, a = b.assume[m + 1] := ⟨_, rfl⟩
          obtain ⟨p, hp⟩ : ∃ p, p = b.assume[m] := ⟨_, rfl⟩
          have ca1 : wr.cell? ⟨g, o + (m + 1), none⟩ = some (.int .i64 a) := hCw (m + 1) _ (by simp [h6, ha])
          have cq : wr.cell? ⟨g, o + m, none⟩ = some (.int .i64 p) := hCw m _ (by rw [hp]; simp)
          clear hCw hC
          have HA := Lib.hid ha; clear ha
          have HP := Lib.hid hp; clear hp
          have e1 : (((m + 1 : Nat) : Int) - 1) = (m : Int) := by omega
          by_cases h9 : a ≤ p
          · go_wp2
            go_big_quiet (fail)
            go_wp2
            go_ret
            refine ⟨?_, b1.trans ((below_drewN HB1.out _).mono z1)⟩
            have e : upB b.assume = false := up_no (i := m) h6 (by rw [← HA.out, ← HP.out]; exact h9)
            have e2 : valE b = 1 := by unfold valE; rw [if_neg HNE.out, if_pos (.inr (.inr (.inl e)))]
            rw [HE.out, e2]; rfl
          · have h9' : (a ≤ p) = False := eq_false h9
            go_wp2
            go_big_quiet (fail)
            go_wp2
            go_roundw
            case rel =>
              refine ⟨m + 1 + 1, by omega, .inl (by omega), by go_num, fun j hj hji => ?_, below_drewN HBQ.out _⟩
              by_cases e : j = m
              · subst e; rw [← HA.out, ← HP.out]; omega
              · exact HUP.out j hj (by omega)
            case measure => simp [vInt]; omega
        · have h6' : (b.assume.length : Int) ≤ i := by omega
          have e2 : upB b.assume = true := up_of fun j hj => HUP.out j hj (by omega)
          have hne2 : ¬ (b.facts < 0 ∨ b.assume.any (noB b.facts) = true ∨ upB b.assume = false) := by
            rw [HNO.out, e2]; simp; omega
          have HNE2 := Lib.hid hne2; clear hne2 e2
          have hz3 : C < W3.heap.size := by rw [hC, ← HW3.out]; simp
          have hblk := HBLK.out.below HBQ.out HBLK.out.lt
          have cf : wr.cell? ⟨w2.heap.size, 0, none⟩ = some (.func (.func 41) #[] #[.pointer (some ⟨w.heap.size, 0, none⟩)]) := hblk.cell rfl
          have zq : w.heap.size < wr.heap.size := Nat.lt_of_lt_of_le z0 HB1.out.size
          have zc : w2.heap.size < wr.heap.size := by rw [← hC]; exact Nat.lt_of_lt_of_le hz3 HBQ.out.size
          have hcr := cfr_any b sa sr ca cr bs 43 #[.pointer (some ⟨w2.heap.size, 0, none⟩)] (badR b.facts) (enters_of Try.func43 (by kernel_rfl) rfl) wr (HH.out.below HB1.out) (by omega)
            (wrong_any b (by omega) w.heap.size w2.heap.size wr zq zc c0 cf HLONG.out)
          have HCR := Lib.hid hcr; clear hcr cf hblk
          go_wp2_with (fail)
          refine HCR.out.mono ?_
          clear HCR
          rintro e w5 ⟨rfl, b5⟩
          have b5' : Below w.heap.size w w5 := b1.trans ((HB1.out.trans (b5.mono HB1.out.size)).mono z1)
          have HB5 := Lib.hid b5'; clear b5 b5'
          cases hbr : b.rules.any (badR b.facts) with
          | true =>
            have e : valE b = 1 := by unfold valE; rw [if_neg HNE.out, if_pos (.inr (.inr (.inr hbr)))]
            have H4 := Lib.hid e; clear e hbr
            go_wp2
            go_ret
            exact ⟨by rw [HE.out, H4.out]; rfl, HB5.out⟩
          | false =>
            have e2 : valE b = 0 := by
              unfold valE
              rw [if_neg HNE.out, if_neg]
              rw [hbr]
              intro h
              exact HNE2.out (by rcases h with h | h | h | h <;> simp_all)
            have H4 := Lib.hid e2; clear e2 hbr
            go_wp2
            go_ret
            exact ⟨by rw [HE.out, H4.out]; rfl, HB5.out⟩
end Go.Proofs.Ytcbmifaobdamhaa

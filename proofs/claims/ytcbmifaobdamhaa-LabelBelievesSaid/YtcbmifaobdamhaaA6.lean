/- label: the reference's Valid. -/
import Derived.Test.YtcbmifaobdamhaaA5
namespace Go.Label
/-- the words of a base are words -/
structure LgRg (b : Lg) : Prop where
  f : Theory.rg b.facts
  a : ∀ x ∈ b.assume, Theory.rg x
  h : ∀ r ∈ b.rules, Theory.rg r.head
  r : ∀ r ∈ b.rules, ∀ x ∈ r.body, Theory.rg x
theorem any_of {α : Type} {l : List α} {p : α → Bool} {i : Nat} (h : i < l.length) (hp : p l[i] = true) : l.any p = true := List.any_eq_true.2 ⟨_, List.getElem_mem h, hp⟩
theorem none_of {α : Type} {l : List α} {p : α → Bool} (h : ∀ i (hi : i < l.length), p l[i] = false) : l.any p = false := by
  rw [List.any_eq_false]
  intro x hx
  obtain ⟨i, hi, rfl⟩ := List.getElem_of_mem hx
  rw [h i hi]; exact Bool.false_ne_true
theorem up_of {l : List Int} (h : ∀ i (hi : i + 1 < l.length), l[i] < l[i + 1]) : upB l = true := (upB_at l).2 h
theorem up_no {l : List Int} {i : Nat} (hi : i + 1 < l.length) (h : l[i + 1] ≤ l[i]) : upB l = false := by
  cases e : upB l with
  | false => rfl
  | true => have := (upB_at l).1 e i hi; omega
end Go.Label
namespace Go.Proofs.Ytcbmifaobdamhaa
open Go.RowKit Go.Own Go.Theory Go.BigFrame Go.Ib Go.Label
set_option maxRecDepth 100000 in
set_option maxHeartbeats 4000000 in
theorem rvalid_any (b : Lg) (sa sr : Option Addr) (ca cr : Nat) (bs : List Value) (hrg : LgRg b) (w : World) (h : LgAt w b sa sr ca cr bs) :
    Calls Try.prog 13 #[lgV b sa sr ca cr] w fun e w' => e = .returned (.int .i64 (valE b)) ∧ Below w.heap.size w w' := by
  unfold lgV
  obtain ⟨W1, hW1⟩ : ∃ W1, W1 = w.alloc (.cells #[.int .i64 b.facts, .slice sa b.assume.length ca, .slice sr b.rules.length cr] 25) := ⟨_, rfl⟩
  have b1 : Below w.heap.size w W1 := by rw [hW1]; exact alloc_below w _
  have z1 : w.heap.size ≤ W1.heap.size := b1.size
  have z0 : w.heap.size < W1.heap.size := by rw [hW1]; simp
  by_cases h1 : 64 < b.facts
  · have e : valE b = 4 := by unfold valE; rw [if_pos (.inl h1)]
    rw [e]
    go_enter Try.func13, Try.ntmps13
    go_wp2
    go_ret
    rw [← hW1]
    exact ⟨rfl, b1⟩
  by_cases h2 : 16 < b.assume.length
  · have e : valE b = 4 := by unfold valE; rw [if_pos (.inr (.inl h2))]
    rw [e]
    have h1' : b.facts ≤ 64 := by omega
    have h2' : (16 : Int) < b.assume.length := by omega
    go_enter Try.func13, Try.ntmps13
    go_wp2
    go_ret
    rw [← hW1]
    exact ⟨rfl, b1⟩
  by_cases h3 : 64 < b.rules.length
  · have e : valE b = 4 := by unfold valE; rw [if_pos (.inr (.inr (.inl h3)))]
    rw [e]
    have h1' : b.facts ≤ 64 := by omega
    have h2' : (b.assume.length : Int) ≤ 16 := by omega
    have h3' : (64 : Int) < b.rules.length := by omega
    go_enter Try.func13, Try.ntmps13
    go_wp2
    go_ret
    rw [← hW1]
    exact ⟨rfl, b1⟩
  obtain ⟨E, hE⟩ : ∃ E, E = valE b := ⟨_, rfl⟩
  rw [← hE]
  have HE := Lib.hid hE; clear hE
  have h1' : b.facts ≤ 64 := by omega
  have h2' : (b.assume.length : Int) ≤ 16 := by omega
  have h3' : (b.rules.length : Int) ≤ 64 := by omega
  have hH := h.below b1
  have hbox : ∀ W, Below W1.heap.size W1 W → W.cell? ⟨w.heap.size, 0, none⟩ = some (.int .i64 b.facts) ∧ W.cell? ⟨w.heap.size, 1, none⟩ = some (.slice sa b.assume.length ca) ∧ W.cell? ⟨w.heap.size, 2, none⟩ = some (.slice sr b.rules.length cr) := fun W hW => by
    have hB : Blk W1 w.heap.size [.int .i64 b.facts, .slice sa b.assume.length ca, .slice sr b.rules.length cr] 25 := by rw [hW1]; exact Blk.new w #[.int .i64 b.facts, .slice sa b.assume.length ca, .slice sr b.rules.length cr] 25
    have hB2 := hB.below hW hB.lt
    exact ⟨hB2.cell rfl, hB2.cell rfl, hB2.cell rfl⟩
  clear h
  have HBOX := Lib.hid hbox; clear hbox
  have HH := Lib.hid hH; clear hH
  have HRG := Lib.hid hrg; clear hrg
  go_enter Try.func13, Try.ntmps13
  go_wp2
  rw [← hW1]
  clear hW1
  go_loopw [3] (fun vi wr => ∃ i : Nat, i ≤ b.rules.length ∧ vi = .int .i64 i ∧ (∀ j (hj : j < b.rules.length), j < i → longR b.rules[j] = false) ∧ wr = W1) (fun vi _ => b.rules.length - (vInt vi).toNat)
  case atStart => exact ⟨0, by omega, rfl, fun j _ h => absurd h (by omega), rfl⟩
  case round =>
    obtain ⟨i, hi, rfl, hlo, rfl⟩ := hrel
    obtain ⟨c0, c1, c2⟩ := HBOX.out wr (Below.refl _ _)
    by_cases h4 : i < b.rules.length
    · have h4' : (i : Int) < b.rules.length := by omega
      obtain ⟨g, o, sb, cb, rfl, hc, hbd⟩ := HH.out.rule h4
      obtain ⟨k0, k1⟩ := hc wr (Below.refl _ _)
      clear hc
      by_cases h5 : 16 < b.rules[i].body.length
      · have e : valE b = 4 := by unfold valE; rw [if_pos (.inr (.inr (.inr (any_of h4 (decide_eq_true h5)))))]
        rw [← HE.out] at e
        have H4 := Lib.hid e; clear e
        obtain ⟨m, hm⟩ : ∃ m, m = b.rules[i].body.length := ⟨_, rfl⟩
        rw [← hm] at h5 k1
        have h5' : (16 : Int) < m := by omega
        clear hm hlo hbd
        go_wp2
        go_ret
        exact ⟨by rw [H4.out]; rfl, b1⟩
      · have hq : longR b.rules[i] = false := decide_eq_false h5
        have h5' : (b.rules[i].body.length : Int) ≤ 16 := by omega
        obtain ⟨m, hm⟩ : ∃ m, m = b.rules[i].body.length := ⟨_, rfl⟩
        rw [← hm] at h5' k1
        clear hm hbd h5
        have HLO := Lib.hid hlo; clear hlo
        have HQ := Lib.hid hq; clear hq
        go_wp2
        go_roundw
        case rel =>
          refine ⟨i + 1, by omega, by go_num, fun j hj hji => ?_, trivial⟩
          by_cases e : j = i
          · subst e; exact HQ.out
          · exact HLO.out j hj (by omega)
        case measure => simp [vInt]; omega
    · have h4' : (b.rules.length : Int) ≤ i := by omega
      have hlong : b.rules.any longR = false := none_of fun j hj => hlo j hj (by omega)
      have hne : ¬ (64 < b.facts ∨ 16 < b.assume.length ∨ 64 < b.rules.length ∨ b.rules.any longR = true) := by
        rw [hlong]; simp; omega
      have HNE := Lib.hid hne; clear hne hlong hlo
      by_cases h5 : b.facts < 0
      · have e : valE b = 1 := by unfold valE; rw [if_neg HNE.out, if_pos (.inl h5)]
        rw [← HE.out] at e
        have H4 := Lib.hid e; clear e
        go_wp2
        go_ret
        exact ⟨by rw [H4.out]; rfl, b1⟩
      · have h5' : 0 ≤ b.facts := by omega
        obtain ⟨w9, h9⟩ : ∃ w9, w9 = wr := ⟨_, rfl⟩
        subst h9
        go_wp2
        go_loopw [4] (fun vi wq => ∃ i : Nat, i ≤ b.assume.length ∧ vi = .int .i64 i ∧ (∀ j (hj : j < b.assume.length), j < i → noB b.facts b.assume[j] = false) ∧ (∀ j (hj : j + 1 < b.assume.length), j + 1 < i → b.assume[j] < b.assume[j + 1]) ∧ Below w9.heap.size w9 wq) (fun vi _ => b.assume.length - (vInt vi).toNat)
        case atStart => exact ⟨0, by omega, rfl, fun j _ h => absurd h (by omega), fun j _ h => absurd h (by omega), Below.refl _ _⟩
        case round =>
          obtain ⟨i, hi, rfl, hno, hup, hbq⟩ := hrel
          obtain ⟨c0, c1, c2⟩ := HBOX.out wr hbq
          have HNO := Lib.hid hno; clear hno
          have HUP := Lib.hid hup; clear hup
          have HBQ := Lib.hid hbq; clear hbq
          by_cases h6 : i < b.assume.length
          · obtain ⟨g, o, rfl, _, _, hC, hlt⟩ := sl_at (HH.out.asm (by omega)) (by omega)
            obtain ⟨a, ha⟩ : ∃ a, a = b.assume[i] := ⟨_, rfl⟩
            have ca1 : wr.cell? ⟨g, o + i, none⟩ = some (.int .i64 a) := (hC.below HBQ.out hlt) i _ (by simp [h6, ha])
            have HC := Lib.hid hC; clear hC
            have HA := Lib.hid ha; clear ha
            obtain ⟨n, hn⟩ : ∃ n, n = b.assume.length := ⟨_, rfl⟩
            have HN := Lib.hid hn
            rw [← hn] at c1 h6
            have hi' : (i : Int) < n := by omega
            clear hn
            have hbad : noB b.facts a = true → valE b = 1 := fun h => by
              have e : b.assume.any (noB b.facts) = true := any_of (i := i) (by have := HN.out; omega) (by rw [← HA.out]; exact h)
              unfold valE; rw [if_neg HNE.out, if_pos (.inr (.inl e))]
            have HBAD := Lib.hid hbad; clear hbad
            by_cases h7 : a < 0
            · go_wp2
              go_big_quiet (fail)
              go_wp2
              go_ret
              exact ⟨by rw [HE.out, HBAD.out (by unfold noB; rw [decide_eq_true h7]; rfl)]; rfl, b1.trans ((below_drewN HBQ.out _).mono z1)⟩
            have h7' : (a < 0) = False := eq_false h7
            by_cases h8 : b.facts ≤ a
            · go_wp2
              go_big_quiet (fail)
              go_wp2
              go_ret
              exact ⟨by rw [HE.out, HBAD.out (by unfold noB; rw [decide_eq_true h8, Bool.or_true])]; rfl, b1.trans ((below_drewN HBQ.out _).mono z1)⟩
            have hgood : noB b.facts a = false := noB_false.2 ⟨by omega, by omega⟩
            have HG := Lib.hid hgood; clear hgood
            have h8' : (b.facts ≤ a) = False := eq_false h8
            clear h7 h8
            by_cases h10 : i = 0
            · have g1 : ((0 : Int) < i) = False := eq_false (by omega)
              have g2 : (0 < i) = False := eq_false (by omega)
              have H10 := Lib.hid h10; clear h10
              go_wp2
              go_big_quiet (fail)
              go_wp2
              go_roundw
              case rel =>
                refine ⟨i + 1, by have := HN.out; omega, by go_num, fun j hj hji => ?_, fun j hj hji => absurd hji (by have := H10.out; omega), below_drewN HBQ.out _⟩
                have h10 := H10.out
                obtain rfl : j = i := by omega
                rw [← HA.out]; exact HG.out
              case measure => simp [vInt]; have := HN.out; omega
            obtain ⟨m, rfl⟩ : ∃ m, i = m + 1 := ⟨i - 1, by omega⟩
            clear h10
            obtain ⟨q, hq⟩ : ∃ q, q = b.assume[m]'(by have := HN.out; omega) := ⟨_, rfl⟩
            have cq : wr.cell? ⟨g, o + m, none⟩ = some (.int .i64 q) := (HC.out.below HBQ.out hlt) m _ (by rw [hq]; simp)
            have HQ := Lib.hid hq; clear hq
            have e1 : (((m + 1 : Nat) : Int) - 1) = (m : Int) := by omega
            by_cases h9 : a ≤ q
            · go_wp2
              go_big_quiet (fail)
              go_wp2
              go_ret
              refine ⟨?_, b1.trans ((below_drewN HBQ.out _).mono z1)⟩
              have e : upB b.assume = false := up_no (i := m) (by have := HN.out; omega) (by rw [← HA.out, ← HQ.out]; exact h9)
              have e2 : valE b = 1 := by unfold valE; rw [if_neg HNE.out, if_pos (.inr (.inr (.inl e)))]
              rw [HE.out, e2]; rfl
            · have h9' : (a ≤ q) = False := eq_false h9
              go_wp2
              go_big_quiet (fail)
              go_wp2
              go_roundw
              case rel =>
                refine ⟨m + 1 + 1, by have := HN.out; omega, by go_num, fun j hj hji => ?_, fun j hj hji => ?_, below_drewN HBQ.out _⟩
                · by_cases e : j = m + 1
                  · subst e; rw [← HA.out]; exact HG.out
                  · exact HNO.out j hj (by omega)
                · by_cases e : j = m
                  · subst e; rw [← HA.out, ← HQ.out]; omega
                  · exact HUP.out j hj (by omega)
              case measure => simp [vInt]; have := HN.out; omega
          · have e1 : b.assume.any (noB b.facts) = false := none_of fun j hj => HNO.out j hj (by omega)
            have e2 : upB b.assume = true := up_of fun j hj => HUP.out j hj (by omega)
            have E1 := Lib.hid e1; clear e1
            have E2 := Lib.hid e2; clear e2
            clear HNO HUP
            have h6' : (b.assume.length : Int) ≤ i := by omega
            go_wp2
            have hne2 : ¬ (b.facts < 0 ∨ b.assume.any (noB b.facts) = true ∨ upB b.assume = false) := by
              rw [E1.out, E2.out]; simp; omega
            have HNE2 := Lib.hid hne2; clear hne2 E1 E2 c0 c1 c2 h6 h6'
            have hbad : ∀ i (hi : i < b.rules.length), badR b.facts b.rules[i] = true → valE b = 1 := fun i hi h => by
              have e : b.rules.any (badR b.facts) = true := any_of hi h
              unfold valE
              rw [if_neg HNE.out, if_pos (.inr (.inr (.inr e)))]
            have HBAD := Lib.hid hbad; clear hbad
            go_loopw [5] (fun vi wq => ∃ i : Nat, i ≤ b.rules.length ∧ vi = .int .i64 i ∧ (∀ j (hj : j < b.rules.length), j < i → badR b.facts b.rules[j] = false) ∧ Below w9.heap.size w9 wq) (fun vi _ => b.rules.length - (vInt vi).toNat)
            case atStart => exact ⟨0, by omega, rfl, fun j _ h => absurd h (by omega), HBQ.out⟩
            case round =>
              clear HBQ hi h4 h4'
              obtain ⟨i, hi, rfl, hno, hbq⟩ := hrel
              obtain ⟨c0, c1, c2⟩ := HBOX.out wr hbq
              have HNO := Lib.hid hno; clear hno
              have HBQ := Lib.hid hbq; clear hbq
              by_cases h4 : i < b.rules.length
              · have h4' : (i : Int) < b.rules.length := by omega
                obtain ⟨g, o, sb, cb, rfl, hc, hbd⟩ := HH.out.rule h4
                obtain ⟨k0, k1⟩ := hc wr HBQ.out
                have HBD := Lib.hid hbd; clear hbd hc
                obtain ⟨hd, hhd⟩ : ∃ hd, hd = b.rules[i].head := ⟨_, rfl⟩
                obtain ⟨bl, hbl⟩ : ∃ bl, bl = b.rules[i].body := ⟨_, rfl⟩
                rw [← hhd] at k0
                rw [← hbl] at k1
                have HHD := Lib.hid hhd; clear hhd
                have HBL := Lib.hid hbl; clear hbl
                have hb16 : bl.length ≤ 16 := by
                  have e := HNE.out
                  rw [HBL.out]
                  by_cases h : b.rules[i].body.length ≤ 16
                  · exact h
                  · exact absurd (.inr (.inr (.inr (any_of h4 (decide_eq_true (by omega)))))) e
                obtain ⟨wa, hwa⟩ : ∃ wa, wa = wr := ⟨_, rfl⟩
                subst hwa
                obtain ⟨W2, hW2⟩ : ∃ W2, W2 = wa.alloc (.cells #[.int .i64 hd, .slice sb bl.length cb] 61) := ⟨_, rfl⟩
                have b2 : Below w9.heap.size w9 W2 := by rw [hW2]; exact HBQ.out.alloc HBQ.out.size _
                have z2 : wa.heap.size < W2.heap.size := by rw [hW2]; simp
                have z3 : w.heap.size < wa.heap.size := Nat.lt_of_lt_of_le z0 HBQ.out.size
                have hB2 : Blk W2 wa.heap.size [.int .i64 hd, .slice sb bl.length cb] 61 := by rw [hW2]; exact Blk.new wa #[.int .i64 hd, .slice sb bl.length cb] 61
                have hbox2 : ∀ W, Below W2.heap.size W2 W → W.cell? ⟨wa.heap.size, 0, none⟩ = some (.int .i64 hd) ∧ W.cell? ⟨wa.heap.size, 1, none⟩ = some (.slice sb bl.length cb) := fun W hW => by
                  have h := hB2.below hW z2
                  exact ⟨h.cell rfl, h.cell rfl⟩
                have HB2 := Lib.hid b2; clear b2
                have HBOX2 := Lib.hid hbox2; clear hbox2
                have hW2' : wa.alloc (.cells #[.int .i64 hd, .slice sb bl.length cb] 61) = W2 := hW2.symm
                have HW2 := Lib.hid hW2'; clear hW2' hW2
                clear hB2
                by_cases h5 : hd < -1
                · go_wp2
                  go_ret
                  rw [HW2.out]
                  refine ⟨?_, b1.trans (HB2.out.mono z1)⟩
                  rw [HE.out, HBAD.out i h4 (by unfold badR; rw [← HHD.out, decide_eq_true h5]; rfl)]; rfl
                have h5' : (hd < -1) = False := eq_false h5
                by_cases h6 : b.facts ≤ hd
                · go_wp2
                  go_ret
                  rw [HW2.out]
                  refine ⟨?_, b1.trans (HB2.out.mono z1)⟩
                  rw [HE.out, HBAD.out i h4 (by unfold badR; rw [← HHD.out, decide_eq_true h6, Bool.or_true]; rfl)]; rfl
                have h6' : (b.facts ≤ hd) = False := eq_false h6
                go_wp2
                rw [HW2.out]
                clear k0 k1 c0 c1 c2
                go_loopw [7] (fun vi wq => ∃ k : Nat, k ≤ bl.length ∧ vi = .int .i64 k ∧ (∀ j (hj : j < bl.length), j < k → noB b.facts bl[j] = false) ∧ Below W2.heap.size W2 wq) (fun vi _ => bl.length - (vInt vi).toNat)
                case atStart => exact ⟨0, by omega, rfl, fun j _ h => absurd h (by omega), Below.refl _ _⟩
                case round =>
                  obtain ⟨k, hk, rfl, hnk, hbk⟩ := hrel
                  obtain ⟨d0, d1⟩ := HBOX2.out wr hbk
                  have hz : w9.heap.size ≤ W2.heap.size := HB2.out.size
                  have hbk9 : Below w9.heap.size w9 wr := HB2.out.trans (hbk.mono hz)
                  obtain ⟨c0, _, _⟩ := HBOX.out wr hbk9
                  have HNK := Lib.hid hnk; clear hnk
                  have HBK := Lib.hid hbk; clear hbk
                  have HBK9 := Lib.hid hbk9; clear hbk9
                  by_cases h7 : k < bl.length
                  · have hbd := HBD.out
                    rw [← HBL.out] at hbd
                    obtain ⟨g2, o2, rfl, _, _, hC, hlt⟩ := sl_at (hbd (by omega)) (by omega)
                    obtain ⟨x, hx⟩ : ∃ x, x = bl[k] := ⟨_, rfl⟩
                    have cx : wr.cell? ⟨g2, o2 + k, none⟩ = some (.int .i64 x) := (hC.below HBK9.out hlt) k _ (by simp [h7, hx])
                    have HX := Lib.hid hx; clear hx hC hbd
                    have h7' : (k : Int) < bl.length := by omega
                    have hbx : noB b.facts x = true → valE b = 1 := fun h => HBAD.out i h4 (by
                      unfold badR
                      rw [← HBL.out, any_of (i := k) h7 (by rw [← HX.out]; exact h), Bool.or_true])
                    have HBX := Lib.hid hbx; clear hbx
                    by_cases h8 : x < 0
                    · go_wp2
                      go_big_quiet (fail)
                      go_wp2
                      go_ret
                      exact ⟨by rw [HE.out, HBX.out (by unfold noB; rw [decide_eq_true h8]; rfl)]; rfl, b1.trans ((below_drewN HBK9.out _).mono z1)⟩
                    have h8' : (x < 0) = False := eq_false h8
                    by_cases h9 : b.facts ≤ x
                    · go_wp2
                      go_big_quiet (fail)
                      go_wp2
                      go_ret
                      exact ⟨by rw [HE.out, HBX.out (by unfold noB; rw [decide_eq_true h9, Bool.or_true])]; rfl, b1.trans ((below_drewN HBK9.out _).mono z1)⟩
                    have h9' : (b.facts ≤ x) = False := eq_false h9
                    have hgx : noB b.facts x = false := noB_false.2 ⟨by omega, by omega⟩
                    have HGX := Lib.hid hgx; clear hgx
                    go_wp2
                    go_big_quiet (fail)
                    go_wp2
                    go_roundw
                    case rel =>
                      refine ⟨k + 1, by omega, by go_num, fun j hj hji => ?_, below_drewN HBK.out _⟩
                      by_cases e : j = k
                      · subst e; rw [← HX.out]; exact HGX.out
                      · exact HNK.out j hj (by omega)
                    case measure => simp [vInt]; omega
                  · have h7' : (bl.length : Int) ≤ k := by omega
                    have hr : badR b.facts b.rules[i] = false := by
                      unfold badR
                      rw [← HHD.out, ← HBL.out, decide_eq_false (show ¬ hd < -1 by omega), decide_eq_false (show ¬ b.facts ≤ hd by omega), none_of (fun j hj => HNK.out j hj (by omega))]; rfl
                    have HR := Lib.hid hr; clear hr
                    go_wp2
                    go_roundw
                    case rel =>
                      refine ⟨i + 1, by omega, by go_num, fun j hj hji => ?_, HBK9.out⟩
                      by_cases e : j = i
                      · subst e; exact HR.out
                      · exact HNO.out j hj (by omega)
                    case measure => simp [vInt]; omega
              · have h4' : (b.rules.length : Int) ≤ i := by omega
                have e : b.rules.any (badR b.facts) = false := none_of fun j hj => HNO.out j hj (by omega)
                have e2 : valE b = 0 := by
                  unfold valE
                  rw [if_neg HNE.out, if_neg]
                  rw [e]
                  intro h
                  exact HNE2.out (by rcases h with h | h | h | h <;> simp_all)
                have H2 := Lib.hid e2; clear e2 e
                go_wp2
                go_ret
                exact ⟨by rw [HE.out, H2.out]; rfl, b1.trans (HBQ.out.mono z1)⟩
end Go.Proofs.Ytcbmifaobdamhaa

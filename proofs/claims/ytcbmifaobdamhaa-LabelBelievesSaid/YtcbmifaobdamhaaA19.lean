/- label: the program's Rests, fits. -/
import Derived.Test.YtcbmifaobdamhaaA18
namespace Go.Label
def restsB (l : List Nat) (item : Int) : Bool := decide (0 ≤ item) && decide (item < 16) && !l.isEmpty && l.all fun s => s.testBit item.toNat
/-- the error of the arguments of Why and Check -/
def fitsE (b : Lg) (isb : Bool) (fact : Int) : Int := if valE b ≠ 0 then valE b else if isb = false ∨ fact < -1 ∨ b.facts ≤ fact then 1 else 0
end Go.Label
namespace Go.Proofs.Ytcbmifaobdamhaa
open Go.RowKit Go.Own Go.Theory Go.BigFrame Go.Ib Go.Label Go.Shelf
theorem lacksP (k B : Nat) (hk : k < 16) (w : World) (hB : B < w.heap.size) (hc : w.cell? ⟨B, 0, none⟩ = some (.int .i64 k)) :
    PredAt Try.prog 50 #[.pointer (some ⟨B, 0, none⟩)] (Value.int .i64) (fun x => bits .and .i64 (x / 2 ^ k) 1 == 0) w := fun W x hb => by
  have hcW : W.cell? ⟨B, 0, none⟩ = some (.int .i64 k) := (hb.cell (p := ⟨B, 0, none⟩) hB).trans hc
  show Calls Try.prog 50 #[.int .i64 x, .pointer (some ⟨B, 0, none⟩)] W _
  go_enter Try.func50, Try.ntmps50
  go_wp2
  go_ret
  exact ⟨rfl, 0, rfl⟩
set_option maxRecDepth 100000 in
theorem prests_any (l : List Nat) (item : Int) (sa : Option Addr) (cap : Nat) (w : World) (hl : Sl w 1 (.slice sa l.length cap) l.length (ints l)) (hll : l.length ≤ 1000000) (hr : ∀ t ∈ l, t < 65536) :
    Calls Try.prog 22 #[.slice sa l.length cap, .int .i64 item] w fun e w' => e = .returned (.bool (restsB l item)) ∧ Below w.heap.size w w' := by
  have hb := alloc_below w (.cells #[.int .i64 item] 3)
  by_cases h1 : item < 0
  · have e : restsB l item = false := by unfold restsB; rw [decide_eq_false (by omega)]; rfl
    have E := Lib.hid e; clear e
    have h1' : (0 ≤ item) = False := eq_false (by omega)
    have h1'' : ¬ 0 ≤ item := by omega
    go_enter Try.func22, Try.ntmps22
    go_wp2
    go_ret
    exact ⟨by rw [E.out]; rfl, hb⟩
  obtain ⟨k, rfl⟩ : ∃ k : Nat, item = k := ⟨item.toNat, by omega⟩
  by_cases h2 : 16 ≤ k
  · have e : restsB l k = false := by unfold restsB; rw [decide_eq_false (show ¬ (k : Int) < 16 by omega), Bool.and_false]; rfl
    have E := Lib.hid e; clear e
    have h2' : ((k : Int) < 16) = False := eq_false (by omega)
    have h2'' : (k < 16) = False := eq_false (by omega)
    go_enter Try.func22, Try.ntmps22
    go_wp2
    go_ret
    exact ⟨by rw [E.out]; rfl, hb⟩
  have h2' : (k : Int) < 16 := by omega
  by_cases h3 : l.length = 0
  · have e : restsB l k = false := by
      unfold restsB
      rw [List.length_eq_zero_iff.1 h3]
      simp
    have E := Lib.hid e; clear e hl hr
    rw [h3]
    go_enter Try.func22, Try.ntmps22
    go_wp2
    go_ret
    exact ⟨by rw [E.out]; rfl, hb⟩
  have h3' : (0 : Int) < l.length := by omega
  obtain ⟨W1, hW1⟩ : ∃ W1, W1 = w.alloc (.cells #[.int .i64 (k : Int)] 3) := ⟨_, rfl⟩
  have hB1 : Blk W1 w.heap.size [.int .i64 (k : Int)] 3 := by rw [hW1]; exact Blk.new w #[.int .i64 (k : Int)] 3
  rw [← hW1] at hb
  have hl1 := hl.below hb
  rw [ints_map] at hl1
  have h := cf_any Try.lc47 (fun x => bits .and .i64 (x / 2 ^ k) 1 == 0) 50 #[.pointer (some ⟨w.heap.size, 0, none⟩)] (enters_of Try.func50 (by kernel_rfl) rfl) (l.map fun (j : Nat) => (j : Int)) sa cap W1 (lacksP k w.heap.size (by omega) W1 hB1.lt (hB1.cell rfl)) (by rw [List.length_map]; exact hl1) (by rw [List.length_map]; omega)
  rw [List.length_map] at h
  obtain ⟨z, hz⟩ : ∃ z, z = ((l.map fun (j : Nat) => (j : Int)).any fun x => bits .and .i64 (x / 2 ^ k) 1 == 0) := ⟨_, rfl⟩
  rw [← hz] at h
  have e : restsB l k = !z := by
    rw [hz, List.any_map]
    unfold restsB
    rw [decide_eq_true (show (0 : Int) ≤ k by omega), decide_eq_true h2', Int.toNat_natCast]
    have hne : l.isEmpty = false := by
      cases l with
      | nil => exact absurd rfl h3
      | cons => rfl
    rw [hne]
    have : ∀ t ∈ l, (bits .and .i64 ((t : Int) / 2 ^ k) 1 == 0) = !t.testBit k := fun t ht => by
      rw [and1 (by have := hr t ht; omega)]
      cases t.testBit k <;> rfl
    rw [Bool.eq_iff_iff]
    simp only [Bool.true_and, Bool.not_false, List.all_eq_true, Bool.not_eq_true', List.any_eq_false]
    constructor
    · intro h t ht
      show ¬ (bits .and .i64 ((t : Int) / 2 ^ k) 1 == 0) = true
      rw [this t ht, h t ht]; simp
    · intro h t ht
      have h1 : ¬ (bits .and .i64 ((t : Int) / 2 ^ k) 1 == 0) = true := h t ht
      rw [this t ht] at h1
      simpa using h1
  have E := Lib.hid e; clear e hz
  have H := Lib.hid h; clear h hl hl1 hr hB1
  have HB := Lib.hid hb; clear hb
  have HW1 := Lib.hid hW1; clear hW1
  go_enter Try.func22, Try.ntmps22
  go_wp2_with (fail)
  rw [← HW1.out]
  refine H.out.mono ?_
  rintro e w2 ⟨rfl, q, rfl⟩
  go_wp2
  go_ret
  exact ⟨by rw [E.out]; rfl, below_drewN HB.out q⟩
set_option maxRecDepth 100000 in
theorem fits_any (b : Lg) (s fact : Int) (sa sr : Option Addr) (ca cr : Nat) (bs : List Value) (hrg : LgRg b) (w : World) (h : LgAt w b sa sr ca cr bs) (hal : True) :
    Calls Try.prog 52 #[lgV b sa sr ca cr, .int .i64 s, .int .i64 fact] w fun e w' => e = .returned (.int .i64 (fitsE b (isB b s) fact)) ∧ Below w.heap.size w w' := by
  have hlgV : lgV b sa sr ca cr = .agg #[.int .i64 b.facts, .slice sa b.assume.length ca, .slice sr b.rules.length cr] := rfl
  have hbox := box_new w b sa sr ca cr 25
  obtain ⟨W1, hW1⟩ : ∃ W1, W1 = w.alloc (.cells #[.int .i64 b.facts, .slice sa b.assume.length ca, .slice sr b.rules.length cr] 25) := ⟨_, rfl⟩
  rw [← hW1] at hbox
  have hc := pvalid_any b sa sr ca cr bs hrg W1 (h.below hbox.b1) hal
  rw [hlgV] at hc ⊢
  have HBOX := Lib.hid hbox; clear hbox
  have HW1 := Lib.hid hW1; clear hW1 h
  have HC := Lib.hid hc; clear hc hrg
  have HLV := Lib.hid hlgV; clear hlgV
  have h16 : valE b = 0 → b.assume.length ≤ 16 := fun h => (valE_ok.1 h).a16
  have H16 := Lib.hid h16; clear h16
  have hfe : fitsE b (isB b s) fact = if valE b ≠ 0 then valE b else if isB b s = false ∨ fact < -1 ∨ b.facts ≤ fact then 1 else 0 := rfl
  have HFE := Lib.hid hfe; clear hfe
  obtain ⟨R, hR⟩ : ∃ R, R = fitsE b (isB b s) fact := ⟨_, rfl⟩
  rw [← hR] at HFE ⊢
  clear hR
  obtain ⟨E, hE⟩ : ∃ E, E = valE b := ⟨_, rfl⟩
  rw [← hE] at HC HFE H16
  clear hE
  go_enter Try.func52, Try.ntmps52
  go_wp2_with (fail)
  rw [← HW1.out]
  refine HC.out.mono ?_
  rintro e w2 ⟨rfl, b2⟩
  have HB := Lib.hid (HBOX.out.below b2)
  by_cases hv : E = 0
  · subst hv
    obtain ⟨c0, c1, c2⟩ := HBOX.out.cell w2 b2
    have hi := pis_any b s sa sr ca cr (H16.out rfl) w2
    rw [HLV.out] at hi
    have HI := Lib.hid hi; clear hi
    go_wp2_with (fail)
    refine HI.out.mono ?_
    rintro e w3 ⟨rfl, b3⟩
    have HB3 := Lib.hid (HB.out.trans (b3.mono HB.out.size))
    obtain ⟨d0, d1, d2⟩ := HBOX.out.cell w3 (b2.trans (b3.mono b2.size))
    clear b2 b3 c0 c1 c2 d1 d2
    cases his : isB b s with
    | false =>
      have e : R = 1 := by rw [HFE.out, if_neg (by simp), if_pos (.inl his)]
      have E := Lib.hid e; clear e his
      go_wp2
      go_ret
      exact ⟨by rw [E.out]; rfl, HB3.out⟩
    | true =>
      have HIS := Lib.hid his; clear his
      by_cases h1 : fact < -1
      · have e : R = 1 := by rw [HFE.out, if_neg (by simp), if_pos (.inr (.inl h1))]
        have E := Lib.hid e; clear e
        go_wp2
        go_ret
        exact ⟨by rw [E.out]; rfl, HB3.out⟩
      have h1' : (fact < -1) = False := eq_false h1
      by_cases h2 : b.facts ≤ fact
      · have e : R = 1 := by rw [HFE.out, if_neg (by simp), if_pos (.inr (.inr h2))]
        have E := Lib.hid e; clear e
        go_wp2
        go_ret
        exact ⟨by rw [E.out]; rfl, HB3.out⟩
      have h2' : (b.facts ≤ fact) = False := eq_false h2
      have e : R = 0 := by
        rw [HFE.out, if_neg (by simp), if_neg]
        rw [HIS.out]
        rintro (h | h | h)
        · cases h
        · exact h1 h
        · exact h2 h
      have E := Lib.hid e; clear e
      go_wp2
      go_ret
      exact ⟨by rw [E.out]; rfl, HB3.out⟩
  · have e : R = E := by rw [HFE.out, if_pos hv]
    have HE := Lib.hid e; clear e b2
    have hv2 : (E != 0) = true := by simpa using hv
    have hv3 : (E = 0) = False := eq_false hv
    clear hv
    go_wp2
    go_ret
    exact ⟨by rw [HE.out]; rfl, HB.out⟩
end Go.Proofs.Ytcbmifaobdamhaa

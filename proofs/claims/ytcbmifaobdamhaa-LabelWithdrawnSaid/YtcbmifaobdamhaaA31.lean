/- label: small; the labels in memory as the laws read them. -/
import Derived.Test.YtcbmifaobdamhaaA30
namespace Go.Label
open Go.RowKit Go.Own
def smallB (b : Lg) : Bool := decide (valE b = 0) && decide (b.assume.length ≤ 8)
/-- the labels of a base -/
def labs (b : Lg) : LS := lfold b (ordL b.assume.length)
theorem ordL_len {n : Nat} (h : n ≤ 8) : (ordL n).length ≤ 2304 := by
  unfold ordL
  rw [List.length_map]
  have h1 := ords_len n (n + 1)
  have h2 : (2 : Nat) ^ n ≤ 256 := Nat.pow_le_pow_right (n := 2) (by omega) h
  have h3 : (n + 1) * 2 ^ n ≤ 9 * 256 := Nat.mul_le_mul (by omega) h2
  omega
theorem labs_len {b : Lg} (h : b.assume.length ≤ 8) : (∀ f, ((labs b).lab f).length ≤ 2304) ∧ (labs b).bad.length ≤ 2304 := by
  have h1 := lfold_len b (ordL b.assume.length)
  have h2 := ordL_len h
  exact ⟨fun f => Nat.le_trans (h1.1 f) h2, Nat.le_trans h1.2 h2⟩
theorem ordL_lt {n t : Nat} (h : n ≤ 8) (ht : t ∈ ordL n) : t < 256 := by
  have h1 := ordL_mem.1 ht
  have h2 : (2 : Nat) ^ n ≤ 256 := Nat.pow_le_pow_right (n := 2) (by omega) h
  omega
theorem labs_lt {b : Lg} (h : b.assume.length ≤ 8) : (∀ f, ∀ t ∈ (labs b).lab f, t < 65536) ∧ ∀ t ∈ (labs b).bad, t < 65536 := by
  have h1 := lfold_mem b (ordL b.assume.length)
  exact ⟨fun f t ht => by have := ordL_lt h (h1.1 f t ht); omega, fun t ht => by have := ordL_lt h (h1.2 t ht); omega⟩
structure LabR (tS : TypeId) (w : World) (P F : Nat) (vs : Nat → Value) (vb : Value) (L : LS) : Prop where
  blk : Blk w P (rm F vs) tS
  row : ∀ f, f < F → Sl w 1 (vs f) (L.lab f).length (ints (L.lab f))
  bad : Sl w 1 vb L.bad.length (ints L.bad)
theorem LabR.below {tS : TypeId} {w w' : World} {P F : Nat} {vs : Nat → Value} {vb : Value} {L : LS} (h : LabR tS w P F vs vb L) (hb : Below w.heap.size w w') : LabR tS w' P F vs vb L :=
  ⟨h.blk.below hb h.blk.lt, fun f hf => (h.row f hf).below hb, h.bad.below hb⟩
end Go.Label
namespace Go.Proofs.Ytcbmifaobdamhaa
open Go.RowKit Go.Own Go.Theory Go.BigFrame Go.Ib Go.Label Go.Shelf
theorem labels_any (b : Lg) (F : Nat) (sa sr : Option Addr) (ca cr : Nat) (bs : List Value) (hrg : LgRg b) (w : World) (h : LgAt w b sa sr ca cr bs) (ok : Ok b) (hF : b.facts = F) (h8 : b.assume.length ≤ 8) :
    Calls Try.prog 17 #[lgV b sa sr ca cr] w fun e w' => ∃ P vs sb cb, e = .returned (.tuple #[.slice (some ⟨P, 0, none⟩) F F, .slice sb (labs b).bad.length cb, .int .i64 0]) ∧ LabR 37 w' P F vs (.slice sb (labs b).bad.length cb) (labs b) ∧ Below w.heap.size w w' := by
  refine (plabels_any b F sa sr ca cr bs hrg w h ok hF h8).mono ?_
  rintro e w' ⟨P, vs, vb, rfl, h1, h2, h3, h4⟩
  have h3' : Sl w' 1 vb (labs b).bad.length (ints (labs b).bad) := h3
  obtain ⟨sb, cb, rfl, _, _⟩ := sl_slice h3'
  exact ⟨P, vs, sb, cb, rfl, ⟨h1, h2, h3⟩, h4⟩
set_option maxRecDepth 100000 in
theorem small_any (b : Lg) (sa sr : Option Addr) (ca cr : Nat) (bs : List Value) (hrg : LgRg b) (w : World) (h : LgAt w b sa sr ca cr bs) :
    Calls Try.prog 16 #[lgV b sa sr ca cr] w fun e w' => e = .returned (.bool (smallB b)) ∧ Below w.heap.size w w' := by
  have hlgV : lgV b sa sr ca cr = .agg #[.int .i64 b.facts, .slice sa b.assume.length ca, .slice sr b.rules.length cr] := rfl
  have hbox := box_new w b sa sr ca cr 25
  obtain ⟨W1, hW1⟩ : ∃ W1, W1 = w.alloc (.cells #[.int .i64 b.facts, .slice sa b.assume.length ca, .slice sr b.rules.length cr] 25) := ⟨_, rfl⟩
  rw [← hW1] at hbox
  have hc := rvalid_any b sa sr ca cr bs hrg W1 (h.below hbox.b1)
  rw [hlgV] at hc ⊢
  have HBOX := Lib.hid hbox; clear hbox
  have HW1 := Lib.hid hW1; clear hW1 h
  have HLV := Lib.hid hlgV; clear hlgV
  obtain ⟨R, hR⟩ : ∃ R, R = smallB b := ⟨_, rfl⟩
  rw [← hR]
  obtain ⟨E, hE⟩ : ∃ E, E = valE b := ⟨_, rfl⟩
  rw [← hE] at hc
  have HC := Lib.hid hc; clear hc hrg
  have HR := Lib.hid hR; clear hR
  have HE := Lib.hid hE; clear hE
  go_enter Try.func16, Try.ntmps16
  go_wp2_with (fail)
  rw [← HW1.out]
  refine HC.out.mono ?_
  rintro e w2 ⟨rfl, b2⟩
  have HB := Lib.hid (HBOX.out.below b2)
  obtain ⟨c0, c1, c2⟩ := HBOX.out.cell w2 b2
  clear b2
  by_cases hv : E = 0
  · have hv2 : (E == 0) = true := by simpa using hv
    by_cases h8 : b.assume.length ≤ 8
    · have h8' : (b.assume.length : Int) ≤ 8 := by omega
      have e : R = true := by rw [HR.out]; unfold smallB; rw [← HE.out, hv, decide_eq_true h8]; rfl
      have EE := Lib.hid e; clear e hv
      go_wp2
      go_ret
      exact ⟨by rw [EE.out]; rfl, HB.out⟩
    · have h8' : ((b.assume.length : Int) ≤ 8) = False := eq_false (by omega)
      have h8'' : (b.assume.length ≤ 8) = False := eq_false h8
      have e : R = false := by rw [HR.out]; unfold smallB; rw [← HE.out, hv, decide_eq_false h8]; rfl
      have EE := Lib.hid e; clear e hv h8
      go_wp2
      go_ret
      exact ⟨by rw [EE.out]; rfl, HB.out⟩
  · have hv2 : (E == 0) = false := by simpa using hv
    have hv3 : (E = 0) = False := eq_false hv
    have e : R = false := by rw [HR.out]; unfold smallB; rw [← HE.out, decide_eq_false hv]; rfl
    have EE := Lib.hid e; clear e hv
    go_wp2
    go_ret
    exact ⟨by rw [EE.out]; rfl, HB.out⟩
end Go.Proofs.Ytcbmifaobdamhaa

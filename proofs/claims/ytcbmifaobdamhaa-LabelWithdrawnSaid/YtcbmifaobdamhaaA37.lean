/- label: Labels at any base, as the laws read them. -/
import Derived.Test.YtcbmifaobdamhaaA31
namespace Go.Label
open Go.RowKit Go.Own Go.Theory
structure LabS (w : World) (so : Option Addr) (co F : Nat) (vs : Nat → Value) (sb : Option Addr) (cb : Nat) (L : LS) : Prop where
  out : Sl w 1 (.slice so F co) F (rm F vs)
  row : ∀ f, f < F → Sl w 1 (vs f) (L.lab f).length (ints (L.lab f))
  bad : Sl w 1 (.slice sb L.bad.length cb) L.bad.length (ints L.bad)
theorem LabS.below {w w' : World} {so : Option Addr} {co F : Nat} {vs : Nat → Value} {sb : Option Addr} {cb : Nat} {L : LS} (h : LabS w so co F vs sb cb L) (hb : Below w.heap.size w w') : LabS w' so co F vs sb cb L :=
  ⟨h.out.below hb, fun f hf => (h.row f hf).below hb, h.bad.below hb⟩
theorem rm_len {n : Nat} {f : Nat → Value} : (rm n f).length = n := by simp [rm]
theorem LabR.labS {tS : TypeId} {w : World} {P F : Nat} {vs : Nat → Value} {sb : Option Addr} {cb : Nat} {L : LS} (h : LabR tS w P F vs (.slice sb L.bad.length cb) L) (hF : F ≤ 64) : LabS w (some ⟨P, 0, none⟩) F F vs sb cb L :=
  ⟨⟨by simp [rm_len], .inr ⟨P, 0, _, rfl, Nat.le_refl _, by unfold maxLen; omega, h.blk.cells0, h.blk.lt⟩⟩, h.row, h.bad⟩
def noL : LS := ⟨fun _ => [], []⟩
def resF (b : Lg) : Nat := if valE b = 0 then b.facts.toNat else 0
def resL (b : Lg) : LS := if valE b = 0 then labs b else noL
theorem res_ok {b : Lg} (hv : valE b = 0) : resF b = b.facts.toNat ∧ resL b = labs b := by unfold resF resL; rw [if_pos hv, if_pos hv]; exact ⟨rfl, rfl⟩
theorem res_no {b : Lg} (hv : ¬ valE b = 0) : resF b = 0 ∧ resL b = noL := by unfold resF resL; rw [if_neg hv, if_neg hv]; exact ⟨rfl, rfl⟩
theorem res_len {b : Lg} (hc : valE b = 0 → b.assume.length ≤ 8) : (∀ f, ((resL b).lab f).length ≤ 2304) ∧ (resL b).bad.length ≤ 2304 := by
  by_cases hv : valE b = 0
  · rw [(res_ok hv).2]; exact labs_len (hc hv)
  · rw [(res_no hv).2]; exact ⟨fun f => Nat.zero_le _, Nat.zero_le _⟩
theorem res_lt {b : Lg} (hc : valE b = 0 → b.assume.length ≤ 8) : (∀ f, ∀ t ∈ (resL b).lab f, t < 65536) ∧ ∀ t ∈ (resL b).bad, t < 65536 := by
  by_cases hv : valE b = 0
  · rw [(res_ok hv).2]; exact labs_lt (hc hv)
  · rw [(res_no hv).2]; exact ⟨fun f t h => (by cases h), fun t h => (by cases h)⟩
theorem res_f {b : Lg} : resF b ≤ 64 := by
  by_cases hv : valE b = 0
  · rw [(res_ok hv).1]
    have := (valE_ok.1 hv).f64
    omega
  · rw [(res_no hv).1]; omega
theorem noS (w : World) (vs : Nat → Value) : LabS w none 0 0 vs none 0 noL := ⟨⟨rfl, .inl ⟨rfl, rfl⟩⟩, fun f hf => absurd hf (by omega), ⟨rfl, .inl ⟨rfl, rfl⟩⟩⟩
/-- the labels as lists of lists -/
def rowsI (F : Nat) (L : LS) : List (List Int) := (List.range F).map fun f => (L.lab f).map fun (j : Nat) => (j : Int)
theorem rowsI_len (F : Nat) (L : LS) : (rowsI F L).length = F := by simp [rowsI]
theorem rowsI_at {F : Nat} (L : LS) {f : Nat} (h : f < F) : (rowsI F L).getD f [] = (L.lab f).map fun (j : Nat) => (j : Int) := by simp [rowsI, h]
theorem LabS.lls {w : World} {so : Option Addr} {co F : Nat} {vs : Nat → Value} {sb : Option Addr} {cb : Nat} {L : LS} (h : LabS w so co F vs sb cb L) : LLs w so co (rm F vs) (rowsI F L) :=
  ⟨by rw [rowsI_len]; exact h.out, fun i v hi hv => by
    rw [rowsI_len] at hi
    rw [rowsI_at L hi, List.length_map, ← ints_map]
    rw [rm_get hi] at hv
    injection hv with hv
    subst hv
    exact h.row i hi⟩
end Go.Label
namespace Go.Proofs.Ytcbmifaobdamhaa
open Go.RowKit Go.Own Go.Theory Go.BigFrame Go.Ib Go.Label Go.Shelf
theorem plab_any (b : Lg) (sa sr : Option Addr) (ca cr : Nat) (bs : List Value) (hrg : LgRg b) (w : World) (h : LgAt w b sa sr ca cr bs) (hc : valE b = 0 → b.assume.length ≤ 8) :
    Calls Try.prog 17 #[lgV b sa sr ca cr] w fun e w' => ∃ so co vs sb cb, e = .returned (.tuple #[.slice so (resF b) co, .slice sb (resL b).bad.length cb, .int .i64 (valE b)]) ∧ LabS w' so co (resF b) vs sb cb (resL b) ∧ Below w.heap.size w w' := by
  by_cases hv : valE b = 0
  · have ok := valE_ok.1 hv
    have hF : b.facts = (b.facts.toNat : Nat) := by have := ok.f0; omega
    rw [(res_ok hv).1, (res_ok hv).2, hv]
    refine (labels_any b b.facts.toNat sa sr ca cr bs hrg w h ok hF (hc hv)).mono ?_
    rintro e w' ⟨P, vs, sb, cb, rfl, h1, h2⟩
    exact ⟨_, _, vs, sb, cb, rfl, h1.labS (by have := ok.f64; omega), h2⟩
  · rw [(res_no hv).1, (res_no hv).2]
    refine (plabels_bad b sa sr ca cr bs hrg w h trivial hv).mono ?_
    rintro e w' ⟨rfl, h2⟩
    exact ⟨none, 0, fun _ => undef, none, 0, rfl, noS w' _, h2⟩
theorem sameS_any {w : World} {so so' : Option Addr} {co co' F : Nat} {vs vs' : Nat → Value} {sb sb' : Option Addr} {cb cb' : Nat} {L : LS} (h : LabS w so co F vs sb cb L) (h' : LabS w so' co' F vs' sb' cb' L) (hl : ∀ f, (L.lab f).length ≤ 2304) (hF : F ≤ 64) :
    Calls Try.prog 19 #[.slice so F co, .slice so' F co'] w fun e w' => e = .returned (.bool true) ∧ Below w.heap.size w w' := by
  have := sameL_any (rowsI F L) (rowsI F L) so so' co co' (rm F vs) (rm F vs') w h.lls h'.lls (fun i hi => by
    rw [rowsI_len] at hi
    rw [rowsI_at L hi, List.length_map]
    have := hl i; omega) (by rw [rowsI_len]; omega)
  rw [rowsI_len, beq_self_eq_true] at this
  exact this
theorem sameB_any {w : World} {l : List Nat} {sa sb : Option Addr} {ca cb : Nat} (h : Sl w 1 (.slice sa l.length ca) l.length (ints l)) (h' : Sl w 1 (.slice sb l.length cb) l.length (ints l)) (hl : l.length ≤ 2304) :
    Calls Try.prog 20 #[.slice sa l.length ca, .slice sb l.length cb] w fun e w' => e = .returned (.bool true) ∧ Below w.heap.size w w' := by
  rw [ints_map] at h h'
  have := same_any (l.map fun (j : Nat) => (j : Int)) (l.map fun (j : Nat) => (j : Int)) sa sb ca cb w (by rw [List.length_map]; exact h) (by rw [List.length_map]; exact h') (.inl (by rw [List.length_map]; omega))
  rw [List.length_map, beq_self_eq_true] at this
  exact this
end Go.Proofs.Ytcbmifaobdamhaa

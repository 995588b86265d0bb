/- theory, in plain words: the laws Maximal and Fewer. -/
import Derived.Test.YtnkglahiagigoaaF19
namespace Go.Theory
open Go.RowKit Go.Own Go.Ib
theorem bit_ne {s t : Nat} (h : ∀ k, s.testBit k = true → t.testBit k = true) (hne : s ≠ t) : ∃ k, t.testBit k = true ∧ s.testBit k = false := by
  apply Classical.byContradiction
  intro hno
  refine hne (Nat.eq_of_testBit_eq fun k => ?_)
  cases hs : s.testBit k with
  | true => rw [h k hs]
  | false =>
    cases ht : t.testBit k with
    | false => rfl
    | true => exact absurd ⟨k, ht, hs⟩ hno
theorem sub_trans {a b c : Int} (h : sub a b = true) (k : sub b c = true) : sub a c = true := by
  unfold sub at *
  have h1 := (sub_iff _ _).1 (of_decide_eq_true h)
  have h2 := (sub_iff _ _).1 (of_decide_eq_true k)
  refine decide_eq_true ((sub_iff _ _).2 ?_)
  rw [← h2, ← BitVec.or_assoc, h1]
theorem sub_self (a : Int) : sub a a = true := by
  unfold sub
  exact decide_eq_true ((sub_iff _ _).2 (BitVec.or_self))
theorem cl_mono {l : List Int} {s t : Nat} (h : sub s t = true) (hc : cl l s = true) : cl l t = true := by
  unfold cl at *
  rw [List.any_eq_true] at *
  obtain ⟨c, hc, h1⟩ := hc
  exact ⟨c, hc, sub_trans h1 h⟩
theorem cl_false {l : List Int} {s : Nat} (h : fst l s < 0) : cl l s = false := by
  rw [cl_fst]; exact decide_eq_false (by omega)
theorem fst_neg {l : List Int} {s : Nat} (h : cl l s = false) : fst l s < 0 := by
  rw [cl_fst] at h; have := of_decide_eq_false h; omega
/-- No theory contains another one. -/
theorem thy_anti {n may : Nat} {l : List Int} (hn : n ≤ 16) (hm : may < 2 ^ n) {s t : Nat} (hs : theory n may l s) (ht : theory n may l t) (hs2 : s < 2 ^ n) (ht2 : t < 2 ^ n) (h : sub s t = true) : s = t := by
  have hp := pow16 hn
  apply Classical.byContradiction
  intro hne
  obtain ⟨k, h1, h2⟩ := bit_ne ((sub_bits (by omega) (by omega)).1 h) hne
  have hk : k < n := bits_of_lt ht2 h1
  have h3 := hs.2.2 k hk ((sub_bits (by omega) (by omega)).1 ht.1 k h1) h2
  have h4 : cl l (s ||| 2 ^ k) = true := by rw [cl_fst]; exact decide_eq_true h3
  have hs3 : s ||| 2 ^ k < 2 ^ n := Nat.or_lt_two_pow hs2 (Nat.pow_lt_pow_right (by decide) hk)
  have h5 : sub ((s ||| 2 ^ k : Nat) : Int) t = true := (sub_bits (by omega) (by omega)).2 fun j hj => by
    rw [Nat.testBit_or, Nat.testBit_two_pow] at hj
    by_cases e : k = j
    · subst e; exact h1
    · simp [e] at hj; exact (sub_bits (by omega) (by omega)).1 h j hj
  have h6 := cl_mono h5 h4
  rw [cl_false ht.2.1] at h6
  cases h6
theorem thy_chk {n may : Nat} {l : List Int} {s : Nat} (hs : theory n may l s) : (chk n may l s).2 = 0 := by
  unfold chk
  rw [if_neg (by have := hs.2.1; omega), if_pos]
  rw [List.all_eq_true]
  intro x hx
  unfold founds needs at hx
  obtain ⟨j, hj, rfl⟩ := List.mem_map.1 hx
  obtain ⟨h1, h2⟩ := List.mem_filter.1 hj
  rw [Bool.and_eq_true] at h2
  exact decide_eq_true (hs.2.2 j (List.mem_range.1 h1) h2.1 (by simpa using h2.2))
theorem theories_nodup (n may : Nat) (l : List Int) : (theories n may l).Nodup := List.nodup_range.filter _
/-- What is consistent lies in a theory. -/
theorem in_theory {n may : Nat} {l : List Int} (hn : n ≤ 16) (hm : may < 2 ^ n) {s : Nat} (hs : sub s may = true) (hs2 : s < 2 ^ n) (hc : cl l s = false) : ∃ t ∈ theories n may l, sub s t = true := by
  have hp := pow16 hn
  obtain ⟨t, h1, h2⟩ := ext_theory (l := l) hn hm (2 ^ n) s (by omega) hs2 ((sub_bits (by omega) (by omega)).1 hs) hc
  exact ⟨t, h1, (sub_bits (by omega) (by have := theories_lt h1; omega)).2 h2⟩
theorem cl_append {l m : List Int} {s : Nat} (h : cl (l ++ m) s = false) : cl l s = false := by
  unfold cl at *
  rw [List.any_append, Bool.or_eq_false_iff] at h
  exact h.1
/-- A further conflict, or a part of may: each theory lies in one of before. -/
theorem fewer {n may may' : Nat} {l l' : List Int} (hn : n ≤ 16) (hm : may < 2 ^ n) (hmm : sub may' may = true) (hl : ∀ s : Nat, cl l' s = false → cl l s = false) {s : Nat} (hs : s ∈ theories n may' l') : ∃ t ∈ theories n may l, sub s t = true := by
  have h1 := theories_thy hs
  exact in_theory hn hm (sub_trans h1.1 hmm) (theories_lt hs) (hl s (cl_false h1.2.1))
end Go.Theory

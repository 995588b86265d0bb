/- Words of 64 bits without a sign, as sets. -/
import Derived.Test.YtnkinjilnccmfaaIb
import Derived.RowKit
import Derived.IntWalk
namespace Go.Ib
open Go.Lib Go.RowKit
theorem wrap_u64_small (n : Nat) (h : n < 18446744073709551616) : IntKind.u64.wrap (n : Int) = n := IntWalk.u64_in _ (by omega)
theorem bu_or (a b : Nat) (ha : a < 18446744073709551616) (hb : b < 18446744073709551616) : bits .or .u64 (a : Int) (b : Int) = ((a ||| b : Nat) : Int) := by
  show IntKind.u64.wrap ((BitVec.ofInt 64 (a : Int) ||| BitVec.ofInt 64 (b : Int)).toNat : Int) = _
  rw [BitVec.toNat_or, ofInt_u64 a (by omega), ofInt_u64 b (by omega)]
  exact wrap_u64_small _ (Nat.or_lt_two_pow (n := 64) ha hb)
theorem bu_and (a b : Nat) (ha : a < 18446744073709551616) (hb : b < 18446744073709551616) : bits .and .u64 (a : Int) (b : Int) = ((a &&& b : Nat) : Int) := by
  show IntKind.u64.wrap ((BitVec.ofInt 64 (a : Int) &&& BitVec.ofInt 64 (b : Int)).toNat : Int) = _
  rw [BitVec.toNat_and, ofInt_u64 a (by omega), ofInt_u64 b (by omega)]
  exact wrap_u64_small _ (Nat.lt_of_le_of_lt Nat.and_le_left ha)
theorem bu_andNot (a b : Nat) (ha : a < 18446744073709551616) (hb : b < 18446744073709551616) : bits .andNot .u64 (a : Int) (b : Int) = ((diff a b : Nat) : Int) := by
  show IntKind.u64.wrap ((BitVec.ofInt 64 (a : Int) &&& ~~~BitVec.ofInt 64 (b : Int)).toNat : Int) = _
  have e : (BitVec.ofInt 64 (a : Int) &&& ~~~BitVec.ofInt 64 (b : Int)).toNat = diff a b := by
    rw [← BitVec.xor_allOnes, BitVec.toNat_and, BitVec.toNat_xor, ofInt_u64 a (by omega), ofInt_u64 b (by omega), Nat.xor_comm]
    rfl
  rw [e]
  exact wrap_u64_small _ (Nat.lt_of_le_of_lt (diff_le a b) ha)
theorem diff_bitU (a b k : Nat) (ha : a < 18446744073709551616) : (diff a b).testBit k = (a.testBit k && !b.testBit k) := by
  unfold diff
  rw [Nat.testBit_and, Nat.testBit_xor]
  by_cases hk : k < 64
  · rw [show (18446744073709551615 : Nat) = 2 ^ 64 - 1 from rfl, Nat.testBit_two_pow_sub_one]; simp [hk]
  · rw [Nat.testBit_lt_two_pow (i := k) (x := a) (Nat.lt_of_lt_of_le ha (by rw [show (18446744073709551616 : Nat) = 2 ^ 64 from rfl]; exact Nat.pow_le_pow_right (by omega) (by omega)))]; simp
theorem diff0 {a b : Nat} (ha : a < 18446744073709551616) : diff a b = 0 ↔ ∀ k, a.testBit k = true → b.testBit k = true := by
  constructor
  · intro h k hk
    have h1 := diff_bitU a b k ha
    rw [h, Nat.zero_testBit, hk] at h1
    cases h2 : b.testBit k with
    | true => rfl
    | false => rw [h2] at h1; simp at h1
  · intro h
    apply Nat.eq_of_testBit_eq
    intro k
    rw [diff_bitU a b k ha, Nat.zero_testBit]
    cases h1 : a.testBit k with
    | false => rfl
    | true => rw [h k h1]; rfl
theorem bu_and1 {K k : Nat} (hs : K < 18446744073709551616) : bits .and .u64 ((K : Int) / 2 ^ k) 1 = if K.testBit k then 1 else 0 := by
  have e0 : (K : Int) / 2 ^ k = ((K / 2 ^ k : Nat) : Int) := by simp
  have h1 : K / 2 ^ k ≤ K := Nat.div_le_self _ _
  rw [e0, show (1 : Int) = ((1 : Nat) : Int) from rfl, bu_and _ _ (by omega) (by omega), Nat.and_one_is_mod, Nat.testBit_eq_decide_div_mod_eq]
  by_cases h : K / 2 ^ k % 2 = 1
  · simp [h]
  · have : K / 2 ^ k % 2 = 0 := by omega
    simp [this]
theorem pow64 {n : Nat} (h : n < 64) : (2 : Nat) ^ n < 18446744073709551616 := by
  have := Nat.pow_lt_pow_right (a := 2) (m := n) (n := 64) (by omega) h
  rwa [show (2 : Nat) ^ 64 = 18446744073709551616 from rfl] at this
theorem wu_pow {n : Nat} (h : n < 64) : IntKind.u64.wrap ((2 : Int) ^ n) = ((2 ^ n : Nat) : Int) := by
  have h1 := pow64 h
  rw [show ((2 : Int) ^ n) = ((2 ^ n : Nat) : Int) by simp]
  exact wrap_u64_small _ h1
/-- the word with all bits turned is another one -/
theorem bu_not_ne (K : Nat) (h : K < 18446744073709551616) : (bits .xor .u64 18446744073709551615 (K : Int) == (K : Int)) = false := by
  have e : bits .xor .u64 18446744073709551615 (K : Int) = ((18446744073709551615 ^^^ K : Nat) : Int) := by
    show IntKind.u64.wrap ((BitVec.ofInt 64 ((18446744073709551615 : Nat) : Int) ^^^ BitVec.ofInt 64 (K : Int)).toNat : Int) = _
    rw [BitVec.toNat_xor, ofInt_u64 _ (by omega), ofInt_u64 K (by omega)]
    exact wrap_u64_small _ (Nat.xor_lt_two_pow (n := 64) (by decide) h)
  rw [e]
  simp only [beq_eq_false_iff_ne, ne_eq]
  intro h2
  have h3 : 18446744073709551615 ^^^ K = K := by omega
  have h4 := congrArg (fun x => x.testBit 0) h3
  simp only [Nat.testBit_xor] at h4
  have h5 : (18446744073709551615 : Nat).testBit 0 = true := by decide
  rw [h5] at h4
  cases h6 : K.testBit 0 <;> rw [h6] at h4 <;> cases h4
end Go.Ib

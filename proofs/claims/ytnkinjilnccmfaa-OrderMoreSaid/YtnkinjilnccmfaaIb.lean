/- Words of 64 bits with a sign, as sets: and, or, andNot at numbers that are not negative; laws at any word. -/
import Derived.Lib.QuoteBits
namespace Go.Ib
open Go.Lib
abbrev B (z : Int) : BitVec 64 := BitVec.ofInt 64 z
theorem B_nat (a : Nat) (h : a < 18446744073709551616) : (B (a : Int)).toNat = a := ofInt_u64 a h
theorem b_and (a b : Nat) (ha : a < 9223372036854775808) (hb : b < 9223372036854775808) : bits .and .i64 (a : Int) (b : Int) = ((a &&& b : Nat) : Int) := by
  show IntKind.i64.wrap ((BitVec.ofInt 64 (a : Int) &&& BitVec.ofInt 64 (b : Int)).toNat : Int) = _
  rw [BitVec.toNat_and, ofInt_u64 a (by omega), ofInt_u64 b (by omega)]
  exact wrap_i64_small _ (Nat.lt_of_le_of_lt Nat.and_le_left ha)
theorem b_or (a b : Nat) (ha : a < 9223372036854775808) (hb : b < 9223372036854775808) : bits .or .i64 (a : Int) (b : Int) = ((a ||| b : Nat) : Int) := by
  show IntKind.i64.wrap ((BitVec.ofInt 64 (a : Int) ||| BitVec.ofInt 64 (b : Int)).toNat : Int) = _
  rw [BitVec.toNat_or, ofInt_u64 a (by omega), ofInt_u64 b (by omega)]
  exact wrap_i64_small _ (Nat.or_lt_two_pow (n := 63) ha hb)
/-- the numbers of a that are not in b -/
def diff (a b : Nat) : Nat := a &&& (18446744073709551615 ^^^ b)
theorem diff_bit (a b k : Nat) (ha : a < 9223372036854775808) : (diff a b).testBit k = (a.testBit k && !b.testBit k) := by
  unfold diff
  rw [Nat.testBit_and, Nat.testBit_xor]
  by_cases hk : k < 64
  · rw [show (18446744073709551615 : Nat) = 2 ^ 64 - 1 from rfl, Nat.testBit_two_pow_sub_one]; simp [hk]
  · rw [Nat.testBit_lt_two_pow (i := k) (x := a) (Nat.lt_of_lt_of_le ha (by rw [show (9223372036854775808 : Nat) = 2 ^ 63 from rfl]; exact Nat.pow_le_pow_right (by omega) (by omega)))]; simp
theorem diff_le (a b : Nat) : diff a b ≤ a := Nat.and_le_left
theorem b_andNot (a b : Nat) (ha : a < 9223372036854775808) (hb : b < 9223372036854775808) : bits .andNot .i64 (a : Int) (b : Int) = ((diff a b : Nat) : Int) := by
  show IntKind.i64.wrap ((BitVec.ofInt 64 (a : Int) &&& ~~~BitVec.ofInt 64 (b : Int)).toNat : Int) = _
  have e : (BitVec.ofInt 64 (a : Int) &&& ~~~BitVec.ofInt 64 (b : Int)).toNat = diff a b := by
    rw [← BitVec.xor_allOnes, BitVec.toNat_and, BitVec.toNat_xor, ofInt_u64 a (by omega), ofInt_u64 b (by omega), Nat.xor_comm]
    rfl
  rw [e]
  exact wrap_i64_small _ (Nat.lt_of_le_of_lt (diff_le a b) ha)
/-- a word's bits at any operands -/
theorem B_wrap (x : BitVec 64) : B (IntKind.i64.wrap (x.toNat : Int)) = x := by
  apply BitVec.eq_of_toInt_eq
  rw [BitVec.toInt_ofInt]
  have h := x.isLt
  simp only [IntKind.wrap, IntKind.bits, IntKind.signed, BitVec.toInt_eq_toNat_cond, Int.bmod]
  simp
  split <;> split <;> split <;> omega
theorem B_and (a b : Int) : B (bits .and .i64 a b) = B a &&& B b := B_wrap _
theorem B_or (a b : Int) : B (bits .or .i64 a b) = B a ||| B b := B_wrap _
theorem B_andNot (a b : Int) : B (bits .andNot .i64 a b) = B a &&& ~~~B b := B_wrap _
theorem B_inj {a b : Int} (ha : -9223372036854775808 ≤ a ∧ a ≤ 9223372036854775807) (hb : -9223372036854775808 ≤ b ∧ b ≤ 9223372036854775807) (h : B a = B b) : a = b := by
  have h2 := congrArg BitVec.toInt h
  rw [BitVec.toInt_ofInt, BitVec.toInt_ofInt, Int.bmod_eq_of_le (by omega) (by omega), Int.bmod_eq_of_le (by omega) (by omega)] at h2
  exact h2
theorem sub_iff (p s : BitVec 64) : (p &&& ~~~s = 0#64) ↔ (p ||| s = s) := by
  constructor
  · intro h
    apply BitVec.eq_of_getLsbD_eq
    intro i hi
    have := congrArg (fun x => x.getLsbD i) h
    simp [hi] at this ⊢
    intro hp; exact this hp
  · intro h
    apply BitVec.eq_of_getLsbD_eq
    intro i hi
    have := congrArg (fun x => x.getLsbD i) h
    simp [hi] at this ⊢
    intro hp; exact this hp
end Go.Ib

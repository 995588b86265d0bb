/- Words of 32 bits as natural numbers, and the laws by which the walk reckons with them. No conditions. -/
import Derived.WalkKit
import Derived.WalkSpells
import Derived.WalkLawsBesides
import Derived.BigQuiet
import Derived.Deep.QuietTactic
import Derived.Lib.Hide
namespace Go.Sha
open Go.RowKit

def add32 (a b : Nat) : Nat := (a + b) % 4294967296
def xor32 (a b : Nat) : Nat := (a ^^^ b) % 4294967296
def and32 (a b : Nat) : Nat := (a &&& b) % 4294967296
def or32 (a b : Nat) : Nat := (a ||| b) % 4294967296
def shl32 (a s : Nat) : Nat := (a * 2 ^ (min s 32)) % 4294967296
def shr32 (a s : Nat) : Nat := a / 2 ^ (min s 32)
/-- A word as a value. -/
abbrev U (n : Nat) : Value := .int .u32 (n : Int)


theorem mod_xor (a b : Nat) : (a % 4294967296) ^^^ (b % 4294967296) = (a ^^^ b) % 4294967296 := by
  rw [show 4294967296 = 2 ^ 32 from rfl, Nat.xor_mod_two_pow]
theorem mod_and (a b : Nat) : (a % 4294967296) &&& (b % 4294967296) = (a &&& b) % 4294967296 := by
  rw [show 4294967296 = 2 ^ 32 from rfl, Nat.and_mod_two_pow]
theorem mod_or (a b : Nat) : (a % 4294967296) ||| (b % 4294967296) = (a ||| b) % 4294967296 := by
  rw [show 4294967296 = 2 ^ 32 from rfl, Nat.or_mod_two_pow]
theorem ofInt_nat (n : Nat) : BitVec.ofInt 32 (n : Int) = BitVec.ofNat 32 n := by simp
theorem bits_xor (a b : Nat) : bits .xor .u32 (a : Int) (b : Int) = ((xor32 a b : Nat) : Int) := by
  have h : bits .xor .u32 (a : Int) (b : Int) = ((BitVec.ofInt 32 (a : Int) ^^^ BitVec.ofInt 32 (b : Int)).toNat : Int) % 4294967296 := by rw [← IntKind.wrap_u32]; rfl
  rw [h, ofInt_nat, ofInt_nat, BitVec.toNat_xor, BitVec.toNat_ofNat, BitVec.toNat_ofNat]
  show ((((a % 4294967296) ^^^ (b % 4294967296)) : Nat) : Int) % 4294967296 = _
  rw [mod_xor]; unfold xor32; omega
theorem bits_and (a b : Nat) : bits .and .u32 (a : Int) (b : Int) = ((and32 a b : Nat) : Int) := by
  have h : bits .and .u32 (a : Int) (b : Int) = ((BitVec.ofInt 32 (a : Int) &&& BitVec.ofInt 32 (b : Int)).toNat : Int) % 4294967296 := by rw [← IntKind.wrap_u32]; rfl
  rw [h, ofInt_nat, ofInt_nat, BitVec.toNat_and, BitVec.toNat_ofNat, BitVec.toNat_ofNat]
  show ((((a % 4294967296) &&& (b % 4294967296)) : Nat) : Int) % 4294967296 = _
  rw [mod_and]; unfold and32; omega
theorem bits_or (a b : Nat) : bits .or .u32 (a : Int) (b : Int) = ((or32 a b : Nat) : Int) := by
  have h : bits .or .u32 (a : Int) (b : Int) = ((BitVec.ofInt 32 (a : Int) ||| BitVec.ofInt 32 (b : Int)).toNat : Int) % 4294967296 := by rw [← IntKind.wrap_u32]; rfl
  rw [h, ofInt_nat, ofInt_nat, BitVec.toNat_or, BitVec.toNat_ofNat, BitVec.toNat_ofNat]
  show ((((a % 4294967296) ||| (b % 4294967296)) : Nat) : Int) % 4294967296 = _
  rw [mod_or]; unfold or32; omega

theorem op_add (t : TypeId) (a b : Nat) : binOp .add t (U a) (U b) = pure (U (add32 a b)) := by
  simp only [U, binOp_add, Op.intArith, IntKind.wrap_u32, add32]
  rfl
theorem op_xor (t : TypeId) (a b : Nat) : binOp .xor t (U a) (U b) = pure (U (xor32 a b)) := by
  have h := bits_xor a b
  simp only [U, ← h]
  simp [binOp, Op.intBits, bits]
theorem op_and (t : TypeId) (a b : Nat) : binOp .and t (U a) (U b) = pure (U (and32 a b)) := by
  have h := bits_and a b
  simp only [U, ← h]
  simp [binOp, Op.intBits, bits]
theorem op_or (t : TypeId) (a b : Nat) : binOp .or t (U a) (U b) = pure (U (or32 a b)) := by
  have h := bits_or a b
  simp only [U, ← h]
  simp [binOp, Op.intBits, bits]
theorem op_not (a : Nat) : Op.unary .xor (U a) = pure (U (xor32 4294967295 a)) := by
  have h := bits_xor 4294967295 a
  show _ = pure (Value.int .u32 ((xor32 4294967295 a : Nat) : Int))
  rw [← h]
  rfl
theorem op_shl (t : TypeId) (a s : Nat) (yk : IntKind) : binOp .shl t (U a) (.int yk (s : Int)) = pure (U (shl32 a s)) := by
  have e : ((a : Int) * 2 ^ (min s 32)) % 4294967296 = ((shl32 a s : Nat) : Int) := by rw [shl32, Int.natCast_emod, Int.natCast_mul, Int.natCast_pow]; rfl
  simp only [U, ← e]
  simp [binOp, Op.shift, IntKind.bits, IntKind.wrap_u32]
  intro h; omega
theorem op_shr (t : TypeId) (a s : Nat) (yk : IntKind) : binOp .shr t (U a) (.int yk (s : Int)) = pure (U (shr32 a s)) := by
  have e : ((a : Int).fdiv (2 ^ (min s 32))) = ((shr32 a s : Nat) : Int) := by
    rw [Int.fdiv_eq_ediv_of_nonneg _ (by apply Int.le_of_lt; exact Int.pow_pos (by decide)), shr32, Int.natCast_ediv, Int.natCast_pow]; rfl
  simp only [U, ← e]
  simp [binOp, Op.shift, IntKind.bits]
  intro h; omega
theorem op_shl_lit (t : TypeId) (a s : Nat) (yk : IntKind) : binOp .shl t (U a) (.int yk (no_index (OfNat.ofNat s))) = pure (U (shl32 a s)) := op_shl t a s yk
theorem op_shr_lit (t : TypeId) (a s : Nat) (yk : IntKind) : binOp .shr t (U a) (.int yk (no_index (OfNat.ofNat s))) = pure (U (shr32 a s)) := op_shr t a s yk
theorem or32_comm (a b : Nat) : or32 a b = or32 b a := by unfold or32; rw [Nat.or_comm]
theorem xor32_comm (a b : Nat) : xor32 a b = xor32 b a := by unfold xor32; rw [Nat.xor_comm]
theorem byte_mod (b : UInt8) : (b.toNat : Int) % 4294967296 = (b.toNat : Int) := by have := b.toNat_lt; omega
/-- A word turned right. -/
def rot (x n : Nat) : Nat := or32 (shr32 x n) (shl32 x (32 - n))
theorem wraps_u64' (n : Int) (h0 : 0 ≤ n) (h1 : n < 2 ^ 64) : IntKind.u64.wrap n = n := IntWalk.u64_in _ (by omega)
theorem mask31 (k : Int) (h1 : -31 ≤ k) (h2 : k ≤ -1) : bits .and .u64 (IntKind.u64.wrap k) 31 = ((32 - k.natAbs : Nat) : Int) := by
  have e : IntKind.u64.wrap k = k + 18446744073709551616 := by rw [IntKind.wrap_u64]; omega
  rw [e]
  have := bits_mask .u64 64 (by decide) wraps_u64' 5 (by decide) (k + 18446744073709551616) (by omega) (by omega)
  refine (show bits .and .u64 (k + 18446744073709551616) 31 = (k + 18446744073709551616) % 32 from this).trans ?_
  omega
end Go.Sha

/- OnesCount64 below 65536: two bytes side by side. -/
import Derived.Test.YtnkinjilnccmfaaPp
import Derived.Test.YtnkinjilnccmfaaIu
namespace Go.Theory
open Go.Ib Go.RowKit
def f1 (a : Nat) : Nat := (a / 2 &&& 85) + (a &&& 85)
def f2 (a : Nat) : Nat := (a / 4 &&& 51) + (a &&& 51)
def f3 (a : Nat) : Nat := (a / 16 + a) &&& 15
theorem and_two (x m : Nat) : x &&& (m + 256 * m) = (x % 256 &&& (m + 256 * m) % 256) + 256 * (x / 256 &&& (m + 256 * m) / 256) := by
  have h := Nat.div_add_mod (x &&& (m + 256 * m)) 256
  rw [show (256 : Nat) = 2 ^ 8 from rfl] at *
  rw [Nat.and_mod_two_pow, Nat.and_div_two_pow] at h
  omega
theorem half1 : ∀ a : Fin 256, ∀ b : Fin 2, (a.1 / 2 + 128 * b.1) &&& 85 = (a.1 / 2 &&& 85) := by decide +kernel
theorem half2 : ∀ a : Fin 256, ∀ b : Fin 4, (a.1 / 4 + 64 * b.1) &&& 51 = (a.1 / 4 &&& 51) := by decide +kernel
theorem half3 : ∀ a : Fin 256, ∀ b : Fin 5, (a.1 % 16 ≤ 4 ∧ a.1 / 16 ≤ 4) → (a.1 / 16 + 16 * b.1 + a.1) < 256 ∧ ((a.1 / 16 + 16 * b.1 + a.1) &&& 15) = f3 a.1 := by decide +kernel
theorem f1_lt : ∀ a : Fin 256, f1 a.1 < 256 := by decide +kernel
theorem f2_lt : ∀ a : Fin 256, f2 (f1 a.1) < 256 ∧ f2 (f1 a.1) % 16 ≤ 4 ∧ f2 (f1 a.1) / 16 ≤ 4 := by decide +kernel
theorem f3_pop : ∀ a : Fin 256, f3 (f2 (f1 a.1)) = popTo a.1 8 ∧ f3 (f2 (f1 a.1)) ≤ 8 := by decide +kernel
theorem step1 (a b : Nat) (ha : a < 256) (hb : b < 256) : ((a + 256 * b) / 2 &&& 21845) + ((a + 256 * b) &&& 21845) = f1 a + 256 * f1 b := by
  have e1 := and_two ((a + 256 * b) / 2) 85
  have e2 := and_two (a + 256 * b) 85
  rw [show (85 : Nat) + 256 * 85 = 21845 from rfl] at e1 e2
  rw [show (21845 : Nat) % 256 = 85 from rfl, show (21845 : Nat) / 256 = 85 from rfl] at e1 e2
  have h1 := half1 ⟨a, ha⟩ ⟨b % 2, by omega⟩
  dsimp only at h1
  rw [show (a + 256 * b) / 2 % 256 = a / 2 + 128 * (b % 2) by omega, show (a + 256 * b) / 2 / 256 = b / 2 by omega, h1] at e1
  rw [show (a + 256 * b) % 256 = a by omega, show (a + 256 * b) / 256 = b by omega] at e2
  rw [e1, e2]
  unfold f1
  omega
theorem step2 (a b : Nat) (ha : a < 256) (hb : b < 256) : ((a + 256 * b) / 4 &&& 13107) + ((a + 256 * b) &&& 13107) = f2 a + 256 * f2 b := by
  have e1 := and_two ((a + 256 * b) / 4) 51
  have e2 := and_two (a + 256 * b) 51
  rw [show (51 : Nat) + 256 * 51 = 13107 from rfl] at e1 e2
  rw [show (13107 : Nat) % 256 = 51 from rfl, show (13107 : Nat) / 256 = 51 from rfl] at e1 e2
  have h1 := half2 ⟨a, ha⟩ ⟨b % 4, by omega⟩
  dsimp only at h1
  rw [show (a + 256 * b) / 4 % 256 = a / 4 + 64 * (b % 4) by omega, show (a + 256 * b) / 4 / 256 = b / 4 by omega, h1] at e1
  rw [show (a + 256 * b) % 256 = a by omega, show (a + 256 * b) / 256 = b by omega] at e2
  rw [e1, e2]
  unfold f2
  omega
theorem step3 (a b : Nat) (ha : a < 256) (hb : b < 256) (h1 : a % 16 ≤ 4 ∧ a / 16 ≤ 4) (h2 : b % 16 ≤ 4 ∧ b / 16 ≤ 4) : ((a + 256 * b) / 16 + (a + 256 * b)) &&& 3855 = f3 a + 256 * f3 b := by
  have e2 := and_two ((a + 256 * b) / 16 + (a + 256 * b)) 15
  rw [show (15 : Nat) + 256 * 15 = 3855 from rfl] at e2
  rw [show (3855 : Nat) % 256 = 15 from rfl, show (3855 : Nat) / 256 = 15 from rfl] at e2
  obtain ⟨k1, k2⟩ := half3 ⟨a, ha⟩ ⟨b % 16, by omega⟩ h1
  obtain ⟨k3, k4⟩ := half3 ⟨b, hb⟩ ⟨0, by omega⟩ h2
  dsimp only at k1 k2 k3 k4
  rw [show ((a + 256 * b) / 16 + (a + 256 * b)) % 256 = a / 16 + 16 * (b % 16) + a by omega, show ((a + 256 * b) / 16 + (a + 256 * b)) / 256 = b / 16 + 16 * 0 + b by omega, k2, k4] at e2
  exact e2
theorem popTo_low (a b : Nat) (ha : a < 256) : ∀ k, k ≤ 8 → popTo (a + 256 * b) k = popTo a k
  | 0, _ => rfl
  | k + 1, h => by
    have ih := popTo_low a b ha k (by omega)
    simp only [popTo, ih]
    have : (a + 256 * b).testBit k = a.testBit k := by
      rw [Nat.add_comm, show (256 : Nat) * b = 2 ^ 8 * b from rfl, Nat.testBit_two_pow_mul_add _ ha, if_pos (by omega)]
    rw [this]
theorem popTo_high (a b : Nat) (ha : a < 256) : ∀ k, popTo (a + 256 * b) (8 + k) = popTo a 8 + popTo b k
  | 0 => popTo_low a b ha 8 (Nat.le_refl _)
  | k + 1 => by
    have ih := popTo_high a b ha k
    rw [← Nat.add_assoc]
    simp only [popTo] at ih ⊢
    have : (a + 256 * b).testBit (8 + k) = b.testBit k := by
      rw [Nat.add_comm, show (256 : Nat) * b = 2 ^ 8 * b from rfl, Nat.testBit_two_pow_mul_add _ ha, if_neg (by omega), Nat.add_sub_cancel_left]
    rw [this, ih]
    omega
theorem mask_low (y M m : Nat) (hy : y < 65536) (hM : M % 65536 = m) : y &&& M = y &&& m := by
  have h1 : (y &&& M) % 2 ^ 16 = y % 2 ^ 16 &&& M % 2 ^ 16 := Nat.and_mod_two_pow
  have h2 : y &&& M ≤ y := Nat.and_le_left
  rw [show (2 : Nat) ^ 16 = 65536 from rfl, hM, Nat.mod_eq_of_lt hy, Nat.mod_eq_of_lt (by omega)] at h1
  exact h1
theorem two_bytes (a b : Nat) (ha : a < 256) (hb : b < 256) : ones ((a + 256 * b : Nat) : Int) = (popTo a 8 + popTo b 8 : Nat) := by
  have l1 := f1_lt ⟨a, ha⟩
  have l2 := f1_lt ⟨b, hb⟩
  obtain ⟨l3, l4⟩ := f2_lt ⟨a, ha⟩
  obtain ⟨l5, l6⟩ := f2_lt ⟨b, hb⟩
  obtain ⟨p1, p2⟩ := f3_pop ⟨a, ha⟩
  obtain ⟨p3, p4⟩ := f3_pop ⟨b, hb⟩
  dsimp only at *
  have s1 := step1 a b ha hb
  have s2 := step2 (f1 a) (f1 b) l1 l2
  have s3 := step3 (f2 (f1 a)) (f2 (f1 b)) l3 l5 l4 l6
  have e1 : ones1 ((a + 256 * b : Nat) : Int) = ((f1 a + 256 * f1 b : Nat) : Int) := by
    unfold ones1
    rw [show (((a + 256 * b : Nat) : Int) / 2) = (((a + 256 * b) / 2 : Nat) : Int) by omega, show (6148914691236517205 : Int) = ((6148914691236517205 : Nat) : Int) from rfl, bu_and _ _ (by omega) (by omega), bu_and _ _ (by omega) (by omega),
      mask_low _ 6148914691236517205 21845 (by omega) (by rfl), mask_low _ 6148914691236517205 21845 (by omega) (by rfl), ← Int.natCast_add, s1, wrap_u64_small _ (by omega)]
  have e2 : ones2 ((f1 a + 256 * f1 b : Nat) : Int) = ((f2 (f1 a) + 256 * f2 (f1 b) : Nat) : Int) := by
    unfold ones2
    rw [show (((f1 a + 256 * f1 b : Nat) : Int) / 4) = (((f1 a + 256 * f1 b) / 4 : Nat) : Int) by omega, show (3689348814741910323 : Int) = ((3689348814741910323 : Nat) : Int) from rfl, bu_and _ _ (by omega) (by omega), bu_and _ _ (by omega) (by omega),
      mask_low _ 3689348814741910323 13107 (by omega) (by rfl), mask_low _ 3689348814741910323 13107 (by omega) (by rfl), ← Int.natCast_add, s2, wrap_u64_small _ (by omega)]
  generalize hc : f2 (f1 a) = c at *
  generalize hd : f2 (f1 b) = d at *
  have e3 : ones3 ((c + 256 * d : Nat) : Int) = ((f3 c + 256 * f3 d : Nat) : Int) := by
    unfold ones3
    rw [show (((c + 256 * d : Nat) : Int) / 16 + ((c + 256 * d : Nat) : Int)) = (((c + 256 * d) / 16 + (c + 256 * d) : Nat) : Int) by omega, wrap_u64_small _ (by omega), show (1085102592571150095 : Int) = ((1085102592571150095 : Nat) : Int) from rfl, bu_and _ _ (by omega) (by omega)]
    have h16 : (c + 256 * d) / 16 + (c + 256 * d) < 65536 ∨ 65536 ≤ (c + 256 * d) / 16 + (c + 256 * d) := by omega
    have hd4 : d ≤ 68 := by omega
    rw [mask_low _ 1085102592571150095 3855 (by omega) (by rfl), s3]
  unfold ones
  rw [e1, e2, e3]
  generalize f3 c = p at *
  generalize f3 d = q at *
  have e4 : ones4 ((p + 256 * q : Nat) : Int) = ((p + 256 * q + q : Nat) : Int) := by
    unfold ones4
    rw [show (((p + 256 * q : Nat) : Int) + ((p + 256 * q : Nat) : Int) / 256) = ((p + 256 * q + q : Nat) : Int) by omega, wrap_u64_small _ (by omega)]
  have e5 : ones5 ((p + 256 * q + q : Nat) : Int) = ((p + 256 * q + q : Nat) : Int) := by
    unfold ones5
    rw [show (((p + 256 * q + q : Nat) : Int) + ((p + 256 * q + q : Nat) : Int) / 65536) = ((p + 256 * q + q : Nat) : Int) by omega, wrap_u64_small _ (by omega)]
  have e6 : ones6 ((p + 256 * q + q : Nat) : Int) = ((p + 256 * q + q : Nat) : Int) := by
    unfold ones6
    rw [show (((p + 256 * q + q : Nat) : Int) + ((p + 256 * q + q : Nat) : Int) / 4294967296) = ((p + 256 * q + q : Nat) : Int) by omega, wrap_u64_small _ (by omega)]
  rw [e4, e5, e6, IntWalk.wrap64_in _ (by omega), show (127 : Int) = ((127 : Nat) : Int) from rfl, b_and _ _ (by omega) (by omega), ← p1, ← p3]
  congr 1
  rw [show (127 : Nat) = 2 ^ 7 - 1 from rfl, Nat.and_two_pow_sub_one_eq_mod]
  omega
theorem ones_pop16 (x : Nat) (hx : x < 65536) : ones (x : Int) = (pop x : Int) := by
  have h := two_bytes (x % 256) (x / 256) (by omega) (by omega)
  rw [show x % 256 + 256 * (x / 256) = x by omega] at h
  rw [h]
  unfold pop
  have h2 := popTo_high (x % 256) (x / 256) (by omega) 8
  rw [show x % 256 + 256 * (x / 256) = x by omega] at h2
  rw [← h2]
end Go.Theory

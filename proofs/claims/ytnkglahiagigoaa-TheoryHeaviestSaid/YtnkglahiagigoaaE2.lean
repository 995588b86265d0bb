/- theory: the reference's Has, With at sets that are numbers. -/
import Derived.Test.YtnkglahiagigoaaE1
namespace Go.Theory
open Go.Own
theorem shr_mod (s k : Nat) : (((s : Int) / 2 ^ k).tmod 2 != 0) = s.testBit k := by
  have e0 : (s : Int) / 2 ^ k = ((s / 2 ^ k : Nat) : Int) := by simp
  have e : ((s : Int) / 2 ^ k).tmod 2 = ((s / 2 ^ k % 2 : Nat) : Int) := by rw [e0]; rfl
  rw [e, Nat.testBit_eq_decide_div_mod_eq]
  have : s / 2 ^ k % 2 < 2 := Nat.mod_lt _ (by omega)
  by_cases h : s / 2 ^ k % 2 = 1
  · simp [h]
  · have h0 : s / 2 ^ k % 2 = 0 := by omega
    simp [h0]
end Go.Theory
namespace Go.Proofs.Ytnkglahiagigoaa
open Go.RowKit Go.Own Go.Theory Go.BigFrame
theorem has_any (s k : Nat) (hs : s < 65536) (hk : k < 62) (w : World) : Calls Try.prog 30 #[.int .i64 s, .int .i64 k] w fun e w' => e = .returned (.bool (s.testBit k)) ∧ w' = w := by
  go_enter Try.func30, Try.ntmps30
  go_wp2
  go_ret
  rw [← shr_mod s k]
  exact ⟨rfl, rfl⟩
theorem with_any (s k : Nat) (hs : s < 65536) (hk : k < 16) (w : World) : Calls Try.prog 54 #[.int .i64 s, .int .i64 k] w fun e w' => e = .returned (.int .i64 ((s ||| 2 ^ k : Nat) : Int)) ∧ w' = w := by
  have h2 : (2 : Nat) ^ k < 65536 := Nat.pow_lt_pow_right (n := 16) (by omega) hk
  have h4 : wrap64 ((2 : Int) ^ k) = ((2 ^ k : Nat) : Int) := by
    rw [show ((2 : Int) ^ k) = ((2 ^ k : Nat) : Int) by simp]
    generalize (2 : Nat) ^ k = m at h2 ⊢
    exact Go.IntWalk.wrap64_in _ (by omega)
  have h3 : bits .or .i64 (s : Int) (wrap64 ((2 : Int) ^ k)) = ((s ||| 2 ^ k : Nat) : Int) := by
    rw [h4]
    exact Go.Ib.b_or s (2 ^ k) (by omega) (by omega)
  clear h4
  have H3 := Lib.hid h3; clear h3
  go_enter Try.func54, Try.ntmps54
  go_wp2
  go_ret
  rw [← H3.out]
  exact ⟨rfl, rfl⟩
end Go.Proofs.Ytnkglahiagigoaa

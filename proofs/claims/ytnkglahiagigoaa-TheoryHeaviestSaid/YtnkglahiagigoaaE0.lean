/- theory: the small functions on sets. -/
import Derived.Test.YtnkglahiagigoaaRows
import Derived.Test.YtnkglahiagigoaaIb
import Derived.Test.YtnkglahiagigoaaOwn
namespace Go.Theory
open Go.Ib
/-- a number of a word -/
def rg (z : Int) : Prop := -9223372036854775808 ≤ z ∧ z ≤ 9223372036854775807
/-- p is a part of s -/
def sub (p s : Int) : Bool := decide (B p &&& ~~~B s = 0#64)
theorem wrap_rg (x : Int) : rg (IntKind.i64.wrap x) := by
  unfold rg
  simp only [IntKind.wrap, IntKind.bits, IntKind.signed]
  simp
  split <;> omega
theorem bits_rg (o : BinOp) (a b : Int) : rg (bits o .i64 a b) := wrap_rg _
theorem rg0 : rg 0 := by unfold rg; omega
theorem B0 : B 0 = 0#64 := rfl
theorem sub_andNot (p s : Int) : (bits .andNot .i64 p s == 0) = sub p s := by
  unfold sub
  by_cases h : bits .andNot .i64 p s = 0
  · have h2 := B_andNot p s
    rw [h, B0] at h2
    simp [h, ← h2]
  · have : ¬ (B p &&& ~~~B s = 0#64) := fun h2 => h (B_inj (bits_rg _ _ _) rg0 (by rw [B_andNot, h2]; rfl))
    simp [h, this]
theorem sub_or (p s : Int) (hs : rg s) : (bits .or .i64 p s == s) = sub p s := by
  unfold sub
  by_cases h : bits .or .i64 p s = s
  · have h2 := B_or p s
    rw [h] at h2
    simp [h, (sub_iff _ _).2 h2.symm]
  · have : ¬ (B p &&& ~~~B s = 0#64) := fun h2 => h (B_inj (bits_rg _ _ _) hs (by rw [B_or]; exact (sub_iff _ _).1 h2))
    simp [h, this]
end Go.Theory
namespace Go.Proofs.Ytnkglahiagigoaa
open Go.RowKit Go.Own Go.Theory
theorem contains_any (s p : Int) (w : World) : Calls Try.prog 42 #[.int .i64 s, .int .i64 p] w fun e w' => e = .returned (.bool (sub p s)) ∧ w' = w := by
  rw [← sub_andNot]
  go_enter Try.func42, Try.ntmps42
  go_wp2
  go_ret
  exact ⟨rfl, rfl⟩
theorem in_any (p s : Int) (hs : rg s) (w : World) : Calls Try.prog 48 #[.int .i64 p, .int .i64 s] w fun e w' => e = .returned (.bool (sub p s)) ∧ w' = w := by
  rw [← sub_or p s hs]
  go_enter Try.func48, Try.ntmps48
  go_wp2
  go_ret
  exact ⟨rfl, rfl⟩
end Go.Proofs.Ytnkglahiagigoaa

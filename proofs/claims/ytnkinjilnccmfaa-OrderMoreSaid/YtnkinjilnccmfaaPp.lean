/- How many elements a set has: OnesCount64 in plain Lean. -/
import Derived.Test.YtnkinjilnccmfaaIb
import Derived.RowKit
namespace Go.Theory
open Go.Ib Go.RowKit
/-- how many of the first k numbers a set has -/
def popTo (x : Nat) : Nat → Nat
  | 0 => 0
  | k + 1 => popTo x k + if x.testBit k then 1 else 0
def pop (x : Nat) : Nat := popTo x 16
theorem popTo_mono {x y : Nat} (h : ∀ k, x.testBit k = true → y.testBit k = true) : ∀ k, popTo x k ≤ popTo y k
  | 0 => Nat.le_refl _
  | k + 1 => by
    have ih := popTo_mono h k
    simp only [popTo]
    cases hx : x.testBit k with
    | true => rw [h k hx]; simp; omega
    | false => cases y.testBit k <;> simp <;> omega
theorem popTo_lt {x y : Nat} (h : ∀ k, x.testBit k = true → y.testBit k = true) : ∀ k, (∃ j, j < k ∧ y.testBit j = true ∧ x.testBit j = false) → popTo x k < popTo y k
  | 0, ⟨j, h, _⟩ => by omega
  | k + 1, ⟨j, hj, h1, h2⟩ => by
    have hm := popTo_mono h k
    simp only [popTo]
    by_cases e : j = k
    · subst e
      rw [h1, h2]; simp; omega
    · have ih := popTo_lt h k ⟨j, by omega, h1, h2⟩
      cases hx : x.testBit k with
      | true => rw [h k hx]; simp; omega
      | false => cases y.testBit k <;> simp <;> omega
theorem pop_le16 (x : Nat) : pop x ≤ 16 := by
  have : ∀ k, popTo x k ≤ k := fun k => by
    induction k with
    | zero => exact Nat.le_refl _
    | succ k ih => simp only [popTo]; split <;> omega
  exact this 16
/-- what the library computes -/
def ones1 (x : Int) : Int := IntKind.u64.wrap (bits .and .u64 (x / 2) 6148914691236517205 + bits .and .u64 x 6148914691236517205)
def ones2 (x : Int) : Int := IntKind.u64.wrap (bits .and .u64 (x / 4) 3689348814741910323 + bits .and .u64 x 3689348814741910323)
def ones3 (x : Int) : Int := bits .and .u64 (IntKind.u64.wrap (x / 16 + x)) 1085102592571150095
def ones4 (x : Int) : Int := IntKind.u64.wrap (x + x / 256)
def ones5 (x : Int) : Int := IntKind.u64.wrap (x + x / 65536)
def ones6 (x : Int) : Int := IntKind.u64.wrap (x + x / 4294967296)
def ones (x : Int) : Int := bits .and .i64 (wrap64 (ones6 (ones5 (ones4 (ones3 (ones2 (ones1 x))))))) 127
theorem ones_all : ∀ a : Fin 256, ones (a.1 : Int) = (pop a.1 : Int) := by decide +kernel
theorem ones_pop (x : Nat) (hx : x < 256) : ones (x : Int) = (pop x : Int) := ones_all ⟨x, hx⟩
end Go.Theory

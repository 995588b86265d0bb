/- One case more. No program. -/
import Derived.Test.YtbmnbdkbgpajeaaGreatDoorN0
namespace Go.Bn
theorem stepL {p : Nat → Prop} {n : Nat} (h : ∀ j, j < n → p j) (h2 : p n) : ∀ j, j < n + 1 → p j := fun j hj => by
  by_cases e : j = n
  · exact e ▸ h2
  · exact h j (by omega)
theorem none0 {p : Nat → Prop} : ∀ j, j < 0 → p j := fun j hj => by omega
end Go.Bn

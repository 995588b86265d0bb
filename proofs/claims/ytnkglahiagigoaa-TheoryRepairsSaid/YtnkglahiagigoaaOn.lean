/- The library's count of a set's elements. -/
import Derived.Test.YtnkglahiagigoaaRows
import Derived.Test.YtnkglahiagigoaaIb
import Derived.Test.YtnkglahiagigoaaOwn
import Derived.Test.YtnkglahiagigoaaPp
namespace Go.Proofs.Ytnkglahiagigoaa
open Go.RowKit Go.Own Go.BigFrame Go.Theory
set_option maxRecDepth 100000 in
theorem ones64_any (x : Nat) (hx : x < 256) (w : World) : Calls Try.prog 93 #[.int .u64 x] w fun e w' => e = .returned (.int .i64 (pop x)) ∧ w' = w := by
  have h := ones_pop x hx
  rw [← h]
  clear h
  go_enter Try.func93, Try.ntmps93
  go_wp2
  go_ret
  exact ⟨rfl, rfl⟩
set_option maxRecDepth 100000 in
theorem ones_any (x : Nat) (hx : x < 256) (w : World) : Calls Try.prog 73 #[.int .u64 x] w fun e w' => e = .returned (.int .i64 (pop x)) ∧ w' = w := by
  go_enter Try.func73, Try.ntmps73
  go_wp2_with (fail)
  refine (ones64_any x hx w).mono ?_
  rintro e w2 ⟨rfl, rfl⟩
  go_wp2
  go_ret
  exact ⟨rfl, rfl⟩
end Go.Proofs.Ytnkglahiagigoaa

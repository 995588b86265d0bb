/- The library's count of a set's elements. -/
import Derived.Test.YtcbmifaobdamhaaRows
import Derived.Test.YtcbmifaobdamhaaIb
import Derived.Test.YtcbmifaobdamhaaOwn
import Derived.Test.YtcbmifaobdamhaaPp
namespace Go.Proofs.Ytcbmifaobdamhaa
open Go.RowKit Go.Own Go.BigFrame Go.Theory
set_option maxRecDepth 100000 in
theorem ones64_any (x : Nat) (hx : x < 256) (w : World) : Calls Try.prog 74 #[.int .u64 x] w fun e w' => e = .returned (.int .i64 (pop x)) ∧ w' = w := by
  have h := ones_pop x hx
  rw [← h]
  clear h
  go_enter Try.func74, Try.ntmps74
  go_wp2
  go_ret
  exact ⟨rfl, rfl⟩
set_option maxRecDepth 100000 in
theorem ones_any (x : Nat) (hx : x < 256) (w : World) : Calls Try.prog 65 #[.int .u64 x] w fun e w' => e = .returned (.int .i64 (pop x)) ∧ w' = w := by
  go_enter Try.func65, Try.ntmps65
  go_wp2_with (fail)
  refine (ones64_any x hx w).mono ?_
  rintro e w2 ⟨rfl, rfl⟩
  go_wp2
  go_ret
  exact ⟨rfl, rfl⟩
end Go.Proofs.Ytcbmifaobdamhaa

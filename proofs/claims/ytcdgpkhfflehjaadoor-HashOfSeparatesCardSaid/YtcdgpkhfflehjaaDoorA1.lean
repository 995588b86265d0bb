/- The walks over the rotations. -/
import Derived.Test.YtcdgpkhfflehjaaDoorRows
import Derived.Test.YtcdgpkhfflehjaaDoorU
namespace Go.Proofs.YtcdgpkhfflehjaaDoor
open Go.RowKit Go.Sha
attribute [local go_sem high] op_add op_xor op_and op_or op_not op_shl op_shr op_shl_lit op_shr_lit byte_mod
set_option maxHeartbeats 400000 in
theorem rl_any (x : Nat) (k : Int) (w : World) (h1 : -31 ≤ k) (h2 : k ≤ -1) :
    Calls Tryd.prog 40 #[U x, .int .i64 k] w fun e w' => e = .returned (U (rot x k.natAbs)) ∧ w = w' := by
  have hk := mask31 k h1 h2
  have h1 : IntKind.u64.wrap (32 - ((32 - k.natAbs : Nat) : Int)) = (k.natAbs : Int) := by rw [IntWalk.u64_in _ (by omega)]; omega
  go_enter Tryd.func40, Tryd.ntmps40
  go_wp2
  go_ret
  exact ⟨congrArg Ending.returned (congrArg U (or32_comm _ _)), rfl⟩
set_option maxHeartbeats 400000 in
theorem rotr_any (x : Nat) (k : Int) (w : World) (h0 : 0 ≤ k) (h1 : k ≤ 31) :
    Calls Tryd.prog 29 #[U x, .int .i64 k] w fun e w' => e = .returned (U (rot x k.toNat)) ∧ ∃ n, w' = w.drewN n := by
  obtain ⟨s, rfl⟩ := Int.eq_ofNat_of_zero_le h0
  have h2 : (32 : Int) - (s : Int) = ((32 - s : Nat) : Int) := by omega
  go_enter Tryd.func29, Tryd.ntmps29
  go_wp2
  go_quiet (fail)
  go_wp2
  go_ret
  exact ⟨rfl, _, rfl⟩
set_option maxHeartbeats 400000 in
theorem mix_any (x : Nat) (i j k : Int) (w : World) (hi : 1 ≤ i) (hj : 1 ≤ j) (hk : 1 ≤ k) (hi' : i ≤ 31) (hj' : j ≤ 31) (hk' : k ≤ 31) :
    Calls Tryd.prog 37 #[U x, .int .i64 i, .int .i64 j, .int .i64 k] w fun e w' => e = .returned (U (xor32 (xor32 (rot x i.natAbs) (rot x j.natAbs)) (rot x k.natAbs))) ∧ w = w' := by
  go_enter Tryd.func37, Tryd.ntmps37
  go_wp2_with (go_at_call 40; refine (rl_any _ _ _ (by omega) (by omega)).mono ?_; rintro e w' ⟨rfl, rfl⟩)
  go_ret
  exact ⟨by simp, rfl⟩
end Go.Proofs.YtcdgpkhfflehjaaDoor

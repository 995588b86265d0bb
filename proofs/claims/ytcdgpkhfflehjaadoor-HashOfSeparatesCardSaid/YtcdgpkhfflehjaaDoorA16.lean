/- The walk over HashEqualIsEquality. -/
import Derived.Test.YtcdgpkhfflehjaaDoorA15
namespace Go.Proofs.YtcdgpkhfflehjaaDoor
open Go.RowKit Go.Sha Go.Own
attribute [local go_sem high] op_str_eql op_str_neq
attribute [local go_sem] str_size
theorem equalLaw_any (a b : List UInt8) (w : World) (hK : Cells w 1 0 (Kt.map U)) (h1 : 1 < w.heap.size) : Calls Tryd.prog 9 #[str a, str b] w fun e w' => e = .returned (.bool true) ∧ Below w.heap.size w w' := by
  have HK := Lib.hid hK; clear hK
  have hap : (⟨a.toArray⟩ : ByteArray) ++ ⟨#[]⟩ = ⟨a.toArray⟩ := by
    have := str_append a []
    simpa using this
  by_cases hla : a.length ≤ 400
  · by_cases hlb : b.length ≤ 400
    · have hba : (b == a) = (a == b) := Bool.beq_comm
      go_enter Tryd.func9, Tryd.ntmps9
      go_upto_region 2 with (go_at_call 10; refine (sanity_any w HK.out h1).mono ?_; rintro e w1 ⟨rfl, hb1⟩)
      go_upto_region 5 with (go_at_call 24; refine (equal_any a b _ (by omega) (by omega)).mono ?_; rintro e wx ⟨rfl, n1, rfl⟩)
      go_upto_region 6 with (go_at_call 24; refine (equal_any b a _ (by omega) (by omega)).mono ?_; rintro e wx ⟨rfl, n2, rfl⟩)
      go_upto_region 7 with (go_at_call 24; refine (equal_any a a _ (by omega) (by omega)).mono ?_; rintro e wx ⟨rfl, n3, rfl⟩)
      go_wp2
      go_ret
      exact ⟨rfl, below_drewN hb1 _⟩
    · go_enter Tryd.func9, Tryd.ntmps9
      go_upto_region 2 with (go_at_call 10; refine (sanity_any w HK.out h1).mono ?_; rintro e w1 ⟨rfl, hb1⟩)
      go_wp2
      go_ret
      exact ⟨rfl, hb1⟩
  · go_enter Tryd.func9, Tryd.ntmps9
    go_upto_region 2 with (go_at_call 10; refine (sanity_any w HK.out h1).mono ?_; rintro e w1 ⟨rfl, hb1⟩)
    go_wp2
    go_ret
    exact ⟨rfl, hb1⟩
end Go.Proofs.YtcdgpkhfflehjaaDoor

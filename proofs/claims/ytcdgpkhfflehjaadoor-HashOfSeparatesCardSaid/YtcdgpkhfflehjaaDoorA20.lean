/- The walks over HashMacMatchesSpec and HashMacKeys. -/
import Derived.Test.YtcdgpkhfflehjaaDoorA19
namespace Go.Proofs.YtcdgpkhfflehjaaDoor
open Go.RowKit Go.Sha Go.Own
attribute [local go_sem high] op_str_eql op_str_neq
attribute [local go_sem] str_size str_append
set_option maxHeartbeats 400000 in
theorem macLaw_any (k m : List UInt8) (w : World) (hk0 : k.length ≤ maxLen) (hm0 : m.length ≤ maxLen) (hK : Cells w 0 0 (Kt.map U)) (hK1 : Cells w 1 0 (Kt.map U)) (h1 : 1 < w.heap.size) :
    Calls Tryd.prog 5 #[str k, str m] w fun e w' => e = .returned (.bool true) ∧ Below w.heap.size w w' := by
  unfold maxLen at hk0 hm0
  have HK := Lib.hid hK; clear hK
  have HK1 := Lib.hid hK1; clear hK1
  by_cases hk : k.length ≤ 400
  · by_cases hm : m.length ≤ 400
    · go_enter Tryd.func5, Tryd.ntmps5
      go_wp2_with (first | (go_at_call 10; refine (sanity_any w HK1.out h1).mono ?_; rintro e w1 ⟨rfl, hb1⟩; have hz1 := hb1.size) | (go_at_call 18; refine (mac_any k m (by omega) (by omega) w1 (HK1.out.below hb1 h1) (by omega)).mono ?_; rintro e w2 ⟨rfl, hb2⟩; have hz2 := hb2.size; have hb12 := hb1.trans (hb2.mono hz1)) | (go_at_call 19; refine (rmac_any k m (by omega) (by omega) w2 (HK.out.below hb12 (by omega)) (by omega)).mono ?_; rintro e w3 ⟨rfl, hb3⟩))
      go_ret
      exact ⟨by simp, hb12.trans (hb3.mono (by omega))⟩
    · go_enter Tryd.func5, Tryd.ntmps5
      go_wp2_with (first | (go_at_call 10; refine (sanity_any w HK1.out h1).mono ?_; rintro e w1 ⟨rfl, hb1⟩))
      go_ret
      exact ⟨rfl, hb1⟩
  · go_enter Tryd.func5, Tryd.ntmps5
    go_wp2_with (first | (go_at_call 10; refine (sanity_any w HK1.out h1).mono ?_; rintro e w1 ⟨rfl, hb1⟩))
    go_ret
    exact ⟨rfl, hb1⟩
theorem macF_long (k m : List UInt8) (h : 64 < k.length) : macF (sha k) m = macF k m := by
  have e1 : macKey k = sha k := by simp [macKey, h]
  have e2 : macKey (sha k) = sha k := by simp [macKey, sha_length]
  rw [macF, macF, e1, e2]
theorem macF_short (k m : List UInt8) (h : k.length < 64) : macF (k ++ [0]) m = macF k m := by
  have e1 : macKey k = k := by simp [macKey]; omega
  have e2 : macKey (k ++ [0]) = k ++ [0] := by simp [macKey]; omega
  have e3 : pad64 (k ++ [0]) = pad64 k := by
    rw [pad64, pad64, List.append_assoc]
    congr 1
    rw [show 64 - k.length = (64 - (k ++ [0]).length) + 1 by simp; omega, List.replicate_succ]
    rfl
  rw [macF, macF, e1, e2, e3]
theorem macF_len (k m : List UInt8) : (macF k m).length = 32 := by rw [macF, sha_length]
set_option maxHeartbeats 400000 in
theorem keysLaw_any (k m : List UInt8) (w : World) (hk0 : k.length ≤ maxLen) (hm0 : m.length ≤ maxLen) (hK1 : Cells w 1 0 (Kt.map U)) (h1 : 1 < w.heap.size) :
    Calls Tryd.prog 6 #[str k, str m] w fun e w' => e = .returned (.bool true) ∧ Below w.heap.size w w' := by
  unfold maxLen at hk0 hm0
  have HK1 := Lib.hid hK1; clear hK1
  by_cases hk : k.length ≤ 400
  · by_cases hm : m.length ≤ 400
    · obtain ⟨M, HM⟩ : ∃ M, Hid (M = macF k m) := ⟨_, rfl⟩
      have hml : M.length = 32 := by rw [HM.out, macF_len]
      by_cases hl : 64 < k.length
      · have hfl := macF_long k m hl
        rw [← HM.out] at hfl
        have c2 := fun W hW h1' => mac_any (sha k) m (by rw [sha_length]; omega) (by omega) W hW h1'
        rw [hfl] at c2
        have C2 := Lib.hid c2; clear c2 hfl hml
        go_enter Tryd.func6, Tryd.ntmps6
        go_upto_region 6 with (first | (go_at_call 10; refine (sanity_any w HK1.out h1).mono ?_; rintro e w1 ⟨rfl, hb1⟩; have hz1 := hb1.size) | (go_at_call 18; refine (mac_any k m (by omega) (by omega) w1 (HK1.out.below hb1 h1) (by omega)).mono ?_; rintro e w2 ⟨rfl, hb2⟩; have hz2 := hb2.size; have hb12 := hb1.trans (hb2.mono hz1)))
        rw [← HM.out]
        go_wp2_with (refine wpList_str_bytes (bs := k) rfl rfl rfl Tryd.underlying9 Tryd.underlying22 Tryd.underlying5 (by omega) ?_)
        intro sa cap w3 hsl hb3
        have hz3 := hb3.size
        have hb13 := hb12.trans (hb3.mono (by omega))
        go_wp2_with (first | (go_at_call 11; refine (hsum_any k sa cap w3 hsl (by omega) (HK1.out.below hb13 h1) (by omega)).mono ?_; rintro e w4 ⟨rfl, hb4⟩; have hz4 := hb4.size; have hb14 := hb13.trans (hb4.mono (by omega))) | (go_at_call 20; refine (bytes32_any (sha k) (sha_length k) w4).mono ?_; rintro e w5 ⟨rfl, hb5⟩; have hz5 := hb5.size; have hb15 := hb14.trans (hb5.mono (by omega))) | (go_at_call 18; refine (C2.out w5 (HK1.out.below hb15 h1) (by omega)).mono ?_; rintro e w6 ⟨rfl, hb6⟩))
        go_ret
        exact ⟨by simp, hb15.trans (hb6.mono (by omega))⟩
      · by_cases hs : k.length < 64
        · have hfl := macF_short k m hs
          rw [← HM.out] at hfl
          have c2 := fun W hW h1' => mac_any (k ++ [0]) m (by simp; omega) (by omega) W hW h1'
          rw [hfl] at c2
          have C2 := Lib.hid c2; clear c2 hfl hml
          have ha := str_append k [0]
          go_enter Tryd.func6, Tryd.ntmps6
          go_upto_region 9 with (first | (go_at_call 10; refine (sanity_any w HK1.out h1).mono ?_; rintro e w1 ⟨rfl, hb1⟩; have hz1 := hb1.size) | (go_at_call 18; refine (mac_any k m (by omega) (by omega) w1 (HK1.out.below hb1 h1) (by omega)).mono ?_; rintro e w2 ⟨rfl, hb2⟩; have hz2 := hb2.size; have hb12 := hb1.trans (hb2.mono hz1)))
          rw [← HM.out]
          go_wp2_with (go_at_call 18; refine (C2.out w2 (HK1.out.below hb12 h1) (by omega)).mono ?_; rintro e w6 ⟨rfl, hb6⟩)
          go_ret
          exact ⟨by simp, hb12.trans (hb6.mono (by omega))⟩
        · go_enter Tryd.func6, Tryd.ntmps6
          go_upto_region 10 with (first | (go_at_call 10; refine (sanity_any w HK1.out h1).mono ?_; rintro e w1 ⟨rfl, hb1⟩; have hz1 := hb1.size) | (go_at_call 18; refine (mac_any k m (by omega) (by omega) w1 (HK1.out.below hb1 h1) (by omega)).mono ?_; rintro e w2 ⟨rfl, hb2⟩; have hz2 := hb2.size; have hb12 := hb1.trans (hb2.mono hz1)))
          rw [← HM.out]
          go_wp2
          go_ret
          exact ⟨by simp, hb12⟩
    · go_enter Tryd.func6, Tryd.ntmps6
      go_wp2_with (first | (go_at_call 10; refine (sanity_any w HK1.out h1).mono ?_; rintro e w1 ⟨rfl, hb1⟩))
      go_ret
      exact ⟨rfl, hb1⟩
  · go_enter Tryd.func6, Tryd.ntmps6
    go_wp2_with (first | (go_at_call 10; refine (sanity_any w HK1.out h1).mono ?_; rintro e w1 ⟨rfl, hb1⟩))
    go_ret
    exact ⟨rfl, hb1⟩
end Go.Proofs.YtcdgpkhfflehjaaDoor

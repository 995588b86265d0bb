/- The walk over HashOfMatchesSpec. -/
import Derived.Test.YtcdgpkhfflehjaaDoorA22
namespace Go.Proofs.YtcdgpkhfflehjaaDoor
open Go.RowKit Go.Sha Go.Own Go.BigFrame
attribute [local go_sem high] op_str_eql op_str_neq
attribute [local go_sem] str_size
theorem guard44 (w : World) (op : BinOp) (x y : Operand) (xs ys : Array Value) : (eqGuard op 44 x y (.agg xs) (.agg ys)).run Tryd.prog w = .ok () w := run_eqGuard_agg w op 44 x y xs ys (by kernel_rfl)
theorem eq44_exec {o : Oper} {ρ : Operand → Value} {x y : Operand} {l : List UInt8} {ty : TypeId} (ho : o.op = .binOp .eql 44 x y ty) (hx : ρ x = .agg (l.map byv).toArray) (hy : ρ y = .agg (l.map byv).toArray) (hl : l.length = 16) (w : World) :
    (execOp ρ o).run Tryd.prog w = .ok (.value (.bool true)) w := by
  unfold execOp
  simp only [ho, hx, hy, Sem.run_bind, Sem.run_pure, Result.andThen_ok, guard44, eql44 w l l hl hl, beq_self_eq_true]
theorem few_true {l : List (List UInt8)} (h : fewB l = true) : l.length ≤ 12 ∧ ∀ p ∈ l, p.length ≤ 400 := by
  simpa [fewB] using h
theorem and255 (t : Int) (h0 : -9223372036854775808 ≤ t) (h1 : t ≤ 9223372036854775807) : bits .and .i64 t 255 = t % 256 := by
  have e1 : (bits .and .i64 t 255) = IntKind.i64.wrap ((BitVec.ofInt 64 t &&& BitVec.ofInt 64 255).toNat : Int) := rfl
  have e2 : (BitVec.ofInt 64 t &&& BitVec.ofInt 64 255).toNat = (t % 256).toNat := by
    rw [BitVec.toNat_and, BitVec.toNat_ofInt, BitVec.toNat_ofInt]
    have : ((255 : Int) % ((2 ^ 64 : Nat) : Int)).toNat = 2 ^ 8 - 1 := by decide
    rw [this, Nat.and_two_pow_sub_one_eq_mod]
    omega
  rw [e1, e2]
  have := Int.emod_nonneg t (show (256 : Int) ≠ 0 by decide)
  have := Int.emod_lt_of_pos t (show (0 : Int) < 256 by decide)
  rw [IntWalk.i64_in _ (by omega)]
  omega
theorem tagB_mod (t : Int) : tagB (t % 256) = tagB t := by rw [tagB, tagB, Int.emod_emod_of_dvd _ (by decide)]
theorem ofF_mod (t : Int) (l : List (List UInt8)) : ofF (t % 256) l = ofF t l := by rw [ofF, ofF, inputF, inputF, tagB_mod]
set_option maxHeartbeats 800000 in
set_option maxRecDepth 100000 in
theorem ofLaw_any (t : Int) (ht0 : -9223372036854775808 ≤ t) (ht1 : t ≤ 9223372036854775807) (l : List (List UInt8)) (sa : Option Addr) (cap : Nat) (w : World) (hsl : Sl w 1 (.slice sa l.length cap) l.length (l.map str)) (hl : l.length ≤ maxLen) (hls : ∀ s ∈ l, s.length ≤ maxLen)
    (hK : Cells w 0 0 (Kt.map U)) (hK1 : Cells w 1 0 (Kt.map U)) (h1 : 1 < w.heap.size) :
    Calls Tryd.prog 7 #[.int .i64 t, .slice sa l.length cap] w fun e w' => e = .returned (.bool true) ∧ Below w.heap.size w w' := by
  have HK := Lib.hid hK; clear hK
  have HK1 := Lib.hid hK1; clear hK1
  have HSL := Lib.hid hsl; clear hsl
  have hfew := fun W hs => few_any l sa cap W hs hl hls
  by_cases hfb : fewB l = true
  · obtain ⟨hl12, hp⟩ := few_true hfb
    rw [hfb] at hfew
    have HF := Lib.hid hfew
    have hp0 : ∀ p ∈ l, p.length < 65536 := fun p h => by have := hp p h; omega
    have HP := Lib.hid hp0
    have hl1000 : l.length ≤ 1000 := by omega
    have hand := and255 t ht0 ht1
    have hlo : ((ofF t l).map byv).length = 16 := by simp [ofF, sha_length]
    have ho16 : (ofF t l).length = 16 := by simp [ofF, sha_length]
    have hof := fun W hs hc h1' => of_any (t % 256) l hp0 hl1000 (.slice sa l.length cap) W hs hc h1'
    rw [ofF_mod] at hof
    have HO := Lib.hid hof
    clear hfew hp0 hp hfb hof hls
    go_enter Tryd.func7, Tryd.ntmps7
    go_wp2_with (first | (refine wpList_store_blk (ty := 44) (n := 16) (vs := (ofF t l).map byv) (Blk.new _ _ 44) rfl rfl rfl rfl rfl (by kernel_rfl) hlo (by simp) (bytes_oneCell _) ?_) | (go_at_call 10; refine (sanity_any w HK1.out h1).mono ?_; rintro e w1 ⟨rfl, hb1⟩; have hz1 := hb1.size) | (go_at_call 13; refine (HF.out w1 (HSL.out.below hb1)).mono ?_; rintro e wx ⟨rfl, rfl⟩) | (go_at_call 21; refine (of_any t l HP.out hl1000 (.slice sa l.length cap) _ (HSL.out.below hb1) (HK1.out.below hb1 h1) (by omega)).mono ?_; rintro e w2 ⟨rfl, hb2⟩))
    intro w3 hb3 ho3
    have hB3 : Blk w3 w2.heap.size ((ofF t l).map byv) 44 := hb3
    have hz2 := hb2.size
    have hbw3 : Below w.heap.size w w3 := ho3.below ((hb1.trans (hb2.mono hz1)).alloc (by omega) _) (by omega)
    have hz3 := hbw3.size
    have hlt3 := hB3.lt
    clear hb3 ho3
    go_wp2
    refine wp_region_sqB 17 [2, 5, 6, 9, 13, 14] (fun i v W => match i with
      | 2 => v = .agg ((ofF t l).map byv).toArray
      | 5 => v = .agg ((ofF t l).map byv).toArray
      | 6 => v = .bool true
      | 9 => v = .agg ((ofF t l).map byv).toArray
      | 13 => v = .agg ((ofF t l).map byv).toArray
      | 14 => v = .bool true
      | _ => True) (by kernel_rfl) (by kernel_rfl) ?stable ?main
    case stable =>
      intro i v W W' h hb
      match i, h with
      | 0, h => exact h
      | 1, h => exact h
      | 2, h => exact h
      | 3, h => exact h
      | 4, h => exact h
      | 5, h => exact h
      | 6, h => exact h
      | 7, h => exact h
      | 8, h => exact h
      | 9, h => exact h
      | 10, h => exact h
      | 11, h => exact h
      | 12, h => exact h
      | 13, h => exact h
      | 14, h => exact h
      | _ + 15, _ => exact trivial
    case main =>
      simp only [List.take_succ_cons, List.take_zero, List.drop_succ_cons, List.drop_zero]
      repeat (refine sqw_quiet rfl rfl (ExtB.refl _) ?_; go_big_quiet_step (fail); refine wpQuiet_nil ?_)
      refine sqw_postY rfl rfl rfl ?_ ?_
      · intro W1 hb hf
        have hC := (hB3.below (ExtB.undrew hb) hlt3).cells0
        exact yields_load rfl hC rfl Tryd.underlying44 rfl (by kernel_rfl) hlo ⟨rfl, ExtB.refl _⟩
      intro v Wj hv
      obtain rfl : v = .agg ((ofF t l).map byv).toArray := hv
      simp only [Act.put, List.setIfInBounds_toArray, List.set_cons_zero, List.set_cons_succ]
      repeat (refine sqw_quiet rfl rfl (ExtB.refl _) ?_; go_big_quiet_step (fail); refine wpQuiet_nil ?_)
      refine sqw_postY rfl rfl rfl ?_ ?_
      · intro W1 hb hf
        have hbw := hbw3.trans ((ExtB.undrew hb).mono hz3)
        refine yields_call rfl (by kernel_rfl) rfl rfl ((rof_any t l HP.out hl1000 sa cap W1 (HSL.out.below hbw) (HK.out.below hbw (by omega)) (by have := hbw.size; omega)).mono ?_)
        rintro e w' ⟨rfl, h2⟩
        exact ⟨_, rfl, rfl, h2⟩
      intro v Wj hv
      obtain rfl : v = .agg ((ofF t l).map byv).toArray := hv
      simp only [Act.put, List.setIfInBounds_toArray, List.set_cons_zero, List.set_cons_succ]
      repeat (refine sqw_quiet rfl rfl (ExtB.refl _) ?_; go_big_quiet_step (fail); refine wpQuiet_nil ?_)
      refine sqw_postY rfl rfl rfl ?_ ?_
      · intro W1 hb hf
        refine yields_value (v := .bool true) (w' := W1) ?_ ⟨rfl, ExtB.refl _⟩
        exact eq44_exec rfl rfl rfl ho16 W1
      intro v Wj hv
      obtain rfl : v = .bool true := hv
      simp only [Act.put, List.setIfInBounds_toArray, List.set_cons_zero, List.set_cons_succ]
      repeat (refine sqw_quiet rfl rfl (ExtB.refl _) ?_; go_big_quiet_step (fail); refine wpQuiet_nil ?_)
      refine sqw_postY rfl rfl rfl ?_ ?_
      · intro W1 hb hf
        have hC := (hB3.below (ExtB.undrew hb) hlt3).cells0
        exact yields_load rfl hC rfl Tryd.underlying44 rfl (by kernel_rfl) hlo ⟨rfl, ExtB.refl _⟩
      intro v Wj hv
      obtain rfl : v = .agg ((ofF t l).map byv).toArray := hv
      simp only [Act.put, List.setIfInBounds_toArray, List.set_cons_zero, List.set_cons_succ]
      repeat (refine sqw_quiet rfl rfl (ExtB.refl _) ?_; go_big_quiet_step (fail); refine wpQuiet_nil ?_)
      refine sqw_postY rfl rfl rfl ?_ ?_
      · intro W1 hb hf
        have hbw := hbw3.trans ((ExtB.undrew hb).mono hz3)
        refine yields_call rfl (by kernel_rfl) rfl rfl ((HO.out W1 (HSL.out.below hbw) (HK1.out.below hbw h1) (by have := hbw.size; omega)).mono ?_)
        rintro e w' ⟨rfl, h2⟩
        exact ⟨_, rfl, rfl, h2⟩
      intro v Wj hv
      obtain rfl : v = .agg ((ofF t l).map byv).toArray := hv
      simp only [Act.put, List.setIfInBounds_toArray, List.set_cons_zero, List.set_cons_succ]
      repeat (refine sqw_quiet rfl rfl (ExtB.refl _) ?_; go_big_quiet_step (fail); refine wpQuiet_nil ?_)
      refine sqw_postY rfl rfl rfl ?_ ?_
      · intro W1 hb hf
        refine yields_value (v := .bool true) (w' := W1) ?_ ⟨rfl, ExtB.refl _⟩
        exact eq44_exec rfl rfl rfl ho16 W1
      intro v Wj hv
      obtain rfl : v = .bool true := hv
      simp only [Act.put, List.setIfInBounds_toArray, List.set_cons_zero, List.set_cons_succ]
      repeat (refine sqw_quiet rfl rfl (ExtB.refl _) ?_; go_big_quiet_step (fail); refine wpQuiet_nil ?_)
      intro w4 hb4 _
      refine wpList_nil ?_
      go_wp2
      go_ret
      exact ⟨rfl, hbw3.trans ((ExtB.undrew hb4).mono hz3)⟩
  · have hff : fewB l = false := by simpa using hfb
    rw [hff] at hfew
    have HF := Lib.hid hfew
    clear hfew hff hfb
    go_enter Tryd.func7, Tryd.ntmps7
    go_wp2_with (first | (go_at_call 10; refine (sanity_any w HK1.out h1).mono ?_; rintro e w1 ⟨rfl, hb1⟩) | (go_at_call 13; refine (HF.out _ (HSL.out.below hb1)).mono ?_; rintro e wx ⟨rfl, rfl⟩))
    go_ret
    exact ⟨rfl, hb1⟩
end Go.Proofs.YtcdgpkhfflehjaaDoor

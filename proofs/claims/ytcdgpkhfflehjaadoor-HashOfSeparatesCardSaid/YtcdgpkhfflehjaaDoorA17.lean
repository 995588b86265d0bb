/- The walk over HashSumMatchesSpec. -/
import Derived.Test.YtcdgpkhfflehjaaDoorA16
import Derived.Test.YtcdgpkhfflehjaaDoorSq
namespace Go.Proofs.YtcdgpkhfflehjaaDoor
open Go.RowKit Go.Sha Go.Own Go.BigFrame
attribute [local go_sem high] op_str_eql op_str_neq
attribute [local go_sem] str_size
theorem blk_sl {w : World} {g n : Nat} {l : List Value} {t : TypeId} (h : Blk w g l t) (hn : l.length = n) (hm : n ≤ maxLen) : Sl w 1 (.slice (some ⟨g, 0, none⟩) n n) n l := ⟨by omega, .inr ⟨g, 0, n, rfl, Nat.le_refl _, hm, h.cells0, h.lt⟩⟩
theorem sl_slice {w : World} {n : Nat} {v : Value} {vs : List Value} (h : Sl w 1 v n vs) : ∃ sa cap, v = .slice sa n cap := by
  obtain ⟨_, ⟨rfl, h⟩ | ⟨b, off, cap, rfl, _⟩⟩ := h
  · exact ⟨none, 0, by rw [h]⟩
  · exact ⟨_, _, rfl⟩
theorem eq24_exec {o : Oper} {ρ : Operand → Value} {x y : Operand} {l : List UInt8} {ty : TypeId} (ho : o.op = .binOp .eql 24 x y ty) (hx : ρ x = .agg (l.map byv).toArray) (hy : ρ y = .agg (l.map byv).toArray) (hl : l.length = 32) (w : World) :
    (execOp ρ o).run Tryd.prog w = .ok (.value (.bool true)) w := by
  unfold execOp
  simp only [ho, hx, hy, Sem.run_bind, Sem.run_pure, Result.andThen_ok, guard24, eql24 w l l hl hl, beq_self_eq_true]
set_option maxHeartbeats 800000 in
set_option maxRecDepth 100000 in
theorem sumLaw_any (m : List UInt8) (sa : Option Addr) (cap : Nat) (w : World) (hsl : Sl w 1 (.slice sa m.length cap) m.length (m.map byv)) (hm : m.length ≤ maxLen) (hK : Cells w 0 0 (Kt.map U)) (hK1 : Cells w 1 0 (Kt.map U)) (h1 : 1 < w.heap.size) :
    Calls Tryd.prog 3 #[.slice sa m.length cap] w fun e w' => e = .returned (.bool true) ∧ Below w.heap.size w w' := by
  unfold maxLen at hm
  have HK := Lib.hid hK; clear hK
  have HK1 := Lib.hid hK1; clear hK1
  have HSL := Lib.hid hsl; clear hsl
  by_cases hle : m.length ≤ 1000
  · have hcv1 : ∀ W, Below w.heap.size w W → (convert 22 9 (.slice sa m.length cap)).run Tryd.prog W = .ok (str m) W := fun W hb => conv22 W _ m (HSL.out.below hb)
    have hla : ((sha m).map byv).length = 32 := by simp [sha_length]
    have hl32 := sha_length m
    go_enter Tryd.func3, Tryd.ntmps3
    go_upto_region 4 with (go_at_call 10; refine (sanity_any w HK1.out h1).mono ?_; rintro e w1 ⟨rfl, hb1⟩)
    have hcv := hcv1 w1 hb1
    go_upto_region 5 with (fail)
    have hz1 := hb1.size
    go_wp2_with (first | (refine wpList_store_blk (ty := 24) (n := 32) (vs := (sha m).map byv) (Blk.new _ _ 24) rfl rfl rfl rfl rfl (by kernel_rfl) hla (by simp) (bytes_oneCell _) ?_) | (go_at_call 11; refine (hsum_any m _ _ w1 (HSL.out.below hb1) (by omega) (HK1.out.below hb1 h1) (by omega)).mono ?_; rintro e w2 ⟨rfl, hb2⟩))
    intro w3 hb3 ho3
    have hB3 : Blk w3 w2.heap.size ((sha m).map byv) 24 := hb3
    have hz2 := hb2.size
    have hbw3 : Below w.heap.size w w3 := ho3.below ((hb1.trans (hb2.mono hz1)).alloc (by omega) _) (by omega)
    have hz3 := hbw3.size
    have hlt3 := hB3.lt
    have hcv3 : ∀ s : Grown ExtB w3.drew, (convert 22 9 (.slice sa m.length cap)).run Tryd.prog s.1 = .ok (str m) s.1 := fun s => hcv1 s.1 (hbw3.trans ((ExtB.undrew s.2).mono hz3))
    clear hb3 ho3
    go_wp2
    refine wp_region_sqB 15 [2, 4, 5, 6] (fun i v W => match i with
      | 2 => v = .agg ((sha m).map byv).toArray
      | 4 => Sl W 1 v m.length (m.map byv)
      | 5 => v = .agg ((sha m).map byv).toArray
      | 6 => v = .bool true
      | _ => True) (by kernel_rfl) (by kernel_rfl) ?stable ?main
    case stable =>
      intro i v W W' h hb
      match i, h with
      | 0, h => exact h
      | 1, h => exact h
      | 2, h => exact h
      | 3, h => exact h
      | 4, h => exact Sl.below h hb
      | 5, h => exact h
      | 6, h => exact h
      | _ + 7, _ => exact trivial
    case main =>
      simp only [List.take_succ_cons, List.take_zero, List.drop_succ_cons, List.drop_zero]
      repeat (refine sqw_quiet rfl rfl (ExtB.refl _) ?_; go_big_quiet_step (fail); refine wpQuiet_nil ?_)
      refine sqw_postY rfl rfl rfl ?_ ?_
      · intro W1 hb hf
        have hC := (hB3.below (ExtB.undrew hb) hlt3).cells0
        exact yields_load rfl hC rfl Tryd.underlying24 rfl (by kernel_rfl) hla ⟨rfl, ExtB.refl _⟩
      intro v Wj hv
      obtain rfl : v = .agg ((sha m).map byv).toArray := hv
      simp only [Act.put, List.setIfInBounds_toArray, List.set_cons_zero, List.set_cons_succ]
      repeat (refine sqw_quiet rfl rfl (ExtB.refl _) ?_; go_big_quiet_step (fail); refine wpQuiet_nil ?_)
      refine sqw_postY rfl rfl rfl ?_ ?_
      · intro W1 hb hf
        exact yields_str_bytes (bs := m) rfl rfl Tryd.underlying9 Tryd.underlying22 Tryd.underlying5 (by omega) fun v w' h1 h2 _ => ⟨h1, h2⟩
      intro v Wj hv
      clear hv
      simp only [Act.put, List.setIfInBounds_toArray, List.set_cons_zero, List.set_cons_succ]
      repeat (refine sqw_quiet rfl rfl (ExtB.refl _) ?_; go_big_quiet_step (fail); refine wpQuiet_nil ?_)
      refine sqw_postY rfl rfl rfl ?_ ?_
      · intro W1 hb hf
        have hbw := hbw3.trans ((ExtB.undrew hb).mono hz3)
        have p4 : Sl W1 1 v m.length (m.map byv) := hf 4 19 (by kernel_rfl) rfl rfl (fun o h => by obtain rfl := Option.some.inj h; rfl)
        obtain ⟨sx, cx, rfl⟩ := sl_slice p4
        refine yields_call rfl (by kernel_rfl) rfl rfl ((rsum_any m sx cx W1 p4 (by omega) (HK.out.below hbw (by omega)) (by have := hbw.size; omega)).mono ?_)
        rintro e w' ⟨rfl, h2⟩
        exact ⟨_, rfl, rfl, h2⟩
      intro v Wj hv
      obtain rfl : v = .agg ((sha m).map byv).toArray := hv
      simp only [Act.put, List.setIfInBounds_toArray, List.set_cons_zero, List.set_cons_succ]
      repeat (refine sqw_quiet rfl rfl (ExtB.refl _) ?_; go_big_quiet_step (fail); refine wpQuiet_nil ?_)
      refine sqw_postY rfl rfl rfl ?_ ?_
      · intro W1 hb hf
        refine yields_value (v := .bool true) (w' := W1) ?_ ⟨rfl, ExtB.refl _⟩
        exact eq24_exec rfl rfl rfl hl32 W1
      intro v Wj hv
      obtain rfl : v = .bool true := hv
      simp only [Act.put, List.setIfInBounds_toArray, List.set_cons_zero, List.set_cons_succ]
      repeat (refine sqw_quiet rfl rfl (ExtB.refl _) ?_; go_big_quiet_step (fail); refine wpQuiet_nil ?_)
      intro w4 hb4 _
      refine wpList_nil ?_
      go_wp2
      go_ret
      exact ⟨rfl, hbw3.trans ((ExtB.undrew hb4).mono hz3)⟩
  · go_enter Tryd.func3, Tryd.ntmps3
    go_wp2_with (go_at_call 10; refine (sanity_any w HK1.out h1).mono ?_; rintro e w1 ⟨rfl, hb1⟩)
    go_ret
    exact ⟨rfl, hb1⟩
end Go.Proofs.YtcdgpkhfflehjaaDoor

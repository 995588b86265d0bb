/- order: the documented examples hold. -/
import Derived.Test.YtnkinjilnccmfaaQ33
namespace Go.Proofs.Ytnkinjilnccmfaa
open Go.RowKit Go.Own Go.BigFrame Go.Big Go.Order
theorem find_ex2 (whole : Int) (st : List Int) (n : Nat) (hn : st.length = n) (hm : n ≤ maxLen) (W : World) (g z : Nat) (hz : z = W.heap.size) (hl : Lst W (.slice (some ⟨g, 0, none⟩) 4 4) exL) {l : List Spl} {m : Int} {ss : List Nat} {er : Int} (hv : findV whole exL st = ⟨l, m, ss, er⟩) {kl ks : Nat} (hkl : l.length = kl) (hks : ss.length = ks) :
    Calls Try.prog 12 #[.int .i64 whole, .slice (some ⟨g, 0, none⟩) 4 4, .slice (some ⟨z, 0, none⟩) n n] (W.alloc (.cells (intsI st).toArray 22)) fun e w' =>
      ∃ sa ca sb cs, e = .returned (.tuple #[.slice sa kl ca, .int .i64 m, .agg #[.slice sb ks cs], .int .i64 er]) ∧ Lst w' (.slice sa kl ca) l ∧ Sz w' (.slice sb ks cs) ks (nts ss) ∧ Below W.heap.size W w' := by
  subst hkl hks hz
  exact find_ex whole st n hn hm W g hl hv
theorem check_ex2 (whole : Int) (st : List Int) (n : Nat) (hn : st.length = n) (hn6 : n < 1000000) (W : World) (g z : Nat) (hz : z = W.heap.size) (hl : Lst W (.slice (some ⟨g, 0, none⟩) 4 4) exL) (l : List Spl) (sa : Option Addr) (ca k : Nat) (hk : l.length = k) (hk6 : k < 1000000) (hL : Lst W (.slice sa k ca) l) {a b : Int} (hv : chkV whole exL st l = (a, b)) :
    Calls Try.prog 17 #[.int .i64 whole, .slice (some ⟨g, 0, none⟩) 4 4, .slice (some ⟨z, 0, none⟩) n n, .slice sa k ca] (W.alloc (.cells (intsI st).toArray 22)) fun e w' => e = .returned (.tuple #[.int .i64 a, .int .i64 b]) ∧ Below W.heap.size W w' := by
  subst hz
  exact check_ex whole st n hn hn6 W g hl l sa ca k hk hk6 hL hv
attribute [local irreducible] SqC.SqW
set_option maxRecDepth 100000 in
set_option maxHeartbeats 6400000 in
theorem lives_any (w : World) : Calls Try.prog 11 #[] w fun e w' => e = .returned (.bool true) ∧ Below w.heap.size w w' := by
  have hex := example_any w
  obtain ⟨g, hg⟩ : ∃ g, g = w.heap.size := ⟨_, rfl⟩
  rw [← hg] at hex
  have HEX := Lib.hid hex; clear hex
  have HG := Lib.hid hg; clear hg
  go_enter Try.func11, Try.ntmps11
  go_wp2_with (fail)
  refine HEX.out.mono ?_
  rintro e w1 ⟨rfl, hl1, hB1, b1⟩
  rw [HG.out] at b1
  have hf := find_ex2 7 s1 6 rfl (by decide) w1 g w1.heap.size rfl hl1 fv1 (kl := 2) (ks := 0) rfl rfl
  have HF := Lib.hid hf; clear hf
  have HL1 := Lib.hid hl1; clear hl1
  have HB1 := Lib.hid hB1; clear hB1
  have BW1 := Lib.hid b1; clear b1 HEX
  go_wp2_with (fail)
  refine HF.out.mono ?_
  rintro e w2 ⟨sa1, ca1, ss1, cs1, rfl, hL1, hz1, b2⟩
  obtain ⟨W1, hW1⟩ : ∃ W1, W1 = w2.alloc (.cells #[.slice ss1 0 cs1] 29) := ⟨_, rfl⟩
  have z1 : W1.heap.size = w2.heap.size + 1 := by rw [hW1]; exact alloc_size _ _
  have a1 : Below w2.heap.size w2 W1 := by rw [hW1]; exact alloc_below _ _
  have k1 : Blk W1 w2.heap.size [.slice ss1 0 cs1] 29 := by rw [hW1]; exact Blk.new w2 #[.slice ss1 0 cs1] 29
  have c1 : Below w1.heap.size w1 W1 := b2.trans (a1.mono b2.size)
  have hl2 := HL1.out.below c1
  have hf := find_ex2 7 s2 5 rfl (by decide) W1 g (w2.heap.size + 1) z1.symm hl2 fv2 (kl := 2) (ks := 0) rfl rfl
  have BW2 := Lib.hid (BW1.out.trans (c1.mono BW1.out.size))
  have LA := Lib.hid (hL1.below a1)
  have HB2 := Lib.hid (HB1.out.below c1 HB1.out.lt)
  have HF := Lib.hid hf; clear hf
  have HL2 := Lib.hid hl2; clear hl2 hL1 hz1 k1 z1 a1 b2 c1 HL1 HB1 BW1
  have HW1 := Lib.hid hW1; clear hW1
  go_wp2_with (fail)
  rw [← HW1.out]
  refine HF.out.mono ?_
  rintro e w3 ⟨sa2, ca2, ss2, cs2, rfl, hL2, hz2, b3⟩
  obtain ⟨W2, hW2⟩ : ∃ W2, W2 = w3.alloc (.cells #[.slice ss2 0 cs2] 29) := ⟨_, rfl⟩
  have z2 : W2.heap.size = w3.heap.size + 1 := by rw [hW2]; exact alloc_size _ _
  have a2 : Below w3.heap.size w3 W2 := by rw [hW2]; exact alloc_below _ _
  have k2 : Blk W2 w3.heap.size [.slice ss2 0 cs2] 29 := by rw [hW2]; exact Blk.new w3 #[.slice ss2 0 cs2] 29
  have c2 : Below W1.heap.size W1 W2 := b3.trans (a2.mono b3.size)
  have hl3 := HL2.out.below c2
  have hf := find_ex2 7 s3 5 rfl (by decide) W2 g (w3.heap.size + 1) z2.symm hl3 fv3 (kl := 0) (ks := 3) rfl rfl
  have BW3 := Lib.hid (BW2.out.trans (c2.mono BW2.out.size))
  have LA2 := Lib.hid (LA.out.below c2)
  have LB := Lib.hid (hL2.below a2)
  have HB3 := Lib.hid (HB2.out.below c2 HB2.out.lt)
  have HF := Lib.hid hf; clear hf
  have HL3 := Lib.hid hl3; clear hl3 hL2 hz2 k2 z2 a2 b3 c2 HL2 HB2 BW2 LA
  have HW2 := Lib.hid hW2; clear hW2
  go_wp2_with (fail)
  rw [← HW2.out]
  refine HF.out.mono ?_
  rintro e w4 ⟨sa3, ca3, ss3, cs3, rfl, hL3, hz3, b4⟩
  obtain ⟨W3, hW3⟩ : ∃ W3, W3 = w4.alloc (.cells #[.slice ss3 3 cs3] 29) := ⟨_, rfl⟩
  have z3 : W3.heap.size = w4.heap.size + 1 := by rw [hW3]; exact alloc_size _ _
  have a3 : Below w4.heap.size w4 W3 := by rw [hW3]; exact alloc_below _ _
  have k3 : Blk W3 w4.heap.size [.slice ss3 3 cs3] 29 := by rw [hW3]; exact Blk.new w4 #[.slice ss3 3 cs3] 29
  have c3 : Below W2.heap.size W2 W3 := b4.trans (a3.mono b4.size)
  have hl4 := HL3.out.below c3
  have hf := find_ex2 5 s1 6 rfl (by decide) W3 g (w4.heap.size + 1) z3.symm hl4 fv4 (kl := 0) (ks := 6) rfl rfl
  have BW4 := Lib.hid (BW3.out.trans (c3.mono BW3.out.size))
  have LA3 := Lib.hid (LA2.out.below c3)
  have LB2 := Lib.hid (LB.out.below c3)
  have HB4 := Lib.hid (HB3.out.below c3 HB3.out.lt)
  have K3 := Lib.hid k3
  have S3 := Lib.hid (hz3.below a3)
  have HF := Lib.hid hf; clear hf
  have HL4 := Lib.hid hl4; clear hl4 hL3 hz3 k3 z3 a3 b4 c3 HL3 HB3 BW3 LA2 LB
  have HW3 := Lib.hid hW3; clear hW3
  go_wp2_with (fail)
  rw [← HW3.out]
  refine HF.out.mono ?_
  rintro e w5 ⟨sa4, ca4, ss4, cs4, rfl, hL4, hz4, b5⟩
  obtain ⟨W4, hW4⟩ : ∃ W4, W4 = w5.alloc (.cells #[.slice ss4 6 cs4] 29) := ⟨_, rfl⟩
  have z4 : W4.heap.size = w5.heap.size + 1 := by rw [hW4]; exact alloc_size _ _
  have a4 : Below w5.heap.size w5 W4 := by rw [hW4]; exact alloc_below _ _
  have k4 : Blk W4 w5.heap.size [.slice ss4 6 cs4] 29 := by rw [hW4]; exact Blk.new w5 #[.slice ss4 6 cs4] 29
  have c4 : Below W3.heap.size W3 W4 := b5.trans (a4.mono b5.size)
  have HL5 := Lib.hid (HL4.out.below c4)
  have BW5 := Lib.hid (BW4.out.trans (c4.mono BW4.out.size))
  have LA4 := Lib.hid (LA3.out.below c4)
  have LB3 := Lib.hid (LB2.out.below c4)
  have HB5 := Lib.hid (HB4.out.below c4 HB4.out.lt)
  have K33 := Lib.hid (K3.out.below c4 K3.out.lt)
  have S33 := Lib.hid (S3.out.below c4)
  have K4 := Lib.hid k4
  have S4 := Lib.hid (hz4.below a4)
  have HW4 := Lib.hid hW4; clear hW4
  clear hL4 hz4 k4 z4 a4 b5 c4 HL4 HB4 BW4 LA3 LB2 K3 S3 HF
  go_wp2
  rw [← HW4.out]
  have hld : ∀ U, Below W4.heap.size W4 U → (loadVar 58 ⟨g, 0, none⟩).run Try.prog U = .ok (.agg #[.int .i64 7, .int .i64 1, .bool false, .slice none 0 0, .bool false, .slice none 0 0, .bool false, .slice none 0 0, .bool false, .slice none 0 0]) U ∧ (loadVar 58 ⟨g, 30, none⟩).run Try.prog U = .ok (.agg #[.int .i64 6, .int .i64 2, .bool false, .slice none 0 0, .bool false, .slice none 0 0, .bool false, .slice none 0 0, .bool false, .slice none 0 0]) U ∧ (loadVar 58 ⟨g, 10, none⟩).run Try.prog U = .ok (.agg #[.int .i64 7, .int .i64 4, .bool false, .slice none 0 0, .bool false, .slice none 0 0, .bool false, .slice none 0 0, .bool false, .slice none 0 0]) U ∧ (loadVar 58 ⟨g, 20, none⟩).run Try.prog U = .ok (.agg #[.int .i64 3, .int .i64 1, .bool false, .slice none 0 0, .bool false, .slice none 0 0, .bool false, .slice none 0 0, .bool false, .slice none 0 0]) U := fun U hU => by
    have h := HB5.out.below hU HB5.out.lt
    refine ⟨run_load_agg (P := Try.prog) (ty := 58) (vs := [.int .i64 7, .int .i64 1, .bool false, .slice none 0 0, .bool false, .slice none 0 0, .bool false, .slice none 0 0, .bool false, .slice none 0 0]) (h.cells 0 _ rfl) aggS infoS, run_load_agg (P := Try.prog) (ty := 58) (vs := [.int .i64 6, .int .i64 2, .bool false, .slice none 0 0, .bool false, .slice none 0 0, .bool false, .slice none 0 0, .bool false, .slice none 0 0]) (h.cells 30 _ rfl) aggS infoS, run_load_agg (P := Try.prog) (ty := 58) (vs := [.int .i64 7, .int .i64 4, .bool false, .slice none 0 0, .bool false, .slice none 0 0, .bool false, .slice none 0 0, .bool false, .slice none 0 0]) (h.cells 10 _ rfl) aggS infoS, run_load_agg (P := Try.prog) (ty := 58) (vs := [.int .i64 3, .int .i64 1, .bool false, .slice none 0 0, .bool false, .slice none 0 0, .bool false, .slice none 0 0, .bool false, .slice none 0 0]) (h.cells 20 _ rfl) aggS infoS⟩
  have HLD := Lib.hid hld; clear hld
  have eX : Below W4.heap.size W4 W4.drew := (Below.refl _ _).drew
  haveI : Nonempty (SqC.Come fun U : World => Below W4.heap.size W4 U) := ⟨⟨_, eX⟩⟩
  refine SqC.wp_region_sqc 21 [7, 8, 17, 18] (fun U : World => Below W4.heap.size W4 U) (by kernel_rfl) (by kernel_rfl) (by kernel_rfl) eX ?_
  obtain ⟨wd, hwd⟩ : ∃ wd : World, wd = W4.drew := ⟨_, rfl⟩
  rw [← hwd] at eX ⊢
  clear hwd
  refine SqC.quiet rfl rfl ?_; go_big_quiet_step (fail); refine wpQuiet_nil ?_
  refine SqC.quiet rfl rfl ?_; go_big_quiet_step (fail); refine wpQuiet_nil ?_
  refine SqC.quiet rfl rfl ?_; go_big_quiet_step (fail); refine wpQuiet_nil ?_
  refine SqC.value (.agg #[.int .i64 7, .int .i64 1, .bool false, .slice none 0 0, .bool false, .slice none 0 0, .bool false, .slice none 0 0, .bool false, .slice none 0 0]) rfl rfl (fun U hU => load_agg_exec rfl rfl (HLD.out U hU).1) ?_
  simp only [Act.put, List.setIfInBounds_toArray, List.set_cons_zero, List.set_cons_succ]
  refine SqC.quiet rfl rfl ?_; go_big_quiet_step (fail); refine wpQuiet_nil ?_
  refine SqC.quiet rfl rfl ?_; go_big_quiet_step (fail); refine wpQuiet_nil ?_
  refine SqC.value (.agg #[.int .i64 6, .int .i64 2, .bool false, .slice none 0 0, .bool false, .slice none 0 0, .bool false, .slice none 0 0, .bool false, .slice none 0 0]) rfl rfl (fun U hU => load_agg_exec rfl rfl (HLD.out U hU).2.1) ?_
  simp only [Act.put, List.setIfInBounds_toArray, List.set_cons_zero, List.set_cons_succ]
  refine SqC.effectW rfl rfl ?_
  obtain ⟨v1, hv1⟩ : ∃ v : World, v = wd.alloc (.cells #[.int .i64 7, .int .i64 1, .bool false, .slice none 0 0, .bool false, .slice none 0 0, .bool false, .slice none 0 0, .bool false, .slice none 0 0, .int .i64 6, .int .i64 2, .bool false, .slice none 0 0, .bool false, .slice none 0 0, .bool false, .slice none 0 0, .bool false, .slice none 0 0] 58) := ⟨_, rfl⟩
  have d1 : Below wd.heap.size wd v1 := by rw [hv1]; exact alloc_below _ _
  have k1 : Blk v1 wd.heap.size (flat [ex 7 1, ex 6 2]) 58 := by rw [hv1]; exact Blk.new wd #[.int .i64 7, .int .i64 1, .bool false, .slice none 0 0, .bool false, .slice none 0 0, .bool false, .slice none 0 0, .bool false, .slice none 0 0, .int .i64 6, .int .i64 2, .bool false, .slice none 0 0, .bool false, .slice none 0 0, .bool false, .slice none 0 0, .bool false, .slice none 0 0] 58
  have l1 : Lst v1 (.slice (some ⟨wd.heap.size, 0, none⟩) 2 2) [ex 7 1, ex 6 2] := lst_blk k1 rfl (by decide) (fun x hx => by
    simp only [List.mem_cons, List.not_mem_nil, or_false] at hx
    rcases hx with h | h <;> (subst h; exact ex_at _ _ _))
  have e1 : Below W4.heap.size W4 v1 := eX.trans (d1.mono eX.size)
  have sm1 := sameAll_any [ex 7 1, ex 6 2] [ex 7 1, ex 6 2] sa1 (some ⟨wd.heap.size, 0, none⟩) ca1 2 v1 (LA4.out.below e1) l1 (by decide)
  rw [eq1.1] at sm1
  have SM1 := Lib.hid sm1; clear sm1 l1 k1 d1
  have EN1 := Lib.hid e1; clear e1
  have HV1 := Lib.hid hv1; clear hv1
  go_wp2
  rw [← HV1.out]
  refine SqC.here rfl (fun _ => EN1.out) ?_
  refine SqC.effect rfl rfl ?_
  refine yields_call rfl (by kernel_rfl) rfl rfl (SM1.out.mono ?_)
  rintro e u1 ⟨rfl, f1⟩
  have eu1 : Below W4.heap.size W4 u1 := EN1.out.trans (f1.mono EN1.out.size)
  refine ⟨_, rfl, fun _ => eu1, ?_⟩
  simp only [Act.put, List.setIfInBounds_toArray, List.set_cons_zero, List.set_cons_succ]
  refine SqC.quiet rfl rfl ?_; go_big_quiet_step (fail); refine wpQuiet_nil ?_
  refine SqC.quiet rfl rfl ?_; go_big_quiet_step (fail); refine wpQuiet_nil ?_
  refine SqC.quiet rfl rfl ?_; go_big_quiet_step (fail); refine wpQuiet_nil ?_
  refine SqC.quiet rfl rfl ?_; go_big_quiet_step (fail); refine wpQuiet_nil ?_
  refine SqC.value (.agg #[.int .i64 7, .int .i64 4, .bool false, .slice none 0 0, .bool false, .slice none 0 0, .bool false, .slice none 0 0, .bool false, .slice none 0 0]) rfl rfl (fun U hU => load_agg_exec rfl rfl (HLD.out U hU).2.2.1) ?_
  simp only [Act.put, List.setIfInBounds_toArray, List.set_cons_zero, List.set_cons_succ]
  refine SqC.quiet rfl rfl ?_; go_big_quiet_step (fail); refine wpQuiet_nil ?_
  refine SqC.quiet rfl rfl ?_; go_big_quiet_step (fail); refine wpQuiet_nil ?_
  refine SqC.value (.agg #[.int .i64 3, .int .i64 1, .bool false, .slice none 0 0, .bool false, .slice none 0 0, .bool false, .slice none 0 0, .bool false, .slice none 0 0]) rfl rfl (fun U hU => load_agg_exec rfl rfl (HLD.out U hU).2.2.2) ?_
  simp only [Act.put, List.setIfInBounds_toArray, List.set_cons_zero, List.set_cons_succ]
  refine SqC.effectW rfl rfl ?_
  obtain ⟨v2, hv2⟩ : ∃ v : World, v = u1.alloc (.cells #[.int .i64 7, .int .i64 4, .bool false, .slice none 0 0, .bool false, .slice none 0 0, .bool false, .slice none 0 0, .bool false, .slice none 0 0, .int .i64 3, .int .i64 1, .bool false, .slice none 0 0, .bool false, .slice none 0 0, .bool false, .slice none 0 0, .bool false, .slice none 0 0] 58) := ⟨_, rfl⟩
  have d2 : Below u1.heap.size u1 v2 := by rw [hv2]; exact alloc_below _ _
  have k2 : Blk v2 u1.heap.size (flat [ex 7 4, ex 3 1]) 58 := by rw [hv2]; exact Blk.new u1 #[.int .i64 7, .int .i64 4, .bool false, .slice none 0 0, .bool false, .slice none 0 0, .bool false, .slice none 0 0, .bool false, .slice none 0 0, .int .i64 3, .int .i64 1, .bool false, .slice none 0 0, .bool false, .slice none 0 0, .bool false, .slice none 0 0, .bool false, .slice none 0 0] 58
  have l2 : Lst v2 (.slice (some ⟨u1.heap.size, 0, none⟩) 2 2) [ex 7 4, ex 3 1] := lst_blk k2 rfl (by decide) (fun x hx => by
    simp only [List.mem_cons, List.not_mem_nil, or_false] at hx
    rcases hx with h | h <;> (subst h; exact ex_at _ _ _))
  have e2 : Below W4.heap.size W4 v2 := eu1.trans (d2.mono eu1.size)
  have sm2 := sameAll_any [ex 7 4, ex 3 1] [ex 7 4, ex 3 1] sa2 (some ⟨u1.heap.size, 0, none⟩) ca2 2 v2 (LB3.out.below e2) l2 (by decide)
  rw [eq1.2] at sm2
  have SM2 := Lib.hid sm2; clear sm2 l2 k2 d2
  have EN2 := Lib.hid e2; clear e2
  have HV2 := Lib.hid hv2; clear hv2
  go_wp2
  rw [← HV2.out]
  refine SqC.here rfl (fun _ => EN2.out) ?_
  refine SqC.effect rfl rfl ?_
  refine yields_call rfl (by kernel_rfl) rfl rfl (SM2.out.mono ?_)
  rintro e u2 ⟨rfl, f2⟩
  have eu2 : Below W4.heap.size W4 u2 := EN2.out.trans (f2.mono EN2.out.size)
  refine ⟨_, rfl, fun _ => eu2, ?_⟩
  simp only [Act.put, List.setIfInBounds_toArray, List.set_cons_zero, List.set_cons_succ]
  refine SqC.quiet rfl rfl ?_; go_big_quiet_step (fail); refine wpQuiet_nil ?_
  refine SqC.quiet rfl rfl ?_; go_big_quiet_step (fail); refine wpQuiet_nil ?_
  refine SqC.nil ?_
  have EV := Lib.hid eu2
  clear f1 f2 eu1 eu2 eX this HLD SM1 SM2 EN1 EN2 HV1 HV2
  have c12 : u2.cell? ⟨w4.heap.size, 0, none⟩ = some (.slice ss3 3 cs3) := (K33.out.below EV.out K33.out.lt).cell rfl
  have n3 : Sz u2 (.slice ss3 3 cs3) 3 (intsI [1, 2, 3]) := S33.out.below EV.out
  have n4 : Sz u2 (.slice ss4 6 cs4) 6 (intsI [1, 2, 3, 4, 6, 7]) := S4.out.below EV.out
  have k4' := K4.out.below EV.out K4.out.lt
  have q3 := sameSets_any [1, 2, 3] [1, 2, 3] ss3 (some ⟨u2.heap.size, 0, none⟩) cs3 3 (u2.alloc (.cells (intsI [1, 2, 3]).toArray 22)) (n3.below (alloc_below _ _)) (sz_ints u2 [1, 2, 3] 3 rfl (by decide) _) (by decide)
  rw [show (([1, 2, 3] : List Int) == [1, 2, 3]) = true from by decide] at q3
  have Q3 := Lib.hid q3; clear q3 n3
  have N4 := Lib.hid n4; clear n4
  have K4' := Lib.hid k4'; clear k4'
  have HL6 := Lib.hid (HL5.out.below EV.out)
  have LA6 := Lib.hid (LA4.out.below EV.out)
  have BW6 := Lib.hid (BW5.out.trans (EV.out.mono BW5.out.size)); clear EV HL5 LA4 LB3 BW5 HB5 K33 S33 K4 S4
  go_wp2_with (fail)
  refine Q3.out.mono ?_
  rintro e w6 ⟨rfl, b6⟩
  have e6 : Below u2.heap.size u2 w6 := (alloc_below u2 _).trans (b6.mono (alloc_below u2 _).size)
  clear c12
  have c16 : w6.cell? ⟨w5.heap.size, 0, none⟩ = some (.slice ss4 6 cs4) := (K4'.out.below e6 K4'.out.lt).cell rfl
  have q4 := sameSets_any [1, 2, 3, 4, 6, 7] [1, 2, 3, 4, 6, 7] ss4 (some ⟨w6.heap.size, 0, none⟩) cs4 6 (w6.alloc (.cells (intsI [1, 2, 3, 4, 6, 7]).toArray 22)) ((N4.out.below e6).below (alloc_below _ _)) (sz_ints w6 [1, 2, 3, 4, 6, 7] 6 rfl (by decide) _) (by decide)
  rw [show (([1, 2, 3, 4, 6, 7] : List Int) == [1, 2, 3, 4, 6, 7]) = true from by decide] at q4
  have Q4 := Lib.hid q4; clear q4 N4 K4' Q3
  have HL7 := Lib.hid (HL6.out.below e6)
  have LA7 := Lib.hid (LA6.out.below e6)
  have BW7 := Lib.hid (BW6.out.trans (e6.mono BW6.out.size)); clear e6 b6 HL6 LA6 BW6
  go_wp2_with (fail)
  refine Q4.out.mono ?_
  rintro e w7 ⟨rfl, b7⟩
  clear c16
  have e7 : Below w6.heap.size w6 w7 := (alloc_below w6 _).trans (b7.mono (alloc_below w6 _).size)
  have HL8 := Lib.hid (HL7.out.below e7)
  have LA8 := Lib.hid (LA7.out.below e7)
  have BW8 := Lib.hid (BW7.out.trans (e7.mono BW7.out.size)); clear e7 b7 HL7 LA7 BW7 Q4
  have hc := check_ex2 7 s1 6 rfl (by decide) w7 g w7.heap.size rfl HL8.out [ex 7 1, ex 6 2] sa1 ca1 2 rfl (by decide) LA8.out ck1
  have HC := Lib.hid hc; clear hc
  go_wp2_with (fail)
  refine HC.out.mono ?_
  rintro e w8 ⟨rfl, b8⟩
  have HL9 := Lib.hid (HL8.out.below b8)
  have BW9 := Lib.hid (BW8.out.trans (b8.mono BW8.out.size)); clear b8 HL8 LA8 BW8 HC
  have hc := check_ex2 7 s1 6 rfl (by decide) w8 g w8.heap.size rfl HL9.out exL (some ⟨g, 0, none⟩) 4 4 rfl (by decide) HL9.out (a := 0) (b := 22) (by decide +kernel)
  have HC := Lib.hid hc; clear hc
  go_wp2_with (fail)
  refine HC.out.mono ?_
  rintro e w9 ⟨rfl, b9⟩
  have HL10 := Lib.hid (HL9.out.below b9)
  have BW10 := Lib.hid (BW9.out.trans (b9.mono BW9.out.size)); clear b9 HL9 BW9 HC
  obtain ⟨V1, hV1⟩ : ∃ V1, V1 = w9.alloc (.cells #[.int .i64 1] 22) := ⟨_, rfl⟩
  obtain ⟨V2, hV2⟩ : ∃ V2, V2 = V1.alloc (.cells #[.int .i64 1] 22) := ⟨_, rfl⟩
  have y1 : V1.heap.size = w9.heap.size + 1 := by rw [hV1, alloc_size]
  have x1 : Below w9.heap.size w9 V1 := by rw [hV1]; exact alloc_below _ _
  have x2 : Below V1.heap.size V1 V2 := by rw [hV2]; exact alloc_below _ _
  have x02 : Below w9.heap.size w9 V2 := x1.trans (x2.mono x1.size)
  have m1 : Sz V1 (.slice (some ⟨w9.heap.size, 0, none⟩) 1 1) 1 (intsI [1]) := by rw [hV1]; exact sz_ints w9 [1] 1 rfl (by decide) _
  have m2 : Sz V2 (.slice (some ⟨V1.heap.size, 0, none⟩) 1 1) 1 (intsI [1]) := by rw [hV2]; exact sz_ints V1 [1] 1 rfl (by decide) _
  rw [y1] at m2
  have hn := checkNone_any 5 exL [1] [1] (some ⟨g, 0, none⟩) (some ⟨w9.heap.size, 0, none⟩) (some ⟨w9.heap.size + 1, 0, none⟩) 4 1 1 V2 (HL10.out.below x02) (m1.below x2) m2 (by decide)
  rw [nn1] at hn
  have HN := Lib.hid hn; clear hn
  have BV := Lib.hid (BW10.out.trans (x02.mono BW10.out.size)); clear x02 x1 x2 m1 m2 y1 BW10 HL10
  have HV1 := Lib.hid hV1; clear hV1
  have HV2 := Lib.hid hV2; clear hV2
  go_wp2_with (fail)
  rw [← HV1.out, ← HV2.out]
  refine HN.out.mono ?_
  rintro e w10 ⟨rfl, b10⟩
  have hfin : Below w.heap.size w w10 := by
    have h := BV.out.trans (b10.mono BV.out.size)
    exact h
  have HFI := Lib.hid hfin; clear hfin b10
  go_wp2
  go_ret
  exact ⟨rfl, HFI.out⟩
end Go.Proofs.Ytnkinjilnccmfaa

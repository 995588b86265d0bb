/- theory: the fixed problem (lives). -/
import Derived.Test.YtnkglahiagigoaaF17
import Derived.Test.YtnkglahiagigoaaF15
namespace Go.Proofs.Ytnkglahiagigoaa
open Go.RowKit Go.Own Go.Theory Go.BigFrame Go.Shelf
def cs4 : List Int := [3, 14]
def ws4 : List Int := [3, 9, 2, 1]
theorem v4 : valid ((4 : Nat) : Int) ((15 : Nat) : Int) cs4 := by decide +kernel
theorem w4 : wts ((4 : Nat) : Int) ws4 := by decide +kernel
theorem r4 : ∀ z ∈ cs4, rg z := by
  intro z hz
  simp [cs4] at hz
  unfold rg
  omega
theorem t4 : theories 4 15 cs4 = [6, 10, 13] := by decide +kernel
theorem p4 : pbest (fun s => wsum ws4 s 16) (theories 4 15 cs4) = (6, 11) := by decide +kernel
theorem bv4 : bndV ws4 cs4 15 = 12 := by decide +kernel
theorem bl4 : bndL ws4 cs4 15 = [0] := by decide +kernel
theorem ck4 : chk 4 15 cs4 6 = ([0, 1], 0) := by decide +kernel
theorem cm4 : common [6, 10, 13] = 0 := by decide +kernel
theorem all4 (sa : Option Addr) (cap : Nat) (w : World) (hl : Sl w 1 (.slice sa 2 cap) 2 (cs4.map (.int .i64))) : Calls Try.prog 13 #[.int .i64 4, .int .i64 15, .slice sa 2 cap] w fun e w' => ∃ sb cb, e = .returned (.tuple #[.slice sb 3 cb, .int .i64 0]) ∧ Sl w' 1 (.slice sb 3 cb) 3 ([6, 10, 13].map (.int .i64)) ∧ Below w.heap.size w w' := by
  refine (pall_any 4 15 cs4 sa cap v4 w hl r4).mono ?_
  rintro e w' ⟨v, rfl, h, hb⟩
  rw [t4] at h
  obtain ⟨sb, cb, rfl, _⟩ := own_slice h
  exact ⟨sb, cb, rfl, Sl.of_owns h, hb⟩
theorem best4 (sa wa : Option Addr) (cap wcap : Nat) (w : World) (hl : Sl w 1 (.slice sa 2 cap) 2 (cs4.map (.int .i64))) (hw : Sl w 1 (.slice wa 4 wcap) 4 (ws4.map (.int .i64))) : Calls Try.prog 21 #[.int .i64 4, .int .i64 15, .slice sa 2 cap, .slice wa 4 wcap] w fun e w' => e = .returned (.tuple #[.int .i64 6, .int .i64 11, .int .i64 0]) ∧ Below w.heap.size w w' := by
  refine (pbest_any 4 15 cs4 ws4 sa wa cap wcap v4 w4 w hl r4 hw).mono ?_
  rintro e w' ⟨rfl, hb⟩
  exact ⟨by rw [p4]; rfl, hb⟩
theorem bound4 (sa wa : Option Addr) (cap wcap : Nat) (w : World) (hl : Sl w 1 (.slice sa 2 cap) 2 (cs4.map (.int .i64))) (hw : Sl w 1 (.slice wa 4 wcap) 4 (ws4.map (.int .i64))) : Calls Try.prog 23 #[.int .i64 4, .int .i64 15, .slice sa 2 cap, .slice wa 4 wcap] w fun e w' => ∃ sb cb, e = .returned (.tuple #[.int .i64 12, .slice sb 1 cb, .int .i64 0]) ∧ Sl w' 1 (.slice sb 1 cb) 1 ([0].map (.int .i64)) ∧ Below w.heap.size w w' := by
  refine (pbound_any 4 15 cs4 ws4 sa wa cap wcap v4 w4 (by decide) w hl r4 hw).mono ?_
  rintro e w' ⟨v, rfl, h, hb⟩
  rw [bl4] at h
  obtain ⟨sb, cb, rfl, _⟩ := own_slice h
  exact ⟨sb, cb, by rw [bv4]; rfl, Sl.of_owns h, hb⟩
theorem check4 (sa : Option Addr) (cap : Nat) (w : World) (hl : Sl w 1 (.slice sa 2 cap) 2 (cs4.map (.int .i64))) : Calls Try.prog 26 #[.int .i64 4, .int .i64 15, .slice sa 2 cap, .int .i64 6] w fun e w' => ∃ sb cb, e = .returned (.tuple #[.slice sb 2 cb, .int .i64 0]) ∧ Sl w' 1 (.slice sb 2 cb) 2 ([0, 1].map (.int .i64)) ∧ Below w.heap.size w w' := by
  refine (pcheck_any 4 15 6 cs4 sa cap v4 (by decide) (by decide) w hl r4).mono ?_
  rintro e w' ⟨v, rfl, h, hb⟩
  rw [ck4] at h
  obtain ⟨sb, cb, rfl, _⟩ := own_slice h
  exact ⟨sb, cb, by rw [ck4]; rfl, Sl.of_owns h, hb⟩
set_option maxRecDepth 100000 in
set_option maxHeartbeats 1600000 in
theorem lives_any (w : World) : Calls Try.prog 18 #[] w fun e w' => e = .returned (.bool true) ∧ Below w.heap.size w w' := by
  obtain ⟨W1, hW1⟩ : ∃ W1, (w.alloc (.cells #[.int .i64 3, .int .i64 14] 23)).alloc (.cells #[.int .i64 3, .int .i64 9, .int .i64 2, .int .i64 1] 3) = W1 := ⟨_, rfl⟩
  have sc : Sl W1 1 (.slice (some ⟨w.heap.size, 0, none⟩) 2 2) 2 (cs4.map (.int .i64)) := by rw [← hW1]; exact (sl_new w _ 23 2 rfl (by decide)).alloc _
  have sw : Sl W1 1 (.slice (some ⟨w.heap.size + 1, 0, none⟩) 4 4) 4 (ws4.map (.int .i64)) := by rw [← hW1]; exact sl_new_at (w.alloc _) _ 3 4 _ (alloc_size w _).symm rfl (by decide)
  have b1 : Below w.heap.size w W1 := by rw [← hW1]; exact (alloc_below w _).trans ((alloc_below _ _).mono (by rw [alloc_size]; omega))
  have l1 := b1.size
  go_enter Try.func18, Try.ntmps18
  go_wp2_with (fail)
  clear hW1
  refine (all4 _ _ W1 sc).mono ?_
  rintro e W2 ⟨sb, cb, rfl, hA, b2⟩
  have sc2 := sc.below b2
  have sw2 := sw.below b2
  have l2 := b2.size
  have c2 := b1.trans (b2.mono l1)
  clear sc sw b1 b2
  go_wp2_with (fail)
  refine (best4 _ _ _ _ W2 sc2 sw2).mono ?_
  rintro e W3 ⟨rfl, b3⟩
  have sc3 := sc2.below b3
  have sw3 := sw2.below b3
  have hA3 := hA.below b3
  have l3 := b3.size
  have c3 := c2.trans (b3.mono c2.size)
  clear sc2 sw2 b3 hA c2
  go_wp2_with (fail)
  refine (bound4 _ _ _ _ W3 sc3 sw3).mono ?_
  rintro e W4 ⟨sd, cd, rfl, hB, b4⟩
  have sc4 := sc3.below b4
  have hA4 := hA3.below b4
  have c4 := c3.trans (b4.mono c3.size)
  clear sc3 sw3 b4 hA3 c3
  go_wp2_with (fail)
  refine (check4 _ _ W4 sc4).mono ?_
  rintro e W5 ⟨sf, cf, rfl, hC, b5⟩
  have hA5 := hA4.below b5
  have hB5 := hB.below b5
  have c5 := c4.trans (b5.mono c4.size)
  clear sc4 b5 hA4 hB c4
  obtain ⟨W6, hW6⟩ : ∃ W6, W5.alloc (.cells #[.int .i64 6, .int .i64 10, .int .i64 13] 23) = W6 := ⟨_, rfl⟩
  have sk : Sl W6 1 (.slice (some ⟨W5.heap.size, 0, none⟩) 3 3) 3 (([6, 10, 13] : List Int).map (.int .i64)) := by rw [← hW6]; exact sl_new W5 _ 23 3 rfl (by decide)
  have b6 : Below W5.heap.size W5 W6 := by rw [← hW6]; exact alloc_below W5 _
  have hA6 := hA5.below b6
  have hB6 := hB5.below b6
  have hC6 := hC.below b6
  have c6 := c5.trans (b6.mono c5.size)
  clear hA5 hB5 hC b6 c5
  go_wp2_with (fail)
  clear hW6
  refine (same_any [6, 10, 13] [6, 10, 13] _ _ _ _ W6 hA6 sk (.inl (by decide))).mono ?_
  rintro e W7 ⟨rfl, b7⟩
  have hA7 := hA6.below b7
  have hB7 := hB6.below b7
  have hC7 := hC6.below b7
  have c7 := c6.trans (b7.mono c6.size)
  clear hA6 hB6 hC6 b7 c6 sk
  rw [show (([6, 10, 13] : List Int) == [6, 10, 13]) = true from rfl]
  obtain ⟨W8, hW8⟩ : ∃ W8, W7.alloc (.cells #[.int .i64 0] 3) = W8 := ⟨_, rfl⟩
  have sk : Sl W8 1 (.slice (some ⟨W7.heap.size, 0, none⟩) 1 1) 1 (([0] : List Int).map (.int .i64)) := by rw [← hW8]; exact sl_new W7 _ 3 1 rfl (by decide)
  have b8 : Below W7.heap.size W7 W8 := by rw [← hW8]; exact alloc_below W7 _
  have hA8 := hA7.below b8
  have hB8 := hB7.below b8
  have hC8 := hC7.below b8
  have c8 := c7.trans (b8.mono c7.size)
  clear hA7 hB7 hC7 b8 c7
  go_wp2_with (fail)
  clear hW8
  refine (sameInts_any [0] [0] _ _ _ _ W8 hB8 sk (.inl (by decide))).mono ?_
  rintro e W9 ⟨rfl, b9⟩
  have hA9 := hA8.below b9
  have hC9 := hC8.below b9
  have c9 := c8.trans (b9.mono c8.size)
  clear hA8 hB8 hC8 b9 c8 sk
  rw [show (([0] : List Int) == [0]) = true from rfl]
  go_wp2_with (fail)
  refine (common_any [6, 10, 13] _ _ W9 hA9 (by decide)).mono ?_
  rintro e w2 ⟨rfl, rfl⟩
  rw [cm4]
  obtain ⟨WA, hWA⟩ : ∃ WA, w2.alloc (.cells #[.int .i64 0, .int .i64 1] 3) = WA := ⟨_, rfl⟩
  have sk : Sl WA 1 (.slice (some ⟨w2.heap.size, 0, none⟩) 2 2) 2 (([0, 1] : List Int).map (.int .i64)) := by rw [← hWA]; exact sl_new w2 _ 3 2 rfl (by decide)
  have bA : Below w2.heap.size w2 WA := by rw [← hWA]; exact alloc_below w2 _
  have hCA := hC9.below bA
  have cA := c9.trans (bA.mono c9.size)
  clear hA9 hC9 bA c9
  go_wp2_with (fail)
  clear hWA
  refine (sameInts_any [0, 1] [0, 1] _ _ _ _ WA hCA sk (.inl (by decide))).mono ?_
  rintro e WB ⟨rfl, bB⟩
  have cB := cA.trans (bB.mono cA.size)
  rw [show (([0, 1] : List Int) == [0, 1]) = true from rfl]
  go_wp2
  go_ret
  exact ⟨rfl, cB⟩
end Go.Proofs.Ytnkglahiagigoaa

/- theory: All. -/
import Derived.Test.YtnkglahiagigoaaF5
namespace Go.Proofs.Ytnkglahiagigoaa
open Go.RowKit Go.Own Go.Theory Go.BigFrame Go.Shelf
theorem rall_bad (n may : Int) (l : List Int) (sa : Option Addr) (cap : Nat) (hn : rg n) (hm : rg may) (hv : ¬ valid n may l) (w : World) (hl : Sl w 1 (.slice sa l.length cap) l.length (l.map (.int .i64))) (hll : l.length ≤ 1000000) (hr : ∀ z ∈ l, rg z) :
    Calls Try.prog 14 #[.int .i64 n, .int .i64 may, .slice sa l.length cap] w fun e w' => e = .returned (.tuple #[.slice none 0 0, .int .i64 1]) ∧ w' = w := by
  have h := rvalid_any n may l sa cap hn hm w hl hll hr
  rw [decide_eq_false hv] at h
  go_enter Try.func14, Try.ntmps14
  go_wp2_with (fail)
  refine h.mono ?_
  rintro e w2 ⟨rfl, rfl⟩
  go_wp2
  go_ret2
  exact ⟨rfl, rfl⟩
set_option maxRecDepth 100000 in
theorem pall_bad (n may : Int) (l : List Int) (sa : Option Addr) (cap : Nat) (hn : rg n) (hm : rg may) (hv : ¬ valid n may l) (w : World) (hl : Sl w 1 (.slice sa l.length cap) l.length (l.map (.int .i64))) (hll : l.length ≤ 1000000) (hr : ∀ z ∈ l, rg z) :
    Calls Try.prog 13 #[.int .i64 n, .int .i64 may, .slice sa l.length cap] w fun e w' => e = .returned (.tuple #[.slice none 0 0, .int .i64 1]) ∧ Below w.heap.size w w' := by
  obtain ⟨W1, hW1⟩ : ∃ W1, w.alloc (.cells #[.int .i64 n, .int .i64 may, .slice sa l.length cap] 56) = W1 := ⟨_, rfl⟩
  have b1 : Below w.heap.size w W1 := by rw [← hW1]; exact alloc_below _ _
  have h := pvalid_any n may l sa cap hn hm W1 (hl.below b1) hll hr
  rw [decide_eq_false hv] at h
  have k1 : Blk W1 w.heap.size [.int .i64 n, .int .i64 may, .slice sa l.length cap] 56 := by rw [← hW1]; exact Blk.new _ _ _
  have hC : Cells W1 w.heap.size 0 [.int .i64 n, .int .i64 may, .slice sa l.length cap] := k1.cells 0 _ rfl
  go_enter Try.func13, Try.ntmps13
  go_wp2_with (refine wpList_load_agg [.int .i64 n, .int .i64 may, .slice sa l.length cap] hC rfl rfl rfl aggBase infoBase ?_)
  refine h.mono ?_
  rintro e w2 ⟨rfl, hb⟩
  go_wp2
  go_ret2
  exact ⟨rfl, b1.trans (hb.mono b1.size)⟩
set_option maxRecDepth 100000 in
theorem pall_any (n may : Nat) (l : List Int) (sa : Option Addr) (cap : Nat) (hv : valid n may l) (w : World) (hl : Sl w 1 (.slice sa l.length cap) l.length (l.map (.int .i64))) (hr : ∀ z ∈ l, rg z) :
    Calls Try.prog 13 #[.int .i64 n, .int .i64 may, .slice sa l.length cap] w fun e w' => ∃ v, e = .returned (.tuple #[v, .int .i64 0]) ∧ w'.ownsRow w.heap.size 23 1 v (theories n may l).length ((theories n may l).map fun (j : Nat) => .int .i64 j) ∧ Below w.heap.size w w' := by
  have hn16 : n ≤ 16 := by have := hv.2.1; omega
  have hp2 := pow16 hn16
  have hmay : may < 65536 := by
    have h := hv.2.2.2.2.1
    rw [show ((2 : Int) ^ (n : Int).toNat) = ((2 ^ n : Nat) : Int) by simp] at h
    omega
  have hll : l.length ≤ 1000000 := by have := hv.2.2.1; omega
  obtain ⟨W1, hW1⟩ : ∃ W1, w.alloc (.cells #[.int .i64 n, .int .i64 may, .slice sa l.length cap] 56) = W1 := ⟨_, rfl⟩
  have b1 : Below w.heap.size w W1 := by rw [← hW1]; exact alloc_below _ _
  have k1 : Blk W1 w.heap.size [.int .i64 n, .int .i64 may, .slice sa l.length cap] 56 := by rw [← hW1]; exact Blk.new _ _ _
  have hC : Cells W1 w.heap.size 0 [.int .i64 n, .int .i64 may, .slice sa l.length cap] := k1.cells 0 _ rfl
  have h := pvalid_any n may l sa cap (by unfold rg; omega) (rg_nat hmay) W1 (hl.below b1) hll hr
  rw [decide_eq_true hv] at h
  have ht := fun W h => ptheories_any n may l sa cap hv W h
  clear hv hp2
  go_enter Try.func13, Try.ntmps13
  go_wp2_with (refine wpList_load_agg [.int .i64 n, .int .i64 may, .slice sa l.length cap] hC rfl rfl rfl aggBase infoBase ?_)
  refine h.mono ?_
  clear h hC
  rintro e w2 ⟨rfl, hb⟩
  have b2 : Below w.heap.size w w2 := b1.trans (hb.mono b1.size)
  have ht2 := ht w2 (hl.below b2)
  have k2 := k1.below hb k1.lt
  have hC2 : Cells w2 w.heap.size 0 [.int .i64 n, .int .i64 may, .slice sa l.length cap] := k2.cells 0 _ rfl
  clear ht hW1
  go_wp2_with (refine wpList_load_agg [.int .i64 n, .int .i64 may, .slice sa l.length cap] hC2 rfl rfl rfl aggBase infoBase ?_)
  refine ht2.mono ?_
  clear ht2
  rintro e w3 ⟨v, rfl, ho, hb3⟩
  go_wp2
  go_ret2
  have := b2.size
  exact ⟨v, rfl, own_weaken ho this, b2.trans (hb3.mono this)⟩
end Go.Proofs.Ytnkglahiagigoaa

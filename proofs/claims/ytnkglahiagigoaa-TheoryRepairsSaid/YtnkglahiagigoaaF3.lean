/- theory: the program's valid of a base with weights. -/
import Derived.Test.YtnkglahiagigoaaF2
namespace Go.Proofs.Ytnkglahiagigoaa
open Go.RowKit Go.Own Go.Theory Go.BigFrame Go.Shelf
theorem badW (w : World) : PredAt Try.prog 66 #[] (Value.int .i64) (fun x => decide (x < 0) || decide (16384 < x)) w := fun W x _ => by
  show Calls Try.prog 66 #[.int .i64 x] W _
  go_enter Try.func66, Try.ntmps66
  by_cases h : x < 0
  · go_wp2
    go_ret
    exact ⟨by simp [h], 0, rfl⟩
  · have h' : 0 ≤ x := by omega
    go_wp2
    go_ret
    exact ⟨by simp [show ¬ x < 0 by omega], 0, rfl⟩
theorem aggBase : (match Try.prog.underlying 56 with | some (.struct _) | some (.array _ _) => true | _ => false) = true := by kernel_rfl
theorem infoBase : (Try.prog.info? 56).map (·.size) = some 3 := by kernel_rfl
theorem wts_eq (n : Int) (l : List Int) : decide (wts n l) = (decide ((l.length : Int) = n) && !(l.any fun x => decide (x < 0) || decide (16384 < x))) := by
  rw [Bool.eq_iff_iff, decide_eq_true_iff, Bool.and_eq_true, decide_eq_true_iff, Bool.not_eq_true', List.any_eq_false]
  unfold wts
  constructor
  · rintro ⟨h1, h2⟩
    exact ⟨h1, fun x hx => by have := h2 x hx; simp; omega⟩
  · rintro ⟨h1, h2⟩
    exact ⟨h1, fun x hx => by have := h2 x hx; simp at this; omega⟩
set_option maxRecDepth 100000 in
theorem pwvalid_any (n may : Int) (l wl : List Int) (sa wa : Option Addr) (cap wcap : Nat) (hn : rg n) (hm : rg may) (w : World) (hl : Sl w 1 (.slice sa l.length cap) l.length (l.map (.int .i64))) (hll : l.length ≤ 1000000) (hr : ∀ z ∈ l, rg z)
    (hwl : Sl w 1 (.slice wa wl.length wcap) wl.length (wl.map (.int .i64))) (hwll : wl.length ≤ 1000000) :
    Calls Try.prog 39 #[.agg #[.int .i64 n, .int .i64 may, .slice sa l.length cap, .slice wa wl.length wcap]] w fun e w' => e = .returned (.bool (decide (valid n may l) && decide (wts n wl))) ∧ Below w.heap.size w w' := by
  rw [wts_eq]
  obtain ⟨W1, hW1⟩ : ∃ W1, w.alloc (.cells #[.int .i64 n, .int .i64 may, .slice sa l.length cap, .slice wa wl.length wcap] 61) = W1 := ⟨_, rfl⟩
  have b1 : Below w.heap.size w W1 := by rw [← hW1]; exact (Below.refl _ w).alloc (Nat.le_refl _) _
  have k1 : Blk W1 w.heap.size [.int .i64 n, .int .i64 may, .slice sa l.length cap, .slice wa wl.length wcap] 61 := by rw [← hW1]; exact Blk.new _ _ _
  have cv := pvalid_any n may l sa cap hn hm W1 (hl.below b1) hll hr
  have hC : Cells W1 w.heap.size 0 [.int .i64 n, .int .i64 may, .slice sa l.length cap] := k1.cells 0 _ rfl
  have hsz : w.heap.size < W1.heap.size := k1.lt
  obtain ⟨v, hv⟩ : ∃ v, v = decide (valid n may l) := ⟨_, rfl⟩
  rw [← hv] at cv ⊢
  clear hv
  obtain ⟨t, ht⟩ : ∃ t, t = decide ((wl.length : Int) = n) := ⟨_, rfl⟩
  rw [← ht]
  have ht2 : ((wl.length : Int) == n) = t := by rw [ht]; by_cases h : (wl.length : Int) = n <;> simp [h]
  clear ht
  go_enter Try.func39, Try.ntmps39
  go_wp2_with (refine wpList_load_agg [.int .i64 n, .int .i64 may, .slice sa l.length cap] hC rfl rfl rfl aggBase infoBase ?_)
  refine cv.mono ?_
  clear cv
  rintro e W2 ⟨rfl, b2⟩
  have b12 : Below w.heap.size w W2 := b1.trans (b2.mono (Nat.le_of_lt hsz))
  have k2 := k1.below b2 hsz
  have c1 : W2.cell? ⟨w.heap.size, 0, none⟩ = some (.int .i64 n) := k2.cell rfl
  have c4 : W2.cell? ⟨w.heap.size, 3, none⟩ = some (.slice wa wl.length wcap) := k2.cell rfl
  clear hC hW1
  cases v with
  | false =>
    go_wp2
    go_ret
    exact ⟨rfl, b12⟩
  | true =>
    have cf : Calls Try.prog 65 #[.slice wa wl.length wcap, .func (.func 66) #[] #[]] W2 _ := cf_any Try.lc65 _ 66 _ (enters_of Try.func66 (by kernel_rfl) rfl) wl wa wcap W2 (badW W2) (hwl.below b12) (by omega)
    cases t with
    | true =>
      go_wp2_with (fail)
      refine cf.mono ?_
      rintro e w' ⟨rfl, q, rfl⟩
      go_wp2
      go_ret
      exact ⟨by simp, below_drewN b12 q⟩
    | false =>
      go_wp2
      go_ret
      exact ⟨by simp, b12⟩
end Go.Proofs.Ytnkglahiagigoaa

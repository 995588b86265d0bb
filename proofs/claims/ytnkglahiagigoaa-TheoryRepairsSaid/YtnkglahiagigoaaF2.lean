/- theory: the program's valid. -/
import Derived.Test.YtnkglahiagigoaaF1
import Derived.Test.YtnkglahiagigoaaCf
import Derived.Test.YtnkglahiagigoaaShB
namespace Go.Theory
open Go.RowKit Go.Own Go.Ib
theorem subN {m s : Nat} (hm : m < 9223372036854775808) (hs : s < 9223372036854775808) : sub m s = true ↔ ∀ k, m.testBit k = true → s.testBit k = true := by
  rw [← sub_andNot, b_andNot m s hm hs, beq_iff_eq]
  constructor
  · intro h k hk
    have h0 : diff m s = 0 := by omega
    have h1 := diff_bit m s k hm
    rw [h0, Nat.zero_testBit, hk] at h1
    cases h2 : s.testBit k with
    | true => rfl
    | false => rw [h2] at h1; simp at h1
  · intro h
    have : diff m s = 0 := by
      apply Nat.eq_of_testBit_eq
      intro k
      rw [diff_bit m s k hm, Nat.zero_testBit]
      cases h1 : m.testBit k with
      | false => rfl
      | true => rw [h k h1]; rfl
    rw [this]; rfl
theorem sub_neg {x : Int} (hx : rg x) (h : x < 0) {s : Nat} (hs : s < 9223372036854775808) : sub x s = false := by
  unfold sub
  rw [decide_eq_false_iff_not]
  intro h1
  have h2 := congrArg BitVec.toNat ((sub_iff _ _).1 h1)
  rw [BitVec.toNat_or, B_nat s (by omega)] at h2
  have h3 : (B x).toNat ≤ (B x).toNat ||| s := Nat.left_le_or
  have h4 : 9223372036854775808 ≤ (B x).toNat := by
    unfold rg at hx
    show _ ≤ (BitVec.ofInt 64 x).toNat
    rw [BitVec.toNat_ofInt]
    omega
  omega
theorem lt_of_bits {x n : Nat} (h : ∀ k, x.testBit k = true → k < n) : x < 2 ^ n := by
  apply Nat.lt_pow_two_of_testBit
  intro k hk
  cases h1 : x.testBit k with
  | false => rfl
  | true => have := h k h1; omega
theorem bits_of_lt {x n k : Nat} (h : x < 2 ^ n) (hk : x.testBit k = true) : k < n := by
  by_cases h1 : k < n
  · exact h1
  · have := Nat.testBit_lt_two_pow (i := k) (x := x) (Nat.lt_of_lt_of_le h (Nat.pow_le_pow_right (by omega) (by omega)))
    rw [this] at hk; cases hk
theorem sub_all {n : Nat} (hn : n ≤ 16) (x : Int) (hx : rg x) : sub x ((2 ^ n - 1 : Nat) : Int) = decide (0 ≤ x ∧ x < ((2 ^ n : Nat) : Int)) := by
  have hp := pow16 hn
  by_cases h : x < 0
  · rw [sub_neg hx h (by omega)]
    simp; omega
  · obtain ⟨m, rfl⟩ : ∃ m : Nat, x = m := ⟨x.toNat, by omega⟩
    have hm : m < 9223372036854775808 := by unfold rg at hx; omega
    rw [Bool.eq_iff_iff, subN hm (by omega), decide_eq_true_iff]
    constructor
    · intro h1
      refine ⟨by omega, ?_⟩
      have := lt_of_bits (x := m) (n := n) fun k hk => by
        have := h1 k hk
        rw [Nat.testBit_two_pow_sub_one] at this
        simpa using this
      omega
    · rintro ⟨_, h2⟩ k hk
      rw [Nat.testBit_two_pow_sub_one]
      simpa using bits_of_lt (x := m) (n := n) (by omega) hk
theorem valid_iff {n : Nat} (hn : n ≤ 16) {may : Int} {l : List Int} (hl : l.length ≤ 1024) (hm : rg may) (hr : ∀ z ∈ l, rg z) :
    decide (valid n may l) = (sub may ((2 ^ n - 1 : Nat) : Int) && !(l.any fun c => c == 0 || !sub c ((2 ^ n - 1 : Nat) : Int))) := by
  rw [Bool.eq_iff_iff, decide_eq_true_iff, Bool.and_eq_true, sub_all hn may hm, decide_eq_true_iff, Bool.not_eq_true', List.any_eq_false]
  have hp3 : ((2 : Int) ^ (n : Int).toNat) = ((2 ^ n : Nat) : Int) := by simp
  unfold valid
  rw [hp3]
  have key : ∀ c ∈ l, (¬ (c == 0 || !sub c ((2 ^ n - 1 : Nat) : Int)) = true) ↔ (1 ≤ c ∧ c < ((2 ^ n : Nat) : Int)) := fun c hc => by
    rw [sub_all hn c (hr c hc)]
    generalize ((2 ^ n : Nat) : Int) = M
    rw [Bool.or_eq_true, not_or, beq_iff_eq, Bool.not_eq_true', decide_eq_false_iff_not, Decidable.not_not]
    omega
  constructor
  · rintro ⟨_, _, _, h4, h5, h6⟩
    exact ⟨⟨h4, h5⟩, fun c hc => (key c hc).2 (h6 c hc)⟩
  · rintro ⟨⟨h4, h5⟩, h6⟩
    exact ⟨by omega, by omega, hl, h4, h5, fun c hc => (key c hc).1 (h6 c hc)⟩
end Go.Theory
namespace Go.Proofs.Ytnkglahiagigoaa
open Go.RowKit Go.Own Go.Theory Go.BigFrame Go.Shelf
theorem badP (a : Int) (B : Nat) (w : World) (hB : B < w.heap.size) (hc : w.cell? ⟨B, 0, none⟩ = some (.int .i64 a)) :
    PredAt Try.prog 63 #[.pointer (some ⟨B, 0, none⟩)] (Value.int .i64) (fun c => c == 0 || !sub c a) w := fun W x hb => by
  have hcW : W.cell? ⟨B, 0, none⟩ = some (.int .i64 a) := (hb.cell (p := ⟨B, 0, none⟩) hB).trans hc
  show Calls Try.prog 63 #[.int .i64 x, .pointer (some ⟨B, 0, none⟩)] W _
  go_enter Try.func63, Try.ntmps63
  by_cases h : x = 0
  · subst h
    go_wp2
    go_ret
    exact ⟨by simp, 0, rfl⟩
  · have h' : (x == 0) = false := by simpa using h
    go_wp2_with (fail)
    refine (contains_any a x W).mono ?_
    rintro e w' ⟨rfl, rfl⟩
    go_wp2
    go_ret
    exact ⟨by simp [h'], 0, rfl⟩
set_option maxRecDepth 100000 in
theorem pvalid_any (n may : Int) (l : List Int) (sa : Option Addr) (cap : Nat) (hn : rg n) (hm : rg may) (w : World) (hl : Sl w 1 (.slice sa l.length cap) l.length (l.map (.int .i64))) (hll : l.length ≤ 1000000) (hr : ∀ z ∈ l, rg z) :
    Calls Try.prog 35 #[.agg #[.int .i64 n, .int .i64 may, .slice sa l.length cap]] w fun e w' => e = .returned (.bool (decide (valid n may l))) ∧ Below w.heap.size w w' := by
  have hm0 := hm
  unfold rg at hn hm
  by_cases h1 : n < 0
  · have e : decide (valid n may l) = false := decide_eq_false fun h => by have := h.1; omega
    rw [e]
    go_enter Try.func35, Try.ntmps35
    go_wp2
    go_ret
    exact ⟨rfl, (Below.refl _ w).alloc (Nat.le_refl _) _⟩
  · by_cases h2 : 16 < n
    · have e : decide (valid n may l) = false := decide_eq_false fun h => by have := h.2.1; omega
      rw [e]
      go_enter Try.func35, Try.ntmps35
      go_wp2
      go_ret
      exact ⟨rfl, (Below.refl _ w).alloc (Nat.le_refl _) _⟩
    · obtain ⟨n, rfl⟩ : ∃ k : Nat, n = k := ⟨n.toNat, by omega⟩
      have hn16 : n ≤ 16 := by omega
      have g1 : (n : Int) ≤ 16 := by omega
      clear h1 h2
      by_cases h3 : 1024 < l.length
      · have h3' : (1024 : Int) < l.length := by omega
        have e : decide (valid n may l) = false := decide_eq_false fun h => by have := h.2.2.1; omega
        rw [e]
        go_enter Try.func35, Try.ntmps35
        go_wp2
        go_ret
        exact ⟨rfl, (Below.refl _ w).alloc (Nat.le_refl _) _⟩
      · have g3 : (l.length : Int) ≤ 1024 := by omega
        have hv := valid_iff hn16 (may := may) (l := l) (by omega) hm0 hr
        have hp := wrap_pow hn16
        have hp2 := pow16 hn16
        have hp3 : 1 ≤ 2 ^ n := Nat.one_le_two_pow
        obtain ⟨M, hM⟩ : ∃ M, M = 2 ^ n := ⟨_, rfl⟩
        rw [← hM] at hp hp2 hp3 hv
        clear hM
        rw [show ((M - 1 : Nat) : Int) = (M : Int) - 1 by omega] at hv
        obtain ⟨W2, hW2⟩ : ∃ W2, (w.alloc (.cells #[.int .i64 n, .int .i64 may, .slice sa l.length cap] 56)).alloc (.cells #[.int .i64 ((M : Int) - 1)] 23) = W2 := ⟨_, rfl⟩
        have b2 : Below w.heap.size w W2 := by rw [← hW2]; exact ((Below.refl _ w).alloc (Nat.le_refl _) _).alloc (by simp) _
        have k1 : Blk W2 w.heap.size [.int .i64 n, .int .i64 may, .slice sa l.length cap] 56 := by rw [← hW2]; exact (Blk.new _ _ _).alloc _
        have k2 : Blk W2 (w.heap.size + 1) [.int .i64 ((M : Int) - 1)] 23 := by rw [← hW2]; exact Blk.new_at _ _ _ (by simp)
        have cf : Calls Try.prog 57 #[.slice sa l.length cap, .func (.func 63) #[] #[.pointer (some ⟨w.heap.size + 1, 0, none⟩)]] W2 _ := cf_any Try.lc57 _ 63 _ (enters_of Try.func63 (by kernel_rfl) rfl) l sa cap W2 (badP ((M : Int) - 1) (w.heap.size + 1) W2 k2.lt (k2.cell rfl)) (hl.below b2) (by omega)
        have HV := Lib.hid hv; clear hv
        have c1 : W2.cell? ⟨w.heap.size, 1, none⟩ = some (.int .i64 may) := k1.cell rfl
        have c2 : W2.cell? ⟨w.heap.size, 2, none⟩ = some (.slice sa l.length cap) := k1.cell rfl
        have c3 : W2.cell? ⟨w.heap.size + 1, 0, none⟩ = some (.int .i64 ((M : Int) - 1)) := k2.cell rfl
        clear hp3
        go_enter Try.func35, Try.ntmps35
        go_wp2_with (fail)
        refine (contains_any _ may W2).mono ?_
        rintro e w' ⟨rfl, rfl⟩
        cases hs : sub may ((M : Int) - 1) with
        | false =>
          go_wp2
          go_ret
          rw [HV.out, hs]
          exact ⟨rfl, b2⟩
        | true =>
          go_wp2_with (fail)
          refine cf.mono ?_
          rintro e w' ⟨rfl, q, rfl⟩
          go_wp2
          go_ret
          rw [HV.out, hs, Bool.true_and]
          exact ⟨rfl, below_drewN b2 q⟩
end Go.Proofs.Ytnkglahiagigoaa

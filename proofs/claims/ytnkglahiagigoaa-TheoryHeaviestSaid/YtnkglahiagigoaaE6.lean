/- theory: the reference's Theory. -/
import Derived.Test.YtnkglahiagigoaaE5
namespace Go.Theory
open Go.Own Go.RowKit
/-- s is a theory of a base -/
def theory (n may : Nat) (l : List Int) (s : Nat) : Prop := sub s may = true ∧ fst l s < 0 ∧ ∀ k, k < n → may.testBit k = true → s.testBit k = false → 0 ≤ fst l ((s ||| 2 ^ k : Nat) : Int)
instance (n may : Nat) (l : List Int) (s : Nat) : Decidable (theory n may l s) := by unfold theory; infer_instance
theorem fst_rg (l : List Int) (s : Int) (h : l.length ≤ 1000000) : -1 ≤ fst l s ∧ fst l s ≤ 1000000 := by
  unfold fst; split <;> omega
theorem rg_nat {s : Nat} (h : s < 65536) : rg s := by unfold rg; omega
end Go.Theory
namespace Go.Proofs.Ytnkglahiagigoaa
open Go.RowKit Go.Own Go.Theory Go.BigFrame
theorem rtheory_any (n may s : Nat) (l : List Int) (sa : Option Addr) (cap : Nat) (hn : n ≤ 16) (hm : may < 65536) (hs : s < 65536) (w : World) (hl : Sl w 1 (.slice sa l.length cap) l.length (l.map (.int .i64))) (hll : l.length ≤ 1000000) :
    Calls Try.prog 38 #[.int .i64 n, .int .i64 may, .slice sa l.length cap, .int .i64 s] w fun e w' => e = .returned (.bool (decide (theory n may l s))) ∧ w' = w := by
  go_enter Try.func38, Try.ntmps38
  go_wp2_with (fail)
  refine (in_any s may (rg_nat hm) w).mono ?_
  rintro e w2 ⟨rfl, rfl⟩
  cases h1 : sub s may with
  | false =>
    have e : decide (theory n may l s) = false := decide_eq_false fun h => absurd h.1 (by simp [h1])
    go_wp2
    go_ret
    rw [e]
    exact ⟨rfl, rfl⟩
  | true =>
    go_wp2_with (fail)
    refine (first_any l s sa cap (rg_nat hs) w2 hl hll).mono ?_
    rintro e w3 ⟨rfl, rfl⟩
    have hf := fst_rg l s hll
    by_cases h2 : 0 ≤ fst l s
    · have e : decide (theory n may l s) = false := decide_eq_false fun h => absurd h.2.1 (by omega)
      go_wp2
      go_ret
      rw [e]
      exact ⟨rfl, rfl⟩
    · have h2' : fst l s < 0 := by omega
      clear h2
      go_wp2
      go_loopw [9] (fun c wr => ∃ k : Nat, k ≤ n ∧ c = .int .i64 k ∧ (∀ j, j < k → may.testBit j = true → s.testBit j = false → 0 ≤ fst l ((s ||| 2 ^ j : Nat) : Int)) ∧ wr = w3) (fun c _ => n - (intOf c).toNat)
      case atStart => exact ⟨0, by omega, rfl, fun j h => absurd h (by omega), rfl⟩
      case round =>
        obtain ⟨k, hk, rfl, he, rfl⟩ := hrel
        by_cases hkn : k < n
        · have step : (may.testBit k = true → s.testBit k = false → 0 ≤ fst l ((s ||| 2 ^ k : Nat) : Int)) → ∀ j, j < k + 1 → may.testBit j = true → s.testBit j = false → 0 ≤ fst l ((s ||| 2 ^ j : Nat) : Int) := fun h j hj => by
            by_cases e : j = k
            · subst e; exact h
            · exact he j (by omega)
          have hlt : s ||| 2 ^ k < 65536 := Nat.or_lt_two_pow (n := 16) hs (Nat.pow_lt_pow_right (by decide) (show k < 16 by omega))
          go_wp2_with (fail)
          refine (has_any may k hm (by omega) wr).mono ?_
          rintro e w4 ⟨rfl, rfl⟩
          cases b1 : may.testBit k with
          | false =>
            have ht := step fun h => by rw [b1] at h; cases h
            clear step
            go_wp2
            go_roundw
            case rel => exact ⟨k + 1, by omega, by go_num, ht, trivial⟩
            case measure => simp [intOf]; omega
          | true =>
            go_wp2_with (fail)
            refine (has_any s k hs (by omega) w4).mono ?_
            rintro e w5 ⟨rfl, rfl⟩
            cases b2 : s.testBit k with
            | true =>
              have ht := step fun _ h => by rw [b2] at h; cases h
              clear step
              go_wp2
              go_roundw
              case rel => exact ⟨k + 1, by omega, by go_num, ht, trivial⟩
              case measure => simp [intOf]; omega
            | false =>
              go_wp2_with (fail)
              refine (with_any s k hs (by omega) w5).mono ?_
              rintro e w6 ⟨rfl, rfl⟩
              have hno : decide (theory n may l s) = true → 0 ≤ fst l ((s ||| 2 ^ k : Nat) : Int) := fun h => (of_decide_eq_true h).2.2 k hkn b1 b2
              obtain ⟨m, hm2⟩ : ∃ m, m = s ||| 2 ^ k := ⟨_, rfl⟩
              rw [← hm2] at step hlt hno ⊢
              clear hm2
              go_wp2_with (fail)
              refine (first_any l m sa cap (rg_nat hlt) w6 hl hll).mono ?_
              rintro e w7 ⟨rfl, rfl⟩
              have hf2 := fst_rg l m hll
              by_cases q : 0 ≤ fst l m
              · have ht := step fun _ _ => q
                clear step hno
                go_wp2
                go_roundw
                case rel => exact ⟨k + 1, by omega, by go_num, ht, trivial⟩
                case measure => simp [intOf]; omega
              · have q' : fst l m < 0 := by omega
                have e : decide (theory n may l s) = false := by
                  cases hd : decide (theory n may l s) with
                  | false => rfl
                  | true => exact absurd (hno hd) q
                clear q step hno
                go_wp2
                go_ret
                rw [e]
                exact ⟨rfl, rfl⟩
        · obtain rfl : k = n := by omega
          have e : decide (theory k may l s) = true := decide_eq_true ⟨h1, h2', he⟩
          go_wp2
          go_ret
          rw [e]
          exact ⟨rfl, rfl⟩
end Go.Proofs.Ytnkglahiagigoaa

/- theory: the reference's Valid. -/
import Derived.Test.YtnkglahiagigoaaE4
namespace Go.Theory
open Go.Own Go.RowKit
/-- a valid base -/
def valid (n may : Int) (l : List Int) : Prop := 0 ≤ n ∧ n ≤ 16 ∧ l.length ≤ 1024 ∧ 0 ≤ may ∧ may < 2 ^ n.toNat ∧ ∀ c ∈ l, 1 ≤ c ∧ c < 2 ^ n.toNat
instance (n may : Int) (l : List Int) : Decidable (valid n may l) := by unfold valid; infer_instance
theorem pow16 {n : Nat} (h : n ≤ 16) : (2 : Nat) ^ n ≤ 65536 := Nat.pow_le_pow_right (n := 2) (by omega) h
theorem wrap_pow {n : Nat} (h : n ≤ 16) : wrap64 ((2 : Int) ^ n) = ((2 ^ n : Nat) : Int) := by
  have h2 := pow16 h
  rw [show ((2 : Int) ^ n) = ((2 ^ n : Nat) : Int) by simp]
  generalize (2 : Nat) ^ n = m at h2 ⊢
  exact Go.IntWalk.wrap64_in _ (by omega)
end Go.Theory
namespace Go.Proofs.Ytnkglahiagigoaa
open Go.RowKit Go.Own Go.Theory Go.BigFrame
theorem rvalid_any (n may : Int) (l : List Int) (sa : Option Addr) (cap : Nat) (hn : rg n) (hm : rg may) (w : World) (hl : Sl w 1 (.slice sa l.length cap) l.length (l.map (.int .i64))) (hll : l.length ≤ 1000000) (hr : ∀ z ∈ l, rg z) :
    Calls Try.prog 37 #[.int .i64 n, .int .i64 may, .slice sa l.length cap] w fun e w' => e = .returned (.bool (decide (valid n may l))) ∧ w' = w := by
  unfold rg at hn hm
  by_cases h1 : n < 0
  · have e : decide (valid n may l) = false := decide_eq_false fun h => by have := h.1; omega
    rw [e]
    go_enter Try.func37, Try.ntmps37
    go_wp2
    go_ret
    exact ⟨rfl, rfl⟩
  · by_cases h2 : 16 < n
    · have e : decide (valid n may l) = false := decide_eq_false fun h => by have := h.2.1; omega
      rw [e]
      go_enter Try.func37, Try.ntmps37
      go_wp2
      go_ret
      exact ⟨rfl, rfl⟩
    · obtain ⟨n, rfl⟩ : ∃ k : Nat, n = k := ⟨n.toNat, by omega⟩
      have hn16 : n ≤ 16 := by omega
      have g1 : (n : Int) ≤ 16 := by omega
      clear h1 h2
      by_cases h3 : 1024 < l.length
      · have h3' : (1024 : Int) < l.length := by omega
        have e : decide (valid n may l) = false := decide_eq_false fun h => by have := h.2.2.1; omega
        rw [e]
        go_enter Try.func37, Try.ntmps37
        go_wp2
        go_ret
        exact ⟨rfl, rfl⟩
      · have g3 : (l.length : Int) ≤ 1024 := by omega
        by_cases h4 : may < 0
        · have e : decide (valid n may l) = false := decide_eq_false fun h => by have := h.2.2.2.1; omega
          rw [e]
          go_enter Try.func37, Try.ntmps37
          go_wp2
          go_ret
          exact ⟨rfl, rfl⟩
        · have g4 : 0 ≤ may := by omega
          have hp := wrap_pow hn16
          have hp2 := pow16 hn16
          have hp3 : ((2 : Int) ^ (n : Int).toNat) = ((2 ^ n : Nat) : Int) := by simp
          have hv : valid n may l ↔ (0 ≤ may ∧ may < ((2 ^ n : Nat) : Int) ∧ ∀ c ∈ l, 1 ≤ c ∧ c < ((2 ^ n : Nat) : Int)) := by
            unfold valid
            rw [hp3]
            constructor
            · exact fun h => ⟨h.2.2.2.1, h.2.2.2.2.1, h.2.2.2.2.2⟩
            · exact fun h => ⟨by omega, by omega, by omega, h.1, h.2.1, h.2.2⟩
          clear hp3
          obtain ⟨M, hM⟩ : ∃ M, M = 2 ^ n := ⟨_, rfl⟩
          rw [← hM] at hp hp2 hv
          clear hM
          have HV := Lib.hid hv; clear hv
          by_cases h5 : (M : Int) ≤ may
          · have e : decide (valid n may l) = false := decide_eq_false fun h => by have := (HV.out.1 h).2.1; omega
            rw [e]
            go_enter Try.func37, Try.ntmps37
            go_wp2
            go_ret
            exact ⟨rfl, rfl⟩
          · have g5 : may < (M : Int) := by omega
            clear h3 h4 h5
            go_enter Try.func37, Try.ntmps37
            go_wp2
            go_loopw [7] (fun c wr => ∃ k : Nat, k ≤ l.length ∧ c = .int .i64 k ∧ (∀ j (h : j < l.length), j < k → 1 ≤ l[j] ∧ l[j] < (M : Int)) ∧ wr = w) (fun c _ => l.length - (intOf c).toNat)
            case atStart => exact ⟨0, by omega, rfl, fun j _ h => absurd h (by omega), rfl⟩
            case round =>
              obtain ⟨k, hk, rfl, he, rfl⟩ := hrel
              by_cases hkl : k < l.length
              · obtain ⟨b, o, rfl, _, _, hC, hb⟩ := sl_at hl (by omega)
                obtain ⟨x, hx⟩ : ∃ x, x = l[k] := ⟨_, rfl⟩
                have cx : wr.cell? ⟨b, o + k, none⟩ = some (.int .i64 x) := hC k _ (by simp [hkl, hx])
                have HX := Lib.hid hx; clear hx
                by_cases q1 : x < 1
                · have e : decide (valid n may l) = false := decide_eq_false fun h => by have := ((HV.out.1 h).2.2 _ (List.getElem_mem hkl)).1; rw [← HX.out] at this; omega
                  go_wp2
                  go_ret
                  rw [e]
                  exact ⟨rfl, rfl⟩
                · have q1' : 1 ≤ x := by omega
                  clear q1
                  by_cases q2 : (M : Int) ≤ x
                  · have e : decide (valid n may l) = false := decide_eq_false fun h => by have := ((HV.out.1 h).2.2 _ (List.getElem_mem hkl)).2; rw [← HX.out] at this; omega
                    go_wp2
                    go_ret
                    rw [e]
                    exact ⟨rfl, rfl⟩
                  · have q2' : x < (M : Int) := by omega
                    clear q2
                    have ht : ∀ j (h : j < l.length), j < k + 1 → 1 ≤ l[j] ∧ l[j] < (M : Int) := fun j h hj => by
                      by_cases e : j = k
                      · subst e; rw [← HX.out]; exact ⟨q1', q2'⟩
                      · exact he j h (by omega)
                    go_wp2
                    go_roundw
                    case rel => exact ⟨k + 1, by omega, by go_num, ht, trivial⟩
                    case measure => simp [intOf]; omega
              · have e : decide (valid n may l) = true := decide_eq_true (HV.out.2 ⟨g4, g5, fun c hc => by obtain ⟨j, hj, rfl⟩ := List.getElem_of_mem hc; exact he j hj (by omega)⟩)
                go_wp2
                go_ret
                rw [e]
                exact ⟨rfl, rfl⟩
end Go.Proofs.Ytnkglahiagigoaa

/- theory: Find, Weights of the reference. -/
import Derived.Test.YtnkglahiagigoaaE8
namespace Go.Theory
/-- valid weights -/
def wts (n : Int) (l : List Int) : Prop := (l.length : Int) = n ∧ ∀ z ∈ l, 0 ≤ z ∧ z ≤ 16384
instance (n : Int) (l : List Int) : Decidable (wts n l) := by unfold wts; infer_instance
end Go.Theory
namespace Go.Proofs.Ytnkglahiagigoaa
open Go.RowKit Go.Own Go.Theory Go.BigFrame
theorem find_any (l : List Int) (s : Int) (sa : Option Addr) (cap : Nat) (w : World) (hl : Sl w 1 (.slice sa l.length cap) l.length (l.map (.int .i64))) (hm : l.length ≤ 1000000) :
    Calls Try.prog 33 #[.slice sa l.length cap, .int .i64 s] w fun e w' => e = .returned (.bool (decide (s ∈ l))) ∧ w' = w := by
  go_enter Try.func33, Try.ntmps33
  go_wp2
  go_loopw [5] (fun c wr => ∃ k : Nat, k ≤ l.length ∧ c = .int .i64 k ∧ (∀ j (h : j < l.length), j < k → l[j] ≠ s) ∧ wr = w) (fun c _ => l.length - (vInt c).toNat)
  case atStart => exact ⟨0, by omega, rfl, fun j _ h => absurd h (by omega), rfl⟩
  case round =>
    obtain ⟨k, hk, rfl, he, rfl⟩ := hrel
    by_cases hkl : k < l.length
    · obtain ⟨b, o, rfl, _, _, hC, hb⟩ := sl_at hl (by omega)
      obtain ⟨x, hx⟩ : ∃ x, x = l[k] := ⟨_, rfl⟩
      have cx : wr.cell? ⟨b, o + k, none⟩ = some (.int .i64 x) := hC k _ (by simp [hkl, hx])
      have HX := Lib.hid hx; clear hx
      by_cases q : x = s
      · have e : decide (s ∈ l) = true := decide_eq_true (by rw [← q, HX.out]; exact List.getElem_mem hkl)
        have q' : (x == s) = true := by simpa using q
        clear q
        go_wp2
        go_ret
        rw [e]
        exact ⟨rfl, rfl⟩
      · have ht : ∀ j (h : j < l.length), j < k + 1 → l[j] ≠ s := fun j h hj => by
          by_cases e : j = k
          · subst e; rw [← HX.out]; exact q
          · exact he j h (by omega)
        have q' : (x == s) = false := by simpa using q
        clear q
        go_wp2
        go_roundw
        case rel => exact ⟨k + 1, by omega, by go_num, ht, trivial⟩
        case measure => simp [vInt]; omega
    · have e : decide (s ∈ l) = false := decide_eq_false fun h => by
        obtain ⟨j, hj, q⟩ := List.getElem_of_mem h
        exact he j hj (by omega) q
      go_wp2
      go_ret
      rw [e]
      exact ⟨rfl, rfl⟩
theorem rweights_any (n : Nat) (l : List Int) (sa : Option Addr) (cap : Nat) (hn : n ≤ 1000000) (w : World) (hl : Sl w 1 (.slice sa l.length cap) l.length (l.map (.int .i64))) (hm : l.length ≤ 1000000) :
    Calls Try.prog 41 #[.int .i64 n, .slice sa l.length cap] w fun e w' => e = .returned (.bool (decide (wts n l))) ∧ w' = w := by
  by_cases h0 : l.length = n
  · subst h0
    have hq : ((l.length : Int) != (l.length : Int)) = false := by simp
    go_enter Try.func41, Try.ntmps41
    go_wp2
    go_loopw [5] (fun c wr => ∃ k : Nat, k ≤ l.length ∧ c = .int .i64 k ∧ (∀ j (h : j < l.length), j < k → 0 ≤ l[j] ∧ l[j] ≤ 16384) ∧ wr = w) (fun c _ => l.length - (vInt c).toNat)
    case atStart => exact ⟨0, by omega, rfl, fun j _ h => absurd h (by omega), rfl⟩
    case round =>
      obtain ⟨k, hk, rfl, he, rfl⟩ := hrel
      by_cases hkl : k < l.length
      · obtain ⟨b, o, rfl, _, _, hC, hb⟩ := sl_at hl (by omega)
        obtain ⟨x, hx⟩ : ∃ x, x = l[k] := ⟨_, rfl⟩
        have cx : wr.cell? ⟨b, o + k, none⟩ = some (.int .i64 x) := hC k _ (by simp [hkl, hx])
        have HX := Lib.hid hx; clear hx
        by_cases q1 : x < 0
        · have e : decide (wts l.length l) = false := decide_eq_false fun h => by have := (h.2 _ (List.getElem_mem hkl)).1; rw [← HX.out] at this; omega
          go_wp2
          go_ret
          rw [e]
          exact ⟨rfl, rfl⟩
        · have q1' : 0 ≤ x := by omega
          clear q1
          by_cases q2 : 16384 < x
          · have e : decide (wts l.length l) = false := decide_eq_false fun h => by have := (h.2 _ (List.getElem_mem hkl)).2; rw [← HX.out] at this; omega
            go_wp2
            go_ret
            rw [e]
            exact ⟨rfl, rfl⟩
          · have q2' : x ≤ 16384 := by omega
            clear q2
            have ht : ∀ j (h : j < l.length), j < k + 1 → 0 ≤ l[j] ∧ l[j] ≤ 16384 := fun j h hj => by
              by_cases e : j = k
              · subst e; rw [← HX.out]; exact ⟨q1', q2'⟩
              · exact he j h (by omega)
            go_wp2
            go_roundw
            case rel => exact ⟨k + 1, by omega, by go_num, ht, trivial⟩
            case measure => simp [vInt]; omega
      · have e : decide (wts l.length l) = true := decide_eq_true ⟨rfl, fun c hc => by obtain ⟨j, hj, rfl⟩ := List.getElem_of_mem hc; exact he j hj (by omega)⟩
        go_wp2
        go_ret
        rw [e]
        exact ⟨rfl, rfl⟩
  · have hq : ((l.length : Int) != (n : Int)) = true := by simp; omega
    have e : decide (wts n l) = false := decide_eq_false fun h => by have := h.1; omega
    rw [e]
    go_enter Try.func41, Try.ntmps41
    go_wp2
    go_ret
    exact ⟨rfl, rfl⟩
end Go.Proofs.Ytnkglahiagigoaa

/- theory: the reference's Weight, least. -/
import Derived.Test.YtnkglahiagigoaaE3
namespace Go.Theory
open Go.Own
/-- the weight of the first k numbers of s -/
def wsum (l : List Int) (s : Nat) : Nat → Int
  | 0 => 0
  | k + 1 => wsum l s k + if s.testBit k then l.getD k 0 else 0
/-- the least weight among the first k numbers of s -/
def wmin (l : List Int) (s : Nat) : Nat → Int
  | 0 => 16384
  | k + 1 => if s.testBit k then min (wmin l s k) (l.getD k 0) else wmin l s k
theorem getD_wt {l : List Int} (h : ∀ z ∈ l, 0 ≤ z ∧ z ≤ 16384) (k : Nat) : 0 ≤ l.getD k 0 ∧ l.getD k 0 ≤ 16384 := by
  rw [List.getD_eq_getElem?_getD]
  cases e : l[k]? with
  | none => simp
  | some x => exact h x (List.mem_of_getElem? e)
theorem wsum_rg {l : List Int} (h : ∀ z ∈ l, 0 ≤ z ∧ z ≤ 16384) (s : Nat) : ∀ k : Nat, 0 ≤ wsum l s k ∧ wsum l s k ≤ 16384 * k
  | 0 => by simp [wsum]
  | k + 1 => by
    have h1 := wsum_rg h s k
    have h2 := getD_wt h k
    unfold wsum
    split <;> omega
theorem wmin_rg {l : List Int} (h : ∀ z ∈ l, 0 ≤ z ∧ z ≤ 16384) (s : Nat) : ∀ k : Nat, 0 ≤ wmin l s k ∧ wmin l s k ≤ 16384
  | 0 => by simp [wmin]
  | k + 1 => by
    have h1 := wmin_rg h s k
    have h2 := getD_wt h k
    unfold wmin
    split <;> omega
end Go.Theory
namespace Go.Proofs.Ytnkglahiagigoaa
open Go.RowKit Go.Own Go.Theory Go.BigFrame
theorem weight_any (l : List Int) (s : Nat) (sa : Option Addr) (cap : Nat) (hs : s < 65536) (w : World) (hl : Sl w 1 (.slice sa l.length cap) l.length (l.map (.int .i64))) (hm : l.length ≤ 61) (hr : ∀ z ∈ l, 0 ≤ z ∧ z ≤ 16384) :
    Calls Try.prog 29 #[.slice sa l.length cap, .int .i64 s] w fun e w' => e = .returned (.int .i64 (wsum l s l.length)) ∧ w' = w := by
  go_enter Try.func29, Try.ntmps29
  go_wp2
  go_loopw [5, 6] (fun c d wr => ∃ k : Nat, k ≤ l.length ∧ d = .int .i64 k ∧ c = .int .i64 (wsum l s k) ∧ wr = w) (fun _ d _ => l.length - (intOf d).toNat)
  case atStart => exact ⟨0, by omega, rfl, rfl, rfl⟩
  case round =>
    obtain ⟨k, hk, rfl, rfl, rfl⟩ := hrel
    by_cases hkl : k < l.length
    · obtain ⟨b, o, rfl, _, _, hC, hb⟩ := sl_at hl (by omega)
      have hw1 := wsum_rg hr s k
      have hw2 := getD_wt hr k
      obtain ⟨x, hx⟩ : ∃ x, x = l.getD k 0 := ⟨_, rfl⟩
      have cx : wr.cell? ⟨b, o + k, none⟩ = some (.int .i64 x) := hC k _ (by simp [hkl, hx])
      rw [← hx] at hw2
      have HX := Lib.hid hx; clear hx
      obtain ⟨y, hy⟩ : ∃ y, y = wsum l s k := ⟨_, rfl⟩
      rw [← hy] at hw1 ⊢
      have HY := Lib.hid hy; clear hy
      go_wp2_with (fail)
      refine (has_any s k hs (by omega) wr).mono ?_
      rintro e w2 ⟨rfl, rfl⟩
      cases hb : s.testBit k with
      | true =>
        have hn : wsum l s (k + 1) = y + x := by rw [wsum, if_pos hb, ← HX.out, ← HY.out]
        have HN := Lib.hid hn; clear hn
        go_wp2
        go_roundw
        case rel => exact ⟨k + 1, by omega, by go_num, by rw [HN.out], trivial⟩
        case measure => simp [intOf]; omega
      | false =>
        have hn : wsum l s (k + 1) = y := by rw [wsum, if_neg (by simp [hb]), ← HY.out]; simp
        have HN := Lib.hid hn; clear hn
        go_wp2
        go_roundw
        case rel => exact ⟨k + 1, by omega, by go_num, by rw [HN.out], trivial⟩
        case measure => simp [intOf]; omega
    · obtain rfl : k = l.length := by omega
      go_wp2
      go_ret
      exact ⟨rfl, rfl⟩
theorem least_any (l : List Int) (s : Nat) (sa : Option Addr) (cap : Nat) (hs : s < 65536) (w : World) (hl : Sl w 1 (.slice sa l.length cap) l.length (l.map (.int .i64))) (hm : l.length ≤ 61) (hr : ∀ z ∈ l, 0 ≤ z ∧ z ≤ 16384) :
    Calls Try.prog 49 #[.slice sa l.length cap, .int .i64 s] w fun e w' => e = .returned (.int .i64 (wmin l s l.length)) ∧ w' = w := by
  go_enter Try.func49, Try.ntmps49
  go_wp2
  go_loopw [5, 6] (fun c d wr => ∃ k : Nat, k ≤ l.length ∧ d = .int .i64 k ∧ c = .int .i64 (wmin l s k) ∧ wr = w) (fun _ d _ => l.length - (intOf d).toNat)
  case atStart => exact ⟨0, by omega, rfl, rfl, rfl⟩
  case round =>
    obtain ⟨k, hk, rfl, rfl, rfl⟩ := hrel
    by_cases hkl : k < l.length
    · obtain ⟨b, o, rfl, _, _, hC, hb⟩ := sl_at hl (by omega)
      have hw1 := wmin_rg hr s k
      have hw2 := getD_wt hr k
      obtain ⟨x, hx⟩ : ∃ x, x = l.getD k 0 := ⟨_, rfl⟩
      have cx : wr.cell? ⟨b, o + k, none⟩ = some (.int .i64 x) := hC k _ (by simp [hkl, hx])
      rw [← hx] at hw2
      have HX := Lib.hid hx; clear hx
      obtain ⟨y, hy⟩ : ∃ y, y = wmin l s k := ⟨_, rfl⟩
      rw [← hy] at hw1 ⊢
      have HY := Lib.hid hy; clear hy
      go_wp2_with (fail)
      refine (has_any s k hs (by omega) wr).mono ?_
      rintro e w2 ⟨rfl, rfl⟩
      cases hb : s.testBit k with
      | true =>
        have hn : wmin l s (k + 1) = min y x := by rw [wmin, if_pos hb, ← HX.out, ← HY.out]
        have HN := Lib.hid hn; clear hn
        go_wp2
        go_roundw
        case rel => exact ⟨k + 1, by omega, by go_num, by rw [HN.out]; first | rfl | (congr 1; omega), trivial⟩
        case measure => simp [intOf]; omega
      | false =>
        have hn : wmin l s (k + 1) = y := by rw [wmin, if_neg (by simp [hb]), ← HY.out]
        have HN := Lib.hid hn; clear hn
        go_wp2
        go_roundw
        case rel => exact ⟨k + 1, by omega, by go_num, by rw [HN.out], trivial⟩
        case measure => simp [intOf]; omega
    · obtain rfl : k = l.length := by omega
      go_wp2
      go_ret
      exact ⟨rfl, rfl⟩
end Go.Proofs.Ytnkglahiagigoaa

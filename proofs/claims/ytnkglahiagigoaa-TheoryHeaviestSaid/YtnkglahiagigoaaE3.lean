/- theory: Around, At of sherdref01. -/
import Derived.Test.YtnkglahiagigoaaE2
namespace Go.Theory
open Go.Own
/-- the number that Around makes -/
def around (x n : Int) : Int := (if x < 0 then -(x + 1) else x) % n
theorem around_rg (x : Int) {n : Nat} (hn : 0 < n) : ∃ k : Nat, around x n = k ∧ k < n := by
  have h1 := Int.emod_nonneg (if x < 0 then -(x + 1) else x) (b := (n : Int)) (by omega)
  have h2 := Int.emod_lt_of_pos (if x < 0 then -(x + 1) else x) (b := (n : Int)) (by omega)
  unfold around
  exact ⟨((if x < 0 then -(x + 1) else x) % (n : Int)).toNat, by omega, by omega⟩
def at3 (l : List Int) (i n : Int) : Int := if i < 0 ∨ (l.length : Int) ≤ i then 0 else around (l.getD i.toNat 0) n
theorem at3_rg (l : List Int) (i : Int) {n : Nat} (hn : 0 < n) : ∃ k : Nat, at3 l i n = k ∧ k < n := by
  unfold at3
  split
  · exact ⟨0, rfl, hn⟩
  · exact around_rg _ hn
end Go.Theory
namespace Go.Proofs.Ytnkglahiagigoaa
open Go.RowKit Go.Own Go.Theory Go.BigFrame
theorem around_any (x n : Int) (hx : rg x) (hn : 1 ≤ n ∧ n ≤ 1000000) (w : World) : Calls Try.prog 20 #[.int .i64 x, .int .i64 n] w fun e w' => e = .returned (.int .i64 (around x n)) ∧ w' = w := by
  unfold rg at hx
  have hz : (n == 0) = false := by simp; omega
  by_cases h : x < 0
  · have e : around x n = -(x + 1).tmod n := by unfold around; rw [if_pos h, ← Int.neg_tmod, Int.tmod_eq_emod_of_nonneg (by omega)]
    have e1 : wrap64 (x + 1) = x + 1 := Go.IntWalk.wrap64_in _ (by omega)
    have e2 : wrap64 (-(x + 1)) = -(x + 1) := Go.IntWalk.wrap64_in _ (by omega)
    have E := Lib.hid e; clear e
    go_enter Try.func20, Try.ntmps20
    go_wp2
    go_ret
    rw [E.out]
    exact ⟨rfl, rfl⟩
  · have e : around x n = x % n := by unfold around; rw [if_neg h]
    have E := Lib.hid e; clear e
    go_enter Try.func20, Try.ntmps20
    go_wp2
    go_ret
    rw [E.out]
    exact ⟨rfl, rfl⟩
theorem at_any (l : List Int) (i n : Int) (sa : Option Addr) (cap : Nat) (hi : rg i) (hn : 1 ≤ n ∧ n ≤ 1000000) (hr : ∀ z ∈ l, rg z) (w : World) (hl : Sl w 1 (.slice sa l.length cap) l.length (l.map (.int .i64))) (hm : l.length ≤ maxLen) :
    Calls Try.prog 34 #[.slice sa l.length cap, .int .i64 i, .int .i64 n] w fun e w' => e = .returned (.int .i64 (at3 l i n)) ∧ w' = w := by
  unfold rg at hi
  by_cases h1 : i < 0
  · have e : at3 l i n = 0 := by unfold at3; rw [if_pos (.inl h1)]
    rw [e]
    go_enter Try.func34, Try.ntmps34
    go_wp2
    go_ret
    exact ⟨rfl, rfl⟩
  · have g1 : 0 ≤ i := by omega
    clear h1
    by_cases h2 : (l.length : Int) ≤ i
    · have e : at3 l i n = 0 := by unfold at3; rw [if_pos (.inr h2)]
      rw [e]
      go_enter Try.func34, Try.ntmps34
      go_wp2
      go_ret
      exact ⟨rfl, rfl⟩
    · obtain ⟨k, rfl⟩ : ∃ k : Nat, i = k := ⟨i.toNat, by omega⟩
      have hk : k < l.length := by omega
      have g2 : (k : Int) < l.length := by omega
      clear h2
      obtain ⟨b, o, rfl, _, _, hC, hb⟩ := sl_at hl (by omega)
      obtain ⟨x, hx⟩ : ∃ x, x = l[k] := ⟨_, rfl⟩
      have cx : w.cell? ⟨b, o + k, none⟩ = some (.int .i64 x) := hC k _ (by simp [hk, hx])
      have hxr : rg x := by rw [hx]; exact hr _ (List.getElem_mem _)
      have e : at3 l k n = around x n := by unfold at3; rw [if_neg (by omega), hx]; simp [hk]
      have E := Lib.hid e; clear e
      clear hx
      go_enter Try.func34, Try.ntmps34
      go_wp2_with (fail)
      refine (around_any x n hxr hn w).mono ?_
      rintro e w2 ⟨rfl, rfl⟩
      go_wp2
      go_ret
      rw [E.out]
      exact ⟨rfl, rfl⟩
end Go.Proofs.Ytnkglahiagigoaa

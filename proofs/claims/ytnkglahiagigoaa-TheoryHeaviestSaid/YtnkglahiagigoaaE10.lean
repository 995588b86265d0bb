/- theory: Common. -/
import Derived.Test.YtnkglahiagigoaaE9
namespace Go.Theory
open Go.RowKit
/-- what the first k + 1 sets have in common -/
def cmn (l : List Int) : Nat → Int
  | 0 => l.getD 0 0
  | k + 1 => bits .and .i64 (cmn l k) (l.getD (k + 1) 0)
def common (l : List Int) : Int := if l.length = 0 then 0 else cmn l (l.length - 1)
end Go.Theory
namespace Go.Proofs.Ytnkglahiagigoaa
open Go.RowKit Go.Own Go.Theory Go.BigFrame
theorem rcommon_any (l : List Int) (sa : Option Addr) (cap : Nat) (w : World) (hl : Sl w 1 (.slice sa l.length cap) l.length (l.map (.int .i64))) (hm : l.length ≤ 1000000) :
    Calls Try.prog 17 #[.slice sa l.length cap] w fun e w' => e = .returned (.int .i64 (common l)) ∧ w' = w := by
  by_cases h0 : l.length = 0
  · have e : common l = 0 := by unfold common; rw [if_pos h0]
    have h0' : (l.length : Int) = 0 := by omega
    rw [e]
    go_enter Try.func17, Try.ntmps17
    go_wp2
    go_ret
    exact ⟨rfl, rfl⟩
  · have e : common l = cmn l (l.length - 1) := by unfold common; rw [if_neg h0]
    have E := Lib.hid e; clear e
    have hq : ((l.length : Int) == 0) = false := beq_eq_false_iff_ne.2 (by omega)
    obtain ⟨b, o, rfl, _, _, hC, hb⟩ := sl_at hl (by omega)
    obtain ⟨x, hx⟩ : ∃ x, x = l.getD 0 0 := ⟨_, rfl⟩
    have hp : 0 < l.length := by omega
    have cx : w.cell? ⟨b, o, none⟩ = some (.int .i64 x) := hC 0 _ (by simp [hp, hx])
    have e0 : cmn l 0 = x := by rw [hx]; rfl
    have E0 := Lib.hid e0; clear e0 hx
    go_enter Try.func17, Try.ntmps17
    go_wp2
    go_loopw [3, 4] (fun v c wr => ∃ k : Nat, k + 1 ≤ l.length ∧ c = .int .i64 ((k + 1 : Nat) : Int) ∧ v = .int .i64 (cmn l k) ∧ wr = w) (fun _ c _ => l.length - (vInt c).toNat)
    case atStart => exact ⟨0, by omega, rfl, by rw [E0.out], rfl⟩
    case round =>
      obtain ⟨k, hk, rfl, rfl, rfl⟩ := hrel
      by_cases hkl : k + 1 < l.length
      · obtain ⟨y, hy⟩ : ∃ y, y = l.getD (k + 1) 0 := ⟨_, rfl⟩
        have cy : wr.cell? ⟨b, o + (k + 1), none⟩ = some (.int .i64 y) := hC (k + 1) _ (by simp [hkl, hy])
        have hn : cmn l (k + 1) = bits .and .i64 (cmn l k) y := by rw [hy]; rfl
        have HN := Lib.hid hn; clear hn hy
        go_wp2
        go_roundw
        case rel => exact ⟨k + 1, by omega, by go_num, by rw [HN.out], trivial⟩
        case measure => simp [vInt]; omega
      · have e : common l = cmn l k := by rw [E.out]; congr 1; omega
        have H := Lib.hid e; clear e
        go_wp2
        go_ret
        rw [H.out]
        exact ⟨rfl, rfl⟩
theorem common_any (l : List Int) (sa : Option Addr) (cap : Nat) (w : World) (hl : Sl w 1 (.slice sa l.length cap) l.length (l.map (.int .i64))) (hm : l.length ≤ 1000000) :
    Calls Try.prog 16 #[.slice sa l.length cap] w fun e w' => e = .returned (.int .i64 (common l)) ∧ w' = w := by
  by_cases h0 : l.length = 0
  · have e : common l = 0 := by unfold common; rw [if_pos h0]
    have h0' : (l.length : Int) = 0 := by omega
    rw [e]
    go_enter Try.func16, Try.ntmps16
    go_wp2
    go_ret
    exact ⟨rfl, rfl⟩
  · have e : common l = cmn l (l.length - 1) := by unfold common; rw [if_neg h0]
    have E := Lib.hid e; clear e
    have hq : ((l.length : Int) == 0) = false := beq_eq_false_iff_ne.2 (by omega)
    obtain ⟨b, o, rfl, hcap, _, hC, hb⟩ := sl_at hl (by omega)
    obtain ⟨x, hx⟩ : ∃ x, x = l.getD 0 0 := ⟨_, rfl⟩
    have hp : 0 < l.length := by omega
    have cx : w.cell? ⟨b, o, none⟩ = some (.int .i64 x) := hC 0 _ (by simp [hp, hx])
    have e0 : cmn l 0 = x := by rw [hx]; rfl
    have E0 := Lib.hid e0; clear e0 hx
    by_cases hc : cap = 1
    · subst hc
      have h1 : l.length = 1 := by omega
      have e : common l = x := by rw [E.out, h1]; exact E0.out
      have g : ((l.length - 1 : Nat) : Int) = 0 := by omega
      have H := Lib.hid e; clear e
      go_enter Try.func16, Try.ntmps16
      go_wp2
      go_loopw [3, 15] (fun v c wr => c = .int .i64 0 ∧ v = .int .i64 x ∧ wr = w) (fun _ _ _ => 0)
      case atStart => exact ⟨rfl, rfl, rfl⟩
      case round =>
        obtain ⟨rfl, rfl, rfl⟩ := hrel
        go_wp2
        go_ret
        rw [H.out]
        exact ⟨rfl, rfl⟩
    · skip
      go_enter Try.func16, Try.ntmps16
      go_wp2
      go_loopw [3, 15] (fun v c wr => ∃ k : Nat, k + 1 ≤ l.length ∧ c = .int .i64 (k : Int) ∧ v = .int .i64 (cmn l k) ∧ wr = w) (fun _ c _ => l.length - (vInt c).toNat)
      case atStart => exact ⟨0, by omega, rfl, by rw [E0.out], rfl⟩
      case round =>
        obtain ⟨k, hk, rfl, rfl, rfl⟩ := hrel
        by_cases hkl : k + 1 < l.length
        · have g : (k : Int) < ((l.length - 1 : Nat) : Int) := by omega
          obtain ⟨y, hy⟩ : ∃ y, y = l.getD (k + 1) 0 := ⟨_, rfl⟩
          have cy : wr.cell? ⟨b, o + 1 + k, none⟩ = some (.int .i64 y) := by rw [Nat.add_assoc, Nat.add_comm 1 k]; exact hC (k + 1) _ (by simp [hkl, hy])
          have hn : cmn l (k + 1) = bits .and .i64 (cmn l k) y := by rw [hy]; rfl
          have HN := Lib.hid hn; clear hn hy
          go_wp2
          go_roundw
          case rel => exact ⟨k + 1, by omega, by go_num, by rw [HN.out], trivial⟩
          case measure => simp [vInt]; omega
        · have g : ((l.length - 1 : Nat) : Int) ≤ (k : Int) := by omega
          have e : common l = cmn l k := by rw [E.out]; congr 1; omega
          have H := Lib.hid e; clear e
          go_wp2
          go_ret
          rw [H.out]
          exact ⟨rfl, rfl⟩
end Go.Proofs.Ytnkglahiagigoaa

/- theory: the iterator over the numbers of a set. -/
import Derived.RangeFuncNested
import Derived.RangeFuncBound
import Derived.RangeFuncCalls
import Derived.RangeFuncLeaves
import Derived.Shelf.Abstract
import Derived.WalkKit
import Derived.OwnWalkIn
import Derived.TacticsInMore
import Derived.LoopNIn
import Derived.LoopIn
import Derived.Test.YtnkglahiagigoaaEE
namespace Go.Theory
open Go.RowKit
/-- a number of a set -/
abbrev El (s : Nat) := { x : Nat // x < 16 ∧ s.testBit x = true }
/-- the numbers of a set below k, in order -/
def els (s k : Nat) : List (El s) := (List.range k).filterMap fun x => if h : x < 16 ∧ s.testBit x = true then some ⟨x, h⟩ else none
theorem els_yes {s k : Nat} (hk : k < 16) (h : s.testBit k = true) : els s (k + 1) = els s k ++ [⟨k, hk, h⟩] := by
  unfold els
  rw [List.range_succ, List.filterMap_append]
  simp [hk, h]
theorem els_no {s k : Nat} (h : s.testBit k = false) : els s (k + 1) = els s k := by
  unfold els
  rw [List.range_succ, List.filterMap_append]
  simp [h]
theorem els_len (s k : Nat) : (els s k).length ≤ k := by
  unfold els
  have := List.length_filterMap_le (fun x => if h : x < 16 ∧ s.testBit x = true then some (⟨x, h⟩ : El s) else none) (List.range k)
  rwa [List.length_range] at this
theorem els_pre (s : Nat) : ∀ (j k : Nat), els s k <+: els s (k + j)
  | 0, k => List.prefix_refl _
  | j + 1, k => by
    refine (els_pre s j k).trans ?_
    rw [← Nat.add_assoc]
    unfold els
    rw [List.range_succ, List.filterMap_append]
    exact List.prefix_append _ _
theorem els_pre16 {s k : Nat} (h : k ≤ 16) : els s k <+: els s 16 := by
  have := els_pre s (16 - k) k
  rwa [show k + (16 - k) = 16 by omega] at this
theorem and1 {s k : Nat} (hs : s < 65536) : bits .and .i64 ((s : Int) / 2 ^ k) 1 = if s.testBit k then 1 else 0 := by
  have e0 : (s : Int) / 2 ^ k = ((s / 2 ^ k : Nat) : Int) := by simp
  have h1 : s / 2 ^ k ≤ s := Nat.div_le_self _ _
  rw [e0]
  have := Go.Ib.b_and (s / 2 ^ k) 1 (by omega) (by omega)
  rw [show ((1 : Nat) : Int) = 1 from rfl] at this
  rw [this, Nat.and_one_is_mod, Nat.testBit_eq_decide_div_mod_eq]
  have : s / 2 ^ k % 2 < 2 := Nat.mod_lt _ (by omega)
  by_cases h : s / 2 ^ k % 2 = 1
  · simp [h]
  · have h0 : s / 2 ^ k % 2 = 0 := by omega
    simp [h0]
/-- What a round keeps: the set's box. -/
def KpB (b : Nat) (W W' : World) : Prop := ∀ v, W.cell? ⟨b, 0, none⟩ = some v → W'.cell? ⟨b, 0, none⟩ = some v
theorem KpB.refl (b : Nat) (W : World) : KpB b W W := fun _ h => h
theorem KpB.trans {b : Nat} {A B C : World} (h : KpB b A B) (k : KpB b B C) : KpB b A C := fun v hv => k v (h v hv)
theorem KpB.put {b : Nat} (W : World) (l : Nat) (o o' : Obj) (h : W.heap[l]? = some o) (ho : o.isCells = false) : KpB b W (W.putObj l o') :=
  fun v hv => cell_kept hv (grownBy_putObj' W l o') fun r e => by cases e; exact ⟨o, h, ho⟩
theorem KpB.below {b n : Nat} {W W' : World} (h : Below n W W') (hb : b < n) : KpB b W W' := fun v hv => (h.cell (p := ⟨b, 0, none⟩) hb).trans hv
theorem KpB.set {b : Nat} (W : World) (a : Addr) (v : Value) (h : a.block ≠ b) : KpB b W (W.setCell a v) :=
  fun u hu => (World.cell?_of_block (Below.heap_setCell W a v b (fun e => h e.symm))).trans hu
end Go.Theory
namespace Go.Proofs.Ytnkglahiagigoaa
open Go.RowKit Go.Own Go.Theory Go.BigFrame Go.Shelf
attribute [local go_sem] Oper.semAt_some
theorem bits_any (s : Int) (w : World) : Calls Try.prog 53 #[.int .i64 s] w fun e w' => e = .returned (.func (.func 71) #[] #[.pointer (some ⟨w.heap.size, 0, none⟩)]) ∧ w' = w.alloc (.cells #[.int .i64 s] 23) := by
  go_enter Try.func53, Try.ntmps53
  go_wp2
  go_ret
  exact ⟨rfl, rfl⟩
set_option maxRecDepth 100000 in
set_option maxHeartbeats 2000000 in
theorem bits1_in (n : Nat) (hn : 1 ≤ n) (l Bs s : Nat) (hs : s < 65536) (J Jx : List (El s) → World → Prop)
    (hY : ∀ pre (x : El s) W, J pre W → pre.length < 16 → YieldAt Fence.wide (n - 1) Try.prog l #[.int .i64 (x.1 : Int)] W fun e W' =>
      (e = .returned (.bool true) ∧ J (pre ++ [x]) W' ∧ KpB Bs W W') ∨ (e = .returned (.bool false) ∧ Jx (pre ++ [x]) W'))
    (W : World) (hBs : W.cell? ⟨Bs, 0, none⟩ = some (.int .i64 s)) (h0 : J [] W) :
    CallsIn Fence.wide n Try.prog 71 #[.func (.yield l) #[] #[], .pointer (some ⟨Bs, 0, none⟩)] W fun e W' => (∃ v, e = .returned v) ∧
      ((∃ ys, ys = els s 16 ∧ J ys W') ∨ (∃ pre, pre <+: els s 16 ∧ Jx pre W')) := by
  refine callsIn_of_wp Try.func71 rfl trivial ?_ rfl
  simp only [Try.ntmps71, List.size_toArray, List.length_cons, List.length_nil, Nat.reduceAdd, Nat.reduceSub, Array.replicate_succ, Array.replicate_zero, List.push_toArray, List.append_toArray, List.nil_append, List.cons_append]
  gi_wp2
  gi_loopw [4] (fun i wr => ∃ k : Nat, k ≤ 16 ∧ i = .int .i64 k ∧ J (els s k) wr ∧ KpB Bs W wr)
    (fun i _ => 16 - (vInt i).toNat)
  case atStart => exact ⟨0, Nat.zero_le _, rfl, h0, KpB.refl _ _⟩
  case round =>
    obtain ⟨k, hk, rfl, hJs, hnx⟩ := hrel
    have hcx : wr.cell? ⟨Bs, 0, none⟩ = some (.int .i64 s) := hnx _ hBs
    have hand := and1 (k := k) hs
    by_cases hlt : k < 16
    · cases htb : s.testBit k with
      | true =>
        rw [htb] at hand
        obtain ⟨fn, tmps, assign, body, hy, hR⟩ := hY _ ⟨k, hlt, htb⟩ wr hJs (by have := els_len s k; omega)
        dsimp only at hy
        gi_wp2
        refine hR.mono ?_
        rintro e W3 (⟨rfl, hJ3, hk3⟩ | ⟨rfl, hJx3⟩)
        · gi_wp2
          go_roundw
          case rel => exact ⟨k + 1, by omega, by simp, by rw [els_yes hlt htb]; exact hJ3, hnx.trans hk3⟩
          case measure => simp [vInt]; omega
        · gi_wp2
          refine bodyPost_ret (results_none rfl _ _ _) rfl ?_
          exact ⟨⟨_, rfl⟩, .inr ⟨_, by have := els_pre16 (s := s) (k := k + 1) (by omega); rw [els_yes hlt htb] at this; exact this, hJx3⟩⟩
      | false =>
        rw [htb] at hand
        gi_wp2
        refine ⟨fun _ h => (by cases h), ?_⟩
        gi_wp2
        go_roundw
        case rel => exact ⟨k + 1, by omega, by simp, by rw [els_no htb]; exact hJs, hnx⟩
        case measure => simp [vInt]; omega
    · obtain rfl : k = 16 := by omega
      gi_wp2
      go_end0
      exact ⟨⟨_, rfl⟩, .inl ⟨_, rfl, hJs⟩⟩
theorem bits1_stops (n : Nat) (hn : 1 ≤ n) (Bs s : Nat) (hs : s < 65536) (w : World) (hb : Bs < w.heap.size) (hBs : w.cell? ⟨Bs, 0, none⟩ = some (.int .i64 s)) :
    SeqStopsK Fence.wide n Try.prog 71 #[.pointer (some ⟨Bs, 0, none⟩)] (fun x : El s => #[Value.int .i64 (x.1 : Int)]) (KpB Bs) (fun ys => ys = els s 16) (fun pre => pre <+: els s 16) 16 w :=
  fun l J Jx W hW _ _ hY h0 => bits1_in n hn l Bs s hs J Jx hY W ((hW.cell (p := ⟨Bs, 0, none⟩) hb).trans hBs) h0
end Go.Proofs.Ytnkglahiagigoaa

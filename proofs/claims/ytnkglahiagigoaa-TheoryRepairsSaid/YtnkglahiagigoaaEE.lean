/- theory: the small functions on sets. -/
import Derived.Test.YtnkglahiagigoaaRows
import Derived.Test.YtnkglahiagigoaaIb
import Derived.Test.YtnkglahiagigoaaOwn
import Derived.Test.YtnkglahiagigoaaOw
namespace Go.Theory
open Go
def vInt : Value → Int | .int _ q => q | _ => 0
end Go.Theory
namespace Go.Theory
open Go.Ib
/-- a number of a word -/
def rg (z : Int) : Prop := -9223372036854775808 ≤ z ∧ z ≤ 9223372036854775807
/-- p is a part of s -/
def sub (p s : Int) : Bool := decide (B p &&& ~~~B s = 0#64)
theorem wrap_rg (x : Int) : rg (IntKind.i64.wrap x) := by
  unfold rg
  simp only [IntKind.wrap, IntKind.bits, IntKind.signed]
  simp
  split <;> omega
theorem bits_rg (o : BinOp) (a b : Int) : rg (bits o .i64 a b) := wrap_rg _
theorem rg0 : rg 0 := by unfold rg; omega
theorem B0 : B 0 = 0#64 := rfl
theorem sub_andNot (p s : Int) : (bits .andNot .i64 p s == 0) = sub p s := by
  unfold sub
  by_cases h : bits .andNot .i64 p s = 0
  · have h2 := B_andNot p s
    rw [h, B0] at h2
    simp [h, ← h2]
  · have : ¬ (B p &&& ~~~B s = 0#64) := fun h2 => h (B_inj (bits_rg _ _ _) rg0 (by rw [B_andNot, h2]; rfl))
    simp [h, this]
theorem sub_or (p s : Int) (hs : rg s) : (bits .or .i64 p s == s) = sub p s := by
  unfold sub
  by_cases h : bits .or .i64 p s = s
  · have h2 := B_or p s
    rw [h] at h2
    simp [h, (sub_iff _ _).2 h2.symm]
  · have : ¬ (B p &&& ~~~B s = 0#64) := fun h2 => h (B_inj (bits_rg _ _ _) hs (by rw [B_or]; exact (sub_iff _ _).1 h2))
    simp [h, this]
end Go.Theory
namespace Go.Proofs.Ytnkglahiagigoaa
open Go.RowKit Go.Own Go.Theory
theorem contains_any (s p : Int) (w : World) : Calls Try.prog 42 #[.int .i64 s, .int .i64 p] w fun e w' => e = .returned (.bool (sub p s)) ∧ w' = w := by
  rw [← sub_andNot]
  go_enter Try.func42, Try.ntmps42
  go_wp2
  go_ret
  exact ⟨rfl, rfl⟩
theorem in_any (p s : Int) (hs : rg s) (w : World) : Calls Try.prog 48 #[.int .i64 p, .int .i64 s] w fun e w' => e = .returned (.bool (sub p s)) ∧ w' = w := by
  rw [← sub_or p s hs]
  go_enter Try.func48, Try.ntmps48
  go_wp2
  go_ret
  exact ⟨rfl, rfl⟩
end Go.Proofs.Ytnkglahiagigoaa
/- theory: the reference's First. -/
namespace Go.Theory
open Go.Own
/-- the index of the first part of s in a list, or -1 -/
def fst (l : List Int) (s : Int) : Int := if l.findIdx (sub · s) < l.length then (l.findIdx (sub · s) : Int) else -1
theorem fst_at {l : List Int} {s : Int} {k : Nat} (hk : k < l.length) (h1 : ∀ j (h : j < l.length), j < k → sub l[j] s = false) (h2 : sub l[k] s = true) : fst l s = k := by
  have e : l.findIdx (sub · s) = k := by
    rw [List.findIdx_eq hk]
    exact ⟨h2, fun j hj => by simpa using h1 j (by omega) hj⟩
  unfold fst
  rw [e, if_pos hk]
theorem fst_none {l : List Int} {s : Int} (h1 : ∀ j (h : j < l.length), sub l[j] s = false) : fst l s = -1 := by
  unfold fst
  rw [if_neg]
  rw [List.findIdx_lt_length]
  rintro ⟨x, hx, h⟩
  obtain ⟨j, hj, rfl⟩ := List.getElem_of_mem hx
  rw [h1 j hj] at h
  cases h
theorem sl_at {w : World} {n cap : Nat} {sa : Option Addr} {vs : List Value} (h : Sl w 1 (.slice sa n cap) n vs) (hn : 0 < n) :
    ∃ b off, sa = some ⟨b, off, none⟩ ∧ n ≤ cap ∧ cap ≤ maxLen ∧ Cells w b off vs ∧ b < w.heap.size := by
  obtain ⟨_, ⟨h2, h3⟩ | ⟨b, off, cap', h2, h3, h4, h5, h6⟩⟩ := h
  · omega
  · injection h2 with h2 _ h7
    subst h7
    exact ⟨b, off, h2, h3, h4, h5, h6⟩
end Go.Theory
namespace Go.Proofs.Ytnkglahiagigoaa
open Go.RowKit Go.Own Go.Theory Go.BigFrame
theorem first_any (l : List Int) (s : Int) (sa : Option Addr) (cap : Nat) (hs : rg s) (w : World) (hl : Sl w 1 (.slice sa l.length cap) l.length (l.map (.int .i64))) (hm : l.length ≤ 1000000) :
    Calls Try.prog 28 #[.slice sa l.length cap, .int .i64 s] w fun e w' => e = .returned (.int .i64 (fst l s)) ∧ w' = w := by
  go_enter Try.func28, Try.ntmps28
  go_wp2
  go_loopw [5] (fun c wr => ∃ k : Nat, k ≤ l.length ∧ c = .int .i64 k ∧ (∀ j (h : j < l.length), j < k → sub l[j] s = false) ∧ wr = w) (fun c _ => l.length - (vInt c).toNat)
  case atStart => exact ⟨0, by omega, rfl, fun j _ h => absurd h (by omega), rfl⟩
  case round =>
    obtain ⟨k, hk, rfl, he, rfl⟩ := hrel
    by_cases hkl : k < l.length
    · obtain ⟨b, o, rfl, _, _, hC, hb⟩ := sl_at hl (by omega)
      obtain ⟨x, hx⟩ : ∃ x, x = l[k] := ⟨_, rfl⟩
      have cx : wr.cell? ⟨b, o + k, none⟩ = some (.int .i64 x) := hC k _ (by simp [hkl, hx])
      have HX := Lib.hid hx; clear hx
      go_wp2_with (fail)
      refine (in_any x s hs wr).mono ?_
      rintro e w2 ⟨rfl, rfl⟩
      cases hxy : sub x s with
      | true =>
        have hf := fst_at hkl he (by rw [← HX.out]; exact hxy)
        go_wp2
        go_ret
        rw [hf]
        exact ⟨rfl, rfl⟩
      | false =>
        have ht : ∀ j (h : j < l.length), j < k + 1 → sub l[j] s = false := fun j h hj => by
          by_cases e : j = k
          · subst e; rw [← HX.out]; exact hxy
          · exact he j h (by omega)
        go_wp2
        go_roundw
        case rel => exact ⟨k + 1, by omega, by go_num, ht, trivial⟩
        case measure => simp [vInt]; omega
    · have hf := fst_none (l := l) (s := s) fun j h => he j h (by omega)
      go_wp2
      go_ret
      rw [hf]
      exact ⟨rfl, rfl⟩
end Go.Proofs.Ytnkglahiagigoaa
/- theory: the reference's Has, With at sets that are numbers. -/
namespace Go.Theory
open Go.Own
theorem shr_mod (s k : Nat) : (((s : Int) / 2 ^ k).tmod 2 != 0) = s.testBit k := by
  have e0 : (s : Int) / 2 ^ k = ((s / 2 ^ k : Nat) : Int) := by simp
  have e : ((s : Int) / 2 ^ k).tmod 2 = ((s / 2 ^ k % 2 : Nat) : Int) := by rw [e0]; rfl
  rw [e, Nat.testBit_eq_decide_div_mod_eq]
  have : s / 2 ^ k % 2 < 2 := Nat.mod_lt _ (by omega)
  by_cases h : s / 2 ^ k % 2 = 1
  · simp [h]
  · have h0 : s / 2 ^ k % 2 = 0 := by omega
    simp [h0]
end Go.Theory
namespace Go.Proofs.Ytnkglahiagigoaa
open Go.RowKit Go.Own Go.Theory Go.BigFrame
theorem has_any (s k : Nat) (hs : s < 65536) (hk : k < 62) (w : World) : Calls Try.prog 30 #[.int .i64 s, .int .i64 k] w fun e w' => e = .returned (.bool (s.testBit k)) ∧ w' = w := by
  go_enter Try.func30, Try.ntmps30
  go_wp2
  go_ret
  rw [← shr_mod s k]
  exact ⟨rfl, rfl⟩
theorem with_any (s k : Nat) (hs : s < 65536) (hk : k < 16) (w : World) : Calls Try.prog 54 #[.int .i64 s, .int .i64 k] w fun e w' => e = .returned (.int .i64 ((s ||| 2 ^ k : Nat) : Int)) ∧ w' = w := by
  have h2 : (2 : Nat) ^ k < 65536 := Nat.pow_lt_pow_right (n := 16) (by omega) hk
  have h4 : wrap64 ((2 : Int) ^ k) = ((2 ^ k : Nat) : Int) := by
    rw [show ((2 : Int) ^ k) = ((2 ^ k : Nat) : Int) by simp]
    generalize (2 : Nat) ^ k = m at h2 ⊢
    exact Go.IntWalk.wrap64_in _ (by omega)
  have h3 : bits .or .i64 (s : Int) (wrap64 ((2 : Int) ^ k)) = ((s ||| 2 ^ k : Nat) : Int) := by
    rw [h4]
    exact Go.Ib.b_or s (2 ^ k) (by omega) (by omega)
  clear h4
  have H3 := Lib.hid h3; clear h3
  go_enter Try.func54, Try.ntmps54
  go_wp2
  go_ret
  rw [← H3.out]
  exact ⟨rfl, rfl⟩
end Go.Proofs.Ytnkglahiagigoaa
/- theory: Around, At of sherdref01. -/
namespace Go.Theory
open Go.Own
/-- the number that Around makes -/
def around (x n : Int) : Int := (if x < 0 then -(x + 1) else x) % n
theorem around_rg (x : Int) {n : Nat} (hn : 0 < n) : ∃ k : Nat, around x n = k ∧ k < n := by
  have h1 := Int.emod_nonneg (if x < 0 then -(x + 1) else x) (b := (n : Int)) (by omega)
  have h2 := Int.emod_lt_of_pos (if x < 0 then -(x + 1) else x) (b := (n : Int)) (by omega)
  unfold around
  exact ⟨((if x < 0 then -(x + 1) else x) % (n : Int)).toNat, by omega, by omega⟩
def at3 (l : List Int) (i n : Int) : Int := if i < 0 ∨ (l.length : Int) ≤ i then 0 else around (l.getD i.toNat 0) n
theorem at3_rg (l : List Int) (i : Int) {n : Nat} (hn : 0 < n) : ∃ k : Nat, at3 l i n = k ∧ k < n := by
  unfold at3
  split
  · exact ⟨0, rfl, hn⟩
  · exact around_rg _ hn
end Go.Theory
namespace Go.Proofs.Ytnkglahiagigoaa
open Go.RowKit Go.Own Go.Theory Go.BigFrame
theorem around_any (x n : Int) (hx : rg x) (hn : 1 ≤ n ∧ n ≤ 1000000) (w : World) : Calls Try.prog 20 #[.int .i64 x, .int .i64 n] w fun e w' => e = .returned (.int .i64 (around x n)) ∧ w' = w := by
  unfold rg at hx
  have hz : (n == 0) = false := by simp; omega
  by_cases h : x < 0
  · have e : around x n = -(x + 1).tmod n := by unfold around; rw [if_pos h, ← Int.neg_tmod, Int.tmod_eq_emod_of_nonneg (by omega)]
    have e1 : wrap64 (x + 1) = x + 1 := Go.IntWalk.wrap64_in _ (by omega)
    have e2 : wrap64 (-(x + 1)) = -(x + 1) := Go.IntWalk.wrap64_in _ (by omega)
    have E := Lib.hid e; clear e
    go_enter Try.func20, Try.ntmps20
    go_wp2
    go_ret
    rw [E.out]
    exact ⟨rfl, rfl⟩
  · have e : around x n = x % n := by unfold around; rw [if_neg h]
    have E := Lib.hid e; clear e
    go_enter Try.func20, Try.ntmps20
    go_wp2
    go_ret
    rw [E.out]
    exact ⟨rfl, rfl⟩
theorem at_any (l : List Int) (i n : Int) (sa : Option Addr) (cap : Nat) (hi : rg i) (hn : 1 ≤ n ∧ n ≤ 1000000) (hr : ∀ z ∈ l, rg z) (w : World) (hl : Sl w 1 (.slice sa l.length cap) l.length (l.map (.int .i64))) (hm : l.length ≤ maxLen) :
    Calls Try.prog 34 #[.slice sa l.length cap, .int .i64 i, .int .i64 n] w fun e w' => e = .returned (.int .i64 (at3 l i n)) ∧ w' = w := by
  unfold rg at hi
  by_cases h1 : i < 0
  · have e : at3 l i n = 0 := by unfold at3; rw [if_pos (.inl h1)]
    rw [e]
    go_enter Try.func34, Try.ntmps34
    go_wp2
    go_ret
    exact ⟨rfl, rfl⟩
  · have g1 : 0 ≤ i := by omega
    clear h1
    by_cases h2 : (l.length : Int) ≤ i
    · have e : at3 l i n = 0 := by unfold at3; rw [if_pos (.inr h2)]
      rw [e]
      go_enter Try.func34, Try.ntmps34
      go_wp2
      go_ret
      exact ⟨rfl, rfl⟩
    · obtain ⟨k, rfl⟩ : ∃ k : Nat, i = k := ⟨i.toNat, by omega⟩
      have hk : k < l.length := by omega
      have g2 : (k : Int) < l.length := by omega
      clear h2
      obtain ⟨b, o, rfl, _, _, hC, hb⟩ := sl_at hl (by omega)
      obtain ⟨x, hx⟩ : ∃ x, x = l[k] := ⟨_, rfl⟩
      have cx : w.cell? ⟨b, o + k, none⟩ = some (.int .i64 x) := hC k _ (by simp [hk, hx])
      have hxr : rg x := by rw [hx]; exact hr _ (List.getElem_mem _)
      have e : at3 l k n = around x n := by unfold at3; rw [if_neg (by omega), hx]; simp [hk]
      have E := Lib.hid e; clear e
      clear hx
      go_enter Try.func34, Try.ntmps34
      go_wp2_with (fail)
      refine (around_any x n hxr hn w).mono ?_
      rintro e w2 ⟨rfl, rfl⟩
      go_wp2
      go_ret
      rw [E.out]
      exact ⟨rfl, rfl⟩
end Go.Proofs.Ytnkglahiagigoaa
/- theory: the reference's Weight, least. -/
namespace Go.Theory
open Go.Own
/-- the weight of the first k numbers of s -/
def wsum (l : List Int) (s : Nat) : Nat → Int
  | 0 => 0
  | k + 1 => wsum l s k + if s.testBit k then l.getD k 0 else 0
/-- the least weight among the first k numbers of s -/
def wmin (l : List Int) (s : Nat) : Nat → Int
  | 0 => 16384
  | k + 1 => if s.testBit k then min (wmin l s k) (l.getD k 0) else wmin l s k
theorem getD_wt {l : List Int} (h : ∀ z ∈ l, 0 ≤ z ∧ z ≤ 16384) (k : Nat) : 0 ≤ l.getD k 0 ∧ l.getD k 0 ≤ 16384 := by
  rw [List.getD_eq_getElem?_getD]
  cases e : l[k]? with
  | none => simp
  | some x => exact h x (List.mem_of_getElem? e)
theorem wsum_rg {l : List Int} (h : ∀ z ∈ l, 0 ≤ z ∧ z ≤ 16384) (s : Nat) : ∀ k : Nat, 0 ≤ wsum l s k ∧ wsum l s k ≤ 16384 * k
  | 0 => by simp [wsum]
  | k + 1 => by
    have h1 := wsum_rg h s k
    have h2 := getD_wt h k
    unfold wsum
    split <;> omega
theorem wmin_rg {l : List Int} (h : ∀ z ∈ l, 0 ≤ z ∧ z ≤ 16384) (s : Nat) : ∀ k : Nat, 0 ≤ wmin l s k ∧ wmin l s k ≤ 16384
  | 0 => by simp [wmin]
  | k + 1 => by
    have h1 := wmin_rg h s k
    have h2 := getD_wt h k
    unfold wmin
    split <;> omega
end Go.Theory
namespace Go.Proofs.Ytnkglahiagigoaa
open Go.RowKit Go.Own Go.Theory Go.BigFrame
theorem weight_any (l : List Int) (s : Nat) (sa : Option Addr) (cap : Nat) (hs : s < 65536) (w : World) (hl : Sl w 1 (.slice sa l.length cap) l.length (l.map (.int .i64))) (hm : l.length ≤ 61) (hr : ∀ z ∈ l, 0 ≤ z ∧ z ≤ 16384) :
    Calls Try.prog 29 #[.slice sa l.length cap, .int .i64 s] w fun e w' => e = .returned (.int .i64 (wsum l s l.length)) ∧ w' = w := by
  go_enter Try.func29, Try.ntmps29
  go_wp2
  go_loopw [5, 6] (fun c d wr => ∃ k : Nat, k ≤ l.length ∧ d = .int .i64 k ∧ c = .int .i64 (wsum l s k) ∧ wr = w) (fun _ d _ => l.length - (vInt d).toNat)
  case atStart => exact ⟨0, by omega, rfl, rfl, rfl⟩
  case round =>
    obtain ⟨k, hk, rfl, rfl, rfl⟩ := hrel
    by_cases hkl : k < l.length
    · obtain ⟨b, o, rfl, _, _, hC, hb⟩ := sl_at hl (by omega)
      have hw1 := wsum_rg hr s k
      have hw2 := getD_wt hr k
      obtain ⟨x, hx⟩ : ∃ x, x = l.getD k 0 := ⟨_, rfl⟩
      have cx : wr.cell? ⟨b, o + k, none⟩ = some (.int .i64 x) := hC k _ (by simp [hkl, hx])
      rw [← hx] at hw2
      have HX := Lib.hid hx; clear hx
      obtain ⟨y, hy⟩ : ∃ y, y = wsum l s k := ⟨_, rfl⟩
      rw [← hy] at hw1 ⊢
      have HY := Lib.hid hy; clear hy
      go_wp2_with (fail)
      refine (has_any s k hs (by omega) wr).mono ?_
      rintro e w2 ⟨rfl, rfl⟩
      cases hb : s.testBit k with
      | true =>
        have hn : wsum l s (k + 1) = y + x := by rw [wsum, if_pos hb, ← HX.out, ← HY.out]
        have HN := Lib.hid hn; clear hn
        go_wp2
        go_roundw
        case rel => exact ⟨k + 1, by omega, by go_num, by rw [HN.out], trivial⟩
        case measure => simp [vInt]; omega
      | false =>
        have hn : wsum l s (k + 1) = y := by rw [wsum, if_neg (by simp [hb]), ← HY.out]; simp
        have HN := Lib.hid hn; clear hn
        go_wp2
        go_roundw
        case rel => exact ⟨k + 1, by omega, by go_num, by rw [HN.out], trivial⟩
        case measure => simp [vInt]; omega
    · obtain rfl : k = l.length := by omega
      go_wp2
      go_ret
      exact ⟨rfl, rfl⟩
theorem least_any (l : List Int) (s : Nat) (sa : Option Addr) (cap : Nat) (hs : s < 65536) (w : World) (hl : Sl w 1 (.slice sa l.length cap) l.length (l.map (.int .i64))) (hm : l.length ≤ 61) (hr : ∀ z ∈ l, 0 ≤ z ∧ z ≤ 16384) :
    Calls Try.prog 49 #[.slice sa l.length cap, .int .i64 s] w fun e w' => e = .returned (.int .i64 (wmin l s l.length)) ∧ w' = w := by
  go_enter Try.func49, Try.ntmps49
  go_wp2
  go_loopw [5, 6] (fun c d wr => ∃ k : Nat, k ≤ l.length ∧ d = .int .i64 k ∧ c = .int .i64 (wmin l s k) ∧ wr = w) (fun _ d _ => l.length - (vInt d).toNat)
  case atStart => exact ⟨0, by omega, rfl, rfl, rfl⟩
  case round =>
    obtain ⟨k, hk, rfl, rfl, rfl⟩ := hrel
    by_cases hkl : k < l.length
    · obtain ⟨b, o, rfl, _, _, hC, hb⟩ := sl_at hl (by omega)
      have hw1 := wmin_rg hr s k
      have hw2 := getD_wt hr k
      obtain ⟨x, hx⟩ : ∃ x, x = l.getD k 0 := ⟨_, rfl⟩
      have cx : wr.cell? ⟨b, o + k, none⟩ = some (.int .i64 x) := hC k _ (by simp [hkl, hx])
      rw [← hx] at hw2
      have HX := Lib.hid hx; clear hx
      obtain ⟨y, hy⟩ : ∃ y, y = wmin l s k := ⟨_, rfl⟩
      rw [← hy] at hw1 ⊢
      have HY := Lib.hid hy; clear hy
      go_wp2_with (fail)
      refine (has_any s k hs (by omega) wr).mono ?_
      rintro e w2 ⟨rfl, rfl⟩
      cases hb : s.testBit k with
      | true =>
        have hn : wmin l s (k + 1) = min y x := by rw [wmin, if_pos hb, ← HX.out, ← HY.out]
        have HN := Lib.hid hn; clear hn
        go_wp2
        go_roundw
        case rel => exact ⟨k + 1, by omega, by go_num, by rw [HN.out]; first | rfl | (congr 1; omega), trivial⟩
        case measure => simp [vInt]; omega
      | false =>
        have hn : wmin l s (k + 1) = y := by rw [wmin, if_neg (by simp [hb]), ← HY.out]
        have HN := Lib.hid hn; clear hn
        go_wp2
        go_roundw
        case rel => exact ⟨k + 1, by omega, by go_num, by rw [HN.out], trivial⟩
        case measure => simp [vInt]; omega
    · obtain rfl : k = l.length := by omega
      go_wp2
      go_ret
      exact ⟨rfl, rfl⟩
end Go.Proofs.Ytnkglahiagigoaa
/- theory: the reference's Valid. -/
namespace Go.Theory
open Go.Own Go.RowKit
/-- a valid base -/
def valid (n may : Int) (l : List Int) : Prop := 0 ≤ n ∧ n ≤ 16 ∧ l.length ≤ 1024 ∧ 0 ≤ may ∧ may < 2 ^ n.toNat ∧ ∀ c ∈ l, 1 ≤ c ∧ c < 2 ^ n.toNat
instance (n may : Int) (l : List Int) : Decidable (valid n may l) := by unfold valid; infer_instance
theorem pow16 {n : Nat} (h : n ≤ 16) : (2 : Nat) ^ n ≤ 65536 := Nat.pow_le_pow_right (n := 2) (by omega) h
theorem wrap_pow {n : Nat} (h : n ≤ 16) : wrap64 ((2 : Int) ^ n) = ((2 ^ n : Nat) : Int) := by
  have h2 := pow16 h
  rw [show ((2 : Int) ^ n) = ((2 ^ n : Nat) : Int) by simp]
  generalize (2 : Nat) ^ n = m at h2 ⊢
  exact Go.IntWalk.wrap64_in _ (by omega)
end Go.Theory
namespace Go.Proofs.Ytnkglahiagigoaa
open Go.RowKit Go.Own Go.Theory Go.BigFrame
theorem rvalid_any (n may : Int) (l : List Int) (sa : Option Addr) (cap : Nat) (hn : rg n) (hm : rg may) (w : World) (hl : Sl w 1 (.slice sa l.length cap) l.length (l.map (.int .i64))) (hll : l.length ≤ 1000000) (hr : ∀ z ∈ l, rg z) :
    Calls Try.prog 37 #[.int .i64 n, .int .i64 may, .slice sa l.length cap] w fun e w' => e = .returned (.bool (decide (valid n may l))) ∧ w' = w := by
  unfold rg at hn hm
  by_cases h1 : n < 0
  · have e : decide (valid n may l) = false := decide_eq_false fun h => by have := h.1; omega
    rw [e]
    go_enter Try.func37, Try.ntmps37
    go_wp2
    go_ret
    exact ⟨rfl, rfl⟩
  · by_cases h2 : 16 < n
    · have e : decide (valid n may l) = false := decide_eq_false fun h => by have := h.2.1; omega
      rw [e]
      go_enter Try.func37, Try.ntmps37
      go_wp2
      go_ret
      exact ⟨rfl, rfl⟩
    · obtain ⟨n, rfl⟩ : ∃ k : Nat, n = k := ⟨n.toNat, by omega⟩
      have hn16 : n ≤ 16 := by omega
      have g1 : (n : Int) ≤ 16 := by omega
      clear h1 h2
      by_cases h3 : 1024 < l.length
      · have h3' : (1024 : Int) < l.length := by omega
        have e : decide (valid n may l) = false := decide_eq_false fun h => by have := h.2.2.1; omega
        rw [e]
        go_enter Try.func37, Try.ntmps37
        go_wp2
        go_ret
        exact ⟨rfl, rfl⟩
      · have g3 : (l.length : Int) ≤ 1024 := by omega
        by_cases h4 : may < 0
        · have e : decide (valid n may l) = false := decide_eq_false fun h => by have := h.2.2.2.1; omega
          rw [e]
          go_enter Try.func37, Try.ntmps37
          go_wp2
          go_ret
          exact ⟨rfl, rfl⟩
        · have g4 : 0 ≤ may := by omega
          have hp := wrap_pow hn16
          have hp2 := pow16 hn16
          have hp3 : ((2 : Int) ^ (n : Int).toNat) = ((2 ^ n : Nat) : Int) := by simp
          have hv : valid n may l ↔ (0 ≤ may ∧ may < ((2 ^ n : Nat) : Int) ∧ ∀ c ∈ l, 1 ≤ c ∧ c < ((2 ^ n : Nat) : Int)) := by
            unfold valid
            rw [hp3]
            constructor
            · exact fun h => ⟨h.2.2.2.1, h.2.2.2.2.1, h.2.2.2.2.2⟩
            · exact fun h => ⟨by omega, by omega, by omega, h.1, h.2.1, h.2.2⟩
          clear hp3
          obtain ⟨M, hM⟩ : ∃ M, M = 2 ^ n := ⟨_, rfl⟩
          rw [← hM] at hp hp2 hv
          clear hM
          have HV := Lib.hid hv; clear hv
          by_cases h5 : (M : Int) ≤ may
          · have e : decide (valid n may l) = false := decide_eq_false fun h => by have := (HV.out.1 h).2.1; omega
            rw [e]
            go_enter Try.func37, Try.ntmps37
            go_wp2
            go_ret
            exact ⟨rfl, rfl⟩
          · have g5 : may < (M : Int) := by omega
            clear h3 h4 h5
            go_enter Try.func37, Try.ntmps37
            go_wp2
            go_loopw [7] (fun c wr => ∃ k : Nat, k ≤ l.length ∧ c = .int .i64 k ∧ (∀ j (h : j < l.length), j < k → 1 ≤ l[j] ∧ l[j] < (M : Int)) ∧ wr = w) (fun c _ => l.length - (vInt c).toNat)
            case atStart => exact ⟨0, by omega, rfl, fun j _ h => absurd h (by omega), rfl⟩
            case round =>
              obtain ⟨k, hk, rfl, he, rfl⟩ := hrel
              by_cases hkl : k < l.length
              · obtain ⟨b, o, rfl, _, _, hC, hb⟩ := sl_at hl (by omega)
                obtain ⟨x, hx⟩ : ∃ x, x = l[k] := ⟨_, rfl⟩
                have cx : wr.cell? ⟨b, o + k, none⟩ = some (.int .i64 x) := hC k _ (by simp [hkl, hx])
                have HX := Lib.hid hx; clear hx
                by_cases q1 : x < 1
                · have e : decide (valid n may l) = false := decide_eq_false fun h => by have := ((HV.out.1 h).2.2 _ (List.getElem_mem hkl)).1; rw [← HX.out] at this; omega
                  go_wp2
                  go_ret
                  rw [e]
                  exact ⟨rfl, rfl⟩
                · have q1' : 1 ≤ x := by omega
                  clear q1
                  by_cases q2 : (M : Int) ≤ x
                  · have e : decide (valid n may l) = false := decide_eq_false fun h => by have := ((HV.out.1 h).2.2 _ (List.getElem_mem hkl)).2; rw [← HX.out] at this; omega
                    go_wp2
                    go_ret
                    rw [e]
                    exact ⟨rfl, rfl⟩
                  · have q2' : x < (M : Int) := by omega
                    clear q2
                    have ht : ∀ j (h : j < l.length), j < k + 1 → 1 ≤ l[j] ∧ l[j] < (M : Int) := fun j h hj => by
                      by_cases e : j = k
                      · subst e; rw [← HX.out]; exact ⟨q1', q2'⟩
                      · exact he j h (by omega)
                    go_wp2
                    go_roundw
                    case rel => exact ⟨k + 1, by omega, by go_num, ht, trivial⟩
                    case measure => simp [vInt]; omega
              · have e : decide (valid n may l) = true := decide_eq_true (HV.out.2 ⟨g4, g5, fun c hc => by obtain ⟨j, hj, rfl⟩ := List.getElem_of_mem hc; exact he j hj (by omega)⟩)
                go_wp2
                go_ret
                rw [e]
                exact ⟨rfl, rfl⟩
end Go.Proofs.Ytnkglahiagigoaa
/- theory: the reference's Theory. -/
namespace Go.Theory
open Go.Own Go.RowKit
/-- s is a theory of a base -/
def theory (n may : Nat) (l : List Int) (s : Nat) : Prop := sub s may = true ∧ fst l s < 0 ∧ ∀ k, k < n → may.testBit k = true → s.testBit k = false → 0 ≤ fst l ((s ||| 2 ^ k : Nat) : Int)
instance (n may : Nat) (l : List Int) (s : Nat) : Decidable (theory n may l s) := by unfold theory; infer_instance
theorem fst_rg (l : List Int) (s : Int) (h : l.length ≤ 1000000) : -1 ≤ fst l s ∧ fst l s ≤ 1000000 := by
  unfold fst; split <;> omega
theorem rg_nat {s : Nat} (h : s < 65536) : rg s := by unfold rg; omega
end Go.Theory
namespace Go.Proofs.Ytnkglahiagigoaa
open Go.RowKit Go.Own Go.Theory Go.BigFrame
theorem rtheory_any (n may s : Nat) (l : List Int) (sa : Option Addr) (cap : Nat) (hn : n ≤ 16) (hm : may < 65536) (hs : s < 65536) (w : World) (hl : Sl w 1 (.slice sa l.length cap) l.length (l.map (.int .i64))) (hll : l.length ≤ 1000000) :
    Calls Try.prog 38 #[.int .i64 n, .int .i64 may, .slice sa l.length cap, .int .i64 s] w fun e w' => e = .returned (.bool (decide (theory n may l s))) ∧ w' = w := by
  go_enter Try.func38, Try.ntmps38
  go_wp2_with (fail)
  refine (in_any s may (rg_nat hm) w).mono ?_
  rintro e w2 ⟨rfl, rfl⟩
  cases h1 : sub s may with
  | false =>
    have e : decide (theory n may l s) = false := decide_eq_false fun h => absurd h.1 (by simp [h1])
    go_wp2
    go_ret
    rw [e]
    exact ⟨rfl, rfl⟩
  | true =>
    go_wp2_with (fail)
    refine (first_any l s sa cap (rg_nat hs) w2 hl hll).mono ?_
    rintro e w3 ⟨rfl, rfl⟩
    have hf := fst_rg l s hll
    by_cases h2 : 0 ≤ fst l s
    · have e : decide (theory n may l s) = false := decide_eq_false fun h => absurd h.2.1 (by omega)
      go_wp2
      go_ret
      rw [e]
      exact ⟨rfl, rfl⟩
    · have h2' : fst l s < 0 := by omega
      clear h2
      go_wp2
      go_loopw [9] (fun c wr => ∃ k : Nat, k ≤ n ∧ c = .int .i64 k ∧ (∀ j, j < k → may.testBit j = true → s.testBit j = false → 0 ≤ fst l ((s ||| 2 ^ j : Nat) : Int)) ∧ wr = w3) (fun c _ => n - (vInt c).toNat)
      case atStart => exact ⟨0, by omega, rfl, fun j h => absurd h (by omega), rfl⟩
      case round =>
        obtain ⟨k, hk, rfl, he, rfl⟩ := hrel
        by_cases hkn : k < n
        · have step : (may.testBit k = true → s.testBit k = false → 0 ≤ fst l ((s ||| 2 ^ k : Nat) : Int)) → ∀ j, j < k + 1 → may.testBit j = true → s.testBit j = false → 0 ≤ fst l ((s ||| 2 ^ j : Nat) : Int) := fun h j hj => by
            by_cases e : j = k
            · subst e; exact h
            · exact he j (by omega)
          have hlt : s ||| 2 ^ k < 65536 := Nat.or_lt_two_pow (n := 16) hs (Nat.pow_lt_pow_right (by decide) (show k < 16 by omega))
          go_wp2_with (fail)
          refine (has_any may k hm (by omega) wr).mono ?_
          rintro e w4 ⟨rfl, rfl⟩
          cases b1 : may.testBit k with
          | false =>
            have ht := step fun h => by rw [b1] at h; cases h
            clear step
            go_wp2
            go_roundw
            case rel => exact ⟨k + 1, by omega, by go_num, ht, trivial⟩
            case measure => simp [vInt]; omega
          | true =>
            go_wp2_with (fail)
            refine (has_any s k hs (by omega) w4).mono ?_
            rintro e w5 ⟨rfl, rfl⟩
            cases b2 : s.testBit k with
            | true =>
              have ht := step fun _ h => by rw [b2] at h; cases h
              clear step
              go_wp2
              go_roundw
              case rel => exact ⟨k + 1, by omega, by go_num, ht, trivial⟩
              case measure => simp [vInt]; omega
            | false =>
              go_wp2_with (fail)
              refine (with_any s k hs (by omega) w5).mono ?_
              rintro e w6 ⟨rfl, rfl⟩
              have hno : decide (theory n may l s) = true → 0 ≤ fst l ((s ||| 2 ^ k : Nat) : Int) := fun h => (of_decide_eq_true h).2.2 k hkn b1 b2
              obtain ⟨m, hm2⟩ : ∃ m, m = s ||| 2 ^ k := ⟨_, rfl⟩
              rw [← hm2] at step hlt hno ⊢
              clear hm2
              go_wp2_with (fail)
              refine (first_any l m sa cap (rg_nat hlt) w6 hl hll).mono ?_
              rintro e w7 ⟨rfl, rfl⟩
              have hf2 := fst_rg l m hll
              by_cases q : 0 ≤ fst l m
              · have ht := step fun _ _ => q
                clear step hno
                go_wp2
                go_roundw
                case rel => exact ⟨k + 1, by omega, by go_num, ht, trivial⟩
                case measure => simp [vInt]; omega
              · have q' : fst l m < 0 := by omega
                have e : decide (theory n may l s) = false := by
                  cases hd : decide (theory n may l s) with
                  | false => rfl
                  | true => exact absurd (hno hd) q
                clear q step hno
                go_wp2
                go_ret
                rw [e]
                exact ⟨rfl, rfl⟩
        · obtain rfl : k = n := by omega
          have e : decide (theory k may l s) = true := decide_eq_true ⟨h1, h2', he⟩
          go_wp2
          go_ret
          rw [e]
          exact ⟨rfl, rfl⟩
end Go.Proofs.Ytnkglahiagigoaa
/- theory: the reference's All. -/
namespace Go.Theory
open Go.Own Go.RowKit
/-- all theories below a number, in order -/
def theoriesTo (n may : Nat) (l : List Int) (k : Nat) : List Nat := (List.range k).filter fun s => decide (theory n may l s)
def theories (n may : Nat) (l : List Int) : List Nat := theoriesTo n may l (2 ^ n)
theorem theoriesTo_succ (n may : Nat) (l : List Int) (k : Nat) : theoriesTo n may l (k + 1) = theoriesTo n may l k ++ (if decide (theory n may l k) = true then [k] else []) := by
  unfold theoriesTo
  rw [List.range_succ, List.filter_append]
  congr 1
  by_cases h : theory n may l k <;> simp [h]
theorem theoriesTo_len (n may : Nat) (l : List Int) (k : Nat) : (theoriesTo n may l k).length ≤ k := by
  unfold theoriesTo
  have := List.length_filter_le (fun s => decide (theory n may l s)) (List.range k)
  rwa [List.length_range] at this
end Go.Theory
namespace Go.Proofs.Ytnkglahiagigoaa
open Go.RowKit Go.Own Go.Theory Go.BigFrame
theorem infoSet : (Try.prog.info? 23).map (fun i => (i.zero, i.size, i.bytes)) = some (some (.int .i64 0), 1, 8) := by kernel_rfl
theorem hTset : Try.prog.underlying 24 = some (.slice 23) := by kernel_rfl
set_option maxHeartbeats 1600000 in
theorem rall_any (n may : Nat) (l : List Int) (sa : Option Addr) (cap : Nat) (hv : valid n may l) (w : World) (hl : Sl w 1 (.slice sa l.length cap) l.length (l.map (.int .i64))) (hr : ∀ z ∈ l, rg z) :
    Calls Try.prog 14 #[.int .i64 n, .int .i64 may, .slice sa l.length cap] w fun e w' => ∃ v, e = .returned (.tuple #[v, .int .i64 0]) ∧ w'.ownsRow w.heap.size 23 1 v (theories n may l).length ((theories n may l).map fun (j : Nat) => .int .i64 j) ∧ Below w.heap.size w w' := by
  have hn16 : n ≤ 16 := by have := hv.2.1; omega
  have hp := wrap_pow hn16
  have hp2 := pow16 hn16
  have hmay : may < 65536 := by
    have h := hv.2.2.2.2.1
    rw [show ((2 : Int) ^ (n : Int).toNat) = ((2 ^ n : Nat) : Int) by simp] at h
    omega
  have hll : l.length ≤ 1000000 := by have := hv.2.2.1; omega
  have hth : theories n may l = theoriesTo n may l (2 ^ n) := rfl
  have hvd : decide (valid n may l) = true := decide_eq_true hv
  have hva : ∀ W, Sl W 1 (.slice sa l.length cap) l.length (l.map (.int .i64)) → Calls Try.prog 37 #[.int .i64 n, .int .i64 may, .slice sa l.length cap] W fun e w' => e = .returned (.bool true) ∧ w' = W := fun W h => by
    have := rvalid_any n may l sa cap (by unfold rg; omega) (rg_nat hmay) W h hll hr
    rwa [hvd] at this
  obtain ⟨M, hM⟩ : ∃ M, M = 2 ^ n := ⟨_, rfl⟩
  rw [← hM] at hp hp2 hth
  have HTH := Lib.hid hth; clear hth
  clear hM hvd hv
  go_enter Try.func14, Try.ntmps14
  go_wp2_with (fail)
  refine (hva w hl).mono ?_
  rintro e w2 ⟨rfl, rfl⟩
  clear hva
  go_wp2
  go_loopw [8, 9] (fun v c wr => ∃ (k : Nat) (L : List Nat), k ≤ M ∧ c = .int .i64 k ∧ L = theoriesTo n may l k ∧ wr.ownsRow w2.heap.size 23 1 v L.length (L.map fun (j : Nat) => .int .i64 j) ∧ Below w2.heap.size w2 wr) (fun _ c _ => M - (vInt c).toNat)
  case atStart => exact ⟨0, [], by omega, rfl, rfl, World.ownsRow_nil _ _ _ _, Below.refl _ _⟩
  case round =>
    obtain ⟨k, L, hk, rfl, hL, how, hbr⟩ := hrel
    have hLl : L.length ≤ k := by rw [hL]; exact theoriesTo_len _ _ _ _
    by_cases hkl : k < M
    · have hs := theoriesTo_succ n may l k
      rw [← hL] at hs
      have ht := rtheory_any n may k l sa cap hn16 hmay (by omega) wr (hl.below hbr) hll
      obtain ⟨b, hb⟩ : ∃ b, b = decide (theory n may l k) := ⟨_, rfl⟩
      rw [← hb] at hs ht
      clear hb
      have HS := Lib.hid hs; clear hs
      have HL := Lib.hid hL; clear hL
      go_wp2_with (fail)
      refine ht.mono ?_
      rintro e w3 ⟨rfl, rfl⟩
      clear ht
      cases b with
      | true =>
        have hbsz := hbr.size
        have HOW := how.alloc (.cells #[.int .i64 k] 23)
        go_wp2_with (refine wpList_append_sl rfl _ _ 24 rfl w2.heap.size 23 (.int .i64 0) 1 8 hTset infoSet rfl (by decide) _ L.length _ rfl HOW _ 1 [.int .i64 k] rfl (sl_new _ _ _ 1 rfl (by decide)) (by intro u hu; simp at hu; rw [hu]; rfl) (by unfold maxLen; omega) (by omega) (by simp; omega) ?_)
        intro v' w' h1 h2
        have hb9 : Below w2.heap.size w2 w' := grown_below (hbr.trans (((Below.refl w3.heap.size w3).alloc (Nat.le_refl _) _).mono hbsz)) HOW h2 (by simp; omega)
        go_wp2
        go_roundw
        case rel =>
          refine ⟨k + 1, L ++ [k], by omega, by go_num, ?_, ?_, hb9⟩
          · rw [HS.out]; rfl
          · rw [List.length_append, List.map_append]; exact h1
        case measure => simp [vInt]; omega
      | false =>
        go_wp2
        go_roundw
        case rel =>
          refine ⟨k + 1, L, by omega, by go_num, ?_, how, hbr⟩
          rw [HS.out]; simp
        case measure => simp [vInt]; omega
    · obtain rfl : k = M := by omega
      have HE : Hid (L = theories n may l) := Lib.hid (by rw [hL, HTH.out])
      clear hL
      go_wp2
      go_ret2
      rw [HE.out] at how
      exact ⟨_, rfl, how, hbr⟩
end Go.Proofs.Ytnkglahiagigoaa
/- theory: Same, SameInts of the references. -/
namespace Go.Own
theorem take_succ_eq {α : Type} {la lb : List α} {k : Nat} (h1 : k < la.length) (h2 : k < lb.length) (h : la.take k = lb.take k) (he : la[k] = lb[k]) : la.take (k + 1) = lb.take (k + 1) := by
  rw [List.take_succ_eq_append_getElem h1, List.take_succ_eq_append_getElem h2, h, he]
theorem ne_of_get {α : Type} {la lb : List α} {k : Nat} (h1 : k < la.length) (h2 : k < lb.length) (he : la[k] ≠ lb[k]) : la ≠ lb := by
  intro e; subst e; exact he rfl
end Go.Own
namespace Go.Proofs.Ytnkglahiagigoaa
open Go.RowKit Go.Own Go.Theory Go.BigFrame
set_option maxRecDepth 100000 in
theorem same_any (la lb : List Int) (sa sb : Option Addr) (ca cb : Nat) (w : World) (ha : Sl w 1 (.slice sa la.length ca) la.length (la.map (.int .i64))) (hb : Sl w 1 (.slice sb lb.length cb) lb.length (lb.map (.int .i64))) (hm : la.length ≤ 1000000 ∨ lb.length ≤ 1000000) :
    Calls Try.prog 15 #[.slice sa la.length ca, .slice sb lb.length cb] w fun e w' => e = .returned (.bool (la == lb)) ∧ Below w.heap.size w w' := by
  go_enter Try.func15, Try.ntmps15
  by_cases hl : la.length = lb.length
  · have hl' : ((la.length : Int) != (lb.length : Int)) = false := by simp [hl]
    go_wp2
    go_loopw [5] (fun c wr => ∃ k : Nat, k ≤ la.length ∧ c = .int .i64 k ∧ la.take k = lb.take k ∧ Below w.heap.size w wr) (fun c _ => la.length - (vInt c).toNat)
    case atStart => exact ⟨0, by omega, rfl, rfl, Below.refl _ _⟩
    case round =>
      obtain ⟨k, hk, rfl, he, hbr⟩ := hrel
      by_cases hkl : k < la.length
      · have hkl2 : k < lb.length := by omega
        obtain ⟨ba, oa, rfl, _, _, hCa, hal⟩ := sl_at ha (by omega)
        obtain ⟨bb, ob, rfl, _, _, hCb, hbl⟩ := sl_at hb (by omega)
        obtain ⟨x, hx⟩ : ∃ x, x = la[k] := ⟨_, rfl⟩
        obtain ⟨y, hy⟩ : ∃ y, y = lb[k] := ⟨_, rfl⟩
        have cx : wr.cell? ⟨ba, oa + k, none⟩ = some (.int .i64 x) := (hCa.below hbr hal) k _ (by simp [hkl, hx])
        have cy : wr.cell? ⟨bb, ob + k, none⟩ = some (.int .i64 y) := (hCb.below hbr hbl) k _ (by simp [hkl2, hy])
        have HX := Lib.hid hx; clear hx
        have HY := Lib.hid hy; clear hy
        by_cases hxy : x = y
        · subst hxy
          have ht := take_succ_eq hkl hkl2 he (by rw [← HX.out, ← HY.out])
          go_wp2
          go_quiet (fail)
          go_wp2
          go_roundw
          case rel => exact ⟨k + 1, by omega, by go_num, ht, below_drewN hbr _⟩
          case measure => simp [vInt]; omega
        · have hq : (x == y) = false := by simpa using hxy
          have hq2 : (x != y) = true := by simpa using hxy
          have hne : (la == lb) = false := by
            have := ne_of_get hkl hkl2 (by rw [← HX.out, ← HY.out]; exact hxy)
            simpa using this
          clear hxy
          go_wp2
          go_quiet (fail)
          go_wp2
          go_ret
          rw [hne]
          exact ⟨rfl, below_drewN hbr _⟩
      · have e : la = lb := by rwa [List.take_of_length_le (by omega), List.take_of_length_le (by omega)] at he
        have hq : (la == lb) = true := by simpa using e
        clear e he
        go_wp2
        go_ret
        rw [hq]
        exact ⟨rfl, hbr⟩
  · have hl' : ((la.length : Int) != (lb.length : Int)) = true := by simp; omega
    have hne : (la == lb) = false := by
      have : la ≠ lb := fun e => hl (by rw [e])
      simpa using this
    go_wp2
    go_ret
    rw [hne]
    exact ⟨rfl, Below.refl _ _⟩
set_option maxRecDepth 100000 in
theorem sameInts_any (la lb : List Int) (sa sb : Option Addr) (ca cb : Nat) (w : World) (ha : Sl w 1 (.slice sa la.length ca) la.length (la.map (.int .i64))) (hb : Sl w 1 (.slice sb lb.length cb) lb.length (lb.map (.int .i64))) (hm : la.length ≤ 1000000 ∨ lb.length ≤ 1000000) :
    Calls Try.prog 25 #[.slice sa la.length ca, .slice sb lb.length cb] w fun e w' => e = .returned (.bool (la == lb)) ∧ Below w.heap.size w w' := by
  go_enter Try.func25, Try.ntmps25
  by_cases hl : la.length = lb.length
  · have hl' : ((la.length : Int) != (lb.length : Int)) = false := by simp [hl]
    go_wp2
    go_loopw [5] (fun c wr => ∃ k : Nat, k ≤ la.length ∧ c = .int .i64 k ∧ la.take k = lb.take k ∧ Below w.heap.size w wr) (fun c _ => la.length - (vInt c).toNat)
    case atStart => exact ⟨0, by omega, rfl, rfl, Below.refl _ _⟩
    case round =>
      obtain ⟨k, hk, rfl, he, hbr⟩ := hrel
      by_cases hkl : k < la.length
      · have hkl2 : k < lb.length := by omega
        obtain ⟨ba, oa, rfl, _, _, hCa, hal⟩ := sl_at ha (by omega)
        obtain ⟨bb, ob, rfl, _, _, hCb, hbl⟩ := sl_at hb (by omega)
        obtain ⟨x, hx⟩ : ∃ x, x = la[k] := ⟨_, rfl⟩
        obtain ⟨y, hy⟩ : ∃ y, y = lb[k] := ⟨_, rfl⟩
        have cx : wr.cell? ⟨ba, oa + k, none⟩ = some (.int .i64 x) := (hCa.below hbr hal) k _ (by simp [hkl, hx])
        have cy : wr.cell? ⟨bb, ob + k, none⟩ = some (.int .i64 y) := (hCb.below hbr hbl) k _ (by simp [hkl2, hy])
        have HX := Lib.hid hx; clear hx
        have HY := Lib.hid hy; clear hy
        by_cases hxy : x = y
        · subst hxy
          have ht := take_succ_eq hkl hkl2 he (by rw [← HX.out, ← HY.out])
          go_wp2
          go_quiet (fail)
          go_wp2
          go_roundw
          case rel => exact ⟨k + 1, by omega, by go_num, ht, below_drewN hbr _⟩
          case measure => simp [vInt]; omega
        · have hq : (x == y) = false := by simpa using hxy
          have hq2 : (x != y) = true := by simpa using hxy
          have hne : (la == lb) = false := by
            have := ne_of_get hkl hkl2 (by rw [← HX.out, ← HY.out]; exact hxy)
            simpa using this
          clear hxy
          go_wp2
          go_quiet (fail)
          go_wp2
          go_ret
          rw [hne]
          exact ⟨rfl, below_drewN hbr _⟩
      · have e : la = lb := by rwa [List.take_of_length_le (by omega), List.take_of_length_le (by omega)] at he
        have hq : (la == lb) = true := by simpa using e
        clear e he
        go_wp2
        go_ret
        rw [hq]
        exact ⟨rfl, hbr⟩
  · have hl' : ((la.length : Int) != (lb.length : Int)) = true := by simp; omega
    have hne : (la == lb) = false := by
      have : la ≠ lb := fun e => hl (by rw [e])
      simpa using this
    go_wp2
    go_ret
    rw [hne]
    exact ⟨rfl, Below.refl _ _⟩
end Go.Proofs.Ytnkglahiagigoaa
/- theory: Find, Weights of the reference. -/
namespace Go.Theory
/-- valid weights -/
def wts (n : Int) (l : List Int) : Prop := (l.length : Int) = n ∧ ∀ z ∈ l, 0 ≤ z ∧ z ≤ 16384
instance (n : Int) (l : List Int) : Decidable (wts n l) := by unfold wts; infer_instance
end Go.Theory
namespace Go.Proofs.Ytnkglahiagigoaa
open Go.RowKit Go.Own Go.Theory Go.BigFrame
theorem find_any (l : List Int) (s : Int) (sa : Option Addr) (cap : Nat) (w : World) (hl : Sl w 1 (.slice sa l.length cap) l.length (l.map (.int .i64))) (hm : l.length ≤ 1000000) :
    Calls Try.prog 33 #[.slice sa l.length cap, .int .i64 s] w fun e w' => e = .returned (.bool (decide (s ∈ l))) ∧ w' = w := by
  go_enter Try.func33, Try.ntmps33
  go_wp2
  go_loopw [5] (fun c wr => ∃ k : Nat, k ≤ l.length ∧ c = .int .i64 k ∧ (∀ j (h : j < l.length), j < k → l[j] ≠ s) ∧ wr = w) (fun c _ => l.length - (vInt c).toNat)
  case atStart => exact ⟨0, by omega, rfl, fun j _ h => absurd h (by omega), rfl⟩
  case round =>
    obtain ⟨k, hk, rfl, he, rfl⟩ := hrel
    by_cases hkl : k < l.length
    · obtain ⟨b, o, rfl, _, _, hC, hb⟩ := sl_at hl (by omega)
      obtain ⟨x, hx⟩ : ∃ x, x = l[k] := ⟨_, rfl⟩
      have cx : wr.cell? ⟨b, o + k, none⟩ = some (.int .i64 x) := hC k _ (by simp [hkl, hx])
      have HX := Lib.hid hx; clear hx
      by_cases q : x = s
      · have e : decide (s ∈ l) = true := decide_eq_true (by rw [← q, HX.out]; exact List.getElem_mem hkl)
        have q' : (x == s) = true := by simpa using q
        clear q
        go_wp2
        go_ret
        rw [e]
        exact ⟨rfl, rfl⟩
      · have ht : ∀ j (h : j < l.length), j < k + 1 → l[j] ≠ s := fun j h hj => by
          by_cases e : j = k
          · subst e; rw [← HX.out]; exact q
          · exact he j h (by omega)
        have q' : (x == s) = false := by simpa using q
        clear q
        go_wp2
        go_roundw
        case rel => exact ⟨k + 1, by omega, by go_num, ht, trivial⟩
        case measure => simp [vInt]; omega
    · have e : decide (s ∈ l) = false := decide_eq_false fun h => by
        obtain ⟨j, hj, q⟩ := List.getElem_of_mem h
        exact he j hj (by omega) q
      go_wp2
      go_ret
      rw [e]
      exact ⟨rfl, rfl⟩
theorem rweights_any (n : Nat) (l : List Int) (sa : Option Addr) (cap : Nat) (hn : n ≤ 1000000) (w : World) (hl : Sl w 1 (.slice sa l.length cap) l.length (l.map (.int .i64))) (hm : l.length ≤ 1000000) :
    Calls Try.prog 41 #[.int .i64 n, .slice sa l.length cap] w fun e w' => e = .returned (.bool (decide (wts n l))) ∧ w' = w := by
  by_cases h0 : l.length = n
  · subst h0
    have hq : ((l.length : Int) != (l.length : Int)) = false := by simp
    go_enter Try.func41, Try.ntmps41
    go_wp2
    go_loopw [5] (fun c wr => ∃ k : Nat, k ≤ l.length ∧ c = .int .i64 k ∧ (∀ j (h : j < l.length), j < k → 0 ≤ l[j] ∧ l[j] ≤ 16384) ∧ wr = w) (fun c _ => l.length - (vInt c).toNat)
    case atStart => exact ⟨0, by omega, rfl, fun j _ h => absurd h (by omega), rfl⟩
    case round =>
      obtain ⟨k, hk, rfl, he, rfl⟩ := hrel
      by_cases hkl : k < l.length
      · obtain ⟨b, o, rfl, _, _, hC, hb⟩ := sl_at hl (by omega)
        obtain ⟨x, hx⟩ : ∃ x, x = l[k] := ⟨_, rfl⟩
        have cx : wr.cell? ⟨b, o + k, none⟩ = some (.int .i64 x) := hC k _ (by simp [hkl, hx])
        have HX := Lib.hid hx; clear hx
        by_cases q1 : x < 0
        · have e : decide (wts l.length l) = false := decide_eq_false fun h => by have := (h.2 _ (List.getElem_mem hkl)).1; rw [← HX.out] at this; omega
          go_wp2
          go_ret
          rw [e]
          exact ⟨rfl, rfl⟩
        · have q1' : 0 ≤ x := by omega
          clear q1
          by_cases q2 : 16384 < x
          · have e : decide (wts l.length l) = false := decide_eq_false fun h => by have := (h.2 _ (List.getElem_mem hkl)).2; rw [← HX.out] at this; omega
            go_wp2
            go_ret
            rw [e]
            exact ⟨rfl, rfl⟩
          · have q2' : x ≤ 16384 := by omega
            clear q2
            have ht : ∀ j (h : j < l.length), j < k + 1 → 0 ≤ l[j] ∧ l[j] ≤ 16384 := fun j h hj => by
              by_cases e : j = k
              · subst e; rw [← HX.out]; exact ⟨q1', q2'⟩
              · exact he j h (by omega)
            go_wp2
            go_roundw
            case rel => exact ⟨k + 1, by omega, by go_num, ht, trivial⟩
            case measure => simp [vInt]; omega
      · have e : decide (wts l.length l) = true := decide_eq_true ⟨rfl, fun c hc => by obtain ⟨j, hj, rfl⟩ := List.getElem_of_mem hc; exact he j hj (by omega)⟩
        go_wp2
        go_ret
        rw [e]
        exact ⟨rfl, rfl⟩
  · have hq : ((l.length : Int) != (n : Int)) = true := by simp; omega
    have e : decide (wts n l) = false := decide_eq_false fun h => by have := h.1; omega
    rw [e]
    go_enter Try.func41, Try.ntmps41
    go_wp2
    go_ret
    exact ⟨rfl, rfl⟩
end Go.Proofs.Ytnkglahiagigoaa
/- theory: Common. -/
namespace Go.Theory
open Go.RowKit
/-- what the first k + 1 sets have in common -/
def cmn (l : List Int) : Nat → Int
  | 0 => l.getD 0 0
  | k + 1 => bits .and .i64 (cmn l k) (l.getD (k + 1) 0)
def common (l : List Int) : Int := if l.length = 0 then 0 else cmn l (l.length - 1)
end Go.Theory
namespace Go.Proofs.Ytnkglahiagigoaa
open Go.RowKit Go.Own Go.Theory Go.BigFrame
theorem rcommon_any (l : List Int) (sa : Option Addr) (cap : Nat) (w : World) (hl : Sl w 1 (.slice sa l.length cap) l.length (l.map (.int .i64))) (hm : l.length ≤ 1000000) :
    Calls Try.prog 17 #[.slice sa l.length cap] w fun e w' => e = .returned (.int .i64 (common l)) ∧ w' = w := by
  by_cases h0 : l.length = 0
  · have e : common l = 0 := by unfold common; rw [if_pos h0]
    have h0' : (l.length : Int) = 0 := by omega
    rw [e]
    go_enter Try.func17, Try.ntmps17
    go_wp2
    go_ret
    exact ⟨rfl, rfl⟩
  · have e : common l = cmn l (l.length - 1) := by unfold common; rw [if_neg h0]
    have E := Lib.hid e; clear e
    have hq : ((l.length : Int) == 0) = false := beq_eq_false_iff_ne.2 (by omega)
    obtain ⟨b, o, rfl, _, _, hC, hb⟩ := sl_at hl (by omega)
    obtain ⟨x, hx⟩ : ∃ x, x = l.getD 0 0 := ⟨_, rfl⟩
    have hp : 0 < l.length := by omega
    have cx : w.cell? ⟨b, o, none⟩ = some (.int .i64 x) := hC 0 _ (by simp [hp, hx])
    have e0 : cmn l 0 = x := by rw [hx]; rfl
    have E0 := Lib.hid e0; clear e0 hx
    go_enter Try.func17, Try.ntmps17
    go_wp2
    go_loopw [3, 4] (fun v c wr => ∃ k : Nat, k + 1 ≤ l.length ∧ c = .int .i64 ((k + 1 : Nat) : Int) ∧ v = .int .i64 (cmn l k) ∧ wr = w) (fun _ c _ => l.length - (vInt c).toNat)
    case atStart => exact ⟨0, by omega, rfl, by rw [E0.out], rfl⟩
    case round =>
      obtain ⟨k, hk, rfl, rfl, rfl⟩ := hrel
      by_cases hkl : k + 1 < l.length
      · obtain ⟨y, hy⟩ : ∃ y, y = l.getD (k + 1) 0 := ⟨_, rfl⟩
        have cy : wr.cell? ⟨b, o + (k + 1), none⟩ = some (.int .i64 y) := hC (k + 1) _ (by simp [hkl, hy])
        have hn : cmn l (k + 1) = bits .and .i64 (cmn l k) y := by rw [hy]; rfl
        have HN := Lib.hid hn; clear hn hy
        go_wp2
        go_roundw
        case rel => exact ⟨k + 1, by omega, by go_num, by rw [HN.out], trivial⟩
        case measure => simp [vInt]; omega
      · have e : common l = cmn l k := by rw [E.out]; congr 1; omega
        have H := Lib.hid e; clear e
        go_wp2
        go_ret
        rw [H.out]
        exact ⟨rfl, rfl⟩
theorem common_any (l : List Int) (sa : Option Addr) (cap : Nat) (w : World) (hl : Sl w 1 (.slice sa l.length cap) l.length (l.map (.int .i64))) (hm : l.length ≤ 1000000) :
    Calls Try.prog 16 #[.slice sa l.length cap] w fun e w' => e = .returned (.int .i64 (common l)) ∧ w' = w := by
  by_cases h0 : l.length = 0
  · have e : common l = 0 := by unfold common; rw [if_pos h0]
    have h0' : (l.length : Int) = 0 := by omega
    rw [e]
    go_enter Try.func16, Try.ntmps16
    go_wp2
    go_ret
    exact ⟨rfl, rfl⟩
  · have e : common l = cmn l (l.length - 1) := by unfold common; rw [if_neg h0]
    have E := Lib.hid e; clear e
    have hq : ((l.length : Int) == 0) = false := beq_eq_false_iff_ne.2 (by omega)
    obtain ⟨b, o, rfl, hcap, _, hC, hb⟩ := sl_at hl (by omega)
    obtain ⟨x, hx⟩ : ∃ x, x = l.getD 0 0 := ⟨_, rfl⟩
    have hp : 0 < l.length := by omega
    have cx : w.cell? ⟨b, o, none⟩ = some (.int .i64 x) := hC 0 _ (by simp [hp, hx])
    have e0 : cmn l 0 = x := by rw [hx]; rfl
    have E0 := Lib.hid e0; clear e0 hx
    by_cases hc : cap = 1
    · subst hc
      have h1 : l.length = 1 := by omega
      have e : common l = x := by rw [E.out, h1]; exact E0.out
      have g : ((l.length - 1 : Nat) : Int) = 0 := by omega
      have H := Lib.hid e; clear e
      go_enter Try.func16, Try.ntmps16
      go_wp2
      go_loopw [3, 15] (fun v c wr => c = .int .i64 0 ∧ v = .int .i64 x ∧ wr = w) (fun _ _ _ => 0)
      case atStart => exact ⟨rfl, rfl, rfl⟩
      case round =>
        obtain ⟨rfl, rfl, rfl⟩ := hrel
        go_wp2
        go_ret
        rw [H.out]
        exact ⟨rfl, rfl⟩
    · skip
      go_enter Try.func16, Try.ntmps16
      go_wp2
      go_loopw [3, 15] (fun v c wr => ∃ k : Nat, k + 1 ≤ l.length ∧ c = .int .i64 (k : Int) ∧ v = .int .i64 (cmn l k) ∧ wr = w) (fun _ c _ => l.length - (vInt c).toNat)
      case atStart => exact ⟨0, by omega, rfl, by rw [E0.out], rfl⟩
      case round =>
        obtain ⟨k, hk, rfl, rfl, rfl⟩ := hrel
        by_cases hkl : k + 1 < l.length
        · have g : (k : Int) < ((l.length - 1 : Nat) : Int) := by omega
          obtain ⟨y, hy⟩ : ∃ y, y = l.getD (k + 1) 0 := ⟨_, rfl⟩
          have cy : wr.cell? ⟨b, o + 1 + k, none⟩ = some (.int .i64 y) := by rw [Nat.add_assoc, Nat.add_comm 1 k]; exact hC (k + 1) _ (by simp [hkl, hy])
          have hn : cmn l (k + 1) = bits .and .i64 (cmn l k) y := by rw [hy]; rfl
          have HN := Lib.hid hn; clear hn hy
          go_wp2
          go_roundw
          case rel => exact ⟨k + 1, by omega, by go_num, by rw [HN.out], trivial⟩
          case measure => simp [vInt]; omega
        · have g : ((l.length - 1 : Nat) : Int) ≤ (k : Int) := by omega
          have e : common l = cmn l k := by rw [E.out]; congr 1; omega
          have H := Lib.hid e; clear e
          go_wp2
          go_ret
          rw [H.out]
          exact ⟨rfl, rfl⟩
end Go.Proofs.Ytnkglahiagigoaa

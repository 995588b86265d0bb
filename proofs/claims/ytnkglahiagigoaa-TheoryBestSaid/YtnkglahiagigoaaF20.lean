/- theory: both sides of Check, Best and Bound answer alike, for any problem. -/
import Derived.Test.YtnkglahiagigoaaF19
namespace Go.Proofs.Ytnkglahiagigoaa
open Go.RowKit Go.Own Go.Theory Go.BigFrame Go.Shelf
theorem sub_small {s : Int} {m : Nat} (hs : rg s) (hm : m < 65536) (h : sub s m = true) : 0 ≤ s ∧ s < 65536 := by
  have h0 : 0 ≤ s := by
    by_cases hn : s < 0
    · rw [sub_neg hs hn (by omega)] at h; cases h
    · omega
  obtain ⟨k, rfl⟩ : ∃ k : Nat, s = k := ⟨s.toNat, by omega⟩
  have hk : k < 9223372036854775808 := by unfold rg at hs; omega
  have hb := (subN hk (by omega)).1 h
  have : k < 2 ^ 16 := lt_of_bits fun j hj => bits_of_lt (n := 16) (by omega) (hb j hj)
  omega
theorem check_two (n m : Int) (l : List Int) (sa : Option Addr) (cap : Nat) (s : Int) (hs : rg s) : ∃ (T : List Int) (c : Int), T.length ≤ 65536 ∧
    (∀ w, Prob w n m l sa cap → Calls Try.prog 26 #[.int .i64 n, .int .i64 m, .slice sa l.length cap, .int .i64 s] w fun e w' => ∃ v, e = .returned (.tuple #[v, .int .i64 c]) ∧ Row w.heap.size 3 T v w' ∧ Below w.heap.size w w') ∧
    (∀ w, Prob w n m l sa cap → Calls Try.prog 27 #[.int .i64 n, .int .i64 m, .slice sa l.length cap, .int .i64 s] w fun e w' => ∃ v, e = .returned (.tuple #[v, .int .i64 c]) ∧ Row w.heap.size 3 T v w' ∧ Below w.heap.size w w') := by
  by_cases hv : valid n m l ∧ sub s m = true
  · obtain ⟨hv, hsub⟩ := hv
    obtain ⟨a, rfl⟩ : ∃ k : Nat, n = k := ⟨n.toNat, by have := hv.1; omega⟩
    obtain ⟨b, rfl⟩ : ∃ k : Nat, m = k := ⟨m.toNat, by have := hv.2.2.2.1; omega⟩
    obtain ⟨hn16, hmayM, _, _⟩ := valid_nat hv
    have hp := pow16 hn16
    obtain ⟨h0, h1⟩ := sub_small hs (by omega) hsub
    obtain ⟨t, rfl⟩ : ∃ k : Nat, s = k := ⟨s.toNat, by omega⟩
    refine ⟨(chk a b l t).1, (chk a b l t).2, ?_, ?_, ?_⟩
    · unfold chk
      split
      · simp
      · split
        · have := founds_len l b t a; dsimp only; omega
        · simp
    · intro w h
      refine (pcheck_any a b t l sa cap hv (by omega) hsub w h.sl h.hr).mono ?_
      rintro e w' ⟨v, rfl, h1, h2⟩
      exact ⟨v, rfl, Row.of h1, h2⟩
    · intro w h
      refine (rcheck_any a b t l sa cap hv (by omega) hsub w h.sl h.hr).mono ?_
      rintro e w' ⟨v, rfl, h1, h2⟩
      exact ⟨v, rfl, Row.of h1, h2⟩
  · refine ⟨[], 1, by decide, ?_, ?_⟩
    · intro w h
      refine (pcheck_bad n m s l sa cap h.hn h.hm hv w h.sl (by have := h.hl; omega) h.hr).mono ?_
      rintro e w' ⟨rfl, h2⟩
      exact ⟨_, rfl, Row.nil _ _ _, h2⟩
    · intro w h
      refine (rcheck_bad n m s l sa cap h.hn h.hm hs (fun hh => hv ⟨hh.1, hh.2.2⟩) w h.sl (by have := h.hl; omega) h.hr).mono ?_
      rintro e w' ⟨rfl, rfl⟩
      exact ⟨_, rfl, Row.nil _ _ _, Below.refl _ _⟩
theorem best_two (n m : Int) (l wl : List Int) (sa wa : Option Addr) (cap wcap : Nat) (hwll : wl.length ≤ 1000000) : ∃ (x y c : Int),
    (∀ w, Prob w n m l sa cap → Sl w 1 (.slice wa wl.length wcap) wl.length (wl.map (.int .i64)) → Calls Try.prog 21 #[.int .i64 n, .int .i64 m, .slice sa l.length cap, .slice wa wl.length wcap] w fun e w' => e = .returned (.tuple #[.int .i64 x, .int .i64 y, .int .i64 c]) ∧ Below w.heap.size w w') ∧
    (∀ w, Prob w n m l sa cap → Sl w 1 (.slice wa wl.length wcap) wl.length (wl.map (.int .i64)) → Calls Try.prog 22 #[.int .i64 n, .int .i64 m, .slice sa l.length cap, .slice wa wl.length wcap] w fun e w' => e = .returned (.tuple #[.int .i64 x, .int .i64 y, .int .i64 c]) ∧ Below w.heap.size w w') := by
  by_cases hv : valid n m l ∧ wts n wl
  · obtain ⟨hv, hw⟩ := hv
    obtain ⟨a, rfl⟩ : ∃ k : Nat, n = k := ⟨n.toNat, by have := hv.1; omega⟩
    obtain ⟨b, rfl⟩ : ∃ k : Nat, m = k := ⟨m.toNat, by have := hv.2.2.2.1; omega⟩
    have hn16 := (valid_nat hv).1
    have hwn : wl.length ≤ 16 := by have := hw.1; omega
    have e : (fun s => wsum wl s 16) = fun s => wsum wl s wl.length := funext fun s => wsum16 s hwn
    refine ⟨((pbest (fun s => wsum wl s 16) (theories a b l)).1 : Int), (pbest (fun s => wsum wl s 16) (theories a b l)).2, 0, ?_, ?_⟩
    · intro w h hwl
      exact pbest_any a b l wl sa wa cap wcap hv hw w h.sl h.hr hwl
    · intro w h hwl
      refine (rbest_any a b l wl sa wa cap wcap hv hw w h.sl h.hr hwl).mono ?_
      rintro e w' ⟨rfl, h2⟩
      rw [e]
      exact ⟨rfl, h2⟩
  · refine ⟨0, 0, 1, ?_, ?_⟩
    · intro w h hwl
      exact pbest_bad n m l wl sa wa cap wcap h.hn h.hm hv w h.sl (by have := h.hl; omega) h.hr hwl hwll
    · intro w h hwl
      exact rbest_bad n m l wl sa wa cap wcap h.hn h.hm hv w h.sl (by have := h.hl; omega) h.hr hwl hwll
theorem bound_two (n m : Int) (l wl : List Int) (sa wa : Option Addr) (cap wcap : Nat) (hwll : wl.length ≤ 1000000) (h11 : valid n m l → l.length ≤ 11) : ∃ (x : Int) (T : List Int) (c : Int), T.length ≤ 65536 ∧
    (∀ w, Prob w n m l sa cap → Sl w 1 (.slice wa wl.length wcap) wl.length (wl.map (.int .i64)) → Calls Try.prog 23 #[.int .i64 n, .int .i64 m, .slice sa l.length cap, .slice wa wl.length wcap] w fun e w' => ∃ v, e = .returned (.tuple #[.int .i64 x, v, .int .i64 c]) ∧ Row w.heap.size 3 T v w' ∧ Below w.heap.size w w') ∧
    (∀ w, Prob w n m l sa cap → Sl w 1 (.slice wa wl.length wcap) wl.length (wl.map (.int .i64)) → Calls Try.prog 24 #[.int .i64 n, .int .i64 m, .slice sa l.length cap, .slice wa wl.length wcap] w fun e w' => ∃ v, e = .returned (.tuple #[.int .i64 x, v, .int .i64 c]) ∧ Row w.heap.size 3 T v w' ∧ Below w.heap.size w w') := by
  by_cases hv : valid n m l ∧ wts n wl
  · obtain ⟨hv, hw⟩ := hv
    have h12 := h11 hv
    obtain ⟨a, rfl⟩ : ∃ k : Nat, n = k := ⟨n.toNat, by have := hv.1; omega⟩
    obtain ⟨b, rfl⟩ : ∃ k : Nat, m = k := ⟨m.toNat, by have := hv.2.2.2.1; omega⟩
    refine ⟨bndV wl l b, (bndL wl l b).map fun (j : Nat) => (j : Int), 0, ?_, ?_, ?_⟩
    · rw [List.length_map]
      unfold bndL
      have := List.length_filter_le (fun i => decide (i ∈ rrs wl l b l.length 0)) (List.range l.length)
      rw [List.length_range] at this
      omega
    · intro w h hwl
      refine (pbound_any a b l wl sa wa cap wcap hv hw (by omega) w h.sl h.hr hwl).mono ?_
      rintro e w' ⟨v, rfl, h1, h2⟩
      exact ⟨v, rfl, Row.ofNat h1, h2⟩
    · intro w h hwl
      refine (rbound_any a b l wl sa wa cap wcap hv hw (by omega) w h.sl h.hr hwl).mono ?_
      rintro e w' ⟨v, rfl, h1, h2⟩
      exact ⟨v, rfl, Row.ofNat h1, h2⟩
  · refine ⟨0, [], 1, by decide, ?_, ?_⟩
    · intro w h hwl
      refine (pbound_bad n m l wl sa wa cap wcap h.hn h.hm hv w h.sl (by have := h.hl; omega) h.hr hwl hwll).mono ?_
      rintro e w' ⟨rfl, h2⟩
      exact ⟨_, rfl, Row.nil _ _ _, h2⟩
    · intro w h hwl
      refine (rbound_bad n m l wl sa wa cap wcap h.hn h.hm hv w h.sl (by have := h.hl; omega) h.hr hwl hwll).mono ?_
      rintro e w' ⟨rfl, rfl⟩
      exact ⟨_, rfl, Row.nil _ _ _, Below.refl _ _⟩
end Go.Proofs.Ytnkglahiagigoaa

/- theory: the reference's First. -/
import Derived.Test.YtnkglahiagigoaaE0
namespace Go.Theory
open Go.Own
/-- the index of the first part of s in a list, or -1 -/
def fst (l : List Int) (s : Int) : Int := if l.findIdx (sub · s) < l.length then (l.findIdx (sub · s) : Int) else -1
theorem fst_at {l : List Int} {s : Int} {k : Nat} (hk : k < l.length) (h1 : ∀ j (h : j < l.length), j < k → sub l[j] s = false) (h2 : sub l[k] s = true) : fst l s = k := by
  have e : l.findIdx (sub · s) = k := by
    rw [List.findIdx_eq hk]
    exact ⟨h2, fun j hj => by simpa using h1 j (by omega) hj⟩
  unfold fst
  rw [e, if_pos hk]
theorem fst_none {l : List Int} {s : Int} (h1 : ∀ j (h : j < l.length), sub l[j] s = false) : fst l s = -1 := by
  unfold fst
  rw [if_neg]
  rw [List.findIdx_lt_length]
  rintro ⟨x, hx, h⟩
  obtain ⟨j, hj, rfl⟩ := List.getElem_of_mem hx
  rw [h1 j hj] at h
  cases h
theorem sl_at {w : World} {n cap : Nat} {sa : Option Addr} {vs : List Value} (h : Sl w 1 (.slice sa n cap) n vs) (hn : 0 < n) :
    ∃ b off, sa = some ⟨b, off, none⟩ ∧ n ≤ cap ∧ cap ≤ maxLen ∧ Cells w b off vs ∧ b < w.heap.size := by
  obtain ⟨_, ⟨h2, h3⟩ | ⟨b, off, cap', h2, h3, h4, h5, h6⟩⟩ := h
  · omega
  · injection h2 with h2 _ h7
    subst h7
    exact ⟨b, off, h2, h3, h4, h5, h6⟩
end Go.Theory
namespace Go.Proofs.Ytnkglahiagigoaa
open Go.RowKit Go.Own Go.Theory Go.BigFrame
theorem first_any (l : List Int) (s : Int) (sa : Option Addr) (cap : Nat) (hs : rg s) (w : World) (hl : Sl w 1 (.slice sa l.length cap) l.length (l.map (.int .i64))) (hm : l.length ≤ 1000000) :
    Calls Try.prog 28 #[.slice sa l.length cap, .int .i64 s] w fun e w' => e = .returned (.int .i64 (fst l s)) ∧ w' = w := by
  go_enter Try.func28, Try.ntmps28
  go_wp2
  go_loopw [5] (fun c wr => ∃ k : Nat, k ≤ l.length ∧ c = .int .i64 k ∧ (∀ j (h : j < l.length), j < k → sub l[j] s = false) ∧ wr = w) (fun c _ => l.length - (intOf c).toNat)
  case atStart => exact ⟨0, by omega, rfl, fun j _ h => absurd h (by omega), rfl⟩
  case round =>
    obtain ⟨k, hk, rfl, he, rfl⟩ := hrel
    by_cases hkl : k < l.length
    · obtain ⟨b, o, rfl, _, _, hC, hb⟩ := sl_at hl (by omega)
      obtain ⟨x, hx⟩ : ∃ x, x = l[k] := ⟨_, rfl⟩
      have cx : wr.cell? ⟨b, o + k, none⟩ = some (.int .i64 x) := hC k _ (by simp [hkl, hx])
      have HX := Lib.hid hx; clear hx
      go_wp2_with (fail)
      refine (in_any x s hs wr).mono ?_
      rintro e w2 ⟨rfl, rfl⟩
      cases hxy : sub x s with
      | true =>
        have hf := fst_at hkl he (by rw [← HX.out]; exact hxy)
        go_wp2
        go_ret
        rw [hf]
        exact ⟨rfl, rfl⟩
      | false =>
        have ht : ∀ j (h : j < l.length), j < k + 1 → sub l[j] s = false := fun j h hj => by
          by_cases e : j = k
          · subst e; rw [← HX.out]; exact hxy
          · exact he j h (by omega)
        go_wp2
        go_roundw
        case rel => exact ⟨k + 1, by omega, by go_num, ht, trivial⟩
        case measure => simp [intOf]; omega
    · have hf := fst_none (l := l) (s := s) fun j h => he j h (by omega)
      go_wp2
      go_ret
      rw [hf]
      exact ⟨rfl, rfl⟩
end Go.Proofs.Ytnkglahiagigoaa

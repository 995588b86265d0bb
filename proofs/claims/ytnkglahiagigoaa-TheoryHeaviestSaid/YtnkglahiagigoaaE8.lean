/- theory: Same, SameInts of the references. -/
import Derived.Test.YtnkglahiagigoaaE7
namespace Go.Own
theorem take_succ_eq {α : Type} {la lb : List α} {k : Nat} (h1 : k < la.length) (h2 : k < lb.length) (h : la.take k = lb.take k) (he : la[k] = lb[k]) : la.take (k + 1) = lb.take (k + 1) := by
  rw [List.take_succ_eq_append_getElem h1, List.take_succ_eq_append_getElem h2, h, he]
theorem ne_of_get {α : Type} {la lb : List α} {k : Nat} (h1 : k < la.length) (h2 : k < lb.length) (he : la[k] ≠ lb[k]) : la ≠ lb := by
  intro e; subst e; exact he rfl
end Go.Own
namespace Go.Proofs.Ytnkglahiagigoaa
open Go.RowKit Go.Own Go.Theory Go.BigFrame
set_option maxRecDepth 100000 in
theorem same_any (la lb : List Int) (sa sb : Option Addr) (ca cb : Nat) (w : World) (ha : Sl w 1 (.slice sa la.length ca) la.length (la.map (.int .i64))) (hb : Sl w 1 (.slice sb lb.length cb) lb.length (lb.map (.int .i64))) (hm : la.length ≤ 1000000 ∨ lb.length ≤ 1000000) :
    Calls Try.prog 15 #[.slice sa la.length ca, .slice sb lb.length cb] w fun e w' => e = .returned (.bool (la == lb)) ∧ Below w.heap.size w w' := by
  go_enter Try.func15, Try.ntmps15
  by_cases hl : la.length = lb.length
  · have hl' : ((la.length : Int) != (lb.length : Int)) = false := by simp [hl]
    go_wp2
    go_loopw [5] (fun c wr => ∃ k : Nat, k ≤ la.length ∧ c = .int .i64 k ∧ la.take k = lb.take k ∧ Below w.heap.size w wr) (fun c _ => la.length - (vInt c).toNat)
    case atStart => exact ⟨0, by omega, rfl, rfl, Below.refl _ _⟩
    case round =>
      obtain ⟨k, hk, rfl, he, hbr⟩ := hrel
      by_cases hkl : k < la.length
      · have hkl2 : k < lb.length := by omega
        obtain ⟨ba, oa, rfl, _, _, hCa, hal⟩ := sl_at ha (by omega)
        obtain ⟨bb, ob, rfl, _, _, hCb, hbl⟩ := sl_at hb (by omega)
        obtain ⟨x, hx⟩ : ∃ x, x = la[k] := ⟨_, rfl⟩
        obtain ⟨y, hy⟩ : ∃ y, y = lb[k] := ⟨_, rfl⟩
        have cx : wr.cell? ⟨ba, oa + k, none⟩ = some (.int .i64 x) := (hCa.below hbr hal) k _ (by simp [hkl, hx])
        have cy : wr.cell? ⟨bb, ob + k, none⟩ = some (.int .i64 y) := (hCb.below hbr hbl) k _ (by simp [hkl2, hy])
        have HX := Lib.hid hx; clear hx
        have HY := Lib.hid hy; clear hy
        by_cases hxy : x = y
        · subst hxy
          have ht := take_succ_eq hkl hkl2 he (by rw [← HX.out, ← HY.out])
          go_wp2
          go_quiet (fail)
          go_wp2
          go_roundw
          case rel => exact ⟨k + 1, by omega, by go_num, ht, below_drewN hbr _⟩
          case measure => simp [vInt]; omega
        · have hq : (x == y) = false := by simpa using hxy
          have hq2 : (x != y) = true := by simpa using hxy
          have hne : (la == lb) = false := by
            have := ne_of_get hkl hkl2 (by rw [← HX.out, ← HY.out]; exact hxy)
            simpa using this
          clear hxy
          go_wp2
          go_quiet (fail)
          go_wp2
          go_ret
          rw [hne]
          exact ⟨rfl, below_drewN hbr _⟩
      · have e : la = lb := by rwa [List.take_of_length_le (by omega), List.take_of_length_le (by omega)] at he
        have hq : (la == lb) = true := by simpa using e
        clear e he
        go_wp2
        go_ret
        rw [hq]
        exact ⟨rfl, hbr⟩
  · have hl' : ((la.length : Int) != (lb.length : Int)) = true := by simp; omega
    have hne : (la == lb) = false := by
      have : la ≠ lb := fun e => hl (by rw [e])
      simpa using this
    go_wp2
    go_ret
    rw [hne]
    exact ⟨rfl, Below.refl _ _⟩
set_option maxRecDepth 100000 in
theorem sameInts_any (la lb : List Int) (sa sb : Option Addr) (ca cb : Nat) (w : World) (ha : Sl w 1 (.slice sa la.length ca) la.length (la.map (.int .i64))) (hb : Sl w 1 (.slice sb lb.length cb) lb.length (lb.map (.int .i64))) (hm : la.length ≤ 1000000 ∨ lb.length ≤ 1000000) :
    Calls Try.prog 25 #[.slice sa la.length ca, .slice sb lb.length cb] w fun e w' => e = .returned (.bool (la == lb)) ∧ Below w.heap.size w w' := by
  go_enter Try.func25, Try.ntmps25
  by_cases hl : la.length = lb.length
  · have hl' : ((la.length : Int) != (lb.length : Int)) = false := by simp [hl]
    go_wp2
    go_loopw [5] (fun c wr => ∃ k : Nat, k ≤ la.length ∧ c = .int .i64 k ∧ la.take k = lb.take k ∧ Below w.heap.size w wr) (fun c _ => la.length - (vInt c).toNat)
    case atStart => exact ⟨0, by omega, rfl, rfl, Below.refl _ _⟩
    case round =>
      obtain ⟨k, hk, rfl, he, hbr⟩ := hrel
      by_cases hkl : k < la.length
      · have hkl2 : k < lb.length := by omega
        obtain ⟨ba, oa, rfl, _, _, hCa, hal⟩ := sl_at ha (by omega)
        obtain ⟨bb, ob, rfl, _, _, hCb, hbl⟩ := sl_at hb (by omega)
        obtain ⟨x, hx⟩ : ∃ x, x = la[k] := ⟨_, rfl⟩
        obtain ⟨y, hy⟩ : ∃ y, y = lb[k] := ⟨_, rfl⟩
        have cx : wr.cell? ⟨ba, oa + k, none⟩ = some (.int .i64 x) := (hCa.below hbr hal) k _ (by simp [hkl, hx])
        have cy : wr.cell? ⟨bb, ob + k, none⟩ = some (.int .i64 y) := (hCb.below hbr hbl) k _ (by simp [hkl2, hy])
        have HX := Lib.hid hx; clear hx
        have HY := Lib.hid hy; clear hy
        by_cases hxy : x = y
        · subst hxy
          have ht := take_succ_eq hkl hkl2 he (by rw [← HX.out, ← HY.out])
          go_wp2
          go_quiet (fail)
          go_wp2
          go_roundw
          case rel => exact ⟨k + 1, by omega, by go_num, ht, below_drewN hbr _⟩
          case measure => simp [vInt]; omega
        · have hq : (x == y) = false := by simpa using hxy
          have hq2 : (x != y) = true := by simpa using hxy
          have hne : (la == lb) = false := by
            have := ne_of_get hkl hkl2 (by rw [← HX.out, ← HY.out]; exact hxy)
            simpa using this
          clear hxy
          go_wp2
          go_quiet (fail)
          go_wp2
          go_ret
          rw [hne]
          exact ⟨rfl, below_drewN hbr _⟩
      · have e : la = lb := by rwa [List.take_of_length_le (by omega), List.take_of_length_le (by omega)] at he
        have hq : (la == lb) = true := by simpa using e
        clear e he
        go_wp2
        go_ret
        rw [hq]
        exact ⟨rfl, hbr⟩
  · have hl' : ((la.length : Int) != (lb.length : Int)) = true := by simp; omega
    have hne : (la == lb) = false := by
      have : la ≠ lb := fun e => hl (by rw [e])
      simpa using this
    go_wp2
    go_ret
    rw [hne]
    exact ⟨rfl, Below.refl _ _⟩
end Go.Proofs.Ytnkglahiagigoaa

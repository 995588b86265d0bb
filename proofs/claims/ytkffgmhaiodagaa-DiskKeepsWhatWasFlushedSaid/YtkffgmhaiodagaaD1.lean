/- The program's disk in memory; the small functions. -/
import Derived.Test.YtkffgmhaiodagaaD0
import Derived.Test.YtkffgmhaiodagaaRows
import Derived.Test.YtkffgmhaiodagaaU
namespace Go.Proofs.Ytkffgmhaiodagaa
open Go.RowKit Go.Own Go.Disk

/-- The four blocks of a disk. -/
structure Ft where
  p : Nat
  bb : Nat
  pb : Nat
  wb : Nat
  cap : Nat
  sp : List Value
def Ft.all (f : Ft) : List Nat := [f.p, f.bb, f.pb, f.wb]
structure PD (w : World) (f : Ft) (d : DS) : Prop where
  fit : d.s.length ≤ f.cap ∧ f.cap ≤ maxLen
  head : ∃ l : Int, Blk w f.p [.slice (some ⟨f.bb, 0, none⟩) d.s.length f.cap, .map (some f.pb), .map (some f.wb), .bool d.off, .int .i64 l] 71 ∧ max (-1) l = d.left ∧ -9223372036854775808 ≤ l
  blocks : Blk w f.bb (flatS d.s f.sp) 74
  pend : ∃ m, IMap w f.pb m ∧ (∀ k, mget m k = if inR d k then (sec d k).p.map bval else none) 
  worn : ∃ m, IMap w f.wb m ∧ ∀ k, mget m k = if inR d k && (sec d k).w then some (.bool true) else none
  ok : Ok d
  apart : f.p ≠ f.bb ∧ f.p ≠ f.pb ∧ f.p ≠ f.wb ∧ f.bb ≠ f.pb ∧ f.bb ≠ f.wb ∧ f.pb ≠ f.wb
theorem PD.chg {w w' : World} {f : Ft} {d : DS} {F : List Nat} (h : PD w f d) (hc : Chg F w w') (hF : ∀ x ∈ f.all, x ∉ F) : PD w' f d := by
  obtain ⟨hft, ⟨l, h1, h2⟩, h3, ⟨m, h4, h5⟩, ⟨m', h6, h7⟩, h8, h9⟩ := h
  exact ⟨hft, ⟨l, h1.chg hc (hF _ (by simp [Ft.all])), h2⟩, h3.chg hc (hF _ (by simp [Ft.all])), ⟨m, h4.chg hc (hF _ (by simp [Ft.all])), h5⟩, ⟨m', h6.chg hc (hF _ (by simp [Ft.all])), h7⟩, h8, h9⟩
theorem PD.below {w w' : World} {f : Ft} {d : DS} (h : PD w f d) (hc : Below w.heap.size w w') : PD w' f d := h.chg (.of_below (F := []) hc) (by simp)
theorem PD.lt {w : World} {f : Ft} {d : DS} (h : PD w f d) : ∀ x ∈ f.all, x < w.heap.size := by
  obtain ⟨hft, ⟨l, h1, h2⟩, h3, ⟨m, h4, h5⟩, ⟨m', h6, h7⟩, h8, h9⟩ := h
  have := h1.lt; have := h3.lt; have := h4.lt; have := h6.lt
  simp only [Ft.all, List.mem_cons, List.not_mem_nil, or_false]
  rintro x (rfl | rfl | rfl | rfl) <;> assumption

theorem up_any (f : Ft) (d : DS) (w : World) (h : PD w f d) : Calls Try.prog 27 #[.pointer (some ⟨f.p, 0, none⟩)] w fun e w' => e = .returned (.bool (!d.off)) ∧ w' = w := by
  obtain ⟨l, hB, _⟩ := h.head
  have c3 : w.cell? ⟨f.p, 3, none⟩ = some (.bool d.off) := hB.cell rfl
  go_enter Try.func27, Try.ntmps27
  go_wp2
  go_ret
  exact ⟨rfl, rfl⟩
theorem len_any (f : Ft) (d : DS) (w : World) (h : PD w f d) : Calls Try.prog 31 #[.pointer (some ⟨f.p, 0, none⟩)] w fun e w' => e = .returned (.int .i64 d.s.length) ∧ w' = w := by
  obtain ⟨l, hB, _⟩ := h.head
  have c0 : w.cell? ⟨f.p, 0, none⟩ = some (.slice (some ⟨f.bb, 0, none⟩) d.s.length f.cap) := hB.cell rfl
  go_enter Try.func31, Try.ntmps31
  go_wp2
  go_ret
  exact ⟨rfl, rfl⟩
theorem check_any (f : Ft) (d : DS) (i : Int) (w : World) (h : PD w f d) : Calls Try.prog 46 #[.pointer (some ⟨f.p, 0, none⟩), .int .i64 i] w fun e w' => e = .returned (.int .i64 (acheck d i)) ∧ w' = w := by
  obtain ⟨l, hB, _⟩ := h.head
  have c0 : w.cell? ⟨f.p, 0, none⟩ = some (.slice (some ⟨f.bb, 0, none⟩) d.s.length f.cap) := hB.cell rfl
  have c3 : w.cell? ⟨f.p, 3, none⟩ = some (.bool d.off) := hB.cell rfl
  go_enter Try.func46, Try.ntmps46
  cases hoff : d.off with
  | true =>
    rw [hoff] at c3
    go_wp2
    go_ret
    exact ⟨by first | rfl | simp [acheck, hoff], rfl⟩
  | false =>
    rw [hoff] at c3
    by_cases h0 : i < 0
    · have e : acheck d i = 1 := by simp [acheck, hoff, inR, show ¬ 0 ≤ i by omega]
      go_wp2
      go_ret
      exact ⟨by first | rfl | simp [e], rfl⟩
    · by_cases h1 : (d.s.length : Int) ≤ i
      · have e : acheck d i = 1 := by simp [acheck, hoff, inR, show ¬ i < (d.s.length : Int) by omega]
        go_wp2
        go_ret
        exact ⟨by first | rfl | simp [e], rfl⟩
      · have e : acheck d i = 0 := by simp [acheck, hoff, inR, show 0 ≤ i by omega, show i < (d.s.length : Int) by omega]
        go_wp2
        go_ret
        exact ⟨by first | rfl | simp [e], rfl⟩
theorem PD.withHead {w w' : World} {f : Ft} {d d' : DS} (h : PD w f d) (hs : d'.s = d.s) (hd : -1 ≤ d'.left ∧ d'.left ≤ 9223372036854775807) (l : Int)
    (hB : Blk w' f.p [.slice (some ⟨f.bb, 0, none⟩) d.s.length f.cap, .map (some f.pb), .map (some f.wb), .bool d'.off, .int .i64 l] 71) (hl : max (-1) l = d'.left) (hl2 : -9223372036854775808 ≤ l) (hc : Chg [f.p] w w') : PD w' f d' := by
  obtain ⟨hft, _, h3, ⟨m, h4, h5⟩, ⟨m', h6, h7⟩, h8, h9⟩ := h
  obtain ⟨s', o', l'⟩ := d'
  obtain ⟨s, o, l0⟩ := d
  dsimp only at *
  subst hs
  exact ⟨hft, ⟨l, hB, hl, hl2⟩, h3.chg hc (by simp; exact Ne.symm h9.1), ⟨m, h4.chg hc (by simp; exact Ne.symm h9.2.1), h5⟩, ⟨m', h6.chg hc (by simp; exact Ne.symm h9.2.2.1), h7⟩, ⟨h8.t, h8.p, h8.pos, h8.most, hd⟩, h9⟩
theorem step_any (f : Ft) (d : DS) (w : World) (h : PD w f d) : Calls Try.prog 47 #[.pointer (some ⟨f.p, 0, none⟩)] w fun e w' => e = .returned (.int .i64 (astep d).1) ∧ PD w' f (astep d).2 ∧ Chg [f.p] w w' := by
  obtain ⟨l, hB, hl, hl2⟩ := h.head
  have hleft := h.ok.left
  have c4 : w.cell? ⟨f.p, 4, none⟩ = some (.int .i64 l) := hB.cell rfl
  have hfr := hB.frozen
  have c3 : w.cell? ⟨f.p, 3, none⟩ = some (.bool d.off) := hB.cell rfl
  have c4' : w.cell? ⟨f.p, 4, none⟩ = some (.int .i64 l) := hB.cell rfl
  have hst := h.ok.step.left
  go_enter Try.func47, Try.ntmps47
  by_cases h0 : l = 0
  · subst h0
    have e : astep d = (25, { d with off := true }) := by unfold astep; rw [if_pos (by omega)]
    have k := h.withHead (d' := { d with off := true }) (w' := w.setCell ⟨f.p, 3, none⟩ (.bool true)) rfl hleft 0 (hB.set 3 _) hl hl2 ((Chg.refl _ _).set _ (by simp))
    go_wp2
    go_ret
    refine ⟨by first | rfl | simp [e], ?_, (Chg.refl _ _).set _ (by simp)⟩
    first | exact k | (rw [e]; exact k)
  · by_cases h1 : 0 < l
    · have e : astep d = (0, { d with left := d.left - 1 }) := by unfold astep; rw [if_neg (by omega), if_pos (by omega)]
      rw [e] at hst
      have k := h.withHead (d' := { d with left := d.left - 1 }) (w' := w.setCell ⟨f.p, 4, none⟩ (.int .i64 (l - 1))) rfl hst (l - 1) (hB.set 4 _) (show max (-1) (l - 1) = d.left - 1 by omega) (by omega) ((Chg.refl _ _).set _ (by simp))
      have hw : IntKind.i64.wrap (l - 1) = l - 1 := IntWalk.i64_in _ (by omega)
      go_wp2
      go_ret
      refine ⟨by first | rfl | simp [e], ?_, (Chg.refl _ _).set _ (by simp)⟩
      first | exact k | (rw [e]; exact k)
    · have e : astep d = (0, d) := by unfold astep; rw [if_neg (by omega), if_neg (by omega)]
      go_wp2
      go_ret
      refine ⟨by first | rfl | simp [e], ?_, Chg.refl _ _⟩
      first | exact h | (rw [e]; exact h)
theorem trip_any (f : Ft) (d : DS) (n : Int) (hn : -9223372036854775808 ≤ n ∧ n ≤ 9223372036854775807) (w : World) (h : PD w f d) : Calls Try.prog 30 #[.pointer (some ⟨f.p, 0, none⟩), .int .i64 n] w fun e w' => e = .returned (.tuple #[]) ∧ PD w' f (atrip d n) ∧ Chg [f.p] w w' := by
  obtain ⟨l, hB, hl, hl2⟩ := h.head
  have hfr := hB.frozen
  have c3 : w.cell? ⟨f.p, 3, none⟩ = some (.bool d.off) := hB.cell rfl
  have c4' : w.cell? ⟨f.p, 4, none⟩ = some (.int .i64 l) := hB.cell rfl
  have k := h.withHead (d' := atrip d n) (w' := w.setCell ⟨f.p, 4, none⟩ (.int .i64 n)) rfl (by simp only [atrip]; omega) n (hB.set 4 _) rfl hn.1 ((Chg.refl _ _).set _ (by simp))
  go_enter Try.func30, Try.ntmps30
  go_wp2
  refine bodyPost_end (results_none rfl _ _ _) rfl ?_
  exact ⟨rfl, k, (Chg.refl _ _).set _ (by simp)⟩
end Go.Proofs.Ytkffgmhaiodagaa

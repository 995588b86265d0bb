/- theory: both sides of each question answer alike, for any problem. -/
import Derived.Test.YtnkglahiagigoaaF18
namespace Go.Theory
open Go.RowKit Go.Own
theorem nat_row (L : List Nat) : (L.map fun (j : Nat) => (.int .i64 j : Value)) = (L.map fun (j : Nat) => (j : Int)).map (.int .i64) := by rw [List.map_map]; rfl
theorem theories_len {n may : Nat} {l : List Int} (hn : n ≤ 16) : (theories n may l).length ≤ 65536 := by
  unfold theories theoriesTo
  refine Nat.le_trans (List.length_filter_le _ _) ?_
  rw [List.length_range]
  exact pow16 hn
end Go.Theory
namespace Go.Proofs.Ytnkglahiagigoaa
open Go.RowKit Go.Own Go.Theory Go.BigFrame Go.Shelf
/-- A row of sets at a slice of its length. -/
def Row (base : Nat) (t : TypeId) (T : List Int) (v : Value) (w : World) : Prop := (∃ sb cb, v = .slice sb T.length cb) ∧ w.ownsRow base t 1 v T.length (T.map (.int .i64))
theorem Row.of {base : Nat} {t : TypeId} {T : List Int} {v : Value} {w : World} (h : w.ownsRow base t 1 v T.length (T.map (.int .i64))) : Row base t T v w := by
  obtain ⟨sb, cb, e, _⟩ := own_slice h
  exact ⟨⟨sb, cb, e⟩, h⟩
theorem Row.ofNat {base : Nat} {t : TypeId} {L : List Nat} {v : Value} {w : World} (h : w.ownsRow base t 1 v L.length (L.map fun (j : Nat) => .int .i64 j)) : Row base t (L.map fun (j : Nat) => (j : Int)) v w := by
  rw [nat_row] at h
  refine Row.of ?_
  rw [List.length_map]
  exact h
theorem Row.nil (base : Nat) (t : TypeId) (w : World) : Row base t [] (.slice none 0 0) w := ⟨⟨none, 0, rfl⟩, World.ownsRow_nil _ _ _ _⟩
/-- A problem at hand. -/
structure Prob (w : World) (n m : Int) (l : List Int) (sa : Option Addr) (cap : Nat) : Prop where
  hn : rg n
  hm : rg m
  hr : ∀ z ∈ l, rg z
  hl : l.length ≤ 1025
  hv : valid n m l → l.length ≤ 11
  sl : Sl w 1 (.slice sa l.length cap) l.length (l.map (.int .i64))
theorem Prob.below {w w' : World} {n m : Int} {l : List Int} {sa : Option Addr} {cap : Nat} (h : Prob w n m l sa cap) (hb : Below w.heap.size w w') : Prob w' n m l sa cap := ⟨h.hn, h.hm, h.hr, h.hl, h.hv, h.sl.below hb⟩
theorem all_two (n m : Int) (l : List Int) (sa : Option Addr) (cap : Nat) : ∃ (T : List Int) (c : Int), (T.length ≤ 65536 ∧ ∀ z ∈ T, rg z) ∧
    (∀ w, Prob w n m l sa cap → Calls Try.prog 13 #[.int .i64 n, .int .i64 m, .slice sa l.length cap] w fun e w' => ∃ v, e = .returned (.tuple #[v, .int .i64 c]) ∧ Row w.heap.size 23 T v w' ∧ Below w.heap.size w w') ∧
    (∀ w, Prob w n m l sa cap → Calls Try.prog 14 #[.int .i64 n, .int .i64 m, .slice sa l.length cap] w fun e w' => ∃ v, e = .returned (.tuple #[v, .int .i64 c]) ∧ Row w.heap.size 23 T v w' ∧ Below w.heap.size w w') := by
  by_cases hv : valid n m l
  · obtain ⟨a, rfl⟩ : ∃ k : Nat, n = k := ⟨n.toNat, by have := hv.1; omega⟩
    obtain ⟨b, rfl⟩ : ∃ k : Nat, m = k := ⟨m.toNat, by have := hv.2.2.2.1; omega⟩
    refine ⟨(theories a b l).map fun (j : Nat) => (j : Int), 0, ⟨by rw [List.length_map]; exact theories_len (valid_nat hv).1, ?_⟩, ?_, ?_⟩
    · intro z hz
      obtain ⟨j, hj, rfl⟩ := List.mem_map.1 hz
      have h1 := theories_lt hj
      have h2 := pow16 (valid_nat hv).1
      unfold rg; omega
    · intro w h
      refine (pall_any a b l sa cap hv w h.sl h.hr).mono ?_
      rintro e w' ⟨v, rfl, h1, h2⟩
      exact ⟨v, rfl, Row.ofNat h1, h2⟩
    · intro w h
      refine (rall_any a b l sa cap hv w h.sl h.hr).mono ?_
      rintro e w' ⟨v, rfl, h1, h2⟩
      exact ⟨v, rfl, Row.ofNat h1, h2⟩
  · refine ⟨[], 1, ⟨by decide, fun z h => absurd h (by simp)⟩, ?_, ?_⟩
    · intro w h
      refine (pall_bad n m l sa cap h.hn h.hm hv w h.sl (by have := h.hl; omega) h.hr).mono ?_
      rintro e w' ⟨rfl, h2⟩
      exact ⟨_, rfl, Row.nil _ _ _, h2⟩
    · intro w h
      refine (rall_bad n m l sa cap h.hn h.hm hv w h.sl (by have := h.hl; omega) h.hr).mono ?_
      rintro e w' ⟨rfl, rfl⟩
      exact ⟨_, rfl, Row.nil _ _ _, Below.refl _ _⟩
theorem base_two (l : List Int) (sa : Option Addr) (cap : Nat) (hr : ∀ z ∈ l, rg z) (w : World) (hl : Sl w 1 (.slice sa l.length cap) l.length (l.map (.int .i64))) (hm : l.length ≤ maxLen) :
    Calls Try.prog 11 #[.slice sa l.length cap] w fun e w' => ∃ (n may : Nat) (c : List Int) (v : Value), e = .returned (.tuple #[.int .i64 n, .int .i64 may, v]) ∧ valid n may c ∧ n ≤ 8 ∧ c.length ≤ 10 ∧ Row w.heap.size 23 c v w' ∧ (∀ u, Sl u 1 v c.length (c.map (.int .i64)) → ∃ sb cb, v = .slice sb c.length cb ∧ Prob u n may c sb cb) ∧ Below w.heap.size w w' := by
  refine (base_any l sa cap hr w hl hm).mono ?_
  rintro e w' ⟨n, may, c, v, rfl, hv, hn, hc, how, hb⟩
  refine ⟨n, may, c, v, rfl, hv, hn, hc, Row.of how, ?_, hb⟩
  intro u hu
  obtain ⟨sb, cb, rfl, _⟩ := own_slice how
  obtain ⟨hn16, hmayM, _, hv2⟩ := valid_nat hv
  have hp := pow16 hn16
  exact ⟨sb, cb, rfl, by unfold rg; omega, by unfold rg; omega, fun z hz => by have := hv2 z hz; unfold rg; omega, by omega, fun _ => by omega, hu⟩
theorem bent_two (n may : Nat) (l : List Int) (how byv : Int) (sa : Option Addr) (cap : Nat) (hv : valid n may l) (hn8 : n ≤ 8) (hl10 : l.length ≤ 10) (hho : rg how) (hby : rg byv) (w : World) (hl : Sl w 1 (.slice sa l.length cap) l.length (l.map (.int .i64))) :
    Calls Try.prog 12 #[.int .i64 n, .int .i64 may, .slice sa l.length cap, .int .i64 how, .int .i64 byv] w fun e w' => ∃ (m o : Int) (d : List Int) (sb : Option Addr) (cb : Nat), e = .returned (.tuple #[.int .i64 m, .int .i64 o, .slice sb d.length cb]) ∧ (-1 ≤ m ∧ m ≤ 17) ∧ Prob w' m o d sb cb ∧ Below w.heap.size w w' := by
  refine (bent_any n may l how byv sa cap hv hn8 hl10 hho hby w hl).mono ?_
  rintro e w' ⟨m, o, d, v, rfl, h1, h2, h3, h4, h5, how, hb⟩
  obtain ⟨sb, cb, rfl, _⟩ := own_slice how
  exact ⟨m, o, d, sb, cb, rfl, h1, ⟨by unfold rg; omega, h2, h3, h4, h5, Sl.of_owns how⟩, hb⟩
theorem some_two (l : List Int) (n : Int) (sa : Option Addr) (cap : Nat) (hn : n ≤ 17) (hr : ∀ z ∈ l, rg z) (w : World) (hl : Sl w 1 (.slice sa l.length cap) l.length (l.map (.int .i64))) (hm : l.length ≤ maxLen) :
    Calls Try.prog 19 #[.slice sa l.length cap, .int .i64 n] w fun e w' => ∃ (wl : List Int) (v : Value), e = .returned v ∧ wl.length ≤ 17 ∧ (0 ≤ n → wts n wl) ∧ Row w.heap.size 3 wl v w' ∧ Below w.heap.size w w' := by
  by_cases h0 : 0 ≤ n
  · obtain ⟨k, rfl⟩ : ∃ k : Nat, n = k := ⟨n.toNat, by omega⟩
    refine (some_any l k sa cap (by omega) hr w hl hm).mono ?_
    rintro e w' ⟨wl, v, rfl, hw, how, hb⟩
    exact ⟨wl, v, rfl, by have := hw.1; omega, fun _ => hw, Row.of how, hb⟩
  · refine (some_neg n sa l.length cap (by omega) w).mono ?_
    rintro e w' ⟨rfl, rfl⟩
    exact ⟨[], _, rfl, by decide, fun h => absurd h h0, Row.nil _ _ _, Below.refl _ _⟩
end Go.Proofs.Ytnkglahiagigoaa

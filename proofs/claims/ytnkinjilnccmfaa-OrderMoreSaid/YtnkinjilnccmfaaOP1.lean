/- order: the least trees of sets, in plain Lean. -/
import Derived.Test.YtnkinjilnccmfaaPp
namespace Go.Order
open Go.Theory
/-- p is a part of w -/
def Sb (p w : Nat) : Prop := ∀ k, p.testBit k = true → w.testBit k = true
theorem Sb.half {p w : Nat} (h : Sb p w) : Sb (p / 2) (w / 2) := fun k hk => by
  rw [Nat.testBit_div_two] at hk ⊢
  exact h (k + 1) hk
theorem Sb.mod {p w : Nat} (h : Sb p w) : p % 2 ≤ w % 2 := by
  have h0 := h 0
  rw [Nat.testBit_zero, Nat.testBit_zero] at h0
  rcases Nat.mod_two_eq_zero_or_one p with e | e
  · omega
  · have := h0 (by rw [e]; rfl)
    have := of_decide_eq_true this
    omega
theorem Sb.le {p w : Nat} (h : Sb p w) : p ≤ w := by
  induction w using Nat.strongRecOn generalizing p with
  | _ w ih =>
    rcases Nat.eq_zero_or_pos w with rfl | hw
    · apply Nat.le_of_not_lt
      intro hp
      obtain ⟨k, hk⟩ := Nat.exists_testBit_of_ne_zero (x := p) (by omega)
      have := h k hk
      rw [Nat.zero_testBit] at this; cases this
    · have h1 := ih (w / 2) (by omega) h.half
      have h2 := h.mod
      omega
theorem Sb.bit {p w : Nat} (h : Sb p w) : ∀ k, (w - p).testBit k = (w.testBit k && !p.testBit k) := by
  intro k
  induction k generalizing p w with
  | zero =>
    have h1 := h.mod
    have h2 := h.half.le
    rw [Nat.testBit_zero, Nat.testBit_zero, Nat.testBit_zero]
    rcases Nat.mod_two_eq_zero_or_one p with e | e <;> rcases Nat.mod_two_eq_zero_or_one w with e' | e'
    · rw [e, e', show (w - p) % 2 = 0 by omega]; rfl
    · rw [e, e', show (w - p) % 2 = 1 by omega]; rfl
    · omega
    · rw [e, e', show (w - p) % 2 = 0 by omega]; rfl
  | succ k ih =>
    have h1 := h.mod
    have h2 := h.half.le
    have e := ih h.half
    rw [← Nat.testBit_div_two, ← Nat.testBit_div_two, ← Nat.testBit_div_two, show (w - p) / 2 = w / 2 - p / 2 by omega]
    exact e
theorem Sb.rest {p w : Nat} (h : Sb p w) : Sb (w - p) w := fun k hk => by
  rw [h.bit, Bool.and_eq_true] at hk; exact hk.1
theorem Sb.pop {p w : Nat} (h : Sb p w) : pop p + pop (w - p) = pop w := by
  have : ∀ k, popTo p k + popTo (w - p) k = popTo w k := fun k => by
    induction k with
    | zero => rfl
    | succ k ih =>
      simp only [popTo]
      rw [h.bit]
      cases hp : p.testBit k with
      | true => rw [h k hp]; simp; omega
      | false => cases w.testBit k <;> simp <;> omega
  exact this 16
theorem pop_pos {s : Nat} (h1 : 1 ≤ s) (h2 : s < 65536) : 1 ≤ pop s := by
  obtain ⟨k, hk⟩ := Nat.exists_testBit_of_ne_zero (x := s) (by omega)
  have hk16 : k < 16 := by
    apply Nat.lt_of_not_le
    intro h
    rw [Nat.testBit_lt_two_pow (Nat.lt_of_lt_of_le h2 (Nat.pow_le_pow_right (n := 2) (by omega) h))] at hk
    cases hk
  have := popTo_lt (x := 0) (y := s) (fun j hj => by rw [Nat.zero_testBit] at hj; cases hj) 16 ⟨k, hk16, hk, Nat.zero_testBit k⟩
  unfold Go.Theory.pop
  omega
/-- a valid split: a whole and a part -/
structure Ok (x : Nat × Nat) : Prop where
  p1 : 1 ≤ x.2
  pw : x.2 < x.1
  w6 : x.1 < 65536
  sb : Sb x.2 x.1
def rst (x : Nat × Nat) : Nat := x.1 - x.2
def cst (x : Nat × Nat) : Nat := min (pop x.2) (pop (rst x))
theorem Ok.r1 {x : Nat × Nat} (h : Ok x) : 1 ≤ rst x := by unfold rst; have := h.pw; omega
theorem Ok.rw {x : Nat × Nat} (h : Ok x) : rst x < x.1 := by unfold rst; have := h.pw; have := h.p1; omega
theorem Ok.two {x : Nat × Nat} (h : Ok x) : pop x.2 + pop (rst x) = pop x.1 ∧ 1 ≤ pop x.2 ∧ 1 ≤ pop (rst x) :=
  ⟨h.sb.pop, pop_pos h.p1 (by have := h.pw; have := h.w6; omega), pop_pos h.r1 (by have := h.rw; have := h.w6; omega)⟩
theorem Ok.cost {x : Nat × Nat} (h : Ok x) : 1 ≤ cst x ∧ cst x ≤ 8 := by
  have h1 := h.two
  have := pop_le16 x.1
  unfold cst
  omega
/-- how a set is built: the split (-1: it is single), and the sum (-1: it cannot be built) -/
abbrev Best := Int × Int
def add1 (r : Nat → Best) (may : List (Nat × Nat)) (s : Nat) (b : Best) (i : Nat) : Best :=
  if (may.getD i (0, 0)).1 = s then
    if 0 ≤ (r (may.getD i (0, 0)).2).2 ∧ 0 ≤ (r (rst (may.getD i (0, 0)))).2 ∧ (b.2 < 0 ∨ (r (may.getD i (0, 0)).2).2 + (r (rst (may.getD i (0, 0)))).2 + cst (may.getD i (0, 0)) < b.2)
    then ((i : Int), (r (may.getD i (0, 0)).2).2 + (r (rst (may.getD i (0, 0)))).2 + cst (may.getD i (0, 0))) else b
  else b
def b0 (s : Nat) : Best := if pop s = 1 then (-1, 0) else (-1, -1)
def addN (r : Nat → Best) (may : List (Nat × Nat)) (s n : Nat) : Best := (List.range n).foldl (add1 r may s) (b0 s)
def bstF (may : List (Nat × Nat)) (firm : Nat → Bool) : Nat → Nat → Best
  | 0, _ => (-1, -1)
  | n + 1, s => if firm s then addN (bstF may firm n) may s may.length else (-1, -1)
def bst (may : List (Nat × Nat)) (firm : Nat → Bool) (s : Nat) : Best := bstF may firm 65536 s
theorem addN_succ (r : Nat → Best) (may : List (Nat × Nat)) (s n : Nat) : addN r may s (n + 1) = add1 r may s (addN r may s n) n := by
  unfold addN; rw [List.range_succ, List.foldl_append]; rfl
section
variable {may : List (Nat × Nat)} {firm : Nat → Bool} (ok : ∀ x ∈ may, Ok x)
include ok
theorem getD_ok {i : Nat} (h : i < may.length) : Ok (may.getD i (0, 0)) := by
  rw [List.getD_eq_getElem?_getD, List.getElem?_eq_getElem h]; exact ok _ (List.getElem_mem h)
theorem addN_congr {r r' : Nat → Best} {s : Nat} (h : ∀ t, t < s → r t = r' t) : ∀ n, n ≤ may.length → addN r may s n = addN r' may s n
  | 0, _ => rfl
  | n + 1, hn => by
    rw [addN_succ, addN_succ, addN_congr h n (by omega)]
    unfold add1
    by_cases e : (may.getD n (0, 0)).1 = s
    · have o := getD_ok ok (show n < may.length by omega)
      have h1 := o.pw
      have h2 := o.rw
      rw [if_pos e, if_pos e, h _ (by omega), h (rst _) (by omega)]
    · rw [if_neg e, if_neg e]
theorem bstF_same : ∀ (s n m : Nat), s < n → s < m → bstF may firm n s = bstF may firm m s := by
  intro s
  induction s using Nat.strongRecOn with
  | _ s ih =>
    intro n m hn hm
    cases n with
    | zero => omega
    | succ n =>
      cases m with
      | zero => omega
      | succ m =>
        unfold bstF
        split
        · exact addN_congr ok (fun t ht => ih t ht n m (by omega) (by omega)) _ (Nat.le_refl _)
        · rfl
theorem bst_eq {s : Nat} (hs : s < 65536) : bst may firm s = if firm s then addN (bst may firm) may s may.length else (-1, -1) := by
  unfold bst
  conv => lhs; unfold bstF
  split
  · exact addN_congr ok (fun t ht => bstF_same ok t 65535 65536 (by omega) (by omega)) _ (Nat.le_refl _)
  · rfl
/-- what is known after n splits -/
structure AN (may : List (Nat × Nat)) (r : Nat → Best) (s n : Nat) (b : Best) : Prop where
  neg : b.2 < 0 → b = (-1, -1)
  single : b.1 < 0 → b = b0 s
  at' : 0 ≤ b.1 → ∃ i : Nat, b.1 = i ∧ i < n ∧ (may.getD i (0, 0)).1 = s ∧ 0 ≤ (r (may.getD i (0, 0)).2).2 ∧ 0 ≤ (r (rst (may.getD i (0, 0)))).2 ∧ b.2 = (r (may.getD i (0, 0)).2).2 + (r (rst (may.getD i (0, 0)))).2 + cst (may.getD i (0, 0))
  least : ∀ i, i < n → (may.getD i (0, 0)).1 = s → 0 ≤ (r (may.getD i (0, 0)).2).2 → 0 ≤ (r (rst (may.getD i (0, 0)))).2 → 0 ≤ b.2 ∧ b.2 ≤ (r (may.getD i (0, 0)).2).2 + (r (rst (may.getD i (0, 0)))).2 + cst (may.getD i (0, 0)) ∧ ((i : Int) < b.1 → b.2 < (r (may.getD i (0, 0)).2).2 + (r (rst (may.getD i (0, 0)))).2 + cst (may.getD i (0, 0)))
theorem pop_one {s : Nat} {i : Nat} (hi : i < may.length) (h : (may.getD i (0, 0)).1 = s) : pop s ≠ 1 := by
  have o := (getD_ok ok hi).two
  rw [h] at o
  omega
theorem addN_spec (r : Nat → Best) (s : Nat) : ∀ n, n ≤ may.length → AN may r s n (addN r may s n)
  | 0, _ => by
    have _ := ok
    have e : addN r may s 0 = b0 s := rfl
    rw [e]
    have h1 : (b0 s).1 = -1 := by unfold b0; split <;> rfl
    refine ⟨fun h => ?_, fun _ => rfl, fun h => by omega, fun i hi => by omega⟩
    unfold b0 at h ⊢
    split
    · rename_i h2; rw [if_pos h2] at h; exact absurd h (by simp)
    · rfl
  | n + 1, hn => by
    have ih := addN_spec r s n (by omega)
    rw [addN_succ]
    generalize addN r may s n = b at *
    obtain ⟨i1, i2, i3, i4⟩ := ih
    have keep : ∀ b' : Best, b' = b → ((may.getD n (0, 0)).1 = s → 0 ≤ (r (may.getD n (0, 0)).2).2 → 0 ≤ (r (rst (may.getD n (0, 0)))).2 → 0 ≤ b.2 ∧ b.2 ≤ (r (may.getD n (0, 0)).2).2 + (r (rst (may.getD n (0, 0)))).2 + cst (may.getD n (0, 0)) ∧ ((n : Int) < b.1 → b.2 < (r (may.getD n (0, 0)).2).2 + (r (rst (may.getD n (0, 0)))).2 + cst (may.getD n (0, 0)))) → AN may r s (n + 1) b' := fun b' e hnew => by
      subst e
      refine ⟨i1, i2, fun h => ?_, fun i hi h1 h2 h3 => ?_⟩
      · obtain ⟨i, a1, a2, a3⟩ := i3 h
        exact ⟨i, a1, by omega, a3⟩
      · by_cases e : i = n
        · subst e; exact hnew h1 h2 h3
        · exact i4 i (by omega) h1 h2 h3
    by_cases e : (may.getD n (0, 0)).1 = s
    · by_cases hc : 0 ≤ (r (may.getD n (0, 0)).2).2 ∧ 0 ≤ (r (rst (may.getD n (0, 0)))).2 ∧ (b.2 < 0 ∨ (r (may.getD n (0, 0)).2).2 + (r (rst (may.getD n (0, 0)))).2 + cst (may.getD n (0, 0)) < b.2)
      · have e2 : add1 r may s b n = ((n : Int), (r (may.getD n (0, 0)).2).2 + (r (rst (may.getD n (0, 0)))).2 + cst (may.getD n (0, 0))) := by unfold add1; rw [if_pos e, if_pos hc]
        rw [e2]
        obtain ⟨c1, c2, c3⟩ := hc
        refine ⟨fun h => ?_, fun h => ?_, fun _ => ⟨n, rfl, by omega, e, c1, c2, rfl⟩, fun i hi h1 h2 h3 => ?_⟩
        · dsimp only at h; omega
        · dsimp only at h; omega
        · dsimp only
          by_cases e3 : i = n
          · subst e3; exact ⟨by omega, Int.le_refl _, fun h => by omega⟩
          · obtain ⟨a1, a2, a3⟩ := i4 i (by omega) h1 h2 h3
            exact ⟨by omega, by omega, fun _ => by omega⟩
      · have e2 : add1 r may s b n = b := by unfold add1; rw [if_pos e, if_neg hc]
        rw [e2]
        refine keep b rfl fun _ h2 h3 => ?_
        have h4 : ¬ (b.2 < 0 ∨ (r (may.getD n (0, 0)).2).2 + (r (rst (may.getD n (0, 0)))).2 + cst (may.getD n (0, 0)) < b.2) := fun h => hc ⟨h2, h3, h⟩
        refine ⟨by omega, by omega, fun h => ?_⟩
        obtain ⟨i, a1, a2, _⟩ := i3 (by omega)
        omega
    · have e2 : add1 r may s b n = b := by unfold add1; rw [if_neg e]
      rw [e2]
      exact keep b rfl fun h => absurd h e
/-- the laws of the best tree of a set -/
structure BL (may : List (Nat × Nat)) (firm : Nat → Bool) (s : Nat) : Prop where
  neg : (bst may firm s).2 < 0 → bst may firm s = (-1, -1)
  firm' : 0 ≤ (bst may firm s).2 → firm s = true
  single : pop s = 1 → firm s = true → bst may firm s = (-1, 0)
  at' : 0 ≤ (bst may firm s).1 → ∃ i : Nat, (bst may firm s).1 = i ∧ i < may.length ∧ (may.getD i (0, 0)).1 = s ∧ 0 ≤ (bst may firm (may.getD i (0, 0)).2).2 ∧ 0 ≤ (bst may firm (rst (may.getD i (0, 0)))).2 ∧ (bst may firm s).2 = (bst may firm (may.getD i (0, 0)).2).2 + (bst may firm (rst (may.getD i (0, 0)))).2 + cst (may.getD i (0, 0))
  split : 0 ≤ (bst may firm s).2 → pop s ≠ 1 → 0 ≤ (bst may firm s).1
  least : firm s = true → ∀ i, i < may.length → (may.getD i (0, 0)).1 = s → 0 ≤ (bst may firm (may.getD i (0, 0)).2).2 → 0 ≤ (bst may firm (rst (may.getD i (0, 0)))).2 → 0 ≤ (bst may firm s).2 ∧ (bst may firm s).2 ≤ (bst may firm (may.getD i (0, 0)).2).2 + (bst may firm (rst (may.getD i (0, 0)))).2 + cst (may.getD i (0, 0)) ∧ ((i : Int) < (bst may firm s).1 → (bst may firm s).2 < (bst may firm (may.getD i (0, 0)).2).2 + (bst may firm (rst (may.getD i (0, 0)))).2 + cst (may.getD i (0, 0)))
theorem bst_law {s : Nat} (hs : s < 65536) : BL may firm s := by
  have e := bst_eq (firm := firm) ok hs
  by_cases hf : firm s = true
  · rw [if_pos hf] at e
    have a := addN_spec ok (bst may firm) s may.length (Nat.le_refl _)
    rw [← e] at a
    obtain ⟨a1, a2, a3, a4⟩ := a
    refine ⟨a1, fun _ => hf, fun h _ => ?_, a3, fun h hp => ?_, fun _ => a4⟩
    · have : ¬ 0 ≤ (bst may firm s).1 := fun h0 => by
        obtain ⟨i, _, h2, h3, _⟩ := a3 h0
        exact pop_one ok h2 h3 h
      rw [a2 (by omega)]
      unfold b0; rw [if_pos h]
    · apply Int.not_lt.1
      intro h1
      have := a2 h1
      rw [this] at h
      unfold b0 at h
      rw [if_neg hp] at h
      exact absurd h (by simp)
  · rw [if_neg hf] at e
    rw [Bool.not_eq_true] at hf
    refine ⟨fun _ => e, fun h => ?_, fun _ h => ?_, fun h => ?_, fun h => ?_, fun h => ?_⟩
    · rw [e] at h; exact absurd h (by simp)
    · rw [hf] at h; cases h
    · rw [e] at h; exact absurd h (by simp)
    · rw [e] at h; exact absurd h (by simp)
    · rw [hf] at h; cases h
/-- sums are small -/
theorem bst_le : ∀ s, s < 65536 → ((bst may firm s).2 < 0 ∨ (bst may firm s).2 + 16 ≤ 16 * s) ∧ -1 ≤ (bst may firm s).2 ∧ -1 ≤ (bst may firm s).1 ∧ (bst may firm s).1 < may.length + 1 := by
  intro s
  induction s using Nat.strongRecOn with
  | _ s ih =>
    intro hs
    have L := bst_law (firm := firm) ok hs
    by_cases h1 : 0 ≤ (bst may firm s).1
    · obtain ⟨i, h2, h3, h4, h5, h6, h7⟩ := L.at' h1
      have o := getD_ok ok h3
      have o1 := o.pw
      have o2 := o.rw
      have o3 := o.cost
      have o4 := ih (may.getD i (0, 0)).2 (by omega) (by omega)
      have o5 := ih (rst (may.getD i (0, 0))) (by omega) (by omega)
      have o6 : rst (may.getD i (0, 0)) + (may.getD i (0, 0)).2 = s := by unfold rst; omega
      refine ⟨?_, by omega, by omega, by omega⟩
      rcases o4.1 with h | h
      · omega
      · rcases o5.1 with h' | h'
        · omega
        · right; omega
    · by_cases h2 : 0 ≤ (bst may firm s).2
      · have hp : pop s = 1 := Classical.byContradiction fun h => h1 (L.split h2 h)
        have e := L.single hp (L.firm' h2)
        have hs1 : 1 ≤ s := by
          rcases Nat.eq_zero_or_pos s with rfl | h
          · have : pop 0 = 0 := by decide
            omega
          · exact h
        rw [e]
        refine ⟨.inr ?_, ?_, ?_, ?_⟩ <;> dsimp only <;> omega
      · have e := L.neg (by omega)
        rw [e]
        refine ⟨.inl ?_, ?_, ?_, ?_⟩ <;> dsimp only <;> omega
end
end Go.Order

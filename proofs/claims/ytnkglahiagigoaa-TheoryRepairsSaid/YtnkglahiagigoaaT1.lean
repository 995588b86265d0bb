/- theory, in plain words: the sorted sweep takes what the repeated choice takes. -/
import Derived.Test.YtnkglahiagigoaaF13
namespace Go.Theory
open Go.RowKit Go.Own Go.Ib
/-- conflict i as a number -/
def cnf (l : List Int) (i : Nat) : Nat := (l.getD i 0).toNat
/-- conflicts within may -/
def ordN (may : Nat) (l : List Int) : List Nat := (List.range l.length).filter fun i => sub (l.getD i 0) may
/-- heavier first, then in order -/
def lexN (wl l : List Int) (x y : Nat) : Prop := wt wl l y < wt wl l x ∨ (wt wl l y = wt wl l x ∧ x < y)
theorem lexN.asymm {wl l : List Int} {x y : Nat} (h : lexN wl l x y) (k : lexN wl l y x) : False := by unfold lexN at *; omega
theorem lexN.trans {wl l : List Int} {x y z : Nat} (h : lexN wl l x y) (k : lexN wl l y z) : lexN wl l x z := by unfold lexN at *; omega
/-- what the sweep takes -/
def gre (l : List Int) : List Nat → Nat → List Nat
  | [], _ => []
  | i :: r, u => if cnf l i &&& u = 0 then i :: gre l r (u ||| cnf l i) else gre l r u
/-- may be taken -/
def cand (may : Nat) (l : List Int) (u i : Nat) : Bool := sub (l.getD i 0) may && decide (cnf l i &&& u = 0)
def stepB (wl l : List Int) (may u : Nat) (b : Option Nat) (i : Nat) : Option Nat :=
  if cand may l u i && (match b with | none => true | some j => decide (wt wl l j < wt wl l i)) then some i else b
def pickTo (wl l : List Int) (may u k : Nat) : Option Nat := (List.range k).foldl (stepB wl l may u) none
theorem pickTo_succ (wl l : List Int) (may u k : Nat) : pickTo wl l may u (k + 1) = stepB wl l may u (pickTo wl l may u k) k := by
  unfold pickTo; rw [List.range_succ, List.foldl_append]; rfl
/-- what the rounds take -/
def rrs (wl l : List Int) (may : Nat) : Nat → Nat → List Nat
  | 0, _ => []
  | f + 1, u => match pickTo wl l may u l.length with
    | none => []
    | some b => b :: rrs wl l may f (u ||| cnf l b)
theorem pickTo_spec (wl l : List Int) (may u : Nat) : ∀ k, match pickTo wl l may u k with
    | none => ∀ i, i < k → cand may l u i = false
    | some j => j < k ∧ cand may l u j = true ∧ ∀ i, i < k → cand may l u i = true → i = j ∨ lexN wl l j i
  | 0 => fun i h => absurd h (by omega)
  | k + 1 => by
    have ih := pickTo_spec wl l may u k
    rw [pickTo_succ]
    cases hp : pickTo wl l may u k with
    | none =>
      rw [hp] at ih
      simp only at ih
      unfold stepB
      cases hc : cand may l u k with
      | true =>
        simp only [Bool.and_true, if_true]
        exact ⟨by omega, hc, fun i hi h => by
          by_cases e : i = k
          · exact .inl e
          · rw [ih i (by omega)] at h; cases h⟩
      | false =>
        simp only [Bool.false_and, Bool.false_eq_true, if_false]
        intro i hi
        by_cases e : i = k
        · rw [e]; exact hc
        · exact ih i (by omega)
    | some j =>
      rw [hp] at ih
      simp only at ih
      obtain ⟨h1, h2, h3⟩ := ih
      unfold stepB
      by_cases hc : (cand may l u k && decide (wt wl l j < wt wl l k)) = true
      · simp only [hc, if_true]
        rw [Bool.and_eq_true, decide_eq_true_iff] at hc
        refine ⟨by omega, hc.1, fun i hi h => ?_⟩
        by_cases e : i = k
        · exact .inl e
        · right
          rcases h3 i (by omega) h with rfl | h4
          · exact .inl hc.2
          · unfold lexN at h4 ⊢; omega
      · rw [if_neg (by simpa using hc)]
        refine ⟨by omega, h2, fun i hi h => ?_⟩
        by_cases e : i = k
        · subst e
          right
          have : ¬ wt wl l j < wt wl l i := fun h5 => hc (by rw [h, Bool.true_and]; exact decide_eq_true h5)
          unfold lexN; omega
        · exact h3 i (by omega) h
theorem pick_find {wl l : List Int} {may : Nat} {zs : List Nat} (hp : zs.Perm (ordN may l)) (hs : zs.Pairwise (lexN wl l)) (u : Nat) : pickTo wl l may u l.length = zs.find? fun i => decide (cnf l i &&& u = 0) := by
  have hm : ∀ i, i ∈ zs ↔ i < l.length ∧ sub (l.getD i 0) may = true := fun i => by
    rw [hp.mem_iff]; unfold ordN; rw [List.mem_filter, List.mem_range]
  have hsp := pickTo_spec wl l may u l.length
  cases hq : pickTo wl l may u l.length with
  | none =>
    rw [hq] at hsp
    simp only at hsp
    symm
    rw [List.find?_eq_none]
    intro i hi h
    obtain ⟨h1, h2⟩ := (hm i).1 hi
    have := hsp i h1
    unfold cand at this
    rw [h2, Bool.true_and] at this
    rw [this] at h; cases h
  | some j =>
    rw [hq] at hsp
    simp only at hsp
    obtain ⟨h1, h2, h3⟩ := hsp
    unfold cand at h2
    rw [Bool.and_eq_true] at h2
    have hj : j ∈ zs := (hm j).2 ⟨h1, h2.1⟩
    cases hf : zs.find? (fun i => decide (cnf l i &&& u = 0)) with
    | none => exact absurd h2.2 (List.find?_eq_none.1 hf j hj)
    | some k =>
      have hk := List.find?_some hf
      obtain ⟨l1, l2, hz, hno⟩ := (List.find?_eq_some_iff_append.1 hf).2
      have hkz : k ∈ zs := by rw [hz]; simp
      obtain ⟨g1, g2⟩ := (hm k).1 hkz
      rcases h3 k g1 (by unfold cand; rw [g2, Bool.true_and]; exact hk) with rfl | hlt
      · rfl
      · exfalso
        rw [hz] at hj hs
        rcases List.mem_append.1 hj with ha | hb
        · have := hno j ha
          rw [h2.2] at this; cases this
        · rcases List.mem_cons.1 hb with rfl | hb
          · exact hlt.asymm hlt
          · rw [List.pairwise_append] at hs
            exact hlt.asymm ((List.pairwise_cons.1 hs.2.1).1 j hb)
theorem and_or_ne {a b c : Nat} (h : a &&& b ≠ 0) : a &&& (b ||| c) ≠ 0 := by
  rw [Nat.and_or_distrib_left]
  intro e
  have : a &&& b ≤ (a &&& b) ||| (a &&& c) := Nat.left_le_or
  omega
theorem and_or_self {a b : Nat} (h : a ≠ 0) : a &&& (b ||| a) ≠ 0 := by
  rw [Nat.and_or_distrib_left, Nat.and_self]
  intro e
  have : a ≤ (a &&& b) ||| a := Nat.right_le_or
  omega
theorem gre_rrs {wl l : List Int} {may : Nat} {zs : List Nat} (hp : zs.Perm (ordN may l)) (hs : zs.Pairwise (lexN wl l)) (hc : ∀ i, i < l.length → cnf l i ≠ 0) :
    ∀ (rest pre : List Nat) (u f : Nat), zs = pre ++ rest → (∀ i ∈ pre, cnf l i &&& u ≠ 0) → rest.length ≤ f → rrs wl l may f u = gre l rest u
  | [], pre, u, f, hz, hpre, _ => by
    have hf := pick_find hp hs u
    rw [List.append_nil] at hz
    rw [List.find?_eq_none.2 (fun i hi => by have := hpre i (hz ▸ hi); simpa using this)] at hf
    cases f with
    | zero => rfl
    | succ f => unfold rrs; rw [hf]; rfl
  | i :: r, pre, u, f, hz, hpre, hlen => by
    have hi : i < l.length := by
      have : i ∈ ordN may l := hp.subset (by rw [hz]; simp)
      unfold ordN at this
      exact List.mem_range.1 (List.mem_filter.1 this).1
    unfold gre
    by_cases h : cnf l i &&& u = 0
    · rw [if_pos h]
      have hf := pick_find hp hs u
      have hfi : zs.find? (fun i => decide (cnf l i &&& u = 0)) = some i := by
        rw [List.find?_eq_some_iff_append]
        exact ⟨by simpa using h, pre, r, hz, fun j hj => by have := hpre j hj; simpa using this⟩
      rw [hfi] at hf
      cases f with
      | zero => simp at hlen
      | succ f =>
        unfold rrs
        rw [hf]
        simp only
        rw [gre_rrs hp hs hc r (pre ++ [i]) (u ||| cnf l i) f (by rw [hz]; simp) (fun j hj => by
          rcases List.mem_append.1 hj with hj | hj
          · exact and_or_ne (hpre j hj)
          · simp at hj; subst hj; exact and_or_self (hc j hi)) (by simpa using hlen)]
    · rw [if_neg h]
      exact gre_rrs hp hs hc r (pre ++ [i]) u f (by rw [hz]; simp) (fun j hj => by
        rcases List.mem_append.1 hj with hj | hj
        · exact hpre j hj
        · simp at hj; subst hj; exact h) (by simp at hlen; omega)
theorem ordN_len (may : Nat) (l : List Int) : (ordN may l).length ≤ l.length := by
  unfold ordN
  have := List.length_filter_le (fun i => sub (l.getD i 0) may) (List.range l.length)
  rwa [List.length_range] at this
theorem bound_law {wl l : List Int} {may : Nat} {zs : List Nat} (hp : zs.Perm (ordN may l)) (hs : zs.Pairwise (lexN wl l)) (hc : ∀ i, i < l.length → cnf l i ≠ 0) : rrs wl l may l.length 0 = gre l zs 0 :=
  gre_rrs hp hs hc zs [] 0 l.length rfl (fun i h => absurd h (by simp)) (by rw [hp.length_eq]; exact ordN_len _ _)
theorem gre_sub (l : List Int) : ∀ (zs : List Nat) (u : Nat), (gre l zs u).Sublist zs
  | [], _ => List.Sublist.refl _
  | i :: r, u => by
    unfold gre
    split
    · exact (gre_sub l r _).cons_cons i
    · exact (gre_sub l r _).cons i
theorem sorted_nat {ss : List Int} {L : List Nat} (h : ss.Perm (L.map fun (j : Nat) => (j : Int))) (hL : L.Pairwise (· < ·)) : ss.mergeSort (fun x y => decide (x ≤ y)) = L.map fun (j : Nat) => (j : Int) := by
  have tr : ∀ a b c : Int, decide (a ≤ b) = true → decide (b ≤ c) = true → decide (a ≤ c) = true := fun a b c h1 h2 => by simp only [decide_eq_true_eq] at *; exact Int.le_trans h1 h2
  have tt : ∀ a b : Int, (decide (a ≤ b) || decide (b ≤ a)) = true := fun a b => by simp only [Bool.or_eq_true, decide_eq_true_eq]; exact Int.le_total a b
  refine List.Perm.eq_of_pairwise (le := fun a b => decide (a ≤ b) = true) (fun a b _ _ h1 h2 => ?_) (List.pairwise_mergeSort tr tt ss) ?_ ((List.mergeSort_perm ss _).trans h)
  · simp only [decide_eq_true_eq] at h1 h2
    exact Int.le_antisymm h1 h2
  · exact List.pairwise_map.2 (hL.imp fun hlt => by simp only [decide_eq_true_eq]; omega)
/-- the conflicts that show the bound -/
def bndL (wl l : List Int) (may : Nat) : List Nat := (List.range l.length).filter fun i => decide (i ∈ rrs wl l may l.length 0)
/-- the bound -/
def bndV (wl l : List Int) (may : Nat) : Int := (rrs wl l may l.length 0).foldl (fun a i => a - wt wl l i) (wsum wl may 16)
theorem ordN_nodup (may : Nat) (l : List Int) : (ordN may l).Nodup := List.nodup_range.filter _
theorem out_sorted {wl l : List Int} {may : Nat} {zs : List Nat} (hp : zs.Perm (ordN may l)) (hs : zs.Pairwise (lexN wl l)) (hc : ∀ i, i < l.length → cnf l i ≠ 0) :
    ((gre l zs 0).map fun (j : Nat) => (j : Int)).mergeSort (fun x y => decide (x ≤ y)) = (bndL wl l may).map fun (j : Nat) => (j : Int) := by
  refine sorted_nat ?_ (List.Pairwise.filter _ List.pairwise_lt_range)
  refine List.Perm.map _ ?_
  have hz : zs.Nodup := hp.nodup_iff.2 (ordN_nodup may l)
  refine (List.perm_ext_iff_of_nodup ((gre_sub l zs 0).nodup hz) (List.nodup_range.filter _)).2 fun i => ?_
  rw [List.mem_filter, List.mem_range, decide_eq_true_iff, bound_law hp hs hc]
  constructor
  · intro h
    refine ⟨?_, h⟩
    have : i ∈ ordN may l := hp.subset ((gre_sub l zs 0).subset h)
    unfold ordN at this
    exact List.mem_range.1 (List.mem_filter.1 this).1
  · exact fun h => h.2
end Go.Theory

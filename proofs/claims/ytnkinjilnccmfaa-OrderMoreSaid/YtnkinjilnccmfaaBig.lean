/- Numbers as digits in base 10^9, in plain Lean: what long division needs. -/
import Derived.RowKit
namespace Go.Big
abbrev B : Nat := 1000000000
def val : List Nat → Nat
  | [] => 0
  | d :: r => d + B * val r
def Dig (l : List Nat) : Prop := ∀ d ∈ l, d < B
/-- without zeros at the end -/
def norm : List Nat → List Nat
  | [] => []
  | d :: r => if norm r = [] ∧ d = 0 then [] else d :: norm r
def Can (l : List Nat) : Prop := Dig l ∧ norm l = l
theorem Dig.tail {d : Nat} {r : List Nat} (h : Dig (d :: r)) : Dig r := fun x hx => h x (List.mem_cons_of_mem _ hx)
theorem Dig.take {l : List Nat} (h : Dig l) (k : Nat) : Dig (l.take k) := fun x hx => h x (List.mem_of_mem_take hx)
theorem Dig.drop {l : List Nat} (h : Dig l) (k : Nat) : Dig (l.drop k) := fun x hx => h x (List.mem_of_mem_drop hx)
theorem val_app : ∀ (a b : List Nat), val (a ++ b) = val a + B ^ a.length * val b
  | [], b => by simp [val]
  | d :: a, b => by
    rw [List.cons_append, val, val, val_app a b, List.length_cons, Nat.pow_succ, Nat.mul_add, Nat.mul_comm (B ^ a.length) B, Nat.mul_assoc]
    omega
theorem val_lt : ∀ {a : List Nat}, Dig a → val a < B ^ a.length
  | [], _ => by simp [val]
  | d :: a, h => by
    have ih := val_lt h.tail
    have hd := h d List.mem_cons_self
    rw [val, List.length_cons, Nat.pow_succ]
    have : B * (val a + 1) ≤ B * B ^ a.length := Nat.mul_le_mul_left _ ih
    rw [Nat.mul_comm (B ^ a.length)]
    rw [Nat.mul_add] at this
    omega
theorem val_split (a : List Nat) (k : Nat) (h : k ≤ a.length) : val a = val (a.take k) + B ^ k * val (a.drop k) := by
  conv => lhs; rw [← List.take_append_drop k a]
  rw [val_app, List.length_take, Nat.min_eq_left h]
theorem norm_val : ∀ a : List Nat, val (norm a) = val a
  | [] => rfl
  | d :: r => by
    have ih := norm_val r
    unfold norm
    split
    · rename_i h
      rw [h.1] at ih
      rw [show val (d :: r) = d + B * val r from rfl, ← ih, h.2]; simp [val]
    · rw [val, val, ih]
theorem norm_dig : ∀ {a : List Nat}, Dig a → Dig (norm a)
  | [], h => h
  | d :: r, h => by
    have ih := norm_dig h.tail
    unfold norm
    split
    · intro x hx; cases hx
    · intro x hx
      rcases List.mem_cons.1 hx with rfl | hx
      · exact h _ List.mem_cons_self
      · exact ih x hx
theorem norm_norm : ∀ a : List Nat, norm (norm a) = norm a
  | [] => rfl
  | d :: r => by
    have ih := norm_norm r
    by_cases h : norm r = [] ∧ d = 0
    · have e : norm (d :: r) = [] := by unfold norm; rw [if_pos h]
      rw [e]; rfl
    · have e : norm (d :: r) = d :: norm r := by conv => lhs; unfold norm; rw [if_neg h]
      rw [e]
      conv => lhs; unfold norm
      rw [ih, if_neg h]
theorem norm_can {a : List Nat} (h : Dig a) : Can (norm a) := ⟨norm_dig h, norm_norm a⟩
theorem norm_nil {a : List Nat} : norm a = [] ↔ val a = 0 := by
  induction a with
  | nil => simp [norm, val]
  | cons d r ih =>
    unfold norm
    rw [val]
    split
    · rename_i h
      have := ih.1 h.1
      simp [h.2, this]
    · rename_i h
      constructor
      · intro h2; cases h2
      · intro h2
        have h3 : val r = 0 := by
          rcases Nat.eq_zero_or_pos (val r) with h4 | h4
          · exact h4
          · have : B * 1 ≤ B * val r := Nat.mul_le_mul_left _ h4
            have hB : B = 1000000000 := rfl
            omega
        exact absurd ⟨ih.2 h3, by omega⟩ h
/-- the program's normal: how many digits are left -/
theorem norm_len_le : ∀ a : List Nat, (norm a).length ≤ a.length
  | [] => Nat.le_refl _
  | d :: r => by
    have ih := norm_len_le r
    unfold norm
    split
    · exact Nat.zero_le _
    · rw [List.length_cons, List.length_cons]; omega
theorem norm_take : ∀ (a : List Nat), norm a = a.take (norm a).length
  | [] => rfl
  | d :: r => by
    have ih := norm_take r
    unfold norm
    split
    · rfl
    · rw [List.length_cons, List.take_succ_cons, ← ih]
/-- after n digits there are zeros alone -/
theorem norm_at {a : List Nat} {n : Nat} (hn : n ≤ a.length) (hz : ∀ i (h : i < a.length), n ≤ i → a[i] = 0) (hl : n = 0 ∨ ∃ h : n - 1 < a.length, a[n - 1] ≠ 0) : (norm a).length = n := by
  induction a generalizing n with
  | nil => simp at hn; subst hn; rfl
  | cons d r ih =>
    cases n with
    | zero =>
      have h1 := ih (n := 0) (Nat.zero_le _) (fun i h _ => hz (i + 1) (by simp; omega) (Nat.zero_le _)) (.inl rfl)
      have h2 : d = 0 := hz 0 (by simp) (Nat.le_refl _)
      unfold norm
      rw [if_pos ⟨List.length_eq_zero_iff.1 h1, h2⟩]; rfl
    | succ n =>
      simp only [List.length_cons] at hn
      rcases hl with hl | ⟨hl1, hl2⟩
      · omega
      · have h1 := ih (n := n) (by omega) (fun i h hni => hz (i + 1) (by simp; omega) (by omega)) (by
          cases n with
          | zero => exact .inl rfl
          | succ n => exact .inr ⟨by simp at hl1; omega, by simpa using hl2⟩)
        unfold norm
        split
        · rename_i h
          rw [h.1] at h1
          simp only [List.length_nil] at h1
          subst h1
          simp only [Nat.zero_add, Nat.sub_self, List.getElem_cons_zero] at hl2
          exact absurd h.2 hl2
        · rw [List.length_cons, h1]
theorem can_last {a : List Nat} (h : norm a = a) (hp : 0 < a.length) : ∃ h : a.length - 1 < a.length, a[a.length - 1] ≠ 0 := by
  induction a with
  | nil => simp at hp
  | cons d r ih =>
    unfold norm at h
    split at h
    · cases h
    · rename_i h2
      injection h with _ h3
      cases r with
      | nil => exact ⟨by simp, by simp; exact fun e => h2 ⟨rfl, e⟩⟩
      | cons e r =>
        obtain ⟨h4, h5⟩ := ih h3 (by simp)
        refine ⟨by simp, ?_⟩
        simp only [List.length_cons, Nat.add_sub_cancel, List.getElem_cons_succ] at h5 ⊢
        exact h5
theorem can_low {a : List Nat} (h : Can a) (hp : 0 < a.length) : B ^ (a.length - 1) ≤ val a := by
  obtain ⟨h1, h2⟩ := can_last h.2 hp
  rw [val_split a (a.length - 1) (by omega), List.drop_eq_getElem_cons h1, val]
  have : B ^ (a.length - 1) * 1 ≤ B ^ (a.length - 1) * (a[a.length - 1] + B * val (a.drop (a.length - 1 + 1))) := Nat.mul_le_mul_left _ (by omega)
  omega
theorem len_lt {a b : List Nat} (ha : Dig a) (hb : Can b) (h : a.length < b.length) : val a < val b := by
  have h1 := val_lt ha
  have h2 := can_low hb (by omega)
  have h3 : B ^ a.length ≤ B ^ (b.length - 1) := Nat.pow_le_pow_right (by decide) (by omega)
  omega
theorem len_le {a b : List Nat} (ha : Dig a) (hb : Can b) (h : val b ≤ val a) : b.length ≤ a.length := by
  apply Nat.le_of_not_lt
  intro h2
  have := len_lt ha hb h2
  omega
theorem top_lt {a b : List Nat} (ha : Dig a) (hl : a.length = b.length) {i : Nat} (hi : i < a.length) (hd : a.drop (i + 1) = b.drop (i + 1)) (h : a[i] < b[i]) : val a < val b := by
  rw [val_split a i (by omega), val_split b i (by omega), List.drop_eq_getElem_cons hi, List.drop_eq_getElem_cons (show i < b.length by omega), hd, val, val]
  have h1 := val_lt (ha.take i)
  rw [List.length_take, Nat.min_eq_left (by omega)] at h1
  rw [Nat.mul_add, Nat.mul_add]
  have : B ^ i * (a[i] + 1) ≤ B ^ i * b[i] := Nat.mul_le_mul_left _ h
  rw [Nat.mul_add] at this
  omega
/-- the next digit of a prefix -/
theorem val_snoc (a : List Nat) (d : Nat) : val (a ++ [d]) = val a + B ^ a.length * d := by rw [val_app]; simp [val]
theorem val_take_succ {a : List Nat} {i : Nat} (h : i < a.length) : val (a.take (i + 1)) = val (a.take i) + B ^ i * a[i] := by
  rw [List.take_succ_eq_append_getElem h, val_snoc, List.length_take, Nat.min_eq_left (by omega)]
/-- a digit, or 0 behind the last one -/
def dg (l : List Nat) (i : Nat) : Nat := l.getD i 0
theorem val_take_dg (b : List Nat) (i : Nat) : val (b.take (i + 1)) = val (b.take i) + B ^ i * dg b i := by
  by_cases h : i < b.length
  · rw [val_take_succ h]; unfold dg; simp [h]
  · rw [List.take_of_length_le (by omega), List.take_of_length_le (by omega)]
    unfold dg
    simp [Nat.le_of_not_lt h]
/-- subtraction, digit by digit -/
def subN (a b : List Nat) : Nat → List Nat × Nat
  | 0 => ([], 0)
  | i + 1 =>
    let p := subN a b i
    if dg a i < dg b i + p.2 then (p.1 ++ [dg a i + B - (dg b i + p.2)], 1) else (p.1 ++ [dg a i - (dg b i + p.2)], 0)
theorem subN_spec {a b : List Nat} (ha : Dig a) (hb : Dig b) : ∀ i, i ≤ a.length → (subN a b i).1.length = i ∧ Dig (subN a b i).1 ∧ (subN a b i).2 ≤ 1 ∧ val (subN a b i).1 + val (b.take i) + B ^ i * 0 = val (subN a b i).1 + val (b.take i) ∧ val (subN a b i).1 + val (b.take i) = val (a.take i) + B ^ i * (subN a b i).2
  | 0, _ => by simp [subN, val]; intro d hd; cases hd
  | i + 1, h => by
    obtain ⟨h1, h2, h3, _, h5⟩ := subN_spec ha hb i (by omega)
    have ka : dg a i < B := by unfold dg; rw [List.getD_eq_getElem?_getD, List.getElem?_eq_getElem (by omega)]; exact ha _ (List.getElem_mem _)
    have kb : dg b i < B := by
      unfold dg
      by_cases hi : i < b.length
      · rw [List.getD_eq_getElem?_getD, List.getElem?_eq_getElem hi]; exact hb _ (List.getElem_mem _)
      · rw [List.getD_eq_getElem?_getD, List.getElem?_eq_none (by omega)]; decide
    rw [val_take_dg b, val_take_dg a]
    unfold subN
    generalize subN a b i = p at *
    dsimp only
    by_cases hc : dg a i < dg b i + p.2
    · rw [if_pos hc]
      refine ⟨by simp [h1], ?_, Nat.le_refl _, by omega, ?_⟩
      · intro d hd
        rcases List.mem_append.1 hd with hd | hd
        · exact h2 d hd
        · rw [List.mem_singleton] at hd; subst hd; omega
      · rw [val_snoc, h1, Nat.pow_succ]
        have e : dg a i + B - (dg b i + p.2) + (dg b i + p.2) = dg a i + B := by omega
        have e2 := congrArg (fun x => B ^ i * x) e
        simp only [Nat.mul_add] at e2 ⊢
        omega
    · rw [if_neg hc]
      refine ⟨by simp [h1], ?_, Nat.zero_le _, by omega, ?_⟩
      · intro d hd
        rcases List.mem_append.1 hd with hd | hd
        · exact h2 d hd
        · rw [List.mem_singleton] at hd; subst hd; omega
      · rw [val_snoc, h1]
        have e : dg a i - (dg b i + p.2) + (dg b i + p.2) = dg a i := by omega
        have e2 := congrArg (fun x => B ^ i * x) e
        simp only [Nat.mul_add] at e2 ⊢
        omega
def sub (a b : List Nat) : List Nat := (subN a b a.length).1
theorem sub_spec {a b : List Nat} (ha : Dig a) (hb : Can b) (h : val b ≤ val a) : (sub a b).length = a.length ∧ Dig (sub a b) ∧ val (sub a b) = val a - val b := by
  obtain ⟨h1, h2, h3, _, h5⟩ := subN_spec ha hb.1 a.length (Nat.le_refl _)
  rw [List.take_of_length_le (len_le ha hb h), List.take_of_length_le (Nat.le_refl _)] at h5
  refine ⟨h1, h2, ?_⟩
  show val (subN a b a.length).1 = _
  have h6 := val_lt h2
  rw [h1] at h6
  have h7 : (subN a b a.length).2 = 0 := by
    rcases Nat.eq_zero_or_pos (subN a b a.length).2 with h8 | h8
    · exact h8
    · rw [show (subN a b a.length).2 = 1 by omega, Nat.mul_one] at h5; omega
  rw [h7] at h5
  omega
/-- a number times a digit: what stands after i rounds -/
def mulN (a : List Nat) (k : Nat) : Nat → List Nat × Nat
  | 0 => ([], 0)
  | i + 1 => let p := mulN a k i; (p.1 ++ [(p.2 + dg a i * k) % B], (p.2 + dg a i * k) / B)
theorem mulN_spec {a : List Nat} (ha : Dig a) {k : Nat} (hk : k < B) : ∀ i, i ≤ a.length → (mulN a k i).1.length = i ∧ Dig (mulN a k i).1 ∧ (mulN a k i).2 < B ∧ val (mulN a k i).1 + B ^ i * (mulN a k i).2 = val (a.take i) * k
  | 0, _ => by simp [mulN, val]; intro d hd; cases hd
  | i + 1, h => by
    obtain ⟨h1, h2, h3, h5⟩ := mulN_spec ha hk i (by omega)
    have ka : dg a i < B := by unfold dg; rw [List.getD_eq_getElem?_getD, List.getElem?_eq_getElem (by omega)]; exact ha _ (List.getElem_mem _)
    rw [val_take_dg a]
    unfold mulN
    generalize mulN a k i = p at *
    dsimp only
    have hv : p.2 + dg a i * k < B * B := by
      have : dg a i * k ≤ (B - 1) * (B - 1) := Nat.mul_le_mul (by omega) (by omega)
      have e : (B - 1) * (B - 1) = 999999998000000001 := by decide
      have e2 : B * B = 1000000000000000000 := by decide
      have hB : B = 1000000000 := rfl
      rw [e] at this
      rw [e2]
      omega
    refine ⟨by simp [h1], ?_, Nat.div_lt_of_lt_mul hv, ?_⟩
    · intro d hd
      rcases List.mem_append.1 hd with hd | hd
      · exact h2 d hd
      · rw [List.mem_singleton] at hd; subst hd; exact Nat.mod_lt _ (by decide)
    · rw [val_snoc, h1, Nat.pow_succ, Nat.add_mul, ← h5]
      have e := Nat.div_add_mod (p.2 + dg a i * k) B
      have e2 := congrArg (fun x => B ^ i * x) e
      simp only [Nat.mul_add] at e2
      rw [Nat.mul_assoc (B ^ i) B, Nat.mul_assoc (B ^ i) (dg a i)]
      omega
def mul (a : List Nat) (k : Nat) : List Nat := (mulN a k a.length).1 ++ [(mulN a k a.length).2]
theorem mul_spec {a : List Nat} (ha : Dig a) {k : Nat} (hk : k < B) : (mul a k).length = a.length + 1 ∧ Dig (mul a k) ∧ val (mul a k) = val a * k := by
  obtain ⟨h1, h2, h3, h5⟩ := mulN_spec ha hk a.length (Nat.le_refl _)
  rw [List.take_of_length_le (Nat.le_refl _)] at h5
  unfold mul
  refine ⟨by simp [h1], ?_, by rw [val_snoc, h1]; exact h5⟩
  intro d hd
  rcases List.mem_append.1 hd with hd | hd
  · exact h2 d hd
  · rw [List.mem_singleton] at hd; subst hd; exact h3
end Go.Big

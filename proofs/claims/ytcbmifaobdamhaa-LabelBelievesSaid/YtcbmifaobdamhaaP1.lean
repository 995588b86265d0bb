/- label: what follows from a set of assumptions, in plain Lean. -/
import Derived.Test.YtcbmifaobdamhaaA5
namespace Go.Label
/-- the facts of the first k assumptions that a set has, as bits -/
def givN (b : Lg) (s : Nat) : Nat → Nat
  | 0 => 0
  | k + 1 => if s.testBit k then givN b s k ||| 2 ^ (b.assume.getD k 0).toNat else givN b s k
def giv (b : Lg) (s : Nat) : Nat := givN b s b.assume.length
/-- all of a list is known -/
def bdy (l : List Int) (K : Nat) : Bool := l.all fun f => K.testBit f.toNat
/-- one rule -/
def stp (r : Rl) (K : Nat) : Nat := if bdy r.body K && decide (0 ≤ r.head) then K ||| 2 ^ r.head.toNat else K
def rl0 : Rl := ⟨0, []⟩
/-- the first i rules -/
def rndN (b : Lg) (K : Nat) : Nat → Nat
  | 0 => K
  | i + 1 => stp (b.rules.getD i rl0) (rndN b K i)
def rnd (b : Lg) (K : Nat) : Nat := rndN b K b.rules.length
def folF : Nat → Lg → Nat → Nat
  | 0, _, K => K
  | n + 1, b, K => if rnd b K = K then K else folF n b (rnd b K)
/-- all that follows -/
def fol (b : Lg) (s : Nat) : Nat := folF 18446744073709551616 b (giv b s)
/-- a contradiction -/
def badK (b : Lg) (K : Nat) : Bool := b.rules.any fun r => bdy r.body K && decide (r.head < 0)
def badS (b : Lg) (s : Nat) : Bool := badK b (fol b s)
/-- what follows, by derivations -/
inductive Der (b : Lg) (s : Nat) : Nat → Prop
  | asm (k : Nat) : k < b.assume.length → s.testBit k = true → Der b s (b.assume.getD k 0).toNat
  | rule (r : Rl) : r ∈ b.rules → 0 ≤ r.head → (∀ f ∈ r.body, Der b s f.toNat) → Der b s r.head.toNat
theorem or_bit (K n f : Nat) : (K ||| 2 ^ n).testBit f = true ↔ K.testBit f = true ∨ f = n := by
  rw [Nat.testBit_or, Bool.or_eq_true, Nat.testBit_two_pow, decide_eq_true_eq]
  exact ⟨fun h => h.imp id fun e => e.symm, fun h => h.imp id fun e => e.symm⟩
theorem giv_bit (b : Lg) (s f : Nat) : ∀ n, (givN b s n).testBit f = true ↔ ∃ k, k < n ∧ s.testBit k = true ∧ (b.assume.getD k 0).toNat = f
  | 0 => by simp [givN]
  | n + 1 => by
    have ih := giv_bit b s f n
    unfold givN
    by_cases h : s.testBit n = true
    · rw [if_pos h, or_bit, ih]
      constructor
      · rintro (⟨k, h1, h2, h3⟩ | e)
        · exact ⟨k, by omega, h2, h3⟩
        · exact ⟨n, by omega, h, e.symm⟩
      · rintro ⟨k, h1, h2, h3⟩
        by_cases e : k = n
        · subst e; exact .inr h3.symm
        · exact .inl ⟨k, by omega, h2, h3⟩
    · rw [if_neg h, ih]
      constructor
      · rintro ⟨k, h1, h2, h3⟩
        exact ⟨k, by omega, h2, h3⟩
      · rintro ⟨k, h1, h2, h3⟩
        by_cases e : k = n
        · subst e; exact absurd h2 h
        · exact ⟨k, by omega, h2, h3⟩
theorem le_or (K m : Nat) : K ≤ K ||| m := Nat.left_le_or
theorem stp_le (r : Rl) (K : Nat) : K ≤ stp r K := by
  unfold stp
  split
  · exact le_or _ _
  · exact Nat.le_refl _
theorem rndN_le (b : Lg) (K : Nat) : ∀ i j, i ≤ j → rndN b K i ≤ rndN b K j := fun i j h => by
  induction j with
  | zero => obtain rfl : i = 0 := by omega
            exact Nat.le_refl _
  | succ j ih =>
    by_cases e : i = j + 1
    · subst e; exact Nat.le_refl _
    · exact Nat.le_trans (ih (by omega)) (stp_le _ _)
theorem or_lt {K n : Nat} (hK : K < 18446744073709551616) (hn : n < 64) : K ||| 2 ^ n < 18446744073709551616 := by
  have h : (2 : Nat) ^ n < 2 ^ 64 := Nat.pow_lt_pow_right (by omega) hn
  exact Nat.or_lt_two_pow (n := 64) hK h
theorem stp_lt {b : Lg} (ok : Ok b) {r : Rl} (hr : r ∈ b.rules) {K : Nat} (hK : K < 18446744073709551616) : stp r K < 18446744073709551616 := by
  unfold stp
  split
  · have := ok.head r hr; have := ok.f64; have := ok.f0
    exact or_lt hK (by omega)
  · exact hK
theorem getD_mem {α : Type} {l : List α} {i : Nat} {d : α} (h : i < l.length) : l.getD i d ∈ l := by
  rw [List.getD_eq_getElem?_getD, List.getElem?_eq_getElem h]
  exact List.getElem_mem h
theorem rndN_lt {b : Lg} (ok : Ok b) {K : Nat} (hK : K < 18446744073709551616) : ∀ i, i ≤ b.rules.length → rndN b K i < 18446744073709551616
  | 0, _ => hK
  | i + 1, h => stp_lt ok (getD_mem (by omega)) (rndN_lt ok hK i (by omega))
theorem givN_lt {b : Lg} (ok : Ok b) (s : Nat) : ∀ k, k ≤ b.assume.length → givN b s k < 18446744073709551616
  | 0, _ => Nat.succ_pos _
  | k + 1, h => by
    have ih := givN_lt ok s k (by omega)
    have h1 := ok.asm _ (getD_mem (l := b.assume) (i := k) (d := 0) (by omega))
    have := ok.f64; have := ok.f0
    unfold givN
    split
    · exact or_lt ih (by omega)
    · exact ih
theorem stp_bits {r : Rl} {K f : Nat} (h : K.testBit f = true) : (stp r K).testBit f = true := by
  unfold stp
  split
  · exact (or_bit _ _ _).2 (.inl h)
  · exact h
theorem bdy_mono {l : List Int} {K L : Nat} (h : ∀ f, K.testBit f = true → L.testBit f = true) (hb : bdy l K = true) : bdy l L = true := by
  unfold bdy at hb ⊢
  rw [List.all_eq_true] at hb ⊢
  exact fun x hx => h _ (hb x hx)
theorem rndN_bits {b : Lg} {K f : Nat} (h : K.testBit f = true) : ∀ i, (rndN b K i).testBit f = true
  | 0 => h
  | i + 1 => stp_bits (rndN_bits h i)
/-- known facts do follow -/
def Snd (b : Lg) (s K : Nat) : Prop := ∀ f, K.testBit f = true → Der b s f
theorem stp_snd {b : Lg} {s : Nat} {r : Rl} (hr : r ∈ b.rules) {K : Nat} (h : Snd b s K) : Snd b s (stp r K) := by
  intro f hf
  unfold stp at hf
  split at hf
  · rename_i hc
    rw [Bool.and_eq_true, decide_eq_true_eq] at hc
    rcases (or_bit _ _ _).1 hf with hf | rfl
    · exact h f hf
    · refine Der.rule r hr hc.2 fun x hx => h _ ?_
      have := hc.1
      unfold bdy at this
      exact List.all_eq_true.1 this x hx
  · exact h f hf
theorem rndN_snd {b : Lg} {s : Nat} {K : Nat} (h : Snd b s K) : ∀ i, i ≤ b.rules.length → Snd b s (rndN b K i)
  | 0, _ => h
  | i + 1, hi => stp_snd (getD_mem (by omega)) (rndN_snd h i (by omega))
theorem giv_snd (b : Lg) (s : Nat) : Snd b s (giv b s) := fun f hf => by
  obtain ⟨k, h1, h2, rfl⟩ := (giv_bit b s f _).1 hf
  exact Der.asm k h1 h2
theorem rnd_fix {b : Lg} {K : Nat} (h : rnd b K = K) : ∀ i, i ≤ b.rules.length → rndN b K i = K := fun i hi => by
  have h1 := rndN_le b K 0 i (by omega)
  have h2 := rndN_le b K i b.rules.length hi
  unfold rnd at h
  rw [h] at h2
  exact Nat.le_antisymm h2 h1
theorem der_in {b : Lg} {s K : Nat} (h0 : ∀ f, (giv b s).testBit f = true → K.testBit f = true) (hf : rnd b K = K) {f : Nat} (h : Der b s f) : K.testBit f = true := by
  induction h with
  | asm k hk hs => exact h0 _ ((giv_bit b s _ _).2 ⟨k, hk, hs, rfl⟩)
  | rule r hr h0' _ ih =>
    obtain ⟨i, hi, rfl⟩ := List.getElem_of_mem hr
    have h1 := rnd_fix hf i (by omega)
    have h2 := rnd_fix hf (i + 1) (by omega)
    unfold rndN at h2
    rw [h1, List.getD_eq_getElem?_getD, List.getElem?_eq_getElem hi] at h2
    unfold stp at h2
    rw [if_pos] at h2
    · rw [← h2]
      exact (or_bit _ _ _).2 (.inr rfl)
    · rw [Bool.and_eq_true, decide_eq_true_eq]
      exact ⟨List.all_eq_true.2 ih, h0'⟩
theorem folF_spec {b : Lg} (ok : Ok b) {s : Nat} : ∀ (n K : Nat), K < 18446744073709551616 → 18446744073709551616 ≤ n + K → Snd b s K → (∀ f, (giv b s).testBit f = true → K.testBit f = true) →
    folF n b K < 18446744073709551616 ∧ Snd b s (folF n b K) ∧ (∀ f, (giv b s).testBit f = true → (folF n b K).testBit f = true) ∧ rnd b (folF n b K) = folF n b K
  | 0, K, h1, h2, _, _ => by omega
  | n + 1, K, h1, h2, h3, h4 => by
    unfold folF
    by_cases h : rnd b K = K
    · rw [if_pos h]
      exact ⟨h1, h3, h4, h⟩
    · rw [if_neg h]
      have hle := rndN_le b K 0 b.rules.length (by omega)
      have hlt := rndN_lt ok h1 b.rules.length (Nat.le_refl _)
      refine folF_spec ok n (rnd b K) hlt ?_ (rndN_snd h3 _ (Nat.le_refl _)) fun f hf => rndN_bits (h4 f hf) _
      unfold rnd at h ⊢
      rw [show rndN b K 0 = K from rfl] at hle
      omega
theorem fol_spec {b : Lg} (ok : Ok b) (s : Nat) : fol b s < 18446744073709551616 ∧ Snd b s (fol b s) ∧ (∀ f, (giv b s).testBit f = true → (fol b s).testBit f = true) ∧ rnd b (fol b s) = fol b s :=
  folF_spec ok _ _ (givN_lt ok s _ (Nat.le_refl _)) (by omega) (giv_snd b s) fun _ h => h
theorem fol_der {b : Lg} (ok : Ok b) {s f : Nat} : (fol b s).testBit f = true ↔ Der b s f := by
  obtain ⟨_, h2, h3, h4⟩ := fol_spec ok s
  exact ⟨h2 f, fun h => der_in h3 h4 h⟩
/-- whatever is reached, and closed, is all that follows -/
theorem fol_eq {b : Lg} (ok : Ok b) {s K : Nat} (h1 : Snd b s K) (h2 : ∀ f, (giv b s).testBit f = true → K.testBit f = true) (h3 : rnd b K = K) : K = fol b s := by
  apply Nat.eq_of_testBit_eq
  intro f
  rw [Bool.eq_iff_iff, fol_der ok]
  exact ⟨h1 f, fun h => der_in h2 h3 h⟩
theorem snd_sub {b : Lg} (ok : Ok b) {s K : Nat} (h : Snd b s K) : ∀ f, K.testBit f = true → (fol b s).testBit f = true := fun f hf => (fol_der ok).2 (h f hf)
theorem badK_mono {b : Lg} {K L : Nat} (h : ∀ f, K.testBit f = true → L.testBit f = true) (hb : badK b K = true) : badK b L = true := by
  unfold badK at hb ⊢
  rw [List.any_eq_true] at hb ⊢
  obtain ⟨r, hr, h1⟩ := hb
  rw [Bool.and_eq_true] at h1
  exact ⟨r, hr, by rw [Bool.and_eq_true]; exact ⟨bdy_mono h h1.1, h1.2⟩⟩
theorem der_mono {b : Lg} {s t : Nat} (h : ∀ k, s.testBit k = true → t.testBit k = true) {f : Nat} (hd : Der b s f) : Der b t f := by
  induction hd with
  | asm k h1 h2 => exact Der.asm k h1 (h k h2)
  | rule r hr h0 _ ih => exact Der.rule r hr h0 ih
theorem fol_mono {b : Lg} (ok : Ok b) {s t : Nat} (h : ∀ k, s.testBit k = true → t.testBit k = true) {f : Nat} (hf : (fol b s).testBit f = true) : (fol b t).testBit f = true :=
  (fol_der ok).2 (der_mono h ((fol_der ok).1 hf))
theorem badS_mono {b : Lg} (ok : Ok b) {s t : Nat} (h : ∀ k, s.testBit k = true → t.testBit k = true) (hb : badS b s = true) : badS b t = true :=
  badK_mono (fun _ hf => fol_mono ok h hf) hb
/-- what follows is a fact of the base -/
theorem der_lt {b : Lg} (ok : Ok b) {s f : Nat} (h : Der b s f) : (f : Int) < b.facts := by
  have f0 := ok.f0
  cases h with
  | asm k hk _ =>
    have := ok.asm _ (getD_mem (l := b.assume) (i := k) (d := 0) hk)
    omega
  | rule r hr h0 _ =>
    have := ok.head r hr
    omega
end Go.Label

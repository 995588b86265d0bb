/- theory, in plain words: least repairs. -/
import Derived.Test.YtnkglahiagigoaaT4
namespace Go.Theory
open Go.RowKit Go.Own Go.Ib
theorem nz_bit {x : Nat} : x ≠ 0 ↔ ∃ k, x.testBit k = true := by
  constructor
  · exact Nat.exists_testBit_of_ne_zero
  · rintro ⟨k, hk⟩ e
    subst e
    simp at hk
/-- two sets have something in common -/
def meets (a b : Nat) : Bool := decide (a &&& b ≠ 0)
theorem meets_iff {a b : Nat} : meets a b = true ↔ ∃ k, a.testBit k = true ∧ b.testBit k = true := by
  unfold meets
  rw [decide_eq_true_iff, nz_bit]
  constructor
  · rintro ⟨k, hk⟩
    rw [Nat.testBit_and, Bool.and_eq_true] at hk
    exact ⟨k, hk⟩
  · rintro ⟨k, hk⟩
    exact ⟨k, by rw [Nat.testBit_and, Bool.and_eq_true]; exact hk⟩
/-- a repair and one conflict more -/
def more (s r k : Nat) : List Nat := ((List.range k).filter fun j => s.testBit j).map fun j => r ||| 2 ^ j
theorem more_yes {s r k : Nat} (h : s.testBit k = true) : more s r (k + 1) = more s r k ++ [r ||| 2 ^ k] := by
  unfold more; rw [List.range_succ, List.filter_append]; simp [h]
theorem more_no {s r k : Nat} (h : s.testBit k = false) : more s r (k + 1) = more s r k := by
  unfold more; rw [List.range_succ, List.filter_append]; simp [h]
theorem more_len (s r k : Nat) : (more s r k).length ≤ k := by
  unfold more
  rw [List.length_map]
  have := List.length_filter_le (fun j => s.testBit j) (List.range k)
  rwa [List.length_range] at this
theorem more_mem {s r k x : Nat} : x ∈ more s r k ↔ ∃ j, j < k ∧ s.testBit j = true ∧ x = r ||| 2 ^ j := by
  unfold more
  rw [List.mem_map]
  constructor
  · rintro ⟨j, hj, rfl⟩
    rw [List.mem_filter, List.mem_range] at hj
    exact ⟨j, hj.1, hj.2, rfl⟩
  · rintro ⟨j, h1, h2, rfl⟩
    exact ⟨j, by rw [List.mem_filter, List.mem_range]; exact ⟨h1, h2⟩, rfl⟩
def meetOne (n s r : Nat) : List Nat := if meets r s then [r] else more s r n
def nextS (n s : Nat) (out : List Nat) : List Nat := out.flatMap (meetOne n s)
theorem nextS_snoc (n s : Nat) (out : List Nat) (r : Nat) : nextS n s (out ++ [r]) = nextS n s out ++ meetOne n s r := by
  unfold nextS; rw [List.flatMap_append]; simp
theorem nextS_take {n s : Nat} {out : List Nat} {k : Nat} (h : k < out.length) : nextS n s (out.take (k + 1)) = nextS n s (out.take k) ++ meetOne n s out[k] := by
  rw [List.take_succ_eq_append_getElem h, nextS_snoc]
theorem meetOne_len (n s r : Nat) : (meetOne n s r).length ≤ n + 1 := by
  unfold meetOne
  split
  · simp
  · have := more_len s r n; omega
theorem nextS_len (n s : Nat) : ∀ out : List Nat, (nextS n s out).length ≤ (n + 1) * out.length
  | [] => by simp [nextS]
  | r :: o => by
    have ih := nextS_len n s o
    have h1 := meetOne_len n s r
    have e : nextS n s (r :: o) = meetOne n s r ++ nextS n s o := by unfold nextS; rfl
    rw [e, List.length_append, List.length_cons, Nat.mul_add]
    omega
theorem nextS_mem {n s x : Nat} {out : List Nat} : x ∈ nextS n s out ↔ ∃ r ∈ out, x ∈ meetOne n s r := by
  unfold nextS; rw [List.mem_flatMap]
/-- the least sets that meet all of a list -/
structure Rep (n : Nat) (l out : List Nat) : Prop where
  lt : ∀ r ∈ out, r < 2 ^ n
  hit : ∀ r ∈ out, ∀ s ∈ l, meets r s = true
  low : ∀ h : Nat, h < 2 ^ n → (∀ s ∈ l, meets h s = true) → ∃ r ∈ out, sub r h = true
  anti : ∀ x ∈ out, ∀ y ∈ out, sub x y = true → x = y
  nodup : out.Nodup
theorem sub_zero' {h : Nat} (hh : h < 65536) : sub (0 : Nat) h = true := (sub_bits (by omega) hh).2 fun k hk => by simp at hk
theorem rep_nil {n : Nat} (hn : n ≤ 16) : Rep n [] [0] where
  lt := fun r hr => by simp at hr; subst hr; exact Nat.two_pow_pos n
  hit := fun r _ s hs => absurd hs (by simp)
  low := fun h hh _ => ⟨0, by simp, sub_zero' (Nat.lt_of_lt_of_le hh (pow16 hn))⟩
  anti := fun x hx y hy _ => by simp at hx hy; rw [hx, hy]
  nodup := by simp
theorem meets_mono {r h s : Nat} (hr : r < 65536) (hh : h < 65536) (hs : sub r h = true) (hm : meets r s = true) : meets h s = true := by
  obtain ⟨k, h1, h2⟩ := meets_iff.1 hm
  exact meets_iff.2 ⟨k, (sub_bits hr hh).1 hs k h1, h2⟩
theorem or_bit (r k : Nat) : (r ||| 2 ^ k).testBit k = true := by rw [Nat.testBit_or, Nat.testBit_two_pow]; simp
theorem next_lt {n s x : Nat} {out : List Nat} (h : ∀ r ∈ out, r < 2 ^ n) (hx : x ∈ nextS n s out) : x < 2 ^ n := by
  obtain ⟨r, hr, hxr⟩ := nextS_mem.1 hx
  unfold meetOne at hxr
  split at hxr
  · simp at hxr; subst hxr; exact h _ hr
  · obtain ⟨j, hj, _, rfl⟩ := more_mem.1 hxr
    exact Nat.or_lt_two_pow (h r hr) (Nat.pow_lt_pow_right (by decide) hj)
theorem rep_step {n s : Nat} {l out out' : List Nat} (hn : n ≤ 16) (h : Rep n l out) (hs : s < 2 ^ n) (hL : IsLeast (nextS n s out) out') : Rep n (l ++ [s]) out' where
  lt := fun r hr => next_lt h.lt (hL.mem r hr)
  hit := fun x hx t ht => by
    have hp := pow16 hn
    obtain ⟨r, hr, hxr⟩ := nextS_mem.1 (hL.mem x hx)
    have hrl := h.lt r hr
    have hxl := next_lt h.lt (hL.mem x hx)
    unfold meetOne at hxr
    by_cases hm : meets r s = true
    · rw [if_pos hm] at hxr
      simp at hxr; subst hxr
      rcases List.mem_append.1 ht with ht | ht
      · exact h.hit _ hr t ht
      · simp at ht; subst ht; exact hm
    · rw [if_neg hm] at hxr
      obtain ⟨j, hj, hsj, rfl⟩ := more_mem.1 hxr
      rcases List.mem_append.1 ht with ht | ht
      · refine meets_mono (by omega) (by omega) ((sub_bits (by omega) (by omega)).2 fun k hk => ?_) (h.hit r hr t ht)
        rw [Nat.testBit_or, hk]; rfl
      · simp at ht; subst ht
        exact meets_iff.2 ⟨j, or_bit r j, hsj⟩
  low := fun g hg hit => by
    have hp := pow16 hn
    obtain ⟨r, hr, hrg⟩ := h.low g hg (fun t ht => hit t (by simp [ht]))
    have hrl := h.lt r hr
    have key : ∃ x ∈ nextS n s out, sub x g = true := by
      by_cases hm : meets r s = true
      · exact ⟨r, nextS_mem.2 ⟨r, hr, by unfold meetOne; rw [if_pos hm]; simp⟩, hrg⟩
      · obtain ⟨k, h1, h2⟩ := meets_iff.1 (hit s (by simp))
        have hk : k < n := bits_of_lt hs h2
        have hx : r ||| 2 ^ k < 2 ^ n := Nat.or_lt_two_pow hrl (Nat.pow_lt_pow_right (by decide) hk)
        refine ⟨r ||| 2 ^ k, nextS_mem.2 ⟨r, hr, by unfold meetOne; rw [if_neg hm]; exact more_mem.2 ⟨k, hk, h2, rfl⟩⟩, (sub_bits (by omega) (by omega)).2 fun j hj => ?_⟩
        rw [Nat.testBit_or, Nat.testBit_two_pow, Bool.or_eq_true] at hj
        rcases hj with hj | hj
        · exact (sub_bits (by omega) (by omega)).1 hrg j hj
        · simp at hj; subst hj; exact h1
    obtain ⟨x, hx, hxg⟩ := key
    obtain ⟨y, hy, hyx⟩ := hL.low x hx
    exact ⟨y, hy, sub_trans hyx hxg⟩
  anti := hL.anti
  nodup := hL.nodup
theorem nodup_len {n : Nat} {out : List Nat} (h : out.Nodup) (hl : ∀ r ∈ out, r < n) : out.length ≤ n := by
  have hp : out.Perm ((List.range n).filter fun x => decide (x ∈ out)) := by
    refine (List.perm_ext_iff_of_nodup h (List.nodup_range.filter _)).2 fun x => ?_
    rw [List.mem_filter, List.mem_range, decide_eq_true_iff]
    exact ⟨fun hx => ⟨hl x hx, hx⟩, fun hx => hx.2⟩
  rw [hp.length_eq]
  have := List.length_filter_le (fun x => decide (x ∈ out)) (List.range n)
  rwa [List.length_range] at this
/-- all but -/
def cop (n t : Nat) : Nat := diff (2 ^ n - 1) t
theorem cop_bit {n t k : Nat} (hn : n ≤ 16) : (cop n t).testBit k = (decide (k < n) && !t.testBit k) := by
  have hp := pow16 hn
  unfold cop
  rw [diff_bit _ _ _ (by omega), Nat.testBit_two_pow_sub_one]
theorem cop_lt {n t : Nat} : cop n t < 2 ^ n := by
  have := Nat.two_pow_pos n
  have h := diff_le (2 ^ n - 1) t
  unfold cop; omega
theorem cop_cop {n t : Nat} (hn : n ≤ 16) (ht : t < 2 ^ n) : cop n (cop n t) = t := by
  refine Nat.eq_of_testBit_eq fun k => ?_
  rw [cop_bit hn, cop_bit hn]
  cases hk : t.testBit k with
  | true => simp [bits_of_lt ht hk]
  | false => by_cases h : k < n <;> simp [h]
theorem cop_sub {n a b : Nat} (hn : n ≤ 16) (ha : a < 2 ^ n) (hb : b < 2 ^ n) (h : sub a b = true) : sub (cop n b) (cop n a) = true := by
  have hp := pow16 hn
  have h1 := cop_lt (n := n) (t := a)
  have h2 := cop_lt (n := n) (t := b)
  refine (sub_bits (by omega) (by omega)).2 fun k hk => ?_
  rw [cop_bit hn, Bool.and_eq_true] at hk ⊢
  refine ⟨hk.1, ?_⟩
  cases hak : a.testBit k with
  | false => rfl
  | true => rw [(sub_bits (by omega) (by omega)).1 h k hak] at hk; simp at hk
/-- a set without a conflict: the rest meets each -/
theorem cl_cop {n t : Nat} {c : List Nat} (hn : n ≤ 16) (ht : t < 2 ^ n) (hc : ∀ s ∈ c, s < 2 ^ n) : cl (ints c) t = false ↔ ∀ s ∈ c, meets (cop n t) s = true := by
  have hp := pow16 hn
  rw [cl_ints, List.any_eq_false]
  constructor
  · intro h s hs
    apply Classical.byContradiction
    intro hm
    refine h s hs ((sub_bits (by have := hc s hs; omega) (by omega)).2 fun k hk => ?_)
    cases htk : t.testBit k with
    | true => rfl
    | false =>
      refine absurd (meets_iff.2 ⟨k, ?_, hk⟩) hm
      rw [cop_bit hn, htk]
      simp [bits_of_lt (hc s hs) hk]
  · intro h s hs hsub
    obtain ⟨k, h1, h2⟩ := meets_iff.1 (h s hs)
    rw [cop_bit hn, (sub_bits (by have := hc s hs; omega) (by omega)).1 hsub k h2] at h1
    simp at h1
theorem rep_least {n : Nat} {c L out : List Nat} (hn : n ≤ 16) (hc : ∀ s ∈ c, s < 2 ^ n) (hL : IsLeast c L) (h : Rep n L out) : Rep n c out where
  lt := h.lt
  hit := fun r hr s hs => by
    have hp := pow16 hn
    obtain ⟨x, hx, hxs⟩ := hL.low s hs
    obtain ⟨k, h1, h2⟩ := meets_iff.1 (h.hit r hr x hx)
    exact meets_iff.2 ⟨k, h1, (sub_bits (by have := hc x (hL.mem x hx); omega) (by have := hc s hs; omega)).1 hxs k h2⟩
  low := fun g hg hit => h.low g hg fun x hx => hit x (hL.mem x hx)
  anti := h.anti
  nodup := h.nodup
theorem valid_whole {n may : Nat} {l : List Int} (hv : valid n may l) : valid n ((2 ^ n - 1 : Nat) : Int) l := by
  obtain ⟨v1, v2, v3, v4, v5, v6⟩ := hv
  have := Nat.two_pow_pos n
  refine ⟨v1, v2, v3, Int.natCast_nonneg _, ?_, v6⟩
  rw [show ((2 : Int) ^ (n : Int).toNat) = ((2 ^ n : Nat) : Int) by simp]
  omega
/-- What the theories lack are the least repairs. -/
theorem repairs_law {n : Nat} {c out : List Nat} (hv : valid n ((2 ^ n - 1 : Nat) : Int) (ints c)) (h : Rep n c out) :
    (∀ t ∈ theories n (2 ^ n - 1) (ints c), cop n t ∈ out) ∧ (∀ r ∈ out, cop n r ∈ theories n (2 ^ n - 1) (ints c)) ∧ (theories n (2 ^ n - 1) (ints c)).length = out.length := by
  obtain ⟨hn, hm, _, hcr⟩ := valid_nat hv
  have hp := pow16 hn
  have hc : ∀ s ∈ c, s < 2 ^ n := fun s hs => by have := hcr s (List.mem_map.2 ⟨s, hs, rfl⟩); omega
  have hwh : ∀ t : Nat, t < 2 ^ n → sub t ((2 ^ n - 1 : Nat) : Int) = true := fun t ht => (sub_bits (by omega) (by omega)).2 fun k hk => by
    rw [Nat.testBit_two_pow_sub_one]; exact decide_eq_true (bits_of_lt ht hk)
  have A : ∀ t ∈ theories n (2 ^ n - 1) (ints c), cop n t ∈ out := fun t ht => by
    have htl := theories_lt ht
    have hth := theories_thy ht
    obtain ⟨r, hr, hrs⟩ := h.low (cop n t) cop_lt ((cl_cop hn htl hc).1 (cl_false hth.2.1))
    have hrl := h.lt r hr
    have h1 : sub t (cop n r) = true := by
      have := cop_sub hn hrl cop_lt hrs
      rwa [cop_cop hn htl] at this
    have h2 : cl (ints c) (cop n r) = false := (cl_cop hn cop_lt hc).2 fun s hs => by rw [cop_cop hn hrl]; exact h.hit r hr s hs
    obtain ⟨u, hu, hus⟩ := in_theory (l := ints c) hn hm (hwh _ cop_lt) cop_lt h2
    have e := thy_anti hn hm hth (theories_thy hu) htl (theories_lt hu) (sub_trans h1 hus)
    subst e
    have e2 : t = cop n r := sub_anti' (by omega) (by have := cop_lt (n := n) (t := r); omega) h1 hus
    rw [e2, cop_cop hn hrl]
    exact hr
  have Bt : ∀ r ∈ out, cop n r ∈ theories n (2 ^ n - 1) (ints c) := fun r hr => by
    have hrl := h.lt r hr
    have h2 : cl (ints c) (cop n r) = false := (cl_cop hn cop_lt hc).2 fun s hs => by rw [cop_cop hn hrl]; exact h.hit r hr s hs
    obtain ⟨u, hu, hus⟩ := in_theory (l := ints c) hn hm (hwh _ cop_lt) cop_lt h2
    have hul := theories_lt hu
    have h3 : sub (cop n u) r = true := by
      have := cop_sub hn cop_lt hul hus
      rwa [cop_cop hn hrl] at this
    have e := h.anti _ (A u hu) r hr h3
    rw [← e, cop_cop hn hul]
    exact hu
  refine ⟨A, Bt, ?_⟩
  have hp2 : ((theories n (2 ^ n - 1) (ints c)).map (cop n)).Perm out := by
    refine (List.perm_ext_iff_of_nodup ?_ h.nodup).2 fun x => ?_
    · unfold List.Nodup
      rw [List.pairwise_map]
      refine (theories_nodup n (2 ^ n - 1) (ints c)).imp_of_mem fun {a b} ha hb hab e => hab ?_
      rw [← cop_cop hn (theories_lt ha), e, cop_cop hn (theories_lt hb)]
    · rw [List.mem_map]
      constructor
      · rintro ⟨t, ht, rfl⟩; exact A t ht
      · intro hx; exact ⟨cop n x, Bt x hx, cop_cop hn (h.lt x hx)⟩
  rw [← hp2.length_eq, List.length_map]
end Go.Theory

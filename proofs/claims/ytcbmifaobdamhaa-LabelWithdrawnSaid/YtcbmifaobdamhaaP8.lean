/- label: a base without one of its assumptions, in plain Lean. -/
import Derived.Test.YtcbmifaobdamhaaA31
namespace Go.Label
open Go.Theory
/-- room for the assumption k -/
def upK (k s : Nat) : Nat := 2 ^ k * (2 * (s / 2 ^ k)) + s % 2 ^ k
/-- the assumption k taken out -/
def woK (k s : Nat) : Nat := 2 ^ k * (s / 2 ^ k / 2) + s % 2 ^ k
theorem split_eq (k s : Nat) : s = 2 ^ k * (s / 2 ^ k) + s % 2 ^ k := (Nat.div_add_mod s (2 ^ k)).symm
theorem div_of {m c a : Nat} (hm : 0 < m) (h : a < m) : (m * c + a) / m = c := by
  rw [Nat.mul_comm, Nat.add_comm, Nat.add_mul_div_right _ _ hm, Nat.div_eq_of_lt h, Nat.zero_add]
theorem mod_of {m c a : Nat} (h : a < m) : (m * c + a) % m = a := by
  rw [Nat.mul_comm, Nat.add_comm, Nat.add_mul_mod_self_right, Nat.mod_eq_of_lt h]
theorem two_pos (k : Nat) : 0 < 2 ^ k := Nat.pow_pos (by omega)
theorem wo_up (k s : Nat) : woK k (upK k s) = s := by
  have h := Nat.mod_lt s (two_pos k)
  unfold woK upK
  rw [div_of (two_pos k) h, mod_of h, Nat.mul_div_cancel_left _ (by omega)]
  exact (split_eq k s).symm
theorem up_bit (k s j : Nat) : (upK k s).testBit j = if j < k then s.testBit j else if j = k then false else s.testBit (j - 1) := by
  have h := Nat.mod_lt s (two_pos k)
  have e : s.testBit = (2 ^ k * (s / 2 ^ k) + s % 2 ^ k).testBit := congrArg Nat.testBit (split_eq k s)
  unfold upK
  rw [Nat.testBit_two_pow_mul_add _ h, e]
  by_cases h1 : j < k
  · rw [if_pos h1, if_pos h1, Nat.testBit_two_pow_mul_add _ h, if_pos h1]
  · rw [if_neg h1, if_neg h1]
    by_cases h2 : j = k
    · rw [if_pos h2, h2, Nat.sub_self]
      simp
    · rw [if_neg h2, Nat.testBit_two_pow_mul_add _ h, if_neg (by omega)]
      obtain ⟨d, hd⟩ : ∃ d, j - k = d + 1 := ⟨j - k - 1, by omega⟩
      rw [hd, Nat.testBit_succ, Nat.mul_div_cancel_left _ (by omega), show j - 1 - k = d by omega]
theorem upK_no (k s : Nat) : (upK k s).testBit k = false := by rw [up_bit, if_neg (by omega), if_pos rfl]
theorem up_wo {k s : Nat} (h : s.testBit k = false) : upK k (woK k s) = s := by
  have hm := Nat.mod_lt s (two_pos k)
  have h2 : s / 2 ^ k % 2 = 0 := by
    have := h
    rw [Nat.testBit_eq_decide_div_mod_eq] at this
    simp at this
    omega
  unfold upK woK
  rw [div_of (two_pos k) hm, mod_of hm]
  have h3 : 2 * (s / 2 ^ k / 2) = s / 2 ^ k := by omega
  rw [h3]
  exact (split_eq k s).symm
theorem up_lt {k n s : Nat} (hk : k ≤ n) (h : s < 2 ^ n) : upK k s < 2 ^ (n + 1) := by
  have hm := Nat.mod_lt s (two_pos k)
  obtain ⟨d, rfl⟩ : ∃ d, n = k + d := ⟨n - k, by omega⟩
  rw [Nat.pow_add] at h
  have h1 : s / 2 ^ k < 2 ^ d := Nat.div_lt_of_lt_mul h
  unfold upK
  rw [show k + d + 1 = k + (d + 1) by omega, Nat.pow_add, Nat.pow_succ 2 d]
  have h2 : 2 ^ k * (2 * (s / 2 ^ k)) + 2 ^ k ≤ 2 ^ k * (2 ^ d * 2) := by
    rw [← Nat.mul_succ]
    exact Nat.mul_le_mul_left _ (by omega)
  omega
theorem wo_lt {k n s : Nat} (hk : k ≤ n) (h : s < 2 ^ (n + 1)) : woK k s < 2 ^ n := by
  have hm := Nat.mod_lt s (two_pos k)
  obtain ⟨d, rfl⟩ : ∃ d, n = k + d := ⟨n - k, by omega⟩
  rw [show k + d + 1 = k + (d + 1) by omega, Nat.pow_add] at h
  have h1 : s / 2 ^ k < 2 ^ (d + 1) := Nat.div_lt_of_lt_mul h
  rw [Nat.pow_succ] at h1
  unfold woK
  rw [Nat.pow_add]
  have h2 : 2 ^ k * (s / 2 ^ k / 2) + 2 ^ k ≤ 2 ^ k * 2 ^ d := by
    rw [← Nat.mul_succ]
    exact Nat.mul_le_mul_left _ (by omega)
  omega
theorem up_eq (k s : Nat) : upK k s = s + 2 ^ k * (s / 2 ^ k) := by
  have h := split_eq k s
  unfold upK
  have e : 2 ^ k * (2 * (s / 2 ^ k)) = 2 ^ k * (s / 2 ^ k) + 2 ^ k * (s / 2 ^ k) := by rw [Nat.two_mul, Nat.mul_add]
  omega
theorem up_mono {k s t : Nat} (h : s < t) : upK k s < upK k t := by
  rw [up_eq, up_eq]
  have h1 : s / 2 ^ k ≤ t / 2 ^ k := Nat.div_le_div_right (by omega)
  have h2 := Nat.mul_le_mul_left (2 ^ k) h1
  omega
theorem up_prt {k s t : Nat} : prt (upK k s) (upK k t) = prt s t := by
  rw [Bool.eq_iff_iff, prt_iff, prt_iff]
  constructor
  · intro h j hj
    have h1 := h (if j < k then j else j + 1)
    rw [up_bit, up_bit] at h1
    by_cases hk : j < k
    · simp only [if_pos hk] at h1
      exact h1 hj
    · simp only [if_neg hk, if_neg (show ¬ j + 1 < k by omega), if_neg (show ¬ j + 1 = k by omega), Nat.add_sub_cancel] at h1
      exact h1 hj
  · intro h j hj
    rw [up_bit] at hj ⊢
    split
    · rename_i h1
      rw [if_pos h1] at hj
      exact h j hj
    · rename_i h1
      rw [if_neg h1] at hj
      split
      · rename_i h2
        rw [if_pos h2] at hj; cases hj
      · rename_i h2
        rw [if_neg h2] at hj
        exact h _ hj
theorem popTo_upTo {k s : Nat} : ∀ {j : Nat}, j ≤ k → popTo (upK k s) j = popTo s j
  | 0, _ => rfl
  | j + 1, h => by
    have e : (upK k s).testBit j = s.testBit j := by rw [up_bit, if_pos (by omega)]
    simp only [popTo]
    rw [popTo_upTo (by omega), e]
theorem popTo_up {k s : Nat} : ∀ {d : Nat}, popTo (upK k s) (k + d + 1) = popTo s (k + d)
  | 0 => by
    simp only [Nat.add_zero, popTo]
    rw [popTo_upTo (Nat.le_refl _), upK_no]
    simp
  | d + 1 => by
    have ih := popTo_up (k := k) (s := s) (d := d)
    have e1 : popTo (upK k s) (k + (d + 1) + 1) = popTo (upK k s) (k + d + 1) + if (upK k s).testBit (k + d + 1) then 1 else 0 := rfl
    have e2 : popTo s (k + (d + 1)) = popTo s (k + d) + if s.testBit (k + d) then 1 else 0 := rfl
    have e3 : (upK k s).testBit (k + d + 1) = s.testBit (k + d) := by rw [up_bit, if_neg (by omega), if_neg (by omega), Nat.add_sub_cancel]
    rw [e1, e2, ih, e3]
theorem pop_up {k s : Nat} (hk : k < 16) (hs : s < 2 ^ 15) : pop (upK k s) = pop s := by
  unfold pop
  have h := popTo_up (k := k) (s := s) (d := 15 - k)
  rw [show k + (15 - k) + 1 = 16 by omega, show k + (15 - k) = 15 by omega] at h
  rw [h]
  show _ = popTo s 15 + if s.testBit 15 then 1 else 0
  rw [Nat.testBit_lt_two_pow hs]
  simp
theorem sorted_ext : ∀ {l l' : List Nat}, l.Pairwise (· < ·) → l'.Pairwise (· < ·) → (∀ x, x ∈ l ↔ x ∈ l') → l = l'
  | [], [], _, _, _ => rfl
  | [], b :: _, _, _, h => absurd ((h b).2 (by simp)) (by simp)
  | a :: _, [], _, _, h => absurd ((h a).1 (by simp)) (by simp)
  | a :: l, b :: l', h1, h2, h => by
    rw [List.pairwise_cons] at h1 h2
    have hab : a = b := by
      have ha := (h a).1 (by simp)
      have hb := (h b).2 (by simp)
      rcases List.mem_cons.1 ha with ha | ha
      · exact ha
      · rcases List.mem_cons.1 hb with hb | hb
        · exact hb.symm
        · have := h2.1 a ha; have := h1.1 b hb; omega
    subst hab
    congr 1
    refine sorted_ext h1.2 h2.2 fun x => ⟨fun hx => ?_, fun hx => ?_⟩
    · rcases List.mem_cons.1 ((h x).1 (by simp [hx])) with e | e
      · have := h1.1 x hx; omega
      · exact e
    · rcases List.mem_cons.1 ((h x).2 (by simp [hx])) with e | e
      · have := h2.1 x hx; omega
      · exact e
def noK (k : Nat) (t : Nat) : Bool := !t.testBit k
theorem range_up {k n : Nat} (hk : k ≤ n) : (List.range (2 ^ (n + 1))).filter (noK k) = (List.range (2 ^ n)).map (upK k) := by
  refine sorted_ext ?_ ?_ fun x => ?_
  · exact List.Pairwise.sublist List.filter_sublist List.pairwise_lt_range
  · rw [List.pairwise_map]
    exact List.pairwise_lt_range.imp fun h => up_mono h
  · rw [List.mem_filter, List.mem_range, List.mem_map]
    constructor
    · rintro ⟨h1, h2⟩
      unfold noK at h2
      exact ⟨woK k x, List.mem_range.2 (wo_lt hk h1), up_wo (by simpa using h2)⟩
    · rintro ⟨s, hs, rfl⟩
      exact ⟨up_lt hk (List.mem_range.1 hs), by unfold noK; rw [upK_no]; rfl⟩
theorem lay_nat (n c : Nat) : (lay n c (2 ^ n)).map (·.1) = (List.range (2 ^ n)).filter fun s => decide (pop s = c) := by
  have : ∀ m, m ≤ 2 ^ n → (lay n c m).map (·.1) = (List.range m).filter fun s => decide (pop s = c) := fun m => by
    induction m with
    | zero => intro _; simp [lay]
    | succ m ih =>
      intro hm
      rw [List.range_succ, List.filter_append]
      by_cases h : pop m = c
      · rw [lay_yes (by omega) h, List.map_append, ih (by omega)]
        simp [h]
      · rw [lay_no h, ih (by omega)]
        simp [h]
  exact this _ (Nat.le_refl _)
theorem ords_up {k n : Nat} (hk : k ≤ n) (hn : n ≤ 15) : ∀ c, ((ords (n + 1) c).map (·.1)).filter (noK k) = ((ords n c).map (·.1)).map (upK k)
  | 0 => by simp [ords]
  | c + 1 => by
    rw [ords_succ, ords_succ, List.map_append, List.map_append, List.filter_append, List.map_append, ords_up hk hn c, lay_nat, lay_nat]
    congr 1
    rw [List.filter_filter]
    have e : (fun s => noK k s && decide (pop s = c)) = fun s => decide (pop s = c) && noK k s := by funext s; rw [Bool.and_comm]
    rw [e, ← List.filter_filter, range_up hk, List.filter_map]
    congr 1
    refine List.filter_congr fun s hs => ?_
    show decide (pop (upK k s) = c) = decide (pop s = c)
    rw [pop_up (by omega) (Nat.lt_of_lt_of_le (List.mem_range.1 hs) (Nat.pow_le_pow_right (by omega) hn))]
theorem ordL_up {k n : Nat} (hk : k ≤ n) (hn : n ≤ 15) : (ordL (n + 1)).filter (noK k) = (ordL n).map (upK k) := by
  unfold ordL
  rw [ords_up hk hn, ords_succ n (n + 1), List.map_append, List.map_append]
  have e : (lay n (n + 1) (2 ^ n)).map (·.1) = [] := by
    rw [lay_nat, List.filter_eq_nil_iff]
    intro s hs
    have := pop_le (List.mem_range.1 hs)
    simp; omega
  rw [e]
  simp
/-- the base without its assumption k -/
def lessK (b : Lg) (k : Nat) : Lg := ⟨b.facts, b.assume.take k ++ b.assume.drop (k + 1), b.rules⟩
theorem less_len {b : Lg} {k : Nat} (hk : k < b.assume.length) : (lessK b k).assume.length + 1 = b.assume.length := by
  show (b.assume.take k ++ b.assume.drop (k + 1)).length + 1 = _
  rw [List.length_append, List.length_take, List.length_drop]
  omega
theorem less_get {b : Lg} {k : Nat} (hk : k < b.assume.length) (j : Nat) : (lessK b k).assume[j]? = b.assume[if j < k then j else j + 1]? := by
  show (b.assume.take k ++ b.assume.drop (k + 1))[j]? = _
  have hl : (b.assume.take k).length = k := by rw [List.length_take]; omega
  by_cases h : j < k
  · rw [if_pos h, List.getElem?_append_left (by omega), List.getElem?_take_of_lt h]
  · rw [if_neg h, List.getElem?_append_right (by omega), hl, List.getElem?_drop]
    congr 1
    omega
theorem less_getD {b : Lg} {k : Nat} (hk : k < b.assume.length) (j : Nat) : (lessK b k).assume.getD j 0 = b.assume.getD (if j < k then j else j + 1) 0 := by
  rw [List.getD_eq_getElem?_getD, List.getD_eq_getElem?_getD, less_get hk]
theorem ok_lt {b : Lg} (ok : Ok b) : ∀ {d i : Nat} (h : i + (d + 1) < b.assume.length), b.assume[i]'(by omega) < b.assume[i + (d + 1)]
  | 0, i, h => ok.up i h
  | d + 1, i, h => by
    have h1 := ok_lt ok (d := d) (i := i) (by omega)
    have h2 := ok.up (i + (d + 1)) h
    exact Int.lt_trans h1 h2
theorem less_ok {b : Lg} (ok : Ok b) {k : Nat} (hk : k < b.assume.length) : Ok (lessK b k) := by
  have hl := less_len hk
  have h16 := ok.a16
  refine ⟨ok.f0, ok.f64, by omega, ok.r64, ok.long, fun a ha => ?_, fun i hi => ?_, ok.head, ok.body⟩
  · refine ok.asm a ?_
    rcases List.mem_append.1 (show a ∈ b.assume.take k ++ b.assume.drop (k + 1) from ha) with h | h
    · exact List.mem_of_mem_take h
    · exact List.mem_of_mem_drop h
  · have e1 := less_get hk i
    have e2 := less_get hk (i + 1)
    have i1 : (if i < k then i else i + 1) < b.assume.length := by split <;> omega
    have i2 : (if i + 1 < k then i + 1 else i + 1 + 1) < b.assume.length := by split <;> omega
    rw [List.getElem?_eq_getElem (by omega), List.getElem?_eq_getElem i1] at e1
    rw [List.getElem?_eq_getElem hi, List.getElem?_eq_getElem i2] at e2
    injection e1 with e1
    injection e2 with e2
    rw [e1, e2]
    obtain ⟨d, hd⟩ : ∃ d, (if i + 1 < k then i + 1 else i + 1 + 1) = (if i < k then i else i + 1) + (d + 1) := by
      by_cases h1 : i + 1 < k
      · exact ⟨0, by rw [if_pos h1, if_pos (by omega)]⟩
      · by_cases h2 : i < k
        · exact ⟨1, by rw [if_neg h1, if_pos h2]⟩
        · exact ⟨0, by rw [if_neg h1, if_neg h2]⟩
    have := ok_lt ok (d := d) (i := if i < k then i else i + 1) (by omega)
    simpa only [hd] using this
theorem less_der {b : Lg} {k : Nat} (hk : k < b.assume.length) {s f : Nat} : Der (lessK b k) s f ↔ Der b (upK k s) f := by
  have hl := less_len hk
  constructor
  · intro h
    induction h with
    | asm j h1 h2 =>
      rw [less_getD hk]
      refine Der.asm (b := b) _ (by split <;> omega) ?_
      rw [up_bit]
      by_cases h : j < k
      · rw [if_pos h, if_pos h]; exact h2
      · rw [if_neg h, if_neg (by omega), if_neg (by omega), Nat.add_sub_cancel]; exact h2
    | rule r hr h0 _ ih => exact Der.rule (b := b) r hr h0 ih
  · intro h
    induction h with
    | asm j h1 h2 =>
      rw [up_bit] at h2
      by_cases h : j < k
      · rw [if_pos h] at h2
        have := Der.asm (b := lessK b k) j (by omega) h2
        rwa [less_getD hk, if_pos h] at this
      · rw [if_neg h] at h2
        by_cases h3 : j = k
        · rw [if_pos h3] at h2; cases h2
        · rw [if_neg h3] at h2
          have := Der.asm (b := lessK b k) (j - 1) (by omega) h2
          rwa [less_getD hk, if_neg (by omega), Nat.sub_add_cancel (by omega)] at this
    | rule r hr h0 _ ih => exact Der.rule (b := lessK b k) r hr h0 ih
theorem less_fol {b : Lg} (ok : Ok b) {k : Nat} (hk : k < b.assume.length) (s : Nat) : fol (lessK b k) s = fol b (upK k s) := by
  refine Nat.eq_of_testBit_eq fun f => ?_
  rw [Bool.eq_iff_iff, fol_der (less_ok ok hk), fol_der ok]
  exact less_der hk
theorem less_bad {b : Lg} (ok : Ok b) {k : Nat} (hk : k < b.assume.length) (s : Nat) : badS (lessK b k) s = badS b (upK k s) := by
  unfold badS
  rw [less_fol ok hk]
  rfl
/-- lists of sets, with and without room for k -/
def Up (k : Nat) (A A' : List Nat) : Prop := A.filter (noK k) = A'.map (upK k)
theorem up_any {k : Nat} {A A' : List Nat} (h : Up k A A') (s : Nat) : (A.any fun x => prt x (upK k s)) = A'.any fun x => prt x s := by
  rw [Bool.eq_iff_iff, List.any_eq_true, List.any_eq_true]
  constructor
  · rintro ⟨t, ht, hp⟩
    have hn : noK k t = true := by
      unfold noK
      cases hb : t.testBit k with
      | false => rfl
      | true =>
        have := prt_iff.1 hp k hb
        rw [upK_no] at this; cases this
    have h1 : t ∈ A.filter (noK k) := List.mem_filter.2 ⟨ht, hn⟩
    rw [h] at h1
    obtain ⟨t', h2, rfl⟩ := List.mem_map.1 h1
    exact ⟨t', h2, by rwa [up_prt] at hp⟩
  · rintro ⟨t, ht, hp⟩
    have h1 : upK k t ∈ A.filter (noK k) := by rw [h]; exact List.mem_map.2 ⟨t, ht, rfl⟩
    exact ⟨_, (List.mem_filter.1 h1).1, by rw [up_prt]; exact hp⟩
theorem up_snoc {k : Nat} {A A' : List Nat} (h : Up k A A') (s : Nat) : Up k (A ++ [upK k s]) (A' ++ [s]) := by
  unfold Up at h ⊢
  rw [List.filter_append, List.map_append, h]
  congr 1
  simp [noK, upK_no]
theorem up_skip {k : Nat} {A A' : List Nat} (h : Up k A A') {s : Nat} (hs : noK k s = false) : Up k (A ++ [s]) A' := by
  unfold Up at h ⊢
  rw [List.filter_append, h]
  simp [hs]
def UpS (k : Nat) (S S' : LS) : Prop := (∀ f, Up k (S.lab f) (S'.lab f)) ∧ Up k S.bad S'.bad
theorem less_step {b : Lg} (ok : Ok b) {k : Nat} (hk : k < b.assume.length) {S S' : LS} (h : UpS k S S') (s : Nat) : UpS k (lstep b S (upK k s)) (lstep (lessK b k) S' s) := by
  unfold lstep
  rw [up_any h.2, less_bad ok hk, less_fol ok hk]
  split
  · exact h
  · split
    · exact ⟨h.1, up_snoc h.2 s⟩
    · refine ⟨fun f => ?_, h.2⟩
      show Up k (upd (fol b (upK k s)) (upK k s) f (S.lab f)) (upd (fol b (upK k s)) s f (S'.lab f))
      unfold upd
      rw [up_any (h.1 f)]
      split
      · exact up_snoc (h.1 f) s
      · exact h.1 f
theorem skip_step {b : Lg} {k : Nat} {S S' : LS} (h : UpS k S S') {s : Nat} (hs : noK k s = false) : UpS k (lstep b S s) S' := by
  unfold lstep
  split
  · exact h
  · split
    · exact ⟨h.1, up_skip h.2 hs⟩
    · refine ⟨fun f => ?_, h.2⟩
      show Up k (upd (fol b s) s f (S.lab f)) (S'.lab f)
      unfold upd
      split
      · exact up_skip (h.1 f) hs
      · exact h.1 f
theorem less_fold {b : Lg} (ok : Ok b) {k : Nat} (hk : k < b.assume.length) : ∀ (l l' : List Nat) (S S' : LS), UpS k S S' → Up k l l' → UpS k (l.foldl (lstep b) S) (l'.foldl (lstep (lessK b k)) S')
  | [], l', S, S', h, hl => by
    have : l' = [] := by
      unfold Up at hl
      exact List.map_eq_nil_iff.1 hl.symm
    subst this
    exact h
  | s :: r, l', S, S', h, hl => by
    unfold Up at hl
    by_cases hs : noK k s = true
    · rw [List.filter_cons_of_pos hs] at hl
      match l', hl with
      | s' :: r', hl =>
        rw [List.map_cons] at hl
        injection hl with h1 h2
        subst h1
        exact less_fold ok hk r r' _ _ (less_step ok hk h s') h2
    · rw [List.filter_cons_of_neg hs] at hl
      exact less_fold ok hk r l' _ _ (skip_step h (by simpa using hs)) hl
theorem less_labs {b : Lg} (ok : Ok b) {k : Nat} (hk : k < b.assume.length) : UpS k (labs b) (labs (lessK b k)) := by
  have hl := less_len hk
  have h16 := ok.a16
  unfold labs lfold
  refine less_fold ok hk _ _ _ _ ⟨fun f => rfl, rfl⟩ ?_
  unfold Up
  rw [← hl]
  exact ordL_up (by omega) (by omega)
/-- the sets without k, the assumptions above it moved down -/
def withoutK (k : Nat) (l : List Nat) : List Nat := (l.filter (noK k)).map (woK k)
theorem without_up {k : Nat} {A A' : List Nat} (h : Up k A A') : withoutK k A = A' := by
  unfold withoutK
  rw [show A.filter (noK k) = A'.map (upK k) from h, List.map_map]
  have : (woK k ∘ upK k) = id := by funext s; exact wo_up k s
  rw [this, List.map_id]
theorem up_rests {k : Nat} {A A' : List Nat} (h : Up k A A') : (!A.isEmpty && A.all fun s => s.testBit k) = (decide (0 < A.length) && decide (A'.length = 0)) := by
  have hl : (A.filter (noK k)).length = A'.length := by rw [show A.filter (noK k) = A'.map (upK k) from h, List.length_map]
  cases A with
  | nil => simp
  | cons a A =>
    simp only [List.isEmpty_cons, Bool.not_false, Bool.true_and, List.length_cons, Nat.zero_lt_succ, decide_true]
    rw [Bool.eq_iff_iff, List.all_eq_true, decide_eq_true_eq, ← hl, List.length_eq_zero_iff, List.filter_eq_nil_iff]
    constructor
    · intro h1 x hx
      unfold noK
      rw [h1 x hx]; simp
    · intro h1 x hx
      have := h1 x hx
      unfold noK at this
      simpa using this
end Go.Label

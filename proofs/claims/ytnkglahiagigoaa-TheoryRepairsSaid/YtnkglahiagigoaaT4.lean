/- theory, in plain words: least conflicts and least repairs. -/
import Derived.Test.YtnkglahiagigoaaT2
import Derived.Test.YtnkglahiagigoaaPp
namespace Go.Theory
open Go.RowKit Go.Own Go.Ib
theorem sub_anti' {a b : Nat} (ha : a < 65536) (hb : b < 65536) (h : sub a b = true) (k : sub b a = true) : a = b := by
  refine Nat.eq_of_testBit_eq fun j => ?_
  have h1 := (sub_bits ha hb).1 h j
  have h2 := (sub_bits hb ha).1 k j
  cases hx : a.testBit j with
  | true => rw [h1 hx]
  | false =>
    cases hy : b.testBit j with
    | false => rfl
    | true => rw [h2 hy] at hx; cases hx
/-- fewer first, then lesser -/
def ltS (x y : Nat) : Bool := decide (pop x < pop y ∨ (pop x = pop y ∧ x < y))
theorem pop_sub {x y : Nat} (hx : x < 65536) (hy : y < 65536) (h : sub x y = true) (hne : x ≠ y) : pop x < pop y := by
  have hb := (sub_bits hx hy).1 h
  obtain ⟨k, h1, h2⟩ := bit_ne hb hne
  exact popTo_lt hb 16 ⟨k, bits_of_lt (n := 16) (by omega) h1, h1, h2⟩
/-- kept: what has no kept one as a part -/
def keepS (out : List Nat) (s : Nat) : List Nat := if out.any (fun (x : Nat) => sub x s) then out else out ++ [s]
def least (S : List Nat) : List Nat := S.foldl keepS []
theorem least_snoc (S : List Nat) (s : Nat) : least (S ++ [s]) = keepS (least S) s := by unfold least; rw [List.foldl_append]; rfl
theorem least_take {S : List Nat} {k : Nat} (h : k < S.length) : least (S.take (k + 1)) = keepS (least (S.take k)) S[k] := by
  rw [List.take_succ_eq_append_getElem h, least_snoc]
theorem least_spec (S : List Nat) : (least S).Sublist S ∧ (∀ s ∈ S, ∃ x ∈ least S, sub x s = true) ∧ (least S).Pairwise (fun (x y : Nat) => sub x y = false) := by
  refine snoc_ind (p := fun S => (least S).Sublist S ∧ (∀ s ∈ S, ∃ x ∈ least S, sub x s = true) ∧ (least S).Pairwise (fun (x y : Nat) => sub x y = false)) ⟨List.Sublist.refl _, fun s h => absurd h (by simp), List.Pairwise.nil⟩ (fun S s ih => ?_) S
  obtain ⟨h1, h2, h3⟩ := ih
  rw [least_snoc]
  unfold keepS
  by_cases hc : (least S).any (fun (x : Nat) => sub x s) = true
  · rw [if_pos hc]
    refine ⟨h1.trans (List.sublist_append_left _ _), fun t ht => ?_, h3⟩
    rcases List.mem_append.1 ht with ht | ht
    · exact h2 t ht
    · simp at ht; subst ht
      obtain ⟨x, hx, hs⟩ := List.any_eq_true.1 hc
      exact ⟨x, hx, hs⟩
  · rw [if_neg hc]
    refine ⟨h1.append (List.Sublist.refl _), fun t ht => ?_, ?_⟩
    · rcases List.mem_append.1 ht with ht | ht
      · obtain ⟨x, hx, hs⟩ := h2 t ht
        exact ⟨x, by simp [hx], hs⟩
      · simp at ht; subst ht
        exact ⟨_, by simp, sub_self _⟩
    · rw [List.pairwise_append]
      refine ⟨h3, by simp, fun x hx y hy => ?_⟩
      simp at hy; subst hy
      cases hs : sub x y with
      | false => rfl
      | true => exact absurd (List.any_eq_true.2 ⟨x, hx, hs⟩) hc
/-- the least ones of a list: of them, below each, none a part of another -/
structure IsLeast (l L : List Nat) : Prop where
  mem : ∀ x ∈ L, x ∈ l
  low : ∀ s ∈ l, ∃ x ∈ L, sub x s = true
  anti : ∀ x ∈ L, ∀ y ∈ L, sub x y = true → x = y
  nodup : L.Nodup
theorem pair_get {α : Type} {R : α → α → Prop} {L : List α} (h : L.Pairwise R) {i j : Nat} (hi : i < L.length) (hj : j < L.length) (hij : i < j) : R L[i] L[j] := List.pairwise_iff_getElem.1 h i j hi hj hij
theorem least_is {l S : List Nat} (hp : S.Perm l) (hs : S.Pairwise (fun (x y : Nat) => ltS y x = false)) (hb : ∀ x ∈ l, x < 65536) : IsLeast l (least S) := by
  obtain ⟨h1, h2, h3⟩ := least_spec S
  have h4 := hs.sublist h1
  have hb' : ∀ x ∈ least S, x < 65536 := fun x hx => hb x (hp.subset (h1.subset hx))
  refine ⟨fun x hx => hp.subset (h1.subset hx), fun s hs => h2 s (hp.symm.subset hs), fun x hx y hy hxy => ?_, ?_⟩
  · apply Classical.byContradiction
    intro hne
    obtain ⟨i, hi, rfl⟩ := List.getElem_of_mem hx
    obtain ⟨j, hj, rfl⟩ := List.getElem_of_mem hy
    have hij : i ≠ j := fun e => hne (by subst e; rfl)
    by_cases hlt : i < j
    · have := pair_get h3 hi hj hlt
      rw [this] at hxy; cases hxy
    · have := pair_get h4 hj hi (by omega)
      have hp := pop_sub (hb' _ hx) (hb' _ hy) hxy hne
      unfold ltS at this
      have := of_decide_eq_false this
      exact this (.inl hp)
  · unfold List.Nodup
    refine h3.imp fun {x y} h e => ?_
    subst e
    rw [sub_self] at h; cases h
def ints (l : List Nat) : List Int := l.map fun (j : Nat) => (j : Int)
theorem cl_ints {l : List Nat} {s : Nat} : cl (ints l) s = l.any fun (c : Nat) => sub c s := by
  unfold cl ints
  rw [List.any_map]; rfl
theorem cl_least {l L : List Nat} (h : IsLeast l L) (s : Nat) : cl (ints L) s = cl (ints l) s := by
  rw [cl_ints, cl_ints]
  cases hl : l.any (fun (c : Nat) => sub c s) with
  | true =>
    obtain ⟨c, hc, hs⟩ := List.any_eq_true.1 hl
    obtain ⟨x, hx, hxc⟩ := h.low c hc
    exact List.any_eq_true.2 ⟨x, hx, sub_trans hxc hs⟩
  | false =>
    rw [List.any_eq_false] at hl ⊢
    exact fun x hx => hl x (h.mem x hx)
theorem fst_iff {l l' : List Int} {s : Nat} (h : cl l s = cl l' s) : (0 ≤ fst l s ↔ 0 ≤ fst l' s) := by
  rw [cl_fst, cl_fst, decide_eq_decide] at h; exact h
/-- The theories hang on what contains a conflict alone. -/
theorem theories_cl {n may : Nat} {l l' : List Int} (h : ∀ s : Nat, cl l s = cl l' s) : theories n may l = theories n may l' := by
  unfold theories theoriesTo
  refine List.filter_congr fun s _ => ?_
  rw [decide_eq_decide]
  unfold theory
  have h1 := fst_iff (h s)
  constructor
  · rintro ⟨a, b, c⟩
    exact ⟨a, by omega, fun k hk h2 h3 => (fst_iff (h _)).1 (c k hk h2 h3)⟩
  · rintro ⟨a, b, c⟩
    exact ⟨a, by omega, fun k hk h2 h3 => (fst_iff (h _)).2 (c k hk h2 h3)⟩
/-- What is left of may without the least conflicts within it. -/
def strike (may : Nat) (L : List Nat) : Nat := L.foldl (fun (w x : Nat) => if sub x may then diff w x else w) may
theorem strike_snoc (may : Nat) (L : List Nat) (x : Nat) : strike may (L ++ [x]) = if sub x may then diff (strike may L) x else strike may L := by unfold strike; rw [List.foldl_append]; rfl
theorem strike_take {may : Nat} {L : List Nat} {k : Nat} (h : k < L.length) : strike may (L.take (k + 1)) = if sub L[k] may then diff (strike may (L.take k)) L[k] else strike may (L.take k) := by
  rw [List.take_succ_eq_append_getElem h, strike_snoc]
theorem strike_spec {may : Nat} (hm : may < 65536) (L : List Nat) : strike may L ≤ may ∧ ∀ k, (strike may L).testBit k = true ↔ may.testBit k = true ∧ ∀ (x : Nat), x ∈ L → sub x may = true → x.testBit k = false := by
  refine snoc_ind (p := fun L => strike may L ≤ may ∧ ∀ k, (strike may L).testBit k = true ↔ may.testBit k = true ∧ ∀ (x : Nat), x ∈ L → sub x may = true → x.testBit k = false) ⟨Nat.le_refl _, fun k => ⟨fun h => ⟨h, fun x hx => absurd hx (by simp)⟩, fun h => h.1⟩⟩ (fun L x ih => ?_) L
  obtain ⟨i1, i2⟩ := ih
  rw [strike_snoc]
  by_cases hx : sub x may = true
  · rw [if_pos hx]
    refine ⟨Nat.le_trans (diff_le _ _) i1, fun k => ?_⟩
    rw [diff_bit _ _ _ (by omega), Bool.and_eq_true, i2]
    constructor
    · rintro ⟨⟨h1, h2⟩, h3⟩
      refine ⟨h1, fun y hy hs => ?_⟩
      rcases List.mem_append.1 hy with hy | hy
      · exact h2 y hy hs
      · simp at hy; subst hy; simpa using h3
    · rintro ⟨h1, h2⟩
      exact ⟨⟨h1, fun y hy hs => h2 y (by simp [hy]) hs⟩, by simpa using h2 x (by simp) hx⟩
  · rw [if_neg hx]
    refine ⟨i1, fun k => ?_⟩
    rw [i2]
    constructor
    · rintro ⟨h1, h2⟩
      refine ⟨h1, fun y hy hs => ?_⟩
      rcases List.mem_append.1 hy with hy | hy
      · exact h2 y hy hs
      · simp at hy; subst hy; exact absurd hs hx
    · rintro ⟨h1, h2⟩
      exact ⟨h1, fun y hy hs => h2 y (by simp [hy]) hs⟩
theorem cmn_nat (T : List Nat) (h : ∀ t ∈ T, t < 65536) : ∀ k, k < T.length → ∃ c : Nat, cmn (ints T) k = (c : Int) ∧ c < 65536 ∧ ∀ j, c.testBit j = true ↔ ∀ i (hi : i < T.length), i ≤ k → (T[i]).testBit j = true
  | 0, hk => by
    refine ⟨T[0], by simp [cmn, ints, hk], h _ (List.getElem_mem hk), fun j => ⟨fun hj i hi hle => ?_, fun hj => hj 0 hk (Nat.le_refl _)⟩⟩
    obtain rfl : i = 0 := by omega
    exact hj
  | k + 1, hk => by
    obtain ⟨c, h1, h2, h3⟩ := cmn_nat T h k (by omega)
    have hx := h _ (List.getElem_mem hk)
    refine ⟨c &&& T[k + 1], ?_, Nat.lt_of_le_of_lt Nat.and_le_left h2, fun j => ?_⟩
    · simp only [cmn, h1]
      rw [show (ints T).getD (k + 1) 0 = ((T[k + 1] : Nat) : Int) by simp [ints, hk], b_and c _ (by omega) (by omega)]
    · rw [Nat.testBit_and, Bool.and_eq_true, h3]
      constructor
      · rintro ⟨a, b⟩ i hi hle
        by_cases e : i = k + 1
        · subst e; exact b
        · exact a i hi (by omega)
      · intro a
        exact ⟨fun i hi hle => a i hi (by omega), a (k + 1) hk (Nat.le_refl _)⟩
/-- What all theories have: what is in no least conflict within may. -/
theorem common_law {n may : Nat} {l L : List Nat} (hv : valid n may (ints l)) (h : IsLeast l L) : common (ints (theories n may (ints l))) = ((strike may L : Nat) : Int) := by
  obtain ⟨hn, hm, _, hc⟩ := valid_nat hv
  have hp := pow16 hn
  have hlb : ∀ c ∈ l, c < 2 ^ n := fun c hcl => by have := hc c (List.mem_map.2 ⟨c, hcl, rfl⟩); omega
  have hne := theories_ne hv
  have hT0 : 0 < (theories n may (ints l)).length := List.length_pos_iff.2 hne
  obtain ⟨c, h1, h2, h3⟩ := cmn_nat (theories n may (ints l)) (fun t ht => by have := theories_lt ht; omega) ((theories n may (ints l)).length - 1) (by omega)
  have hcom : common (ints (theories n may (ints l))) = c := by
    unfold common
    rw [show (ints (theories n may (ints l))).length = (theories n may (ints l)).length by simp [ints], if_neg (by omega), h1]
  rw [hcom]
  obtain ⟨s1, s2⟩ := strike_spec (by omega : may < 65536) L
  congr 1
  refine Nat.eq_of_testBit_eq fun k => ?_
  rw [Bool.eq_iff_iff, s2, h3]
  have hall : (∀ i (hi : i < (theories n may (ints l)).length), i ≤ (theories n may (ints l)).length - 1 → ((theories n may (ints l))[i]).testBit k = true) ↔ ∀ t ∈ theories n may (ints l), t.testBit k = true := by
    constructor
    · intro a t ht
      obtain ⟨i, hi, rfl⟩ := List.getElem_of_mem ht
      exact a i hi (by omega)
    · intro a i hi _
      exact a _ (List.getElem_mem hi)
  rw [hall]
  constructor
  · intro a
    obtain ⟨t0, ht0⟩ := List.exists_mem_of_ne_nil _ hne
    have hk0 := a t0 ht0
    have hmk : may.testBit k = true := (sub_bits (by have := theories_lt ht0; omega) (by omega)).1 (theories_thy ht0).1 k hk0
    refine ⟨hmk, fun x hx hs => ?_⟩
    cases hxk : x.testBit k with
    | false => rfl
    | true =>
      exfalso
      have hxl := hlb x (h.mem x hx)
      have hd : diff x (2 ^ k) < 2 ^ n := Nat.lt_of_le_of_lt (diff_le _ _) hxl
      have hdx : sub (diff x (2 ^ k) : Nat) x = true := (sub_bits (by omega) (by omega)).2 fun j hj => by
        rw [diff_bit _ _ _ (by omega), Bool.and_eq_true] at hj; exact hj.1
      have hcd : cl (ints l) (diff x (2 ^ k)) = false := by
        cases hq : cl (ints l) (diff x (2 ^ k)) with
        | false => rfl
        | true =>
          rw [cl_ints] at hq
          obtain ⟨y, hy, hys⟩ := List.any_eq_true.1 hq
          obtain ⟨z, hz, hzy⟩ := h.low y hy
          have hzd := sub_trans hzy hys
          have e := h.anti z hz x hx (sub_trans hzd hdx)
          subst e
          have hkd := (sub_bits (by omega) (by omega)).1 hzd k hxk
          rw [diff_bit _ _ _ (by omega), Nat.testBit_two_pow] at hkd
          simp at hkd
      obtain ⟨t, ht, hst⟩ := in_theory (l := ints l) hn hm (sub_trans hdx hs) hd hcd
      have htl := theories_lt ht
      have hxt : sub x t = true := (sub_bits (by omega) (by omega)).2 fun j hj => by
        by_cases e : k = j
        · subst e; exact a t ht
        · refine (sub_bits (by omega) (by omega)).1 hst j ?_
          rw [diff_bit _ _ _ (by omega), Nat.testBit_two_pow, hj]
          simp [e]
      have : cl (ints l) t = true := by rw [cl_ints]; exact List.any_eq_true.2 ⟨x, h.mem x hx, hxt⟩
      rw [cl_false (theories_thy ht).2.1] at this
      cases this
  · rintro ⟨hmk, hno⟩ t ht
    have htl := theories_lt ht
    have hth := theories_thy ht
    cases htk : t.testBit k with
    | true => rfl
    | false =>
      exfalso
      have hk : k < n := bits_of_lt hm hmk
      have h5 := hth.2.2 k hk hmk htk
      have h6 : cl (ints l) (t ||| 2 ^ k) = true := by rw [cl_fst]; exact decide_eq_true h5
      rw [← cl_least h, cl_ints] at h6
      obtain ⟨y, hy, hys⟩ := List.any_eq_true.1 h6
      have hyl := hlb y (h.mem y hy)
      have ht3 : t ||| 2 ^ k < 2 ^ n := Nat.or_lt_two_pow htl (Nat.pow_lt_pow_right (by decide) hk)
      have hyb := (sub_bits (by omega) (by omega)).1 hys
      have hym : sub y may = true := (sub_bits (by omega) (by omega)).2 fun j hj => by
        have := hyb j hj
        rw [Nat.testBit_or, Nat.testBit_two_pow] at this
        by_cases e : k = j
        · subst e; exact hmk
        · simp [e] at this; exact (sub_bits (by omega) (by omega)).1 hth.1 j this
      have hyk := hno y hy hym
      have hyt : sub y t = true := (sub_bits (by omega) (by omega)).2 fun j hj => by
        have := hyb j hj
        rw [Nat.testBit_or, Nat.testBit_two_pow] at this
        by_cases e : k = j
        · subst e; rw [hyk] at hj; cases hj
        · simp [e] at this; exact this
      have : cl (ints l) t = true := by rw [cl_ints]; exact List.any_eq_true.2 ⟨y, h.mem y hy, hyt⟩
      rw [cl_false hth.2.1] at this
      cases this
end Go.Theory

/- theory, in plain words: the law Heaviest. -/
import Derived.Test.YtnkglahiagigoaaT2
import Derived.Test.YtnkglahiagigoaaT1
namespace Go.Theory
open Go.RowKit Go.Own Go.Ib
theorem pbest_spec (f : Nat → Int) (T : List Nat) : (∀ t ∈ T, 0 ≤ f t) → (T = [] ∧ pbest f T = (0, -1)) ∨ ((pbest f T).1 ∈ T ∧ (pbest f T).2 = f (pbest f T).1 ∧ ∀ t ∈ T, f t ≤ (pbest f T).2) := by
  refine snoc_ind (p := fun T => (∀ t ∈ T, 0 ≤ f t) → (T = [] ∧ pbest f T = (0, -1)) ∨ ((pbest f T).1 ∈ T ∧ (pbest f T).2 = f (pbest f T).1 ∧ ∀ t ∈ T, f t ≤ (pbest f T).2)) (fun _ => .inl ⟨rfl, rfl⟩) (fun T x ih h0 => .inr ?_) T
  have hx : 0 ≤ f x := h0 x (by simp)
  rw [pbest_snoc]
  unfold bstep
  rcases ih (fun t ht => h0 t (by simp [ht])) with ⟨rfl, e⟩ | ⟨h1, h2, h3⟩
  · rw [e, if_pos (by show (-1 : Int) < f x; omega)]
    refine ⟨by simp, rfl, fun t ht => ?_⟩
    simp at ht; subst ht; exact Int.le_refl _
  · by_cases hlt : (pbest f T).2 < f x
    · rw [if_pos hlt]
      refine ⟨by simp, rfl, fun t ht => ?_⟩
      rcases List.mem_append.1 ht with ht | ht
      · have := h3 t ht; show f t ≤ f x; omega
      · simp at ht; subst ht; exact Int.le_refl _
    · rw [if_neg hlt]
      refine ⟨by simp [h1], h2, fun t ht => ?_⟩
      rcases List.mem_append.1 ht with ht | ht
      · exact h3 t ht
      · simp at ht; subst ht; omega
theorem wsum_incl (wl : List Int) (a b : Nat) : ∀ k, wsum wl (a ||| b) k + wsum wl (a &&& b) k = wsum wl a k + wsum wl b k
  | 0 => rfl
  | k + 1 => by
    have ih := wsum_incl wl a b k
    simp only [wsum, Nat.testBit_or, Nat.testBit_and]
    cases ha : a.testBit k <;> cases hb : b.testBit k <;> simp only [Bool.or_true, Bool.true_or, Bool.or_false, Bool.false_or, Bool.and_true, Bool.and_false, Bool.false_and, Bool.true_and, Bool.false_eq_true, if_false, if_true] <;> omega
theorem wsum_zero (wl : List Int) : ∀ k, wsum wl 0 k = 0
  | 0 => rfl
  | k + 1 => by simp [wsum, wsum_zero wl k]
theorem wsum_or (wl : List Int) {a b : Nat} (h : a &&& b = 0) (k : Nat) : wsum wl (a ||| b) k = wsum wl a k + wsum wl b k := by
  have := wsum_incl wl a b k
  rw [h, wsum_zero] at this
  omega
theorem wsum_mono {wl : List Int} (h : ∀ z ∈ wl, 0 ≤ z ∧ z ≤ 16384) {a b : Nat} (hs : ∀ k, a.testBit k = true → b.testBit k = true) : ∀ k, wsum wl a k ≤ wsum wl b k
  | 0 => Int.le_refl _
  | k + 1 => by
    have ih := wsum_mono h hs k
    have hk := getD_wt h k
    simp only [wsum]
    cases ha : a.testBit k with
    | true => rw [hs k ha]; simp only [if_true]; omega
    | false => cases hb : b.testBit k <;> simp only [Bool.false_eq_true, if_false, if_true] <;> omega
theorem wsum_miss {wl : List Int} (h : ∀ z ∈ wl, 0 ≤ z ∧ z ≤ 16384) (x c : Nat) : ∀ k, (∃ j, j < k ∧ c.testBit j = true ∧ x.testBit j = false) → wsum wl (x &&& c) k + wmin wl c k ≤ wsum wl c k
  | 0, ⟨j, h, _⟩ => by omega
  | k + 1, ⟨j, hj, h1, h2⟩ => by
    have hk := getD_wt h k
    have hm := wsum_mono h (a := x &&& c) (b := c) (fun k hk => by rw [Nat.testBit_and, Bool.and_eq_true] at hk; exact hk.2) k
    by_cases e : j = k
    · subst e
      simp only [wsum, wmin, Nat.testBit_and, h1, h2, Bool.false_and, if_true]
      simp only [Bool.false_eq_true, if_false]
      omega
    · have ih := wsum_miss h x c k ⟨j, by omega, h1, h2⟩
      simp only [wsum, wmin, Nat.testBit_and]
      cases hx : x.testBit k <;> cases hc : c.testBit k <;> simp only [Bool.and_true, Bool.and_false, Bool.false_and, Bool.true_and, Bool.false_eq_true, if_false, if_true] <;> omega
/-- what the conflicts have together -/
def un (l : List Int) : List Nat → Nat
  | [] => 0
  | i :: r => cnf l i ||| un l r
/-- their least weights together -/
def sw (wl l : List Int) : List Nat → Int
  | [] => 0
  | i :: r => wt wl l i + sw wl l r
/-- nothing in common -/
def apart (l : List Int) (i j : Nat) : Prop := cnf l i &&& cnf l j = 0
theorem un_apart {l : List Int} {c : Nat} : ∀ L : List Nat, (∀ j ∈ L, c &&& cnf l j = 0) → c &&& un l L = 0
  | [], _ => by simp [un]
  | i :: r, h => by
    simp only [un]
    rw [Nat.and_or_distrib_left, h i (by simp), un_apart r (fun j hj => h j (by simp [hj]))]
    rfl
theorem sw_le {wl l : List Int} (h : ∀ z ∈ wl, 0 ≤ z ∧ z ≤ 16384) (x : Nat) : ∀ L : List Nat, L.Pairwise (apart l) → (∀ i ∈ L, ∃ j, j < 16 ∧ (cnf l i).testBit j = true ∧ x.testBit j = false) → wsum wl (x &&& un l L) 16 + sw wl l L ≤ wsum wl (un l L) 16
  | [], _, _ => by simp [un, sw, wsum_zero]
  | i :: r, hp, hm => by
    obtain ⟨h1, h2⟩ := List.pairwise_cons.1 hp
    have hd := un_apart (l := l) (c := cnf l i) r (fun j hj => h1 j hj)
    have ih := sw_le h x r h2 (fun j hj => hm j (by simp [hj]))
    have hw := wsum_miss h x (cnf l i) 16 (hm i (by simp))
    simp only [un, sw]
    rw [wsum_or wl hd, Nat.and_or_distrib_left, wsum_or wl (by
      rw [Nat.and_assoc, ← Nat.and_assoc (cnf l i), Nat.and_comm (cnf l i) x, Nat.and_assoc, hd]; simp)]
    have e : wt wl l i = wmin wl (cnf l i) 16 := rfl
    omega
theorem un_bits {l : List Int} {may : Nat} : ∀ L : List Nat, (∀ i ∈ L, ∀ k, (cnf l i).testBit k = true → may.testBit k = true) → ∀ k, (un l L).testBit k = true → may.testBit k = true
  | [], _, k, h => by simp [un] at h
  | i :: r, hm, k, h => by
    simp only [un, Nat.testBit_or, Bool.or_eq_true] at h
    rcases h with h | h
    · exact hm i (by simp) k h
    · exact un_bits r (fun j hj => hm j (by simp [hj])) k h
theorem sw_bound {wl l : List Int} (h : ∀ z ∈ wl, 0 ≤ z ∧ z ≤ 16384) {x may : Nat} {L : List Nat} (hp : L.Pairwise (apart l)) (hm : ∀ i ∈ L, ∃ j, j < 16 ∧ (cnf l i).testBit j = true ∧ x.testBit j = false)
    (hx : ∀ k, x.testBit k = true → may.testBit k = true) (hu : ∀ i ∈ L, ∀ k, (cnf l i).testBit k = true → may.testBit k = true) : wsum wl x 16 + sw wl l L ≤ wsum wl may 16 := by
  have h1 := sw_le h x L hp hm
  have h2 := wsum_incl wl x (un l L) 16
  have h3 := wsum_mono h (a := x ||| un l L) (b := may) (fun k hk => by
    rw [Nat.testBit_or, Bool.or_eq_true] at hk
    rcases hk with hk | hk
    · exact hx k hk
    · exact un_bits L hu k hk) 16
  omega
theorem rrs_spec (wl l : List Int) (may : Nat) : ∀ f u, (∀ i ∈ rrs wl l may f u, i < l.length ∧ sub (l.getD i 0) may = true ∧ cnf l i &&& u = 0) ∧ (rrs wl l may f u).Pairwise (apart l)
  | 0, u => ⟨fun i h => absurd h (by simp [rrs]), by simp [rrs]⟩
  | f + 1, u => by
    have hs := pickTo_spec wl l may u l.length
    unfold rrs
    cases hq : pickTo wl l may u l.length with
    | none => exact ⟨fun i h => absurd h (by simp), by simp⟩
    | some b =>
      rw [hq] at hs
      simp only at hs ⊢
      obtain ⟨h1, h2, _⟩ := hs
      unfold cand at h2
      rw [Bool.and_eq_true, decide_eq_true_iff] at h2
      obtain ⟨i1, i2⟩ := rrs_spec wl l may f (u ||| cnf l b)
      have hz : ∀ i ∈ rrs wl l may f (u ||| cnf l b), cnf l i &&& u = 0 ∧ cnf l i &&& cnf l b = 0 := fun i hi => by
        have := (i1 i hi).2.2
        rw [Nat.and_or_distrib_left] at this
        have a1 : cnf l i &&& u ≤ (cnf l i &&& u) ||| (cnf l i &&& cnf l b) := Nat.left_le_or
        have a2 : cnf l i &&& cnf l b ≤ (cnf l i &&& u) ||| (cnf l i &&& cnf l b) := Nat.right_le_or
        exact ⟨by omega, by omega⟩
      refine ⟨fun i hi => ?_, List.pairwise_cons.2 ⟨fun j hj => ?_, i2⟩⟩
      · rcases List.mem_cons.1 hi with rfl | hi
        · exact ⟨h1, h2.1, h2.2⟩
        · exact ⟨(i1 i hi).1, (i1 i hi).2.1, (hz i hi).1⟩
      · unfold apart
        rw [Nat.and_comm]
        exact (hz j hj).2
theorem apart_symm {l : List Int} {i j : Nat} (h : apart l i j) : apart l j i := by unfold apart at *; rw [Nat.and_comm]; exact h
theorem rrs_nodup {wl l : List Int} {may : Nat} (hc : ∀ i, i < l.length → cnf l i ≠ 0) (f u : Nat) : (rrs wl l may f u).Nodup := by
  obtain ⟨h1, h2⟩ := rrs_spec wl l may f u
  unfold List.Nodup
  refine List.Pairwise.imp_of_mem (fun {i j} hi hj h => ?_) h2
  intro e
  subst e
  unfold apart at h
  rw [Nat.and_self] at h
  exact hc i (h1 i hi).1 h
theorem bndL_perm {wl l : List Int} {may : Nat} (hc : ∀ i, i < l.length → cnf l i ≠ 0) : (bndL wl l may).Perm (rrs wl l may l.length 0) := by
  refine (List.perm_ext_iff_of_nodup (List.nodup_range.filter _) (rrs_nodup hc _ _)).2 fun i => ?_
  rw [List.mem_filter, List.mem_range, decide_eq_true_iff]
  exact ⟨fun h => h.2, fun h => ⟨((rrs_spec wl l may _ _).1 i h).1, h⟩⟩
theorem bndL_mem {wl l : List Int} {may i : Nat} (h : i ∈ bndL wl l may) : i < l.length ∧ sub (l.getD i 0) may = true := by
  unfold bndL at h
  rw [List.mem_filter, decide_eq_true_iff] at h
  have := (rrs_spec wl l may _ _).1 i h.2
  exact ⟨this.1, this.2.1⟩
theorem bndL_apart {wl l : List Int} {may : Nat} (hc : ∀ i, i < l.length → cnf l i ≠ 0) : (bndL wl l may).Pairwise (apart l) :=
  ((bndL_perm (wl := wl) (may := may) hc).pairwise_iff (fun h => apart_symm h)).2 (rrs_spec wl l may _ _).2
theorem sw_perm {wl l : List Int} {A B : List Nat} (h : A.Perm B) : sw wl l A = sw wl l B := by
  induction h with
  | nil => rfl
  | cons x _ ih => simp only [sw, ih]
  | swap x y z => simp only [sw]; omega
  | trans _ _ i1 i2 => exact i1.trans i2
theorem fold_sw (wl l : List Int) : ∀ (L : List Nat) (a : Int), L.foldl (fun a i => a - wt wl l i) a = a - sw wl l L
  | [], a => by simp [sw]
  | i :: r, a => by simp only [List.foldl_cons, sw]; rw [fold_sw wl l r]; omega
theorem bndV_eq {wl l : List Int} {may : Nat} (hc : ∀ i, i < l.length → cnf l i ≠ 0) : bndV wl l may = wsum wl may 16 - sw wl l (bndL wl l may) := by
  unfold bndV
  rw [fold_sw, sw_perm (bndL_perm hc)]
theorem cnf_ne {n may : Nat} {l : List Int} (hv : valid n may l) : ∀ i, i < l.length → cnf l i ≠ 0 := fun i hi => by
  obtain ⟨_, _, _, h⟩ := valid_nat hv
  have := h _ (List.getElem_mem hi)
  unfold cnf
  rw [List.getD_eq_getElem?_getD, List.getElem?_eq_getElem hi]
  simp only [Option.getD_some]
  omega
theorem cnf_cast {n may : Nat} {l : List Int} (hv : valid n may l) {i : Nat} (hi : i < l.length) : ((cnf l i : Nat) : Int) = l[i] ∧ cnf l i < 2 ^ n := by
  obtain ⟨_, _, _, h⟩ := valid_nat hv
  have := h _ (List.getElem_mem hi)
  unfold cnf
  rw [List.getD_eq_getElem?_getD, List.getElem?_eq_getElem hi]
  simp only [Option.getD_some]
  omega
theorem cnf_getD {n may : Nat} {l : List Int} (hv : valid n may l) {i : Nat} (hi : i < l.length) : l.getD i 0 = ((cnf l i : Nat) : Int) := by
  rw [(cnf_cast hv hi).1, List.getD_eq_getElem?_getD, List.getElem?_eq_getElem hi]; rfl
/-- No consistent part of may weighs more than the bound. -/
theorem bound_ge {n may : Nat} {l wl : List Int} (hv : valid n may l) (h : ∀ z ∈ wl, 0 ≤ z ∧ z ≤ 16384) {x : Nat} (hx : sub x may = true) (hx2 : x < 2 ^ n) (hc : cl l x = false) : wsum wl x 16 ≤ bndV wl l may := by
  obtain ⟨hn, hm, _, _⟩ := valid_nat hv
  have hp := pow16 hn
  rw [bndV_eq (cnf_ne hv)]
  have := sw_bound h (x := x) (may := may) (bndL_apart (wl := wl) (may := may) (cnf_ne hv)) (fun i hi => ?_) ((sub_bits (by omega) (by omega)).1 hx) (fun i hi => ?_)
  · omega
  · obtain ⟨h1, h2⟩ := bndL_mem hi
    have hlt := (cnf_cast hv h1).2
    apply Classical.byContradiction
    intro hno
    have : sub ((cnf l i : Nat) : Int) x = true := (sub_bits (by omega) (by omega)).2 fun k hk => by
      cases hxk : x.testBit k with
      | true => rfl
      | false => exact absurd ⟨k, by have := bits_of_lt hlt hk; omega, hk, hxk⟩ hno
    have h3 : cl l x = true := by
      unfold cl
      rw [List.any_eq_true]
      exact ⟨l[i], List.getElem_mem h1, by rw [← (cnf_cast hv h1).1]; exact this⟩
    rw [hc] at h3; cases h3
  · obtain ⟨h1, h2⟩ := bndL_mem hi
    rw [cnf_getD hv h1] at h2
    exact (sub_bits (by have := (cnf_cast hv h1).2; omega) (by omega)).1 h2
/-- the least weight, begun high -/
def low20 (l : List Int) (s : Nat) : Nat → Int
  | 0 => 1048576
  | k + 1 => if s.testBit k then min (low20 l s k) (l.getD k 0) else low20 l s k
theorem low_none {l : List Int} {s : Nat} : ∀ k, (∀ j, j < k → s.testBit j = false) → low20 l s k = 1048576 ∧ wmin l s k = 16384
  | 0, _ => ⟨rfl, rfl⟩
  | k + 1, h => by
    have ih := low_none (l := l) k (fun j hj => h j (by omega))
    simp only [low20, wmin, h k (by omega)]
    simpa using ih
theorem low_eq {l : List Int} (h : ∀ z ∈ l, 0 ≤ z ∧ z ≤ 16384) {s : Nat} : ∀ k, (∃ j, j < k ∧ s.testBit j = true) → low20 l s k = wmin l s k
  | 0, ⟨j, hj, _⟩ => by omega
  | k + 1, ⟨j, hj, hb⟩ => by
    have hk := getD_wt h k
    simp only [low20, wmin]
    by_cases hex : ∃ j, j < k ∧ s.testBit j = true
    · rw [low_eq h k hex]
    · have hno : ∀ j, j < k → s.testBit j = false := fun i hi => by
        cases hq : s.testBit i with
        | false => rfl
        | true => exact absurd ⟨i, hi, hq⟩ hex
      obtain ⟨e1, e2⟩ := low_none (l := l) k hno
      have : j = k := by
        apply Classical.byContradiction
        intro hne
        exact hex ⟨j, by omega, hb⟩
      subst this
      rw [e1, e2, hb]
      simp only [if_true]
      omega
theorem low_rg {l : List Int} (h : ∀ z ∈ l, 0 ≤ z ∧ z ≤ 16384) (s : Nat) : ∀ k, 0 ≤ low20 l s k ∧ low20 l s k ≤ 1048576
  | 0 => by simp [low20]
  | k + 1 => by
    have := low_rg h s k
    have := getD_wt h k
    simp only [low20]
    split <;> omega
theorem low_wt {n may : Nat} {l wl : List Int} (hv : valid n may l) (hw : wts n wl) {i : Nat} (hi : i < l.length) : low20 wl (cnf l i) n = wt wl l i := by
  obtain ⟨hn, hm, _, _⟩ := valid_nat hv
  have hlen : wl.length = n := by have := hw.1; omega
  have hlt := (cnf_cast hv hi).2
  have hb : ∀ k, (cnf l i).testBit k = true → k < wl.length := fun k hk => by rw [hlen]; exact bits_of_lt hlt hk
  have hne := cnf_ne hv i hi
  have hex : ∃ j, j < n ∧ (cnf l i).testBit j = true := by
    obtain ⟨j, hj⟩ := Nat.exists_testBit_of_ne_zero hne
    exact ⟨j, bits_of_lt hlt hj, hj⟩
  rw [low_eq hw.2 n hex]
  show _ = wmin wl (cnf l i) 16
  rw [wmin16 hb (by omega), hlen]
theorem sub_anti {a b : Nat} (ha : a < 65536) (hb : b < 65536) (h : sub a b = true) (k : sub b a = true) : a = b := by
  refine Nat.eq_of_testBit_eq fun j => ?_
  have h1 := (sub_bits ha hb).1 h j
  have h2 := (sub_bits hb ha).1 k j
  cases hx : a.testBit j with
  | true => rw [h1 hx]
  | false =>
    cases hy : b.testBit j with
    | false => rfl
    | true => rw [h2 hy] at hx; cases hx
/-- Without a conflict in may, may is the only theory, and nothing is taken off. -/
theorem free_all {n may : Nat} {l : List Int} (hv : valid n may l) (hc : cl l may = false) {s : Nat} (hs : s ∈ theories n may l) : s = may := by
  obtain ⟨hn, hm, _, _⟩ := valid_nat hv
  have hp := pow16 hn
  obtain ⟨t, h1, h2⟩ := in_theory (l := l) hn hm (sub_self _) hm hc
  have ht := theories_thy h1
  have e : t = may := sub_anti (by have := theories_lt h1; omega) (by omega) ht.1 h2
  subst e
  exact thy_anti hn hm (theories_thy hs) ht (theories_lt hs) hm (theories_thy hs).1
theorem free_none {wl l : List Int} {may : Nat} (hc : cl l may = false) : bndL wl l may = [] := by
  rw [List.eq_nil_iff_forall_not_mem]
  intro i hi
  obtain ⟨h1, h2⟩ := bndL_mem hi
  have : cl l may = true := by
    unfold cl
    rw [List.any_eq_true]
    refine ⟨l[i], List.getElem_mem h1, ?_⟩
    rw [List.getD_eq_getElem?_getD, List.getElem?_eq_getElem h1] at h2
    exact h2
  rw [hc] at this; cases this
/-- of the first i conflicts of the list: all they have, and what is left -/
theorem un_take {l : List Int} {L : List Nat} {i : Nat} (h : i < L.length) : un l (L.take (i + 1)) = un l (L.take i) ||| cnf l L[i] := by
  have gen : ∀ (A : List Nat) (x : Nat), un l (A ++ [x]) = un l A ||| cnf l x := fun A x => by
    induction A with
    | nil => simp [un]
    | cons a r ih => simp only [List.cons_append, un]; rw [ih, Nat.or_assoc]
  rw [List.take_succ_eq_append_getElem h, gen]
theorem sw_take {wl l : List Int} {L : List Nat} {i : Nat} (h : i < L.length) : sw wl l (L.take (i + 1)) = sw wl l (L.take i) + wt wl l L[i] := by
  have gen : ∀ (A : List Nat) (x : Nat), sw wl l (A ++ [x]) = sw wl l A + wt wl l x := fun A x => by
    induction A with
    | nil => simp [sw]
    | cons a r ih => simp only [List.cons_append, sw]; rw [ih]; omega
  rw [List.take_succ_eq_append_getElem h, gen]
theorem un_lt {l : List Int} {n : Nat} : ∀ L : List Nat, (∀ i ∈ L, cnf l i < 2 ^ n) → un l L < 2 ^ n
  | [], _ => Nat.two_pow_pos n
  | i :: r, h => Nat.or_lt_two_pow (h i (by simp)) (un_lt r fun j hj => h j (by simp [hj]))
theorem take_apart {l : List Int} {L : List Nat} (hp : L.Pairwise (apart l)) {i : Nat} (h : i < L.length) : cnf l L[i] &&& un l (L.take i) = 0 := by
  refine un_apart _ fun j hj => ?_
  obtain ⟨k, hk, rfl⟩ := List.getElem_of_mem hj
  have hk' : k < i := by rw [List.length_take] at hk; omega
  rw [List.getElem_take]
  have := List.pairwise_iff_getElem.1 hp k i (by omega) h hk'
  unfold apart at this
  rw [Nat.and_comm]
  exact this
theorem wt_rg {wl l : List Int} (h : ∀ z ∈ wl, 0 ≤ z ∧ z ≤ 16384) (i : Nat) : 0 ≤ wt wl l i ∧ wt wl l i ≤ 16384 := wmin_rg h _ _
theorem sw_rg {wl l : List Int} (h : ∀ z ∈ wl, 0 ≤ z ∧ z ≤ 16384) : ∀ L : List Nat, 0 ≤ sw wl l L ∧ sw wl l L ≤ 16384 * L.length
  | [] => by simp [sw]
  | i :: r => by
    have h1 := sw_rg (l := l) h r
    have h2 := wt_rg (l := l) h i
    simp only [sw, List.length_cons]
    omega
theorem bndL_len (wl l : List Int) (may : Nat) : (bndL wl l may).length ≤ l.length := by
  unfold bndL
  have := List.length_filter_le (fun i => decide (i ∈ rrs wl l may l.length 0)) (List.range l.length)
  rwa [List.length_range] at this
end Go.Theory

/- label: least sets, in plain Lean. -/
import Derived.Test.YtcbmifaobdamhaaA18
namespace Go.Label
open Go.Theory
theorem prt_le {x s : Nat} (h : prt x s = true) : x ≤ s := by
  unfold prt at h
  rw [beq_iff_eq] at h
  rw [← h]
  exact Nat.and_le_right
theorem prt_refl (x : Nat) : prt x x = true := by unfold prt; simp
/-- the order in which sets come: a later one is no part of an earlier one -/
def Later (x y : Nat) : Prop := prt y x = false
theorem later_of {x y : Nat} (h : pop x < pop y ∨ (pop x = pop y ∧ x < y)) : Later x y := by
  unfold Later
  cases hp : prt y x with
  | false => rfl
  | true =>
    have h1 := popTo_mono (prt_iff.1 hp) 16
    have h2 := prt_le hp
    unfold pop at h
    omega
theorem lay_mem {n c k : Nat} {x : St n} : x ∈ lay n c k ↔ x.1 < k ∧ pop x.1 = c := by
  unfold lay
  rw [List.mem_filterMap]
  constructor
  · rintro ⟨y, hy, h⟩
    split at h
    · rename_i hc
      injection h with h
      subst h
      exact ⟨List.mem_range.1 hy, hc.2⟩
    · cases h
  · rintro ⟨h1, h2⟩
    exact ⟨x.1, List.mem_range.2 h1, by rw [dif_pos ⟨x.2, h2⟩]⟩
theorem lay_pair (n c : Nat) : ∀ k, ((lay n c k).map (·.1)).Pairwise Later
  | 0 => by simp [lay]
  | k + 1 => by
    have ih := lay_pair n c k
    by_cases hk : k < 2 ^ n ∧ pop k = c
    · rw [lay_yes hk.1 hk.2, List.map_append, List.pairwise_append]
      refine ⟨ih, by simp, fun a ha d hd => ?_⟩
      obtain ⟨x, hx, rfl⟩ := List.mem_map.1 ha
      have h1 := lay_mem.1 hx
      simp at hd
      subst hd
      exact later_of (.inr ⟨by rw [h1.2, hk.2], h1.1⟩)
    · have e : lay n c (k + 1) = lay n c k := by
        unfold lay
        rw [List.range_succ, List.filterMap_append]
        simp [hk]
      rw [e]; exact ih
theorem ords_mem {n : Nat} {x : St n} : ∀ {c : Nat}, x ∈ ords n c ↔ pop x.1 < c
  | 0 => by simp [ords]
  | c + 1 => by
    rw [ords_succ, List.mem_append, ords_mem, lay_mem]
    have := x.2
    constructor
    · rintro (h | ⟨_, h⟩) <;> omega
    · intro h
      by_cases e : pop x.1 = c
      · exact .inr ⟨x.2, e⟩
      · exact .inl (by omega)
theorem ords_pair (n : Nat) : ∀ c, ((ords n c).map (·.1)).Pairwise Later
  | 0 => by simp [ords]
  | c + 1 => by
    rw [ords_succ, List.map_append, List.pairwise_append]
    refine ⟨ords_pair n c, lay_pair n c _, fun a ha d hd => ?_⟩
    obtain ⟨x, hx, rfl⟩ := List.mem_map.1 ha
    obtain ⟨y, hy, rfl⟩ := List.mem_map.1 hd
    have h1 := ords_mem.1 hx
    have h2 := lay_mem.1 hy
    exact later_of (.inl (by rw [h2.2]; exact h1))
theorem pop_le {n s : Nat} (hs : s < 2 ^ n) : pop s ≤ n := by
  have aux : ∀ k, popTo s k ≤ n := fun k => by
    by_cases hk : k ≤ n
    · have : ∀ j, popTo s j ≤ j := fun j => by
        induction j with
        | zero => exact Nat.le_refl _
        | succ j ih => simp only [popTo]; split <;> omega
      have := this k
      omega
    · have : ∀ d, popTo s (n + d) ≤ n := fun d => by
        induction d with
        | zero =>
          have : ∀ j, popTo s j ≤ j := fun j => by
            induction j with
            | zero => exact Nat.le_refl _
            | succ j ih => simp only [popTo]; split <;> omega
          exact this n
        | succ d ih =>
          rw [← Nat.add_assoc]
          simp only [popTo]
          have hb : s.testBit (n + d) = false := Nat.testBit_lt_two_pow (Nat.lt_of_lt_of_le hs (Nat.pow_le_pow_right (by omega) (by omega)))
          rw [hb]; simpa using ih
      have := this (k - n)
      rwa [show n + (k - n) = k by omega] at this
  exact aux 16
def ordL (n : Nat) : List Nat := (ords n (n + 1)).map (·.1)
theorem ordL_mem {n s : Nat} : s ∈ ordL n ↔ s < 2 ^ n := by
  unfold ordL
  rw [List.mem_map]
  constructor
  · rintro ⟨x, _, rfl⟩; exact x.2
  · intro h
    exact ⟨⟨s, h⟩, ords_mem.2 (by have := pop_le h; show pop s < n + 1; omega), rfl⟩
/-- none is a part of another one -/
def Apart (l : List Nat) : Prop := l.Pairwise fun x y => prt x y = false ∧ prt y x = false
/-- what holds of labels and nogoods, over sets that have come -/
structure Inv (b : Lg) (l : List Nat) (S : LS) : Prop where
  i1 : ∀ t ∈ S.bad, t ∈ l ∧ badS b t = true
  i2 : ∀ s ∈ l, badS b s = true → ∃ t ∈ S.bad, prt t s = true
  i3 : Apart S.bad
  i4 : ∀ f, ∀ t ∈ S.lab f, t ∈ l ∧ badS b t = false ∧ (fol b t).testBit f = true
  i5 : ∀ f, ∀ s ∈ l, badS b s = false → (fol b s).testBit f = true → ∃ t ∈ S.lab f, prt t s = true
  i6 : ∀ f, Apart (S.lab f)
theorem apart_snoc {l : List Nat} {s : Nat} (h : Apart l) (h1 : ∀ t ∈ l, prt t s = false ∧ prt s t = false) : Apart (l ++ [s]) := by
  unfold Apart
  rw [List.pairwise_append]
  refine ⟨h, by simp, fun a ha d hd => ?_⟩
  rw [List.mem_singleton] at hd
  subst hd
  exact h1 a ha
theorem inv_step {b : Lg} (ok : Ok b) {l : List Nat} {S : LS} {s : Nat} (h : Inv b l S) (hs : ∀ t ∈ l, prt s t = false) : Inv b (l ++ [s]) (lstep b S s) := by
  have low : ∀ {t u}, prt t u = true → badS b t = true → badS b u = true := fun h1 h2 => badS_mono ok (prt_iff.1 h1) h2
  unfold lstep
  by_cases h1 : (S.bad.any fun x => prt x s) = true
  · rw [if_pos h1]
    obtain ⟨t, ht, hts⟩ := List.any_eq_true.1 h1
    have hbs := low hts (h.i1 t ht).2
    refine ⟨fun t ht => ⟨List.mem_append_left _ (h.i1 t ht).1, (h.i1 t ht).2⟩, fun u hu hb => ?_, h.i3, fun f t ht => ⟨List.mem_append_left _ (h.i4 f t ht).1, (h.i4 f t ht).2⟩, fun f u hu hb hf => ?_, h.i6⟩
    · rcases List.mem_append.1 hu with hu | hu
      · exact h.i2 u hu hb
      · rw [List.mem_singleton] at hu; subst hu; exact ⟨t, ht, hts⟩
    · rcases List.mem_append.1 hu with hu | hu
      · exact h.i5 f u hu hb hf
      · rw [List.mem_singleton] at hu; subst hu; rw [hbs] at hb; cases hb
  · rw [if_neg h1]
    have h1' : ∀ t ∈ S.bad, prt t s = false := fun t ht => by
      cases h2 : prt t s with
      | false => rfl
      | true => exact absurd (show (S.bad.any fun x => prt x s) = true from List.any_eq_true.2 ⟨t, ht, h2⟩) h1
    by_cases h2 : badS b s = true
    · rw [if_pos h2]
      refine ⟨fun t ht => ?_, fun u hu hb => ?_, apart_snoc h.i3 fun t ht => ⟨h1' t ht, hs t (h.i1 t ht).1⟩, fun f t ht => ⟨List.mem_append_left _ (h.i4 f t ht).1, (h.i4 f t ht).2⟩, fun f u hu hb hf => ?_, h.i6⟩
      · rcases List.mem_append.1 ht with ht | ht
        · exact ⟨List.mem_append_left _ (h.i1 t ht).1, (h.i1 t ht).2⟩
        · rw [List.mem_singleton] at ht; subst ht; exact ⟨by simp, h2⟩
      · rcases List.mem_append.1 hu with hu | hu
        · obtain ⟨t, ht, htu⟩ := h.i2 u hu hb
          exact ⟨t, List.mem_append_left _ ht, htu⟩
        · rw [List.mem_singleton] at hu; subst hu; exact ⟨u, by simp, prt_refl u⟩
      · rcases List.mem_append.1 hu with hu | hu
        · exact h.i5 f u hu hb hf
        · rw [List.mem_singleton] at hu; subst hu; rw [h2] at hb; cases hb
    · have h2' : badS b s = false := by simpa using h2
      rw [if_neg h2]
      refine ⟨fun t ht => ⟨List.mem_append_left _ (h.i1 t ht).1, (h.i1 t ht).2⟩, fun u hu hb => ?_, h.i3, fun f t ht => ?_, fun f u hu hb hf => ?_, fun f => ?_⟩
      · rcases List.mem_append.1 hu with hu | hu
        · exact h.i2 u hu hb
        · rw [List.mem_singleton] at hu; subst hu; exact absurd hb h2
      · have ht' : t ∈ upd (fol b s) s f (S.lab f) := ht
        unfold upd at ht'
        split at ht'
        · rename_i hc
          rw [Bool.and_eq_true] at hc
          rcases List.mem_append.1 ht' with ht' | ht'
          · exact ⟨List.mem_append_left _ (h.i4 f t ht').1, (h.i4 f t ht').2⟩
          · rw [List.mem_singleton] at ht'; subst ht'; exact ⟨by simp, h2', hc.1⟩
        · exact ⟨List.mem_append_left _ (h.i4 f t ht').1, (h.i4 f t ht').2⟩
      · show ∃ t ∈ upd (fol b s) s f (S.lab f), prt t u = true
        rcases List.mem_append.1 hu with hu | hu
        · obtain ⟨t, ht, htu⟩ := h.i5 f u hu hb hf
          refine ⟨t, ?_, htu⟩
          unfold upd
          split
          · exact List.mem_append_left _ ht
          · exact ht
        · rw [List.mem_singleton] at hu; subst hu
          unfold upd
          by_cases hc : ((S.lab f).any fun x => prt x u) = true
          · obtain ⟨t, ht, htu⟩ := List.any_eq_true.1 hc
            refine ⟨t, ?_, htu⟩
            split
            · exact List.mem_append_left _ ht
            · exact ht
          · rw [if_pos (by rw [hf]; simpa using hc)]
            exact ⟨u, by simp, prt_refl u⟩
      · show Apart (upd (fol b s) s f (S.lab f))
        unfold upd
        split
        · rename_i hc
          rw [Bool.and_eq_true] at hc
          have hc2 : ¬ ((S.lab f).any fun x => prt x s) = true := by simpa using hc.2
          refine apart_snoc (h.i6 f) fun t ht => ⟨?_, hs t (h.i4 f t ht).1⟩
          cases h3 : prt t s with
          | false => rfl
          | true => exact absurd (show ((S.lab f).any fun x => prt x s) = true from List.any_eq_true.2 ⟨t, ht, h3⟩) hc2
        · exact h.i6 f
theorem inv_all {b : Lg} (ok : Ok b) : ∀ (r l : List Nat) (S : LS), Inv b l S → (l ++ r).Pairwise Later → Inv b (l ++ r) (r.foldl (lstep b) S)
  | [], l, S, h, _ => by simpa using h
  | s :: r, l, S, h, hp => by
    have e : l ++ s :: r = l ++ [s] ++ r := by simp
    rw [e] at hp ⊢
    refine inv_all ok r (l ++ [s]) _ (inv_step ok h fun t ht => ?_) hp
    rw [List.pairwise_append, List.pairwise_append] at hp
    exact hp.1.2.2 t ht s (by simp)
theorem labels_inv {b : Lg} (ok : Ok b) (n : Nat) : Inv b (ordL n) (lfold b (ordL n)) := by
  have h := inv_all ok (ordL n) [] ⟨fun _ => [], []⟩ ⟨(fun t h => by cases h), (fun s h => by cases h), List.Pairwise.nil, (fun f t h => by cases h), (fun f s h => by cases h), fun f => List.Pairwise.nil⟩ (by rw [List.nil_append]; exact ords_pair n (n + 1))
  rwa [List.nil_append] at h
theorem bad_law {b : Lg} (ok : Ok b) {n g : Nat} (hg : g < 2 ^ n) : ((lfold b (ordL n)).bad.any fun x => prt x g) = badS b g := by
  have h := labels_inv ok n
  rw [Bool.eq_iff_iff]
  constructor
  · intro h1
    obtain ⟨t, ht, htg⟩ := List.any_eq_true.1 h1
    exact badS_mono ok (prt_iff.1 htg) (h.i1 t ht).2
  · intro h1
    obtain ⟨t, ht, htg⟩ := h.i2 g (ordL_mem.2 hg) h1
    exact List.any_eq_true.2 ⟨t, ht, htg⟩
theorem lab_law {b : Lg} (ok : Ok b) {n g f : Nat} (hg : g < 2 ^ n) (hb : badS b g = false) : (((lfold b (ordL n)).lab f).any fun x => prt x g) = (fol b g).testBit f := by
  have h := labels_inv ok n
  rw [Bool.eq_iff_iff]
  constructor
  · intro h1
    obtain ⟨t, ht, htg⟩ := List.any_eq_true.1 h1
    exact fol_mono ok (prt_iff.1 htg) (h.i4 f t ht).2.2
  · intro h1
    obtain ⟨t, ht, htg⟩ := h.i5 f g (ordL_mem.2 hg) hb h1
    exact List.any_eq_true.2 ⟨t, ht, htg⟩
theorem labbad_law {b : Lg} (ok : Ok b) {n f t : Nat} (ht : t ∈ (lfold b (ordL n)).lab f) : ((lfold b (ordL n)).bad.any fun x => prt x t) = false := by
  have h := labels_inv ok n
  cases hc : (lfold b (ordL n)).bad.any fun x => prt x t with
  | false => rfl
  | true =>
    obtain ⟨u, hu, hut⟩ := List.any_eq_true.1 hc
    have := badS_mono ok (prt_iff.1 hut) (h.i1 u hu).2
    rw [(h.i4 f t ht).2.1] at this
    cases this
end Go.Label

/- order: the table of the reference's Sums, in plain Lean. -/
import Derived.Test.YtnkinjilnccmfaaQ27
namespace Go.Order
open Go.RowKit Go.Own Go.Proofs.Ytnkinjilnccmfaa Go.Theory
abbrev Inc (l : List Int) : Prop := l.Pairwise (· < ·)
theorem mem_addS {l : List Int} {x z : Int} : z ∈ addS l x ↔ z ∈ l ∨ z = x := by
  unfold addS
  simp only [List.mem_append, List.mem_filter, List.mem_singleton, decide_eq_true_eq]
  constructor
  · rintro ((h | h) | h)
    · exact .inl h.1
    · exact .inr h
    · exact .inl h.1
  · rintro (h | h)
    · rcases Int.lt_trichotomy z x with h1 | h1 | h1
      · exact .inl (.inl ⟨h, h1⟩)
      · exact .inl (.inr h1)
      · exact .inr ⟨h, h1⟩
    · exact .inl (.inr h)
theorem inc_addS {l : List Int} (h : Inc l) (x : Int) : Inc (addS l x) := by
  unfold addS Inc
  rw [List.pairwise_append, List.pairwise_append]
  refine ⟨⟨h.filter _, List.pairwise_singleton _ _, fun a ha b hb => ?_⟩, h.filter _, fun a ha b hb => ?_⟩
  · rw [List.mem_singleton] at hb
    subst hb
    simpa using (List.mem_filter.1 ha).2
  · have h1 : x < b := by simpa using (List.mem_filter.1 hb).2
    rcases List.mem_append.1 ha with h2 | h2
    · have : a < x := by simpa using (List.mem_filter.1 h2).2
      omega
    · rw [List.mem_singleton] at h2; omega
theorem addS_len (l : List Int) (h : Inc l) (x : Int) : (addS l x).length ≤ l.length + 1 := by
  unfold addS
  rw [List.length_append, List.length_append]
  have key : ∀ m : List Int, (m.filter fun y => decide (y < x)).length + (m.filter fun y => decide (x < y)).length ≤ m.length := by
    intro m
    induction m with
    | nil => exact Nat.le_refl _
    | cons y m ih =>
      by_cases h1 : y < x
      · rw [List.filter_cons_of_pos (by simpa using h1), List.filter_cons_of_neg (by simpa using (by omega : ¬ x < y)), List.length_cons, List.length_cons]; omega
      · rw [List.filter_cons_of_neg (by simpa using h1)]
        by_cases h2 : x < y
        · rw [List.filter_cons_of_pos (by simpa using h2), List.length_cons, List.length_cons]; omega
        · rw [List.filter_cons_of_neg (by simpa using h2), List.length_cons]; omega
  have := key l
  simp only [List.length_singleton]
  omega
/-- the stable sets in increasing order -/
def srt (st : List Int) : List Int := st.foldl addS []
def srtN (st : List Int) (i : Nat) : List Int := (st.take i).foldl addS []
theorem srtN_succ {st : List Int} {i : Nat} (h : i < st.length) : srtN st (i + 1) = addS (srtN st i) st[i] := by
  unfold srtN; rw [List.take_succ_eq_append_getElem h, List.foldl_append]; rfl
theorem srtN_all (st : List Int) : srtN st st.length = srt st := by unfold srtN srt; rw [List.take_length]
theorem foldS_inc : ∀ (st l : List Int), Inc l → Inc (st.foldl addS l)
  | [], l, h => h
  | x :: st, l, h => foldS_inc st _ (inc_addS h x)
theorem foldS_mem : ∀ (st l : List Int) (z : Int), z ∈ st.foldl addS l ↔ z ∈ l ∨ z ∈ st
  | [], l, z => by simp
  | x :: st, l, z => by rw [List.foldl_cons, foldS_mem st (addS l x) z, mem_addS, List.mem_cons, or_assoc]
theorem foldS_len : ∀ (st l : List Int), Inc l → (st.foldl addS l).length ≤ l.length + st.length
  | [], l, h => Nat.le_refl _
  | x :: st, l, h => by
    have h1 := foldS_len st _ (inc_addS h x)
    have h2 := addS_len l h x
    rw [List.foldl_cons, List.length_cons]; omega
theorem srt_inc (st : List Int) : Inc (srt st) := foldS_inc st [] List.Pairwise.nil
theorem srt_mem (st : List Int) (z : Int) : z ∈ srt st ↔ z ∈ st := by unfold srt; rw [foldS_mem]; simp
theorem srtN_len (st : List Int) (i : Nat) : (srtN st i).length ≤ st.length := by
  have := foldS_len (st.take i) [] List.Pairwise.nil
  unfold srtN
  rw [List.length_take] at this
  simp only [List.length_nil] at this
  omega
theorem srt_len (st : List Int) : (srt st).length ≤ st.length := by rw [← srtN_all]; exact srtN_len st _
theorem inc_at {l : List Int} (h : Inc l) {i j : Nat} (hij : i < j) (hj : j < l.length) : l[i] < l[j] := List.pairwise_iff_getElem.1 h i j (by omega) hj hij
theorem sumT_map (f : Int → Int) : ∀ (l : List Int) (x : Int), sumT l (l.map f) x = if x ∈ l then f x else -1
  | [], x => by unfold sumT; simp
  | s :: l, x => by
    unfold sumT
    rw [List.map_cons]
    dsimp only
    by_cases e : s = x
    · rw [if_pos e, if_pos (by rw [e]; exact List.mem_cons_self ..), e]
    · rw [if_neg e, sumT_map f l x]
      by_cases h : x ∈ l
      · rw [if_pos h, if_pos (List.mem_cons_of_mem _ h)]
      · rw [if_neg h, if_neg (fun hh => by rcases List.mem_cons.1 hh with h1 | h1 <;> first | exact e h1.symm | exact h h1)]
def bs (may : List Spl) (st : List Int) (s : Int) : Int := (bb may st s.toNat).2
theorem hasB_iff {l : List Int} {x : Int} : hasB l x = true ↔ x ∈ l := by unfold hasB; rw [List.contains_iff_mem]
/-- a part's sum, out of the table -/
theorem sumT_part {may : List Spl} {st : List Int} (hok : may.all Spl.ok = true) {i p : Nat} (hi : i < (srt st).length) (hp6 : p < 65536) (hp : (p : Int) < (srt st)[i]) :
    sumT ((srt st).take i) (((srt st).take i).map (bs may st)) (p : Int) = (bb may st p).2 := by
  rw [sumT_map]
  by_cases h : (p : Int) ∈ (srt st).take i
  · rw [if_pos h]; unfold bs; rw [Int.toNat_natCast]
  · rw [if_neg h]
    have hn : hasB st (p : Int) = false := by
      cases hb : hasB st (p : Int) with
      | false => rfl
      | true =>
        exfalso
        have h1 := (srt_mem st p).2 (hasB_iff.1 hb)
        obtain ⟨j, hj, e⟩ := List.getElem_of_mem h1
        rcases Nat.lt_or_ge j i with h2 | h2
        · exact h (by rw [← e]; exact List.mem_take_iff_getElem.2 ⟨j, by omega, rfl⟩)
        · rcases Nat.lt_or_ge i j with h3 | h3
          · have := inc_at (srt_inc st) h3 hj; omega
          · have : i = j := by omega
            subst this
            omega
    rw [bb_soft hok hp6 hn]
/-- what a set's row says after k splits -/
def rowK (may : List Spl) (st : List Int) (s k : Nat) : Int := (addN (bb may st) (nps may) s k).2
theorem rowK_zero (may : List Spl) (st : List Int) (s : Nat) : rowK may st s 0 = if pop s = 1 then 0 else -1 := by
  show (b0 s).2 = _
  unfold b0
  by_cases h : pop s = 1
  · rw [if_pos h, if_pos h]
  · rw [if_neg h, if_neg h]
theorem rowK_all {may : List Spl} {st : List Int} (hok : may.all Spl.ok = true) {s : Nat} (hs : s < 65536) (hf : hasB st (s : Int) = true) : rowK may st s may.length = (bb may st s).2 := by
  have e := bst_eq (firm := fmN st) (nps_ok hok) hs
  rw [if_pos (show fmN st s = true from hf), nps_len] at e
  unfold rowK
  show (addN (bst (nps may) (fmN st)) (nps may) s may.length).2 = _
  rw [← e]; rfl
theorem rowK_bnd {may : List Spl} {st : List Int} (hok : may.all Spl.ok = true) (s k : Nat) (hk : k ≤ may.length) : -1 ≤ rowK may st s k ∧ rowK may st s k ≤ 4000000 := by
  have a := addN_spec (nps_ok hok) (bb may st) s k (by rw [nps_len]; exact hk)
  by_cases h : 0 ≤ (addN (bb may st) (nps may) s k).1
  · obtain ⟨i, _, h2, _, h3, h4, h5⟩ := a.at' h
    have hi : i < may.length := by omega
    have hx := List.all_eq_true.1 hok may[i] (List.getElem_mem hi)
    obtain ⟨w', p', e1, e2, o⟩ := may[i].ok_iff.1 hx
    obtain ⟨p, r, _, _, h6, h7, h8, e4, e5, e6⟩ := nps_at hok hi e1
    rw [e5, e6, e4] at h5
    rw [e4] at h3
    rw [e5] at h4
    have q1 := bb_le (st := st) hok (show p < 65536 by omega)
    have q2 := bb_le (st := st) hok (show r < 65536 by omega)
    have q3 := cost_le may[i]
    unfold rowK
    dsimp only at h5 h3
    omega
  · have h1 := a.single (by omega)
    unfold rowK
    rw [h1]
    unfold b0
    split <;> exact ⟨by decide, by decide⟩
theorem rowK_miss {may : List Spl} {st : List Int} (hok : may.all Spl.ok = true) {s k : Nat} (hk : k < may.length) (h : may[k].w ≠ s) : rowK may st s (k + 1) = rowK may st s k := by
  unfold rowK
  rw [addN_succ]
  unfold add1
  have hx := List.all_eq_true.1 hok may[k] (List.getElem_mem hk)
  obtain ⟨w', p', e1, e2, o⟩ := may[k].ok_iff.1 hx
  obtain ⟨p, r, _, _, h6, h7, h8, e4, e5, e6⟩ := nps_at hok hk e1
  rw [e4, if_neg (by dsimp only; intro e; exact h (by rw [e1, e]))]
theorem rowK_hit {may : List Spl} {st : List Int} (hok : may.all Spl.ok = true) {s k : Nat} (hk : k < may.length) (h : may[k].w = s) :
    ∃ p r : Nat, may[k].p = p ∧ may[k].rest = r ∧ p < s ∧ r < s ∧ s < 65536 ∧ rowK may st s (k + 1) = if 0 ≤ (bb may st p).2 ∧ 0 ≤ (bb may st r).2 ∧ (rowK may st s k < 0 ∨ (bb may st p).2 + (bb may st r).2 + (may[k].cost : Nat) < rowK may st s k) then (bb may st p).2 + (bb may st r).2 + (may[k].cost : Nat) else rowK may st s k := by
  obtain ⟨p, r, e1, e2, h6, h7, h8, e4, e5, e6⟩ := nps_at hok hk h
  refine ⟨p, r, e1, e2, h6, h7, h8, ?_⟩
  unfold rowK
  rw [addN_succ]
  unfold add1
  rw [e6, e5, e4]
  dsimp only
  rw [if_pos rfl]
  split <;> rfl
end Go.Order

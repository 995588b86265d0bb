/- order: the plain laws of least trees: what Check takes costs at least the least sum, the least tree is taken, what can be built is closed. -/
import Derived.Test.YtnkinjilnccmfaaQ32
namespace Go.Order
open Go.RowKit Go.Own Go.Proofs.Ytnkinjilnccmfaa Go.Theory
section
variable {may : List Spl} {st : List Int} (hok : may.all Spl.ok = true)
include hok
theorem bb_least {s : Nat} (hs : s < 65536) (hf : hasB st (s : Int) = true) {i : Nat} (hi : i < may.length) (hw : may[i].w = s) {p r : Nat} (hp : may[i].p = p) (hr : may[i].rest = r)
    (h1 : 0 ≤ (bb may st p).2) (h2 : 0 ≤ (bb may st r).2) :
    0 ≤ (bb may st s).2 ∧ (bb may st s).2 ≤ (bb may st p).2 + (bb may st r).2 + (may[i].cost : Nat) := by
  have L := bst_law (firm := fmN st) (nps_ok hok) hs
  obtain ⟨p', r', e1, e2, _, _, _, e3, e4, e5⟩ := nps_at hok hi hw
  obtain rfl : p = p' := by omega
  obtain rfl : r = r' := by omega
  have h := L.least (show fmN st s = true from hf) i (by rw [nps_len]; exact hi) (by rw [e3]) (by rw [e3]; exact h1) (by rw [e4]; exact h2)
  rw [e4, e5, e3] at h
  exact ⟨h.1, h.2.1⟩
theorem bb_firm' {s : Nat} (hs : s < 65536) (h : 0 ≤ (bb may st s).2) : hasB st (s : Int) = true := (bst_law (firm := fmN st) (nps_ok hok) hs).firm' h
theorem bb_one {s : Nat} (hs : s < 65536) (hf : hasB st (s : Int) = true) (hp : pop s = 1) : bb may st s = (-1, 0) := (bst_law (firm := fmN st) (nps_ok hok) hs).single hp hf
theorem bb_split {s : Nat} (hs : s < 65536) (h : 0 ≤ (bb may st s).2) (hp : pop s ≠ 1) : 0 ≤ (bb may st s).1 := (bst_law (firm := fmN st) (nps_ok hok) hs).split h hp
theorem bb_pos {s : Nat} (hs : s < 65536) (h : 0 ≤ (bb may st s).1) : 0 ≤ (bb may st s).2 := by
  refine Int.not_lt.1 fun h1 => ?_
  have := (bst_law (firm := fmN st) (nps_ok hok) hs).neg h1
  have h2 : bb may st s = (-1, -1) := this
  rw [h2] at h
  exact absurd h (by decide)
theorem bb_pop1 {s : Nat} (hs : s < 65536) (h : 0 ≤ (bb may st s).1) : pop s ≠ 1 := fun hp => by
  have h2 := bb_pos hok hs h
  rw [bb_one hok hs (bb_firm' hok hs h2) hp] at h
  exact absurd h (by decide)
/-- enough fuel is enough -/
theorem tre_same : ∀ (s n m : Nat), s < 65536 → s < n → s < m → tre may st n s = tre may st m s := by
  intro s
  induction s using Nat.strongRecOn with
  | _ s ih =>
    intro n m hs hn hm
    cases n with
    | zero => omega
    | succ n =>
      cases m with
      | zero => omega
      | succ m =>
        by_cases h : 0 ≤ (bb may st s).1
        · obtain ⟨i, p, r, h1, hi, e1, e2, e3, hp, hr, e4, _⟩ := tre_step (st := st) (n := n) hok hs h
          obtain ⟨i', p', r', h1', hi', e1', e2', e3', _, _, e4', _⟩ := tre_step (st := st) (n := m) hok hs h
          obtain rfl : i = i' := by omega
          obtain rfl : p = p' := by omega
          obtain rfl : r = r' := by omega
          rw [e4, e4', ih p hp n m (by omega) (by omega) (by omega), ih r hr n m (by omega) (by omega) (by omega)]
        · rw [tre_neg h, tre_neg h]
/-- the least tree of a set -/
theorem tre_cons {s : Nat} (hs : s < 65536) (h : 0 ≤ (bb may st s).1) :
    ∃ (i p r : Nat), ∃ hi : i < may.length, may[i].w = s ∧ may[i].p = p ∧ may[i].rest = r ∧ p < s ∧ r < s ∧ tre may st 65536 s = may[i] :: (tre may st 65536 p ++ tre may st 65536 r) ∧
      pop p + pop r = pop s ∧ 0 ≤ (bb may st p).2 ∧ 0 ≤ (bb may st r).2 ∧ (bb may st s).2 = (bb may st p).2 + (bb may st r).2 + (may[i].cost : Nat) ∧ 1 ≤ p ∧ 1 ≤ r := by
  obtain ⟨i, p, r, _, hi, e1, e2, e3, hp, hr, e4, hpop, h5, h6, h7, h8, h9⟩ := tre_step (st := st) (n := 65535) hok hs h
  refine ⟨i, p, r, hi, e1, e2, e3, hp, hr, ?_, hpop, h5, h6, h7, h8, h9⟩
  rw [e4, tre_same hok p 65535 65536 (by omega) (by omega) (by omega), tre_same hok r 65535 65536 (by omega) (by omega) (by omega)]
theorem tre_nil {s : Nat} (h : ¬ 0 ≤ (bb may st s).1) : tre may st 65536 s = [] := by
  have _ := hok
  exact tre_neg h
/-- the tree of a set that can be built has one split less than there are pieces -/
theorem tre_count : ∀ s : Nat, s < 65536 → 0 ≤ (bb may st s).2 → (tre may st 65536 s).length + 1 = pop s := by
  intro s
  induction s using Nat.strongRecOn with
  | _ s ih =>
    intro hs h
    by_cases h1 : 0 ≤ (bb may st s).1
    · obtain ⟨i, p, r, hi, _, _, _, hp, hr, e, hpop, h5, h6, _, _, _⟩ := tre_cons hok hs h1
      have i1 := ih p hp (by omega) h5
      have i2 := ih r hr (by omega) h6
      rw [e, List.length_cons, List.length_append]
      omega
    · have hp : pop s = 1 := Classical.byContradiction fun hp => h1 (bb_split hok hs h hp)
      rw [tre_nil hok h1, hp]; rfl
theorem tre_cost : ∀ s : Nat, s < 65536 → 0 ≤ (bb may st s).2 → ((costL (tre may st 65536 s) : Nat) : Int) = (bb may st s).2 := by
  intro s
  induction s using Nat.strongRecOn with
  | _ s ih =>
    intro hs h
    by_cases h1 : 0 ≤ (bb may st s).1
    · obtain ⟨i, p, r, hi, _, _, _, hp, hr, e, _, h5, h6, h7, _, _⟩ := tre_cons hok hs h1
      have i1 := ih p hp (by omega) h5
      have i2 := ih r hr (by omega) h6
      have e2 : costL (may[i] :: (tre may st 65536 p ++ tre may st 65536 r)) = may[i].cost + (costL (tre may st 65536 p) + costL (tre may st 65536 r)) := by
        rw [show may[i] :: (tre may st 65536 p ++ tre may st 65536 r) = [may[i]] ++ (tre may st 65536 p ++ tre may st 65536 r) from rfl, costL_app, costL_app]
        congr 1
      rw [e, e2, h7]
      omega
    · have hp : pop s = 1 := Classical.byContradiction fun hp => h1 (bb_split hok hs h hp)
      rw [tre_nil hok h1, bb_one hok hs (bb_firm' hok hs h) hp]; rfl
theorem inB_mem {i : Nat} (hi : i < may.length) : inB may may[i] = true := by
  have _ := hok
  unfold inB
  rw [List.any_eq_true]
  exact ⟨may[i], List.getElem_mem hi, by unfold Spl.eqv Num.eqv; simp⟩
/-- the least tree is one that Check takes -/
theorem tak_tre : ∀ (s n : Nat), s < 65536 → s < n → 0 ≤ (bb may st s).2 → ∀ rest : List Spl, tak may st n (s : Int) (tre may st 65536 s ++ rest) = some (tre may st 65536 s).length := by
  intro s
  induction s using Nat.strongRecOn with
  | _ s ih =>
    intro n hs hn h rest
    cases n with
    | zero => omega
    | succ n =>
      have hf := bb_firm' hok hs h
      by_cases h1 : 0 ≤ (bb may st s).1
      · obtain ⟨i, p, r, hi, e1, e2, e3, hp, hr, e, _, h5, h6, _, _, _⟩ := tre_cons hok hs h1
        have hp1 := bb_pop1 hok hs h1
        have i1 := ih p hp n (by omega) (by omega) h5 (tre may st 65536 r ++ rest)
        have i2 := ih r hr n (by omega) (by omega) h6 rest
        rw [e]
        unfold tak
        rw [if_pos hf, if_neg (by rw [siz_nat s hs]; exact hp1)]
        simp only [List.cons_append, List.append_assoc]
        rw [if_pos ⟨e1, inB_mem hok hi⟩, e2, e3, i1]
        simp only [List.drop_left]
        rw [i2]
        simp only [List.length_cons, List.length_append]
        congr 1
        omega
      · have hp : pop s = 1 := Classical.byContradiction fun hp => h1 (bb_split hok hs h hp)
        rw [tre_nil hok h1]
        unfold tak
        rw [if_pos hf, if_pos (by rw [siz_nat s hs]; exact hp)]
        rfl
theorem eqv_cost {x y : Spl} (h : x.eqv y = true) : x.cost = y.cost ∧ x.rest = y.rest := by
  have _ := hok
  obtain ⟨h1, h2⟩ := eqv_wp h
  unfold Spl.cost Spl.rest
  rw [h1, h2]; exact ⟨rfl, rfl⟩
omit hok in
theorem inB_at {x : Spl} (h : inB may x = true) : ∃ i, ∃ hi : i < may.length, x.eqv may[i] = true := by
  unfold inB at h
  rw [List.any_eq_true] at h
  obtain ⟨y, hy, h⟩ := h
  obtain ⟨i, hi, rfl⟩ := List.getElem_of_mem hy
  exact ⟨i, hi, h⟩
/-- what Check takes is a tree: it costs at least the least sum -/
theorem tak_least : ∀ (n s : Nat) (l : List Spl) (k : Nat), s < 65536 → tak may st n (s : Int) l = some k → 0 ≤ (bb may st s).2 ∧ (bb may st s).2 ≤ ((costL (l.take k) : Nat) : Int) := by
  intro n
  induction n with
  | zero => intro s l k hs h; unfold tak at h; cases h
  | succ n ih =>
    intro s l k hs h
    unfold tak at h
    by_cases hf : hasB st (s : Int) = true
    · rw [if_pos hf] at h
      by_cases h1 : siz (s : Int) = 1
      · rw [if_pos h1] at h
        rw [siz_nat s hs] at h1
        rw [bb_one hok hs hf h1]
        exact ⟨Int.le_refl _, Int.natCast_nonneg _⟩
      · rw [if_neg h1] at h
        match l, h with
        | x :: r, h =>
          dsimp only at h
          split at h
          · rename_i hc
            obtain ⟨hw, hin⟩ := hc
            obtain ⟨i, hi, he⟩ := inB_at hin
            obtain ⟨w1, w2⟩ := eqv_wp he
            obtain ⟨c1, c2⟩ := eqv_cost hok he
            obtain ⟨p, q, e1, e2, hp, hq, _, _, _, _⟩ := nps_at hok hi (m := s) (by rw [← w1, hw])
            cases ha : tak may st n x.p r with
            | none => rw [ha] at h; cases h
            | some a =>
              rw [ha] at h
              dsimp only at h
              cases hb : tak may st n x.rest (r.drop a) with
              | none => rw [hb] at h; cases h
              | some b =>
                rw [hb] at h
                dsimp only at h
                injection h with h
                subst h
                rw [w2, e1] at ha
                rw [c2, e2] at hb
                obtain ⟨a1, a2⟩ := ih p r a (by omega) ha
                obtain ⟨b1, b2⟩ := ih q (r.drop a) b (by omega) hb
                obtain ⟨g1, g2⟩ := bb_least hok hs hf hi (by rw [← w1, hw]) e1 e2 a1 b1
                have e5 : costL ((x :: r).take (1 + a + b)) = x.cost + (costL (r.take a) + costL ((r.drop a).take b)) := by
                  rw [show 1 + a + b = (a + b) + 1 by omega, List.take_succ_cons, show x :: r.take (a + b) = [x] ++ r.take (a + b) from rfl, costL_app, List.take_add, costL_app]
                  congr 1
                rw [e5, c1]
                exact ⟨g1, by omega⟩
          · cases h
    · rw [if_neg hf] at h; cases h
/-- CheckNone accepts no list if the set can be built -/
theorem none_sound {whole : Nat} {L : List Int} (h : noneB (whole : Int) may st L = true) (hw : whole < 65536) : ¬ 0 ≤ (bb may st whole).2 := by
  unfold noneB at h
  simp only [Bool.and_eq_true, Bool.not_eq_true'] at h
  obtain ⟨⟨⟨_, h2⟩, h3⟩, h4⟩ := h
  have key : ∀ s : Nat, s < 65536 → 0 ≤ (bb may st s).2 → hasB L (s : Int) = true := by
    intro s
    induction s using Nat.strongRecOn with
    | _ s ih =>
      intro hs h
      have hf := bb_firm' hok hs h
      by_cases h1 : 0 ≤ (bb may st s).1
      · obtain ⟨i, p, r, hi, e1, e2, e3, hp, hr, e, _, h5, h6, _, _, _⟩ := tre_cons hok hs h1
        have i1 := ih p hp (by omega) h5
        have i2 := ih r hr (by omega) h6
        rw [List.any_eq_false] at h4
        have h7 := h4 may[i] (List.getElem_mem hi)
        unfold growB at h7
        rw [e1, e2, e3, hf, i1, i2] at h7
        simpa using h7
      · have hp : pop s = 1 := Classical.byContradiction fun hp => h1 (bb_split hok hs h hp)
        rw [List.any_eq_false] at h3
        have hm : (s : Int) ∈ st := by unfold hasB at hf; exact List.contains_iff_mem.1 hf
        have h7 := h3 (s : Int) hm
        unfold openB at h7
        rw [siz_nat s hs, hp] at h7
        simpa using h7
  intro h0
  rw [key whole hw h0] at h2
  cases h2
omit hok in
theorem canL_mem {k : Nat} (hk : k < 65536) : k ∈ canL may st ↔ hasB st (k : Int) = true ∧ 0 ≤ (bb may st k).2 := by
  unfold canL cn
  rw [List.mem_filter, List.mem_range]
  simp only [Bool.and_eq_true, decide_eq_true_eq, Int.toNat_natCast]
  exact ⟨fun h => h.2, fun h => ⟨hk, h⟩⟩
omit hok in
theorem canL_pair : (canL may st).Pairwise (· < ·) := by unfold canL; exact List.Pairwise.filter _ List.pairwise_lt_range
theorem canL_has {k : Nat} (hk : k < 65536) : hasB ((canL may st).map fun j : Nat => (j : Int)) (k : Int) = decide (0 ≤ (bb may st k).2) := by
  rw [Bool.eq_iff_iff, decide_eq_true_eq]
  unfold hasB
  rw [List.contains_iff_mem, List.mem_map]
  constructor
  · rintro ⟨j, hj, e⟩
    obtain rfl : j = k := by omega
    exact ((canL_mem hk).1 hj).2
  · intro h
    exact ⟨k, (canL_mem hk).2 ⟨bb_firm' hok hk h, h⟩, rfl⟩
/-- what can be built shows that a set cannot be built -/
theorem none_can {whole : Nat} (hw : whole < 65536) (hst : st.all isB = true) (h : ¬ 0 ≤ (bb may st whole).2) : noneB (whole : Int) may st ((canL may st).map fun j : Nat => (j : Int)) = true := by
  unfold noneB
  simp only [Bool.and_eq_true, Bool.not_eq_true']
  refine ⟨⟨⟨?_, ?_⟩, ?_⟩, ?_⟩
  · rw [incB_iff]
    intro j hj
    rw [List.length_map] at hj
    have := List.pairwise_iff_getElem.1 (canL_pair (may := may) (st := st)) j (j + 1) (by omega) hj (by omega)
    simp only [List.getElem_map]
    omega
  · rw [canL_has hok hw]; exact decide_eq_false h
  · rw [List.any_eq_false]
    intro x hx
    obtain ⟨m, rfl, hm1, hm2⟩ := isB_nat (List.all_eq_true.1 hst x hx)
    have hf : hasB st (m : Int) = true := by unfold hasB; exact List.contains_iff_mem.2 hx
    unfold openB
    rw [siz_nat m hm2, canL_has hok hm2]
    by_cases hp : pop m = 1
    · rw [bb_one hok hm2 hf hp]; simp
    · simp [hp]
  · rw [List.any_eq_false]
    intro x hx
    obtain ⟨i, hi, rfl⟩ := List.getElem_of_mem hx
    obtain ⟨w, p', h1, h2, o⟩ := may[i].ok_iff.1 (List.all_eq_true.1 hok may[i] (List.getElem_mem hi))
    obtain ⟨p, r, e1, e2, hp, hr, h6, _, _, _⟩ := nps_at hok hi h1
    unfold growB
    rw [h1, e1, e2, canL_has hok (by omega), canL_has hok (by omega), canL_has hok (by omega)]
    by_cases a1 : hasB st (w : Int) = true
    · by_cases a2 : 0 ≤ (bb may st p).2
      · by_cases a3 : 0 ≤ (bb may st r).2
        · have := (bb_least hok h6 a1 hi h1 e1 e2 a2 a3).1
          simp [this]
        · simp [a3]
      · simp [a2]
    · simp [a1]
end
end Go.Order
/- order: the plain laws of least trees, further: each split's trees behind it; more splits and sets, and others in another order. -/
namespace Go.Order
open Go.RowKit Go.Own Go.Proofs.Ytnkinjilnccmfaa Go.Theory
section
variable {may : List Spl} {st : List Int} (hok : may.all Spl.ok = true)
include hok
/-- behind each split of a least tree there is the tree of its part, and then the tree of its rest -/
theorem tre_at : ∀ s : Nat, s < 65536 → 0 ≤ (bb may st s).2 → ∀ (i : Nat) (h : i < (tre may st 65536 s).length),
    ∃ p r : Nat, (tre may st 65536 s)[i].p = p ∧ (tre may st 65536 s)[i].rest = r ∧ p < 65536 ∧ r < 65536 ∧ 1 ≤ p ∧ 1 ≤ r ∧ 0 ≤ (bb may st p).2 ∧ 0 ≤ (bb may st r).2 ∧
      ∃ z, (tre may st 65536 s).drop (i + 1) = tre may st 65536 p ++ (tre may st 65536 r ++ z) := by
  intro s
  induction s using Nat.strongRecOn with
  | _ s ih =>
    intro hs h i hi
    by_cases h1 : 0 ≤ (bb may st s).1
    · obtain ⟨j, p, r, hj, e1, e2, e3, hp, hr, e, _, h5, h6, _, p1, r1⟩ := tre_cons hok hs h1
      have i1 := ih p hp (by omega) h5
      have i2 := ih r hr (by omega) h6
      generalize hTp : tre may st 65536 p = Tp at *
      generalize hTr : tre may st 65536 r = Tr at *
      generalize hTs : tre may st 65536 s = Ts at *
      subst e
      rcases Nat.eq_zero_or_pos i with rfl | h0
      · refine ⟨p, r, e2, e3, by omega, by omega, p1, r1, h5, h6, [], ?_⟩
        rw [hTp, hTr]; simp
      · obtain ⟨q, rfl⟩ : ∃ q, i = q + 1 := ⟨i - 1, by omega⟩
        simp only [List.length_cons, List.length_append] at hi
        by_cases hq : q < Tp.length
        · obtain ⟨a, b, c1, c2, c3, c4, c5, c6, c7, c8, z, c9⟩ := i1 q hq
          refine ⟨a, b, ?_, ?_, c3, c4, c5, c6, c7, c8, z ++ Tr, ?_⟩
          · rw [List.getElem_cons_succ, List.getElem_append_left hq]; exact c1
          · simp only [List.getElem_cons_succ, List.getElem_append_left hq]; exact c2
          · rw [List.drop_succ_cons, List.drop_append_of_le_length (by omega), c9]
            simp only [List.append_assoc]
        · obtain ⟨a, b, c1, c2, c3, c4, c5, c6, c7, c8, z, c9⟩ := i2 (q - Tp.length) (by omega)
          refine ⟨a, b, ?_, ?_, c3, c4, c5, c6, c7, c8, z, ?_⟩
          · rw [List.getElem_cons_succ, List.getElem_append_right (by omega)]; exact c1
          · simp only [List.getElem_cons_succ, List.getElem_append_right (Nat.not_lt.1 hq)]; exact c2
          · rw [List.drop_succ_cons, List.drop_append, List.drop_eq_nil_of_le (by omega), List.nil_append, show q + 1 - Tp.length = q - Tp.length + 1 by omega, c9]
    · rw [tre_nil hok h1] at hi; exact absurd hi (Nat.not_lt_zero _)
theorem tre_head {s : Nat} (hs : s < 65536) (h : 0 ≤ (bb may st s).2) (hp : pop s ≠ 1) : ∃ x t, tre may st 65536 s = x :: t ∧ x.w = s := by
  obtain ⟨i, p, r, hi, e1, _, _, _, _, e, _⟩ := tre_cons hok hs (bb_split hok hs h hp)
  exact ⟨_, _, e, e1⟩
/-- where a set's parts are taken apart -/
theorem tre_parts {s : Nat} (hs : s < 65536) (h : 0 ≤ (bb may st s).2) {i : Nat} (hi : i < (tre may st 65536 s).length) :
    (hasB st (tre may st 65536 s)[i].p = true ∧ (siz (tre may st 65536 s)[i].p = 1 ∨ ∃ j, ∃ hj : j < (tre may st 65536 s).length, i < j ∧ (tre may st 65536 s)[j].w = (tre may st 65536 s)[i].p)) ∧
    (hasB st (tre may st 65536 s)[i].rest = true ∧ (siz (tre may st 65536 s)[i].rest = 1 ∨ ∃ j, ∃ hj : j < (tre may st 65536 s).length, i < j ∧ (tre may st 65536 s)[j].w = (tre may st 65536 s)[i].rest)) := by
  obtain ⟨p, r, e1, e2, hp, hr, _, _, h5, h6, z, hz⟩ := tre_at hok s hs h i hi
  generalize hTs : tre may st 65536 s = Ts at *
  rw [e1, e2]
  have len : Ts.length = i + 1 + ((tre may st 65536 p).length + ((tre may st 65536 r).length + z.length)) := by
    have := congrArg List.length hz
    simp only [List.length_drop, List.length_append] at this
    omega
  have at' : ∀ j (hj : i + 1 + j < Ts.length), Ts[i + 1 + j] = (tre may st 65536 p ++ (tre may st 65536 r ++ z))[j]'(by simp only [List.length_append]; omega) := fun j hj => by
    have h1 := List.getElem_drop (xs := Ts) (i := i + 1) (j := j) (h := by rw [List.length_drop]; omega)
    rw [← h1]
    simp only [hz]
  refine ⟨⟨bb_firm' hok hp h5, ?_⟩, ⟨bb_firm' hok hr h6, ?_⟩⟩
  · by_cases h1 : pop p = 1
    · left; rw [siz_nat p hp]; exact h1
    · right
      obtain ⟨x, t, e, hx⟩ := tre_head hok hp h5 h1
      have hl : (tre may st 65536 p).length = t.length + 1 := by rw [e]; rfl
      refine ⟨i + 1 + 0, by omega, by omega, ?_⟩
      rw [at' 0 (by omega)]
      simp only [e, List.cons_append, List.getElem_cons_zero]
      exact hx
  · by_cases h1 : pop r = 1
    · left; rw [siz_nat r hr]; exact h1
    · right
      obtain ⟨x, t, e, hx⟩ := tre_head hok hr h6 h1
      have hl : (tre may st 65536 r).length = t.length + 1 := by rw [e]; rfl
      refine ⟨i + 1 + (tre may st 65536 p).length, by omega, by omega, ?_⟩
      rw [at' _ (by omega), List.getElem_append_right (Nat.le_refl _)]
      simp only [Nat.sub_self, e, List.cons_append, List.getElem_cons_zero]
      exact hx
end
/-- with more splits and more stable sets no sum is greater -/
theorem bb_more {may may' : List Spl} {st st' : List Int} (hok : may.all Spl.ok = true) (hok' : may'.all Spl.ok = true) (hm : ∀ x ∈ may, x ∈ may') (hs' : ∀ x ∈ st, x ∈ st') :
    ∀ s : Nat, s < 65536 → 0 ≤ (bb may st s).2 → 0 ≤ (bb may' st' s).2 ∧ (bb may' st' s).2 ≤ (bb may st s).2 := by
  intro s
  induction s using Nat.strongRecOn with
  | _ s ih =>
    intro hs h
    have hf := bb_firm' hok hs h
    have hf' : hasB st' (s : Int) = true := by unfold hasB at hf ⊢; exact List.contains_iff_mem.2 (hs' _ (List.contains_iff_mem.1 hf))
    by_cases h1 : 0 ≤ (bb may st s).1
    · obtain ⟨i, p, r, hi, e1, e2, e3, hp, hr, _, _, h5, h6, h7, _, _⟩ := tre_cons hok hs h1
      obtain ⟨a1, a2⟩ := ih p hp (by omega) h5
      obtain ⟨b1, b2⟩ := ih r hr (by omega) h6
      obtain ⟨j, hj, e⟩ := List.getElem_of_mem (hm _ (List.getElem_mem hi))
      obtain ⟨g1, g2⟩ := bb_least hok' hs hf' hj (by rw [e]; exact e1) (by rw [e]; exact e2) (by rw [e]; exact e3) a1 b1
      rw [e] at g2
      exact ⟨g1, by omega⟩
    · have hp : pop s = 1 := Classical.byContradiction fun hp => h1 (bb_split hok hs h hp)
      rw [bb_one hok' hs hf' hp, bb_one hok hs hf hp]
      exact ⟨by decide, by decide⟩
theorem bb_same {may may' : List Spl} {st st' : List Int} (hok : may.all Spl.ok = true) (hok' : may'.all Spl.ok = true) (hm : ∀ x, x ∈ may ↔ x ∈ may') (hs' : ∀ x, x ∈ st ↔ x ∈ st') {s : Nat} (hs : s < 65536) : (bb may' st' s).2 = (bb may st s).2 := by
  have h1 := bb_more hok hok' (fun x => (hm x).1) (fun x => (hs' x).1) s hs
  have h2 := bb_more hok' hok (fun x => (hm x).2) (fun x => (hs' x).2) s hs
  have h3 := bb_le (st := st) hok hs
  have h4 := bb_le (st := st') hok' hs
  omega
theorem canL_same {may may' : List Spl} {st st' : List Int} (hok : may.all Spl.ok = true) (hok' : may'.all Spl.ok = true) (hm : ∀ x, x ∈ may ↔ x ∈ may') (hs' : ∀ x, x ∈ st ↔ x ∈ st') : canL may' st' = canL may st := by
  unfold canL
  refine List.filter_congr fun k hk => ?_
  have hk' := List.mem_range.1 hk
  congr 1
  · rw [Bool.eq_iff_iff]; unfold hasB; rw [List.contains_iff_mem, List.contains_iff_mem]; exact (hs' _).symm
  · unfold cn; rw [Int.toNat_natCast, bb_same hok hok' hm hs' hk']
theorem errV_zero {whole : Int} {may : List Spl} {st : List Int} (h1 : may.length ≤ 4096) (h2 : st.length ≤ 4096) (h3 : isB whole = true) (h4 : st.all isB = true) (h5 : may.all Spl.ok = true) : errV whole may st = 0 := by
  unfold errV
  rw [if_neg (by omega), h3, h4, h5]; rfl
theorem findV_no {whole : Int} {may : List Spl} {st : List Int} (h : errV whole may st = 0) (hb : ¬ 0 ≤ (bb may st whole.toNat).2) : findV whole may st = ⟨[], 0, canL may st, 6⟩ := by unfold findV; rw [if_pos h, if_neg hb]
theorem findV_yes {whole : Int} {may : List Spl} {st : List Int} (h : errV whole may st = 0) (hb : 0 ≤ (bb may st whole.toNat).2) : findV whole may st = ⟨tre may st 65536 whole.toNat, (bb may st whole.toNat).2, [], 0⟩ := by unfold findV; rw [if_pos h, if_pos hb]
end Go.Order

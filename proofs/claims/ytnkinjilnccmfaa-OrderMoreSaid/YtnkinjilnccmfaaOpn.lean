/- Arguments opened: slices of structs, nested slices of numbers. Any program. -/
import Derived.Test.YtnkinjilnccmfaaLaw
import Derived.Test.YtnkinjilnccmfaaOw
import Derived.Deep.Slices
namespace Go.Own
open Go.ChangeShapes Go.WideShapes Go.ChangeAt Go.RowKit Go.Deep
section
variable {H : Type} {enc : TypeId × Value → H} {P : Program} {W : World}
theorem mapM_cells {w : World} {a : Addr} : ∀ {n : Nat} {cs : List Value}, ((List.range n).mapM fun i => w.cell? (a.add i)) = some cs → cs.length = n ∧ ∀ i v, cs[i]? = some v → w.cell? (a.add i) = some v := by
  intro n cs h
  have h1 := mapM_some_length h
  rw [List.length_range] at h1
  refine ⟨h1, fun i v hi => ?_⟩
  have hlt : i < n := by have := (List.getElem?_eq_some_iff.1 hi).1; omega
  have := mapM_some_get h i i (by simp [hlt])
  rw [this, hi]
/-- A slice of structs: its cells, element by element, each of which reads. -/
theorem sl_of_structs {r : Reach} {b0 : Nat} {t e : TypeId} {s : Nat} {v : Value} {d : DataW H} {ps : List MemPlace} (ht : P.underlying t = some (.slice e)) (hc : P.cellsOf e = s)
    (hval : Value.okWide P W r b0 t v) (hd : DataW.Trod enc P W 0 (fun _ => true) true t v d ps) :
    ∃ L : List (List Value), Sl W s v L.length L.flatten ∧ L.length ≤ maxLen ∧ ∀ cs ∈ L, cs.length = s ∧ ∃ n y, DataW.trod enc P W 0 (fun _ => true) true n e cs = some y := by
  obtain ⟨fuel, hf⟩ := hd
  have hno : ∀ xs, v ≠ .agg xs := by
    intro xs hv; subst hv
    unfold Value.okWide at hval
    rw [ht] at hval
    have hv' : Cell.okWide P W r b0 t (.agg xs) := hval
    unfold Cell.okWide at hv'; rw [ht] at hv'
    have h2 : Cell.ok P W r b0 t (.agg xs) := hv'
    unfold Cell.ok at h2; rw [ht] at h2; exact h2
  rcases open_slice ht hf with ⟨hcs, _⟩ | ⟨a, len, cap, m, n, D, Pl, hcs, _, hl, hm, hmm, _, hx⟩
  · have hv : v = .slice none 0 0 := by
      cases v <;> simp [Value.cells] at hcs
      case slice => rw [hcs.1, hcs.2.1, hcs.2.2]
      case agg xs => exact absurd rfl (hno xs)
    exact ⟨[], ⟨by simp, .inl ⟨hv, rfl⟩⟩, Nat.zero_le _, by simp⟩
  · have hv : v = .slice (some a) len cap := by
      cases v <;> simp [Value.cells] at hcs
      case slice => rw [hcs.1, hcs.2.1, hcs.2.2]
      case agg xs => exact absurd rfl (hno xs)
    subst hv
    obtain ⟨h1, h2⟩ := slice_okW ht hval
    obtain ⟨b, off, sp⟩ := a
    obtain rfl : sp = none := h1
    simp only [if_true] at hmm
    subst hmm
    rw [hc] at hx
    have each : ∀ i, i < len → ∃ cs, cs.length = s ∧ (∃ n y, DataW.trod enc P W 0 (fun _ => true) true n e cs = some y) ∧ ∀ j u, cs[j]? = some u → W.cell? ⟨b, off + i * s + j, none⟩ = some u := fun i hi => by
      obtain ⟨cs, h3, h4⟩ := hx i (by omega)
      unfold World.cells? at h3
      rw [if_pos (Nat.zero_le _)] at h3
      obtain ⟨h5, h6⟩ := mapM_cells h3
      refine ⟨cs, h5, ⟨n, _, h4⟩, fun j u hj => ?_⟩
      have := h6 j u hj
      rwa [Addr.add_lit, Addr.add_lit] at this
    obtain ⟨F, hF⟩ := choose_lt each
    refine ⟨(List.range len).map F, ?_, by simp; omega, fun cs hcs => ?_⟩
    · have hfl : ∀ k, k ≤ len → (((List.range k).map F).flatten).length = k * s := fun k => by
        induction k with
        | zero => intro _; simp
        | succ k ih =>
          intro hk
          rw [List.range_succ, List.map_append, List.flatten_append, List.length_append, ih (by omega)]
          simp [(hF k (by omega)).1]
          rw [Nat.add_mul, Nat.one_mul]
      have hcell : ∀ k, k ≤ len → Cells W b off (((List.range k).map F).flatten) := fun k => by
        induction k with
        | zero => intro _ i u hi; simp at hi
        | succ k ih =>
          intro hk i u hi
          rw [List.range_succ, List.map_append, List.flatten_append] at hi
          by_cases hlt : i < k * s
          · rw [List.getElem?_append_left (by rw [hfl k (by omega)]; exact hlt)] at hi
            exact ih (by omega) i u hi
          · rw [List.getElem?_append_right (by rw [hfl k (by omega)]; omega), hfl k (by omega)] at hi
            simp at hi
            have := (hF k (by omega)).2.2 (i - k * s) u hi
            rwa [show off + k * s + (i - k * s) = off + i by omega] at this
      have hlen : ((List.range len).map F).length = len := by simp
      rw [hlen]
      exact ⟨hfl len (Nat.le_refl _), .inr ⟨b, off, m, rfl, by omega, hm, hcell len (Nat.le_refl _), h2⟩⟩
    · obtain ⟨i, hi, rfl⟩ := List.mem_map.1 hcs
      have hi' := List.mem_range.1 hi
      exact ⟨(hF i hi').1, (hF i hi').2.1⟩
theorem choose_map {α β : Type} {f : α → β} {p : α → Prop} : ∀ {L : List β}, (∀ c ∈ L, ∃ x, c = f x ∧ p x) → ∃ l : List α, L = l.map f ∧ ∀ x ∈ l, p x
  | [], _ => ⟨[], rfl, by simp⟩
  | c :: L, h => by
    obtain ⟨l, h1, h2⟩ := choose_map (L := L) fun c hc => h c (List.mem_cons_of_mem _ hc)
    obtain ⟨x, h3, h4⟩ := h c List.mem_cons_self
    refine ⟨x :: l, by rw [h1, h3]; rfl, ?_⟩
    rintro y hy
    rcases List.mem_cons.1 hy with rfl | hy
    · exact h4
    · exact h2 y hy
/-- A nested slice of numbers: where it is not empty, it reads. -/
theorem ints_of_cell {t e : TypeId} {k : IntKind} {fuel : Nat} {c : Value} {x : DataW H × List MemPlace} (ht : P.underlying t = some (.slice e)) (he : P.underlying e = some (.int k)) (hc : P.cellsOf e = 1)
    (h : DataW.trod enc P W 0 (fun _ => true) true fuel t [c] = some x) :
    ∃ (zs : List Int) (sa : Option Addr) (cap : Nat), c = .slice sa zs.length cap ∧ (zs ≠ [] → Sl W 1 c zs.length (zs.map (.int k))) ∧ zs.length ≤ maxLen ∧ ∀ z ∈ zs, (Lit.int k z).wf = true := by
  rcases open_ints ht he hc h with ⟨hcs, _⟩ | ⟨a, len, cap, zs, hcs, _, hl, hm, hz, _, hcell, hwz⟩
  · obtain rfl : c = .slice none 0 0 := by simpa using hcs
    exact ⟨[], none, 0, rfl, fun h => absurd rfl h, Nat.zero_le _, by simp⟩
  · obtain rfl : c = .slice (some a) len cap := by simpa using hcs
    simp only [if_true] at hz
    have hll : (zs.take len).length = len := by simp; omega
    refine ⟨zs.take len, some a, cap, by rw [hll], fun hne => ?_, by omega, fun z hz' => hwz z (List.mem_of_mem_take hz')⟩
    have hpos : 0 < len := by
      rcases Nat.eq_zero_or_pos len with h | h
      · subst h; simp at hne
      · exact h
    have h0 := hcell 0 (by omega)
    have ha0 : a.add 0 = a := by simp [Addr.add]
    rw [ha0] at h0
    obtain ⟨b, off, sp⟩ := a
    have hsp : sp = none := by
      unfold World.cell? at h0
      cases sp with
      | none => rfl
      | some s => simp at h0; split at h0 <;> cases h0
    subst hsp
    have hlt := World.block_lt_of_cell? _ _ h0
    refine ⟨by simp, .inr ⟨b, off, cap, by rw [hll], by omega, hm, fun i u hi => ?_, hlt⟩⟩
    have hil : i < len ∧ i < zs.length := by
      have := (List.getElem?_eq_some_iff.1 hi).1
      simp at this; omega
    have h3 := hcell i hil.2
    rw [add_plain] at h3
    rw [h3, ← hi]
    simp [hil.1, hil.2]
theorem int_of_cell {t : TypeId} {k : IntKind} {fuel : Nat} {c : Value} {x : DataW H × List MemPlace} (ht : P.underlying t = some (.int k)) (h : DataW.trod enc P W 0 (fun _ => true) true fuel t [c] = some x) : ∃ z, c = .int k z ∧ (Lit.int k z).wf = true := by
  obtain ⟨n, h1, _, h2⟩ := DataW.trod_int ht h
  exact ⟨n, by simpa using h1, h2⟩
theorem string_of_cell {t : TypeId} {fuel : Nat} {c : Value} {x : DataW H × List MemPlace} (ht : P.underlying t = some .string) (h : DataW.trod enc P W 0 (fun _ => true) true fuel t [c] = some x) : ∃ s : List UInt8, c = str s ∧ s.length ≤ maxLen := by
  obtain ⟨s, h1, _, h2⟩ := DataW.trod_string ht h
  obtain rfl : c = .string s := by simpa using h1
  exact ⟨s.data.toList, rfl, by rw [Array.length_toList]; exact h2⟩
theorem trod_struct5 {w : World} {base : Nat} {spare : Nat → Bool} {held : Bool} {t : TypeId} {f0 f1 f2 f3 f4 : Field} {fuel : Nat} {cs : List Value} {x : DataW H × List MemPlace} (ht : P.underlying t = some (.struct #[f0, f1, f2, f3, f4])) (h : DataW.trod enc P w base spare held fuel t cs = some x) :
    ∃ y0 y1 y2 y3 y4 n, DataW.trod enc P w base spare held n f0.type ((cs.drop f0.offset).take (P.cellsOf f0.type)) = some y0 ∧
      DataW.trod enc P w base spare held n f1.type ((cs.drop f1.offset).take (P.cellsOf f1.type)) = some y1 ∧ DataW.trod enc P w base spare held n f2.type ((cs.drop f2.offset).take (P.cellsOf f2.type)) = some y2 ∧
      DataW.trod enc P w base spare held n f3.type ((cs.drop f3.offset).take (P.cellsOf f3.type)) = some y3 ∧ DataW.trod enc P w base spare held n f4.type ((cs.drop f4.offset).take (P.cellsOf f4.type)) = some y4 := by
  obtain ⟨xs, n, _, rfl, hl, hlen, hf⟩ := DataW.trod_struct ht h
  match xs, hlen with
  | [y0, y1, y2, y3, y4], _ => exact ⟨y0, y1, y2, y3, y4, n, by simpa using hf 0 f0 rfl, by simpa using hf 1 f1 rfl, by simpa using hf 2 f2 rfl, by simpa using hf 3 f3 rfl, by simpa using hf 4 f4 rfl⟩
end
end Go.Own

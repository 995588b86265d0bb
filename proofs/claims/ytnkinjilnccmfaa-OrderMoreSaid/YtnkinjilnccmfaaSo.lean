/- slices.Sort at a row of ints known whole. -/
import Derived.Test.YtnkinjilnccmfaaOw
import Derived.Shelf.SortM.Plain
import Derived.Shelf.SortM.SortNone
namespace Go.Own
open Go.RowKit Go.Proofs Go.Shelf Go.Sort
theorem putCells_row {α : Type} [Inhabited α] (f : α → Value) (xs ys : List α) (sp : List Value) (h : ys.length = xs.length) : putCells f 0 ys.toArray (xs.map f ++ sp).toArray = (ys.map f ++ sp).toArray := by
  apply Array.ext_getElem?
  intro k
  simp only [putCells, Array.getElem?_mapIdx, List.getElem?_toArray, List.size_toArray, Nat.zero_add, Nat.sub_zero]
  by_cases hk : k < ys.length
  · rw [List.getElem?_append_left (by simp; omega), List.getElem?_append_left (by simp; omega), List.getElem?_map, List.getElem?_map, List.getElem?_eq_getElem (by omega), List.getElem?_eq_getElem hk]
    simp [hk]
  · rw [List.getElem?_append_right (by simp; omega), List.getElem?_append_right (by simp; omega), List.length_map, List.length_map, h]
    cases sp[k - xs.length]? with
    | none => rfl
    | some v => simp; omega
theorem blk_putRow {α : Type} [Inhabited α] {w : World} {g n : Nat} {t : TypeId} {f : α → Value} {xs ys : List α} {sp : List Value} {os : Array Obj} (hB : Blk w g (xs.map f ++ sp) t) (h : ys.length = xs.length) :
    Blk (grow (putRow f (Sort.ahead w n) g 0 ys.toArray) os) g (ys.map f ++ sp) t ∧ Chg [g] w (grow (putRow f (Sort.ahead w n) g 0 ys.toArray) os) := by
  have hg := hB.lt
  unfold Blk at hB
  have hsz : (putRow f (Sort.ahead w n) g 0 ys.toArray).heap.size = w.heap.size := by rw [size_putRow]; rfl
  refine ⟨?_, rfl, rfl, rfl, ?_, ?_⟩
  · unfold Blk
    show ((putRow f (Sort.ahead w n) g 0 ys.toArray).heap ++ os)[g]? = _
    rw [Array.getElem?_append_left (by rw [hsz]; exact hg)]
    unfold putRow mapBlock
    show (w.heap.modify g _)[g]? = _
    rw [Array.getElem?_modify, if_pos rfl, hB]
    simp only [Option.map_some, onCells]
    rw [putCells_row f xs ys sp h]
  · show _ ≤ ((putRow f (Sort.ahead w n) g 0 ys.toArray).heap ++ os).size
    rw [Array.size_append, hsz]; omega
  · intro k hk hn
    show ((putRow f (Sort.ahead w n) g 0 ys.toArray).heap ++ os)[k]? = _
    rw [Array.getElem?_append_left (by rw [hsz]; exact hk)]
    unfold putRow mapBlock
    show (w.heap.modify g _)[k]? = _
    rw [Array.getElem?_modify, if_neg (fun e => hn (by rw [e]; simp))]
/-- slices.Sort(s) at a row in a block of its own. -/
theorem sort_blk {P : Program} {ρ : Ren} (L : SlLaysM.n5 P ρ) {w : World} {g cap : Nat} {t : TypeId} {xs : List Int} {sp : List Value} (hB : Blk w g (xs.map (.int .i64) ++ sp) t) (hsz : xs.length ≤ 1000000) :
    Calls P (ρ.f 5) #[.slice (some ⟨g, 0, none⟩) xs.length cap] w fun e w' => e = .returned (.tuple #[]) ∧ Blk w' g ((xs.mergeSort fun x y => decide (x ≤ y)).map (.int .i64) ++ sp) t ∧ Chg [g] w w' := by
  refine (AnyM.slices_Sort_int L g 0 cap xs w ?_ hB.lt (by omega)).mono ?_
  · intro j hj
    have hj' : j < xs.length := by simpa using hj
    rw [Nat.zero_add]
    refine ⟨hB.cell ?_, hB.frozen j⟩
    rw [List.getElem?_append_left (by simpa using hj'), List.getElem?_map, List.getElem?_eq_getElem hj']
    simp [hj']
  · rintro e w' ⟨rfl, n, os, rfl⟩
    exact ⟨rfl, blk_putRow hB (List.length_mergeSort xs)⟩
/-- The same at a row of one's own, nil too. -/
theorem sort_own {P : Program} {ρ : Ren} (L : SlLaysM.n5 P ρ) {w : World} {base : Nat} {t : TypeId} {v : Value} {xs : List Int} (h : w.ownsRow base t 1 v xs.length (xs.map (.int .i64))) (hsz : xs.length ≤ 1000000) :
    Calls P (ρ.f 5) #[v] w fun e w' => e = .returned (.tuple #[]) ∧ w'.ownsRow base t 1 v xs.length ((xs.mergeSort fun x y => decide (x ≤ y)).map (.int .i64)) ∧ (∀ B, B ≤ w.heap.size → B ≤ base → Below B w w') := by
  have hlen : ((xs.mergeSort fun x y => decide (x ≤ y)).map (Value.int .i64)).length = xs.length * 1 := by rw [List.length_map, List.length_mergeSort, Nat.mul_one]
  rcases h.2 with ⟨rfl, h0⟩ | ⟨g, cap, cur, rfl, hg, hgg, hn, hm, hs, ht⟩
  · have hx : xs = [] := List.length_eq_zero_iff.1 h0
    subst hx
    refine (AnyM.slices_Sort_int_none L none 0 w).mono ?_
    rintro e w' ⟨rfl, rfl⟩
    exact ⟨rfl, by simpa using World.ownsRow_nil w' base t 1, fun B _ _ => Below.refl _ _⟩
  · rw [Nat.mul_one] at ht hs
    have hB : Blk w g (xs.map (.int .i64) ++ cur.toList.drop xs.length) t := by
      unfold Blk
      rw [hgg, ← ht, List.take_append_drop]
    refine (sort_blk L (cap := cap) hB hsz).mono ?_
    rintro e w' ⟨rfl, h1, h2⟩
    refine ⟨rfl, ⟨hlen, .inr ⟨g, cap, _, rfl, hg, h1, hn, hm, ?_, ?_⟩⟩, fun B hB1 hB2 => h2.below hB1 (by simp; omega)⟩
    · simp [hs]; omega
    · rw [List.toList_toArray, Nat.mul_one, List.take_append_of_le_length (by simp), List.take_of_length_le (by simp)]
end Go.Own

/- slices.SortFunc at a row of one's own. -/
import Derived.Test.YtnkglahiagigoaaSo
import Derived.Shelf.SlSortCmp.NoneTotal
namespace Go.Own
open Go.RowKit Go.Proofs Go.Shelf Go.Sort
theorem sortf_own {P : Program} {ρ : Ren} (L : SlLaysF.n6 P ρ) {α : Type} [Inhabited α] (enc : α → Value) (h1 : OneCell enc) (cf : α → α → Int) (hO : SWO (ltOf cf)) (gc : Nat) (cb : Array Value) {w : World} {base : Nat} {t : TypeId} {v : Value} {xs : List α}
    (h : w.ownsRow base t 1 v xs.length (xs.map enc)) (hsz : xs.length ≤ 1000000) (eg : ∀ args w, (callFunc gc args).run P w = .ok (.enter gc args) w)
    (hcmp : ∀ g cap, v = .slice (some ⟨g, 0, none⟩) xs.length cap → g < w.heap.size → ∀ W, Chg [g] w W → ∀ x y, Calls P gc (#[enc x, enc y] ++ cb) W fun e w' => e = .returned (.int .i64 (cf x y)) ∧ ∃ q os', w' = grow (W.drewN q) os') :
    Calls P (ρ.f 6) #[v, .func (.func gc) #[] cb] w fun e w' => e = .returned (.tuple #[]) ∧ ∃ ys : List α, ys.Perm xs ∧ ys.Pairwise (fun x y => ltOf cf y x = false) ∧ w'.ownsRow base t 1 v xs.length (ys.map enc) ∧ (∀ B, B ≤ w.heap.size → B ≤ base → Below B w w') := by
  rcases h.2 with ⟨rfl, h0⟩ | ⟨g, cap, cur, rfl, hg, hgg, hn, hm, hs, ht⟩
  · have hx : xs = [] := List.length_eq_zero_iff.1 h0
    subst hx
    refine (AnyF.slices_SortFunc_none { L with } none 0 _ w).mono ?_
    rintro e w' ⟨rfl, rfl⟩
    exact ⟨rfl, [], List.Perm.refl _, List.Pairwise.nil, by simpa using World.ownsRow_nil w' base t 1, fun B _ _ => Below.refl _ _⟩
  · rw [Nat.mul_one] at ht hs
    have hB : Blk w g (xs.map enc ++ cur.toList.drop xs.length) t := by
      unfold Blk
      rw [hgg, ← ht, List.take_append_drop]
    have hgl := hB.lt
    have hc : CmpLays1 P gc cb enc cf g 0 xs.toArray.size w := fun m os dk hd x y => by
      have hd' : dk.toList.length = xs.length := by simpa using hd
      have := (blk_putRow (n := m) (os := os) hB hd').2
      rw [Array.toArray_toList] at this
      exact hcmp g cap rfl hgl _ this x y
    have hcon := Any.slices_SortFunc L enc h1 cf hO gc cb g 0 cap xs.toArray w eg hc (by
      intro j hj
      have hj' : j < xs.length := by simpa using hj
      rw [Nat.zero_add]
      refine ⟨hB.cell ?_, hB.frozen j⟩
      rw [List.getElem?_append_left (by simpa using hj'), List.getElem?_map, List.getElem?_eq_getElem hj']
      simp [hj']) hgl (by simp; omega)
    rw [List.size_toArray] at hcon
    refine hcon.mono ?_
    rintro e w' ⟨rfl, d', n, os, hp, hs', rfl⟩
    obtain ⟨hp1, _, hp2⟩ := hp
    have hl : d'.toList.length = xs.length := by simpa using hp1
    have hb := blk_putRow (n := n) (os := os) hB hl
    rw [Array.toArray_toList] at hb
    obtain ⟨hb1, hb2⟩ := hb
    have e1 : d'.extract 0 xs.length = d' := by
      have : xs.length = d'.size := by simpa using hl.symm
      rw [this]; exact Array.extract_size
    have e2 : xs.toArray.extract 0 xs.length = xs.toArray := by
      have : xs.length = xs.toArray.size := by simp
      rw [this]; exact Array.extract_size
    rw [e1, e2] at hp2
    refine ⟨rfl, d'.toList, by simpa using hp2, ?_, ⟨by simpa using hl, .inr ⟨g, cap, _, rfl, hg, hb1, hn, hm, ?_, ?_⟩⟩, fun B hB1 hB2 => hb2.below hB1 (by simp; omega)⟩
    · rw [List.pairwise_iff_getElem]
      intro i j hi hj hij
      have hi' : i < d'.size := by simpa using hi
      have hj' : j < d'.size := by simpa using hj
      have := hs' i j (Nat.zero_le _) hij (by omega)
      rw [getElem!_pos d' j hj', getElem!_pos d' i hi'] at this
      simpa using this
    · simp [hs] at *; omega
    · rw [List.toList_toArray, Nat.mul_one, List.take_append_of_le_length (by rw [List.length_map, hl]; exact Nat.le_refl _), List.take_of_length_le (by rw [List.length_map, hl]; exact Nat.le_refl _)]
end Go.Own

/- order: Clone and Reverse of splits; Sequence. -/
import Derived.Test.YtnkinjilnccmfaaL3
import Derived.Test.YtnkinjilnccmfaaShD
import Derived.Test.YtnkinjilnccmfaaSo
namespace Go.Order
open Go.RowKit Go.Own Go.Proofs Go.Sort Go.Proofs.Ytnkinjilnccmfaa
instance : Inhabited Num := ⟨⟨false, [], none, 0⟩⟩
instance : Inhabited Spl := ⟨⟨0, 0, default, default, default, default⟩⟩
theorem flatK_spl (l : List Spl) : flatK Spl.cells 10 l.toArray = (flat l).toArray := by
  apply Array.ext_getElem?
  intro k
  by_cases hk : k < l.length * 10
  · have h1 : k / 10 < l.length := by omega
    have h2 : k % 10 < 10 := Nat.mod_lt _ (by decide)
    have h3 := flat_at h1 h2
    rw [show k / 10 * 10 + k % 10 = k by omega] at h3
    have e2 : (flat l).toArray[k]? = l[k / 10].cells[k % 10]? := by rw [← h3]; simp
    rw [e2, Array.getElem?_eq_getElem (by simpa using hk), ← getElem!_pos (flatK Spl.cells 10 l.toArray) k (by simpa using hk), get_flatK _ _ _ _ (by simpa using hk)]
    rw [getElem!_pos l.toArray (k / 10) (by simpa using h1), List.getElem_toArray]
    rw [getElem!_pos l[k / 10].cells (k % 10) h2, List.getElem?_eq_getElem (by exact h2)]
  · have e2 : (flat l).toArray[k]? = none := by
      have : (flat l)[k]? = none := List.getElem?_eq_none (by rw [flat_len]; omega)
      rw [← this]; simp
    rw [e2, Array.getElem?_eq_none (by simpa using Nat.not_lt.1 hk)]
theorem cells_one (x : Spl) : ∀ v ∈ x.cells, v.oneCell' = true := fun u hu => flat_one [x] u (by unfold flat; simpa using hu)
end Go.Order
namespace Go.Proofs.Ytnkinjilnccmfaa
open Go.RowKit Go.Own Go.BigFrame Go.Big Go.Order Go.Shelf Go.Sort
/-- slices.Reverse at a row of splits of one's own. -/
theorem reverse_own {w : World} {base : Nat} {v : Value} {l : List Spl} (h : w.ownsRow base 58 10 v l.length (flat l)) (hn : l.length ≤ 100000) :
    Calls Try.prog 56 #[v] w fun e w' => e = .returned (.tuple #[]) ∧ w'.ownsRow base 58 10 v l.length (flat l.reverse) ∧ (∀ B, B ≤ w.heap.size → B ≤ base → Below B w w') := by
  rcases h.2 with ⟨rfl, h0⟩ | ⟨g, cap, cur, rfl, hg, hgg, hn1, hm, hs, ht⟩
  · have hx : l = [] := List.length_eq_zero_iff.1 h0
    subst hx
    refine (AnyQ.slices_Reverse_empty Try.rv56 none 0 w).mono ?_
    rintro e w' ⟨rfl, rfl⟩
    exact ⟨rfl, h, fun B _ _ => Below.refl _ _⟩
  · have hB : Blk w g ((flat l).map id ++ cur.toList.drop (l.length * 10)) 58 := by
      rw [List.map_id, ← ht, List.take_append_drop]; unfold Blk; rw [hgg]
    have hH : HoldsK Spl.cells 10 w g 0 l.toArray := by
      unfold HoldsK
      rw [flatK_spl]
      intro j hj
      have hj' : j < (flat l).length := by simpa using hj
      rw [Nat.zero_add]
      refine ⟨hB.cell ?_, hB.frozen j⟩
      rw [List.getElem?_append_left (by simpa using hj'), List.getElem?_map, List.getElem?_eq_getElem hj']
      simp [hj']
    refine (AnyQ.slices_Reverse Try.rv56 10 Try.isAgg58 Try.sizeOf58 Spl.cells (fun _ => rfl) cells_one g 0 cap l.toArray w hH (by simp; omega)).mono ?_
    rintro e w' ⟨rfl, n, rfl⟩
    have hlr : (flat l.reverse).length = (flat l).length := by rw [flat_len, flat_len, List.length_reverse]
    obtain ⟨h1, h2⟩ := blk_putRow (n := n) (ys := flat l.reverse) (os := #[]) hB hlr
    rw [grow_empty, List.map_id] at h1
    rw [grow_empty] at h2
    have e1 : putRowK Spl.cells 10 (Sort.ahead w n) g 0 l.toArray.reverse = putRow id (Sort.ahead w n) g 0 (flat l.reverse).toArray := by
      unfold putRowK
      rw [show l.toArray.reverse = l.reverse.toArray from by simp, flatK_spl]
    rw [e1]
    refine ⟨rfl, ⟨by rw [flat_len, List.length_reverse], .inr ⟨g, cap, (flat l.reverse ++ cur.toList.drop (l.length * 10)).toArray, rfl, hg, h1, hn1, hm, ?_, ?_⟩⟩, fun B hB1 hB2 => h2.below hB1 (fun x hx => ?_)⟩
    · simp [flat_len, hs]; omega
    · rw [List.toList_toArray, List.take_append_of_le_length (by rw [flat_len, List.length_reverse]; omega), List.take_of_length_le (by rw [flat_len, List.length_reverse]; omega)]
    · simp at hx; omega
end Go.Proofs.Ytnkinjilnccmfaa
/- order: Clone of splits; Sequence. -/
namespace Go.Proofs.Ytnkinjilnccmfaa
open Go.RowKit Go.Own Go.BigFrame Go.Big Go.Order Go.Shelf
theorem clone_any (l : List Spl) (s : Option Addr) (cap : Nat) (w : World) (h : Lst w (.slice s l.length cap) l) (hn : l.length ≤ 100000) :
    Calls Try.prog 55 #[.slice s l.length cap] w fun e w' => ∃ v, e = .returned v ∧ w'.ownsRow w.heap.size 58 10 v l.length (flat l) ∧ Below w.heap.size w w' := by
  obtain ⟨_, ⟨h2, h3⟩ | ⟨b, off, cap', h2, h3, h4, h5, h6⟩⟩ := h.sl
  · injection h2 with h2 _ _
    subst h2
    have hl : l = [] := List.length_eq_zero_iff.1 h3
    subst hl
    refine (AnyE.slices_Clone_nil Try.cn55 0 cap w).mono ?_
    rintro e w' ⟨rfl, rfl⟩
    exact ⟨_, rfl, World.ownsRow_nil _ _ _ _, Below.refl _ _⟩
  · injection h2 with h2 _ _
    subst h2
    have hi := infoSpl
    rw [Option.map_eq_some_iff] at hi
    obtain ⟨i0, hi, he⟩ := hi
    injection he with e1 e2
    injection e2 with e2 e3
    refine (AnyE.slices_Clone Try.cn55 i0 _ 10 144 hi e1 e2 e3 rfl (by decide) Try.sizeOf58 b off l.length cap _ w (flat_len l) (by unfold maxLen; omega) (by omega) (fun j u hj => h5 j u hj) (flat_one l)).mono ?_
    rintro e w' ⟨v, rfl, h1, _, h2⟩
    exact ⟨v, rfl, h1, h2⟩
/-- A list of splits, whose numbers lie elsewhere, from a row. -/
theorem lst_own {w : World} {base : Nat} {v : Value} {l : List Spl} (h : w.ownsRow base 58 10 v l.length (flat l)) (ha : ∀ x ∈ l, x.At w) : Lst w v l := ⟨Sl.of_owns h, ha⟩
set_option maxRecDepth 100000 in
theorem sequence_any (l : List Spl) (s : Option Addr) (cap : Nat) (w : World) (h : Lst w (.slice s l.length cap) l) (hn : l.length ≤ 100000) :
    Calls Try.prog 25 #[.slice s l.length cap] w fun e w' => ∃ v, e = .returned v ∧ w'.ownsRow w.heap.size 58 10 v l.length (flat l.reverse) ∧ Below w.heap.size w w' := by
  have hc := clone_any l s cap w h hn
  have HC := Lib.hid hc; clear hc
  go_enter Try.func25, Try.ntmps25
  go_wp2_with (fail)
  refine HC.out.mono ?_
  rintro e w1 ⟨v, rfl, h1, b1⟩
  have hr := reverse_own h1 hn
  have HR := Lib.hid hr; clear hr
  go_wp2_with (fail)
  refine HR.out.mono ?_
  rintro e w2 ⟨rfl, h2, b2⟩
  have hb : Below w.heap.size w w2 := b1.trans (b2 _ b1.size (Nat.le_refl _))
  have HB := Lib.hid hb; clear hb b2 b1 h1 HR HC
  have H2 := Lib.hid h2; clear h2
  go_wp2
  go_ret
  exact ⟨_, rfl, H2.out, HB.out⟩
end Go.Proofs.Ytnkinjilnccmfaa

/- order: the keys of a map of sets, sorted. -/
import Derived.Test.YtnkinjilnccmfaaQ25
import Derived.Test.YtnkinjilnccmfaaShB
namespace Go.Proofs.Ytnkinjilnccmfaa
open Go.RowKit Go.Own Go.Maps Go.Sort Go.Shelf Go.Order
theorem mget_mem (m : List (Int × Value)) (k : Int) : (mget m k).isSome = true ↔ k ∈ m.map (·.1) := by
  unfold mget
  rw [Option.isSome_map, List.find?_isSome]
  constructor
  · rintro ⟨p, hp, e⟩
    exact List.mem_map.2 ⟨p, hp, by simpa using e⟩
  · intro h
    obtain ⟨p, hp, e⟩ := List.mem_map.1 h
    exact ⟨p, hp, by simpa using e⟩
theorem keys_perm {m : List (Int × Value)} {L : List Nat} (hnd : (m.map (·.1)).Nodup) (hmem : ∀ k : Int, (mget m k).isSome = true ↔ ∃ j ∈ L, k = (j : Int)) (hL : L.Nodup) : (m.map (·.1)).Perm (L.map fun (j : Nat) => (j : Int)) := by
  refine (List.perm_ext_iff_of_nodup hnd ?_).2 fun k => ?_
  · exact List.pairwise_map.2 (hL.imp fun hne e => hne (by omega))
  · rw [← mget_mem, hmem, List.mem_map]
    exact ⟨fun ⟨j, h1, h2⟩ => ⟨j, h1, h2.symm⟩, fun ⟨j, h1, h2⟩ => ⟨j, h1, h2.symm⟩⟩
theorem sorted_keys {ss : List Int} {L : List Nat} (h : ss.Perm (L.map fun (j : Nat) => (j : Int))) (hL : L.Pairwise (· < ·)) : ss.mergeSort (fun x y => decide (x ≤ y)) = L.map fun (j : Nat) => (j : Int) := by
  have tr : ∀ a b c : Int, leI a b = true → leI b c = true → leI a c = true := fun a b c h1 h2 => by simp only [leI, decide_eq_true_eq] at *; exact Int.le_trans h1 h2
  have tt : ∀ a b : Int, (leI a b || leI b a) = true := fun a b => by simp only [leI, Bool.or_eq_true, decide_eq_true_eq]; exact Int.le_total a b
  refine List.Perm.eq_of_pairwise (le := fun a b => leI a b = true) (fun a b _ _ h1 h2 => ?_) (List.pairwise_mergeSort tr tt ss) ?_ ((List.mergeSort_perm ss leI).trans h)
  · simp only [leI, decide_eq_true_eq] at h1 h2
    exact Int.le_antisymm h1 h2
  · exact List.pairwise_map.2 (hL.imp fun hlt => by simp only [leI, decide_eq_true_eq]; omega)
theorem range_filter_lt (n : Nat) (p : Nat → Bool) : ((List.range n).filter p).Pairwise (· < ·) := List.Pairwise.filter p List.pairwise_lt_range
theorem IMap.owns {H : Type} {P : Program} {k : TypeId} {w : World} {b : Nat} {m : List (Int × Value)} (hk : P.underlying k = some (.int .i64)) (hm : IMap w b m) (hr : ∀ p ∈ m, -9223372036854775808 ≤ p.1 ∧ p.1 ≤ 9223372036854775807) (hl : m.length ≤ maxLen) :
    ∃ D : DataW H, w.ownsMap P k (fun _ => some (.nil, [])) b m.length D ∧ (intKeys D).Perm (m.map (·.1)) ∧ Maps.size D = m.length := by
  obtain ⟨es, clock, hb, hs, h4⟩ := hm
  have hlen : es.toList.length = m.length := by have := congrArg List.length h4; simpa using this
  have hkey : ∀ x ∈ es.toList, ∃ a : Int, x.key = .int .i64 a ∧ keyOf P k x.key = some (.int .i64 a) := by
    intro x hx
    have h5 : (x.key, x.val) ∈ es.toList.map (fun e => (e.key, e.val)) := List.mem_map.2 ⟨x, hx, rfl⟩
    rw [h4] at h5
    obtain ⟨p, hp, e⟩ := List.mem_map.1 h5
    injection e with e1 _
    refine ⟨p.1, e1.symm, ?_⟩
    rw [← e1]
    have hw : (Lit.int .i64 p.1).wf = true := by
      have := hr p hp
      simp [Lit.wf, IntKind.min, IntKind.max, IntKind.signed, IntKind.bits]; omega
    simp [keyOf, hk, mapKey, hw]
  have hrd : ∀ x ∈ es.toList, ∃ a : Int, x.key = .int .i64 a ∧ WideElems.rd (H := H) P k (fun _ => some (.nil, [])) x = some (.int .i64 a, .nil) := by
    intro x hx
    obtain ⟨a, h1, h2⟩ := hkey x hx
    exact ⟨a, h1, by simp [WideElems.rd, h2]⟩
  refine ⟨_, ⟨es, clock, hb, ⟨by rw [← Array.length_toList, hlen]; exact hl, hs, fun x hx => ?_⟩, by rw [← Array.length_toList, hlen]; exact Nat.le_refl _, rfl⟩, ?_, ?_⟩
  · obtain ⟨a, _, h⟩ := hrd x hx
    exact ⟨_, h⟩
  · have hp := (WideShapes.sorted_perm (es.toList.map (WideElems.rg (H := H) P k fun _ => some (.nil, [])))).map fun p => Go.intOf p.1
    refine hp.trans (List.Perm.of_eq ?_)
    rw [List.map_map]
    have h5 : es.toList.map (fun e => e.key) = m.map fun p => Value.int .i64 p.1 := by
      have := congrArg (List.map Prod.fst) h4
      rw [List.map_map, List.map_map] at this
      exact this
    have h6 : (es.toList.map fun e => e.key).map (fun v => match v with | .int _ a => a | _ => 0) = m.map (·.1) := by
      rw [h5, List.map_map]; rfl
    rw [← h6, List.map_map]
    refine List.map_congr_left fun x hx => ?_
    obtain ⟨a, h1, h2⟩ := hrd x hx
    simp [WideElems.rg_of h2, h1, Go.intOf]
  · show ((es.toList.map (WideElems.rg (H := H) P k fun _ => some (.nil, []))).foldr DataW.insert []).length = m.length
    rw [length_sorted, List.length_map, hlen]
theorem sortsA (m : Nat) : AnyZI.SortsIn Try.prog Try.sortedA_ren Fence.wide m :=
  ⟨fun blk off cap ss W hH hblk hsz => callsIn_wide.2 (AnyM.slices_Sort_int Try.sortA blk off cap ss W hH hblk hsz),
   fun p cap W => callsIn_wide.2 (AnyM.slices_Sort_int_none Try.sortA p cap W)⟩
theorem keys_any (mb : Option Nat) (W : World) : Calls Try.prog 35 #[.map mb] W fun e w' => e = .returned (.func (.func 67) #[] #[.pointer (some ⟨W.heap.size, 0, none⟩)]) ∧ w' = W.alloc (.cells #[.map mb] 71) :=
  (callsIn_wide (n := 5)).1 (AnyZI.keys_in Try.keysW Fence.wide 5 trivial rfl mb W)
set_option maxHeartbeats 1000000 in
/-- the keys of a map, below 65536, in increasing order -/
theorem sorted_any (w : World) (A : Nat) (f : Int → Bool) (n : Nat) (hn : n ≤ 65536) (h : FirmM w A f) (hf : ∀ k : Int, f k = true → ∃ j : Nat, j < n ∧ k = j) :
    Calls Try.prog 34 #[.func (.func 67) #[] #[.pointer (some ⟨w.heap.size, 0, none⟩)]] (w.alloc (.cells #[.map (some A)] 71)) fun e w' =>
      ∃ v, e = .returned v ∧ w'.ownsRow w.heap.size 22 1 v ((List.range n).filter fun j : Nat => f (j : Int)).length (((List.range n).filter fun j : Nat => f (j : Int)).map fun (j : Nat) => .int .i64 (j : Int)) ∧ Below w.heap.size w w' := by
  obtain ⟨m, hm, hmg⟩ := h
  have hmem : ∀ k : Int, (mget m k).isSome = true ↔ ∃ j ∈ ((List.range n).filter fun j : Nat => f (j : Int)), k = (j : Int) := fun k => by
    rw [hmg]
    unfold bmap
    constructor
    · intro h
      by_cases hk : f k = true
      · obtain ⟨j, hj, rfl⟩ := hf k hk
        exact ⟨j, List.mem_filter.2 ⟨List.mem_range.2 hj, hk⟩, rfl⟩
      · rw [if_neg hk] at h; cases h
    · rintro ⟨j, hj, rfl⟩
      have h2 : f (j : Int) = true := (List.mem_filter.1 hj).2
      rw [if_pos h2]; rfl
  have hpm : (m.map (·.1)).Perm (((List.range n).filter fun j : Nat => f (j : Int)).map fun (j : Nat) => (j : Int)) := keys_perm hm.nodup hmem ((range_filter_lt _ _).imp fun hlt => Nat.ne_of_lt hlt)
  have hml : m.length ≤ 65536 := by
    have e1 := hpm.length_eq
    simp only [List.length_map] at e1
    have e2 := List.length_filter_le (fun j : Nat => f (j : Int)) (List.range n)
    rw [List.length_range] at e2
    omega
  have hmr : ∀ p ∈ m, -9223372036854775808 ≤ p.1 ∧ p.1 ≤ 9223372036854775807 := by
    intro p hp
    have h1 : p.1 ∈ m.map (·.1) := List.mem_map.2 ⟨p, hp, rfl⟩
    rw [hpm.mem_iff] at h1
    obtain ⟨j, hj, e⟩ := List.mem_map.1 h1
    have h2 := List.mem_range.1 ((List.mem_filter.1 hj).1)
    omega
  obtain ⟨D0, hown, hD, hsz⟩ := IMap.owns (H := Unit) (k := 22) (P := Try.prog) hKset hm hmr (by unfold maxLen; omega)
  have hmax : Maps.size D0 ≤ maxLen := by rw [hsz]; unfold maxLen; omega
  have hbytes : Maps.size D0 * 8 ≤ 140737488355328 := by rw [hsz]; omega
  have hbl := hown.lt
  have hseq : SeqGives Fence.wide 2 Try.prog 67 #[.pointer (some ⟨w.heap.size, 0, none⟩)] encZ (fun ss => ss.Perm (intKeys D0)) (Maps.size D0) (w.alloc (.cells #[.map (some A)] 71)) :=
    AnyZI.keys_gives (ρ := Try.keysW_ren) { Try.keysW with } Fence.wide _ trivial rfl (by omega) w.heap.size A m.length D0 _ (by simp) (by simp) (by
      obtain ⟨es, clock, hb, Ft, hs, hD⟩ := hown
      exact ⟨es, clock, (Below.heap_alloc _ _ A hbl).trans hb, Ft, hs, hD⟩)
  have cS := AnyZI.sorted_in Try.sortedA Fence.wide 5 trivial trivial trivial trivial rfl (by omega) (sortsA _) (enters_of Try.func66 (by kernel_rfl) rfl) 67 #[.pointer (some ⟨w.heap.size, 0, none⟩)] trivial (enters_of Try.func67 (by kernel_rfl) rfl) _ _ hmax hbytes _ hseq
  change CallsIn _ _ Try.prog 34 _ _ _ at cS
  refine ((callsIn_wide (n := 5)).1 cS).mono ?_
  rintro e w' ⟨v, ss, rfl, hS, hrow, hnil, hb⟩
  have hsort := sorted_keys ((hS.trans hD).trans hpm) (range_filter_lt _ _)
  have hlen : ss.length = ((List.range n).filter fun j : Nat => f (j : Int)).length := by
    have := ((hS.trans hD).trans hpm).length_eq
    simpa using this
  refine ⟨v, rfl, ?_, ((Below.refl _ w).alloc (Nat.le_refl _) _).trans (hb.mono (by simp))⟩
  have hr : w'.ownsRow w.heap.size 22 1 v ss.length ((ss.mergeSort fun x y => decide (x ≤ y)).map encZ) := ownsRow_base_a hrow (by simp)
  rw [hsort, hlen, List.map_map] at hr
  exact hr
end Go.Proofs.Ytnkinjilnccmfaa

/- Pending and Worn of the program's disk. -/
import Derived.Test.YtkffgmhaiodagaaD7
namespace Go.Proofs.Ytkffgmhaiodagaa
open Go.RowKit Go.Own Go.Disk Go.Maps Go.Sort Go.Shelf
theorem sortsA (m : Nat) : AnyZI.SortsIn Try.prog Try.sortedA_ren Fence.wide m :=
  ⟨fun blk off cap ss W hH hblk hsz => callsIn_wide.2 (AnyM.slices_Sort_int Try.sortA blk off cap ss W hH hblk hsz),
   fun p cap W => callsIn_wide.2 (AnyM.slices_Sort_int_none Try.sortA p cap W)⟩
theorem pend_mem (d : DS) (k : Int) : (if inR d k then (sec d k).p.map bval else none).isSome = true ↔ ∃ j ∈ apend d.s, k = (j : Int) := by
  unfold apend
  constructor
  · intro h
    by_cases hk : inR d k = true
    · rw [if_pos hk, Option.isSome_map] at h
      obtain ⟨_, h1, h2, h3⟩ := sec_mem hk
      exact ⟨k.toNat, List.mem_filter.2 ⟨List.mem_range.2 h1, by rw [h3]; exact h⟩, by omega⟩
    · rw [if_neg hk] at h; cases h
  · rintro ⟨j, hj, rfl⟩
    obtain ⟨h1, h2⟩ := List.mem_filter.1 hj
    have h1 := List.mem_range.1 h1
    rw [if_pos (by simp [inR, h1]), Option.isSome_map]
    exact h2
theorem worn_mem (d : DS) (k : Int) : (if inR d k && (sec d k).w then some (Value.bool true) else none).isSome = true ↔ ∃ j ∈ aworn d.s, k = (j : Int) := by
  unfold aworn
  constructor
  · intro h
    by_cases hk : inR d k = true
    · obtain ⟨_, h1, h2, h3⟩ := sec_mem hk
      by_cases hw : (sec d k).w = true
      · exact ⟨k.toNat, List.mem_filter.2 ⟨List.mem_range.2 h1, by rw [h3]; exact hw⟩, by omega⟩
      · simp [hw] at h
    · simp [hk] at h
  · rintro ⟨j, hj, rfl⟩
    obtain ⟨h1, h2⟩ := List.mem_filter.1 hj
    have h1 := List.mem_range.1 h1
    have h2' : (sec d j).w = true := h2
    rw [h2', show inR d j = true by simp [inR, h1]]
    rfl

set_option maxHeartbeats 1000000 in
theorem pending_any (f : Ft) (d : DS) (w : World) (h : PD w f d) : Calls Try.prog 22 #[.pointer (some ⟨f.p, 0, none⟩)] w fun e w' => ∃ v, e = .returned v ∧ w'.ownsRow w.heap.size 3 1 v (apend d.s).length ((apend d.s).map fun (j : Nat) => encZ j) ∧ Below w.heap.size w w' := by
  obtain ⟨l, hB, _⟩ := h.head
  have c1 : w.cell? ⟨f.p, 1, none⟩ = some (.map (some f.pb)) := hB.cell rfl
  obtain ⟨m, hm, hmg⟩ := h.pend
  have hpm : (m.map (·.1)).Perm ((apend d.s).map fun (j : Nat) => (j : Int)) := keys_perm hm.nodup (fun k => by rw [hmg]; exact pend_mem d k) ((range_filter_lt _ _).imp fun hlt => Nat.ne_of_lt hlt)
  have hml : m.length ≤ 4096 := by
    have e1 := hpm.length_eq
    simp only [List.length_map] at e1
    have e2 : (apend d.s).length ≤ d.s.length := by
      have := List.length_filter_le (fun i => (d.s.getD i default).p.isSome) (List.range d.s.length)
      rw [List.length_range] at this
      exact this
    have := h.ok.most
    omega
  have hmr : ∀ p ∈ m, -9223372036854775808 ≤ p.1 ∧ p.1 ≤ 9223372036854775807 := by
    intro p hp
    have h1 : p.1 ∈ m.map (·.1) := List.mem_map.2 ⟨p, hp, rfl⟩
    rw [hpm.mem_iff] at h1
    obtain ⟨j, hj, e⟩ := List.mem_map.1 h1
    have h2 := List.mem_range.1 ((List.mem_filter.1 hj).1)
    have := h.ok.most
    omega
  obtain ⟨D0, hown, hD, hsz⟩ := IMap.owns (H := Unit) hKp hm hmr (by unfold maxLen; omega)
  have hmax : Maps.size D0 ≤ maxLen := by rw [hsz]; unfold maxLen; omega
  have hbytes : Maps.size D0 * 8 ≤ 140737488355328 := by rw [hsz]; omega
  refine (callsIn_wide (n := 6)).1 ?_
  have hbl := hown.lt
  have hseq : SeqGives Fence.wide 2 Try.prog 60 #[.pointer (some ⟨w.heap.size, 0, none⟩)] encZ (fun ss => ss.Perm (intKeys D0)) (Maps.size D0) (w.alloc (.cells #[.map (some f.pb)] 68)) :=
    AnyZI.keys_gives (ρ := Try.keysP_ren) { Try.keysP with } Fence.wide _ trivial rfl (by omega) w.heap.size f.pb m.length D0 _ (by simp) (by simp) (by
      obtain ⟨es, clock, hb, Ft, hs, hD⟩ := hown
      exact ⟨es, clock, (Below.heap_alloc _ _ f.pb hbl).trans hb, Ft, hs, hD⟩)
  have cK : ∀ mb W, CallsIn Fence.wide 5 Try.prog 49 #[.map mb] W fun e w' => e = .returned (.func (.func 60) #[] #[.pointer (some ⟨W.heap.size, 0, none⟩)]) ∧ w' = W.alloc (.cells #[.map mb] 68) := fun mb W => AnyZI.keys_in Try.keysP Fence.wide 5 trivial rfl mb W
  have cS := AnyZI.sorted_in Try.sortedA Fence.wide 5 trivial trivial trivial trivial rfl (by omega) (sortsA _) (enters_of Try.func59 (by kernel_rfl) rfl) 60 #[.pointer (some ⟨w.heap.size, 0, none⟩)] trivial (enters_of Try.func60 (by kernel_rfl) rfl) _ _ hmax hbytes _ hseq
  change CallsIn _ _ Try.prog 48 _ _ _ at cS
  have hfK : Fence.wide.fn 49 := trivial
  have hfS : Fence.wide.fn 48 := trivial
  refine callsIn_of_wp Try.func22 rfl trivial ?_ rfl
  simp only [Try.ntmps22, List.size_toArray, List.length_cons, List.length_nil, Nat.reduceAdd, Nat.reduceSub, Array.replicate_succ, Array.replicate_zero, List.push_toArray, List.append_toArray, List.nil_append, List.cons_append]
  gi_wp2_with (first
    | (gi_at_call 49; refine (cK _ _).mono ?_; rintro e w' ⟨rfl, rfl⟩)
    | (gi_at_call 48; refine cS.mono ?_; rintro e w' ⟨v, ss, rfl, hS, hrow, hnil, hb⟩))
  go_ret
  have hsort := sorted_keys ((hS.trans hD).trans hpm) (range_filter_lt _ _)
  have hlen : ss.length = (apend d.s).length := by
    have := ((hS.trans hD).trans hpm).length_eq
    simpa using this
  refine ⟨v, rfl, ?_, ((Below.refl _ w).alloc (Nat.le_refl _) _).trans (hb.mono (by simp))⟩
  have hr : w'.ownsRow w.heap.size 3 1 v ss.length ((ss.mergeSort fun x y => decide (x ≤ y)).map encZ) := ownsRow_base_a hrow (by simp)
  rw [hsort, hlen, List.map_map] at hr
  exact hr

set_option maxHeartbeats 1000000 in
theorem worn_any (f : Ft) (d : DS) (w : World) (h : PD w f d) : Calls Try.prog 23 #[.pointer (some ⟨f.p, 0, none⟩)] w fun e w' => ∃ v, e = .returned v ∧ w'.ownsRow w.heap.size 3 1 v (aworn d.s).length ((aworn d.s).map fun (j : Nat) => encZ j) ∧ Below w.heap.size w w' := by
  obtain ⟨l, hB, _⟩ := h.head
  have c1 : w.cell? ⟨f.p, 2, none⟩ = some (.map (some f.wb)) := hB.cell rfl
  obtain ⟨m, hm, hmg⟩ := h.worn
  have hpm : (m.map (·.1)).Perm ((aworn d.s).map fun (j : Nat) => (j : Int)) := keys_perm hm.nodup (fun k => by rw [hmg]; exact worn_mem d k) ((range_filter_lt _ _).imp fun hlt => Nat.ne_of_lt hlt)
  have hml : m.length ≤ 4096 := by
    have e1 := hpm.length_eq
    simp only [List.length_map] at e1
    have e2 : (aworn d.s).length ≤ d.s.length := by
      have := List.length_filter_le (fun i => (d.s.getD i default).w) (List.range d.s.length)
      rw [List.length_range] at this
      exact this
    have := h.ok.most
    omega
  have hmr : ∀ p ∈ m, -9223372036854775808 ≤ p.1 ∧ p.1 ≤ 9223372036854775807 := by
    intro p hp
    have h1 : p.1 ∈ m.map (·.1) := List.mem_map.2 ⟨p, hp, rfl⟩
    rw [hpm.mem_iff] at h1
    obtain ⟨j, hj, e⟩ := List.mem_map.1 h1
    have h2 := List.mem_range.1 ((List.mem_filter.1 hj).1)
    have := h.ok.most
    omega
  obtain ⟨D0, hown, hD, hsz⟩ := IMap.owns (H := Unit) hKp hm hmr (by unfold maxLen; omega)
  have hmax : Maps.size D0 ≤ maxLen := by rw [hsz]; unfold maxLen; omega
  have hbytes : Maps.size D0 * 8 ≤ 140737488355328 := by rw [hsz]; omega
  refine (callsIn_wide (n := 6)).1 ?_
  have hbl := hown.lt
  have hseq : SeqGives Fence.wide 2 Try.prog 61 #[.pointer (some ⟨w.heap.size, 0, none⟩)] encZ (fun ss => ss.Perm (intKeys D0)) (Maps.size D0) (w.alloc (.cells #[.map (some f.wb)] 69)) :=
    AnyZI.keys_gives (ρ := Try.keysW_ren) { Try.keysW with } Fence.wide _ trivial rfl (by omega) w.heap.size f.wb m.length D0 _ (by simp) (by simp) (by
      obtain ⟨es, clock, hb, Ft, hs, hD⟩ := hown
      exact ⟨es, clock, (Below.heap_alloc _ _ f.wb hbl).trans hb, Ft, hs, hD⟩)
  have cK : ∀ mb W, CallsIn Fence.wide 5 Try.prog 50 #[.map mb] W fun e w' => e = .returned (.func (.func 61) #[] #[.pointer (some ⟨W.heap.size, 0, none⟩)]) ∧ w' = W.alloc (.cells #[.map mb] 69) := fun mb W => AnyZI.keys_in Try.keysW Fence.wide 5 trivial rfl mb W
  have cS := AnyZI.sorted_in Try.sortedA Fence.wide 5 trivial trivial trivial trivial rfl (by omega) (sortsA _) (enters_of Try.func59 (by kernel_rfl) rfl) 61 #[.pointer (some ⟨w.heap.size, 0, none⟩)] trivial (enters_of Try.func61 (by kernel_rfl) rfl) _ _ hmax hbytes _ hseq
  change CallsIn _ _ Try.prog 48 _ _ _ at cS
  have hfK : Fence.wide.fn 50 := trivial
  have hfS : Fence.wide.fn 48 := trivial
  refine callsIn_of_wp Try.func23 rfl trivial ?_ rfl
  simp only [Try.ntmps23, List.size_toArray, List.length_cons, List.length_nil, Nat.reduceAdd, Nat.reduceSub, Array.replicate_succ, Array.replicate_zero, List.push_toArray, List.append_toArray, List.nil_append, List.cons_append]
  gi_wp2_with (first
    | (gi_at_call 50; refine (cK _ _).mono ?_; rintro e w' ⟨rfl, rfl⟩)
    | (gi_at_call 48; refine cS.mono ?_; rintro e w' ⟨v, ss, rfl, hS, hrow, hnil, hb⟩))
  go_ret
  have hsort := sorted_keys ((hS.trans hD).trans hpm) (range_filter_lt _ _)
  have hlen : ss.length = (aworn d.s).length := by
    have := ((hS.trans hD).trans hpm).length_eq
    simpa using this
  refine ⟨v, rfl, ?_, ((Below.refl _ w).alloc (Nat.le_refl _) _).trans (hb.mono (by simp))⟩
  have hr : w'.ownsRow w.heap.size 3 1 v ss.length ((ss.mergeSort fun x y => decide (x ≤ y)).map encZ) := ownsRow_base_a hrow (by simp)
  rw [hsort, hlen, List.map_map] at hr
  exact hr
end Go.Proofs.Ytkffgmhaiodagaa

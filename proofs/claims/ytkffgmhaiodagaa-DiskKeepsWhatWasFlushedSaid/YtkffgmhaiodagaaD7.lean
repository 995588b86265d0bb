/- Pending and Worn of the program's disk: plain laws on the keys. -/
import Derived.Test.YtkffgmhaiodagaaD6
import Derived.Test.YtkffgmhaiodagaaShB
namespace Go.Proofs.Ytkffgmhaiodagaa
open Go.RowKit Go.Own Go.Disk Go.Maps
theorem mget_mem (m : List (Int × Value)) (k : Int) : (mget m k).isSome = true ↔ k ∈ m.map (·.1) := by
  unfold mget
  rw [Option.isSome_map, List.find?_isSome]
  constructor
  · rintro ⟨p, hp, e⟩
    exact List.mem_map.2 ⟨p, hp, by simpa using e⟩
  · intro h
    obtain ⟨p, hp, e⟩ := List.mem_map.1 h
    exact ⟨p, hp, by simpa using e⟩
theorem keys_perm {m : List (Int × Value)} {L : List Nat} (hnd : (m.map (·.1)).Nodup) (hmem : ∀ k : Int, (mget m k).isSome = true ↔ ∃ j ∈ L, k = (j : Int)) (hL : L.Nodup) : (m.map (·.1)).Perm (L.map fun (j : Nat) => (j : Int)) := by
  refine (List.perm_ext_iff_of_nodup hnd ?_).2 fun k => ?_
  · exact List.pairwise_map.2 (hL.imp fun hne e => hne (by omega))
  · rw [← mget_mem, hmem, List.mem_map]
    exact ⟨fun ⟨j, h1, h2⟩ => ⟨j, h1, h2.symm⟩, fun ⟨j, h1, h2⟩ => ⟨j, h1, h2.symm⟩⟩
theorem sorted_keys {ss : List Int} {L : List Nat} (h : ss.Perm (L.map fun (j : Nat) => (j : Int))) (hL : L.Pairwise (· < ·)) : ss.mergeSort (fun x y => decide (x ≤ y)) = L.map fun (j : Nat) => (j : Int) := by
  have tr : ∀ a b c : Int, leI a b = true → leI b c = true → leI a c = true := fun a b c h1 h2 => by simp only [leI, decide_eq_true_eq] at *; exact Int.le_trans h1 h2
  have tt : ∀ a b : Int, (leI a b || leI b a) = true := fun a b => by simp only [leI, Bool.or_eq_true, decide_eq_true_eq]; exact Int.le_total a b
  refine List.Perm.eq_of_pairwise (le := fun a b => leI a b = true) (fun a b _ _ h1 h2 => ?_) (List.pairwise_mergeSort tr tt ss) ?_ ((List.mergeSort_perm ss leI).trans h)
  · simp only [leI, decide_eq_true_eq] at h1 h2
    exact Int.le_antisymm h1 h2
  · exact List.pairwise_map.2 (hL.imp fun hlt => by simp only [leI, decide_eq_true_eq]; omega)
theorem range_filter_lt (n : Nat) (p : Nat → Bool) : ((List.range n).filter p).Pairwise (· < ·) := List.Pairwise.filter p List.pairwise_lt_range
theorem IMap.owns {H : Type} {P : Program} {k : TypeId} {w : World} {b : Nat} {m : List (Int × Value)} (hk : P.underlying k = some (.int .i64)) (hm : IMap w b m) (hr : ∀ p ∈ m, -9223372036854775808 ≤ p.1 ∧ p.1 ≤ 9223372036854775807) (hl : m.length ≤ maxLen) :
    ∃ D : DataW H, w.ownsMap P k (fun _ => some (.nil, [])) b m.length D ∧ (intKeys D).Perm (m.map (·.1)) ∧ Maps.size D = m.length := by
  obtain ⟨es, clock, hb, hs, h4⟩ := hm
  have hlen : es.toList.length = m.length := by have := congrArg List.length h4; simpa using this
  have hkey : ∀ x ∈ es.toList, ∃ a : Int, x.key = .int .i64 a ∧ keyOf P k x.key = some (.int .i64 a) := by
    intro x hx
    have h5 : (x.key, x.val) ∈ es.toList.map (fun e => (e.key, e.val)) := List.mem_map.2 ⟨x, hx, rfl⟩
    rw [h4] at h5
    obtain ⟨p, hp, e⟩ := List.mem_map.1 h5
    injection e with e1 _
    refine ⟨p.1, e1.symm, ?_⟩
    rw [← e1]
    have hw : (Lit.int .i64 p.1).wf = true := by
      have := hr p hp
      simp [Lit.wf, IntKind.min, IntKind.max, IntKind.signed, IntKind.bits]; omega
    simp [keyOf, hk, mapKey, hw]
  have hrd : ∀ x ∈ es.toList, ∃ a : Int, x.key = .int .i64 a ∧ WideElems.rd (H := H) P k (fun _ => some (.nil, [])) x = some (.int .i64 a, .nil) := by
    intro x hx
    obtain ⟨a, h1, h2⟩ := hkey x hx
    exact ⟨a, h1, by simp [WideElems.rd, h2]⟩
  refine ⟨_, ⟨es, clock, hb, ⟨by rw [← Array.length_toList, hlen]; exact hl, hs, fun x hx => ?_⟩, by rw [← Array.length_toList, hlen]; exact Nat.le_refl _, rfl⟩, ?_, ?_⟩
  · obtain ⟨a, _, h⟩ := hrd x hx
    exact ⟨_, h⟩
  · have hp := (WideShapes.sorted_perm (es.toList.map (WideElems.rg (H := H) P k fun _ => some (.nil, [])))).map fun p => Go.intOf p.1
    refine hp.trans (List.Perm.of_eq ?_)
    rw [List.map_map]
    have h5 : es.toList.map (fun e => e.key) = m.map fun p => Value.int .i64 p.1 := by
      have := congrArg (List.map Prod.fst) h4
      rw [List.map_map, List.map_map] at this
      exact this
    have h6 : (es.toList.map fun e => e.key).map (fun v => match v with | .int _ a => a | _ => 0) = m.map (·.1) := by
      rw [h5, List.map_map]; rfl
    rw [← h6, List.map_map]
    refine List.map_congr_left fun x hx => ?_
    obtain ⟨a, h1, h2⟩ := hrd x hx
    simp [WideElems.rg_of h2, h1, Go.intOf]
  · show ((es.toList.map (WideElems.rg (H := H) P k fun _ => some (.nil, []))).foldr DataW.insert []).length = m.length
    rw [length_sorted, List.length_map, hlen]
end Go.Proofs.Ytkffgmhaiodagaa

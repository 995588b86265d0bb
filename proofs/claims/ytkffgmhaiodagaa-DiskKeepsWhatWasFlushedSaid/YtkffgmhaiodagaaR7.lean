/- Text of the reference. -/
import Derived.Test.YtkffgmhaiodagaaR6
namespace Go.Disk
theorem opText_nil : opText [] = [] := rfl
theorem opText_long {t : List UInt8} (h : 64 ≤ t.length) : opText t = t := by
  unfold opText
  rw [if_neg (by intro e; rw [e] at h; simp at h), show 64 - t.length = 0 by omega]
  simp
theorem getLastD_rep (t : List UInt8) (k : Nat) (ht : t ≠ []) : (t ++ List.replicate k (t.getLastD 0)).drop (t.length + k - 1) = [t.getLastD 0] := by
  have hl : 0 < t.length := List.length_pos_iff.2 ht
  cases k with
  | zero =>
    simp only [List.replicate_zero, List.append_nil, Nat.add_zero]
    have e : t = t.dropLast ++ [t.getLast ht] := (List.dropLast_concat_getLast ht).symm
    have e2 : t.getLastD 0 = t.getLast ht := by rw [List.getLastD_eq_getLast?, List.getLast?_eq_some_getLast ht]; rfl
    rw [e2]
    have hd : t.dropLast.length = t.length - 1 := List.length_dropLast
    conv => lhs; arg 2; rw [e]
    rw [← hd, List.drop_left]
  | succ k =>
    rw [show t.length + (k + 1) - 1 = t.length + k by omega, List.drop_append]
    simp [List.drop_replicate]
end Go.Disk
namespace Go.Proofs.Ytkffgmhaiodagaa
open Go.RowKit Go.Own Go.Disk Go.BigFrame
attribute [local go_sem] setCell_twice str_size str_append bytes_extract
set_option maxHeartbeats 1600000 in
set_option maxRecDepth 100000 in
theorem text_any (z1 z2 z3 : Int) (t : List UInt8) (pk : Value) (hpk : pk.oneCell' = true) (w : World) : Calls Try.prog 24 #[.agg #[.int .i64 z1, .int .i64 z2, .int .i64 z3, str t, pk]] w fun e w' => e = .returned (str (opText t)) ∧ Below w.heap.size w w' := by
  go_enter Try.func24, Try.ntmps24
  go_wp2
  obtain ⟨wo, hwo⟩ : ∃ wo : World, wo = w.alloc (.cells #[.int .i64 z1, .int .i64 z2, .int .i64 z3, str t, pk] 33) := ⟨_, rfl⟩
  have hbo : Below w.heap.size w wo := by rw [hwo]; exact alloc_below _ _
  rw [← hwo]
  clear hwo
  by_cases ht : t = []
  · subst ht
    go_loopw [3] (fun v wr => v = str [] ∧ Below w.heap.size w wr) (fun _ _ => 0)
    case atStart => exact ⟨rfl, hbo⟩
    case round =>
      obtain ⟨rfl, hbr⟩ := hrel
      go_wp2
      go_ret
      exact ⟨rfl, hbr⟩
  · have hpos : 0 < t.length := List.length_pos_iff.2 ht
    have HO : Hid (opText t = t ++ List.replicate (64 - t.length) (t.getLastD 0)) := Lib.hid (by unfold opText; rw [if_neg ht])
    go_loopw [3] (fun v wr => ∃ k : Nat, k ≤ 64 - t.length ∧ v = str (t ++ List.replicate k (t.getLastD 0)) ∧ Below w.heap.size w wr) (fun v _ => 64 - (match v with | .string b => b.data.size | _ => 0))
    case atStart => exact ⟨0, by omega, by simp, hbo⟩
    case round =>
      obtain ⟨k, hk, rfl, hbr⟩ := hrel
      obtain ⟨u, hu⟩ : ∃ u, u = t ++ List.replicate k (t.getLastD 0) := ⟨_, rfl⟩
      have hul : u.length = t.length + k := by rw [hu]; simp
      rw [← hu]
      have hu1 : (0 : Int) < u.length := by omega
      by_cases hlt : u.length < 64
      · have hlt' : (u.length : Int) < 64 := by omega
        have hdr := getLastD_rep t k ht
        rw [← hu, ← hul] at hdr
        have hu2 : u ++ [t.getLastD 0] = t ++ List.replicate (k + 1) (t.getLastD 0) := by rw [hu, List.append_assoc, ← List.replicate_succ']
        have HU := Lib.hid hu; clear hu
        have HU2 := Lib.hid hu2; clear hu2
        have HUL := Lib.hid hul; clear hul
        clear HO
        go_wp2
        refine ⟨⟨k + 1, by have := HUL.out; omega, ?_, hbr⟩, ?_⟩
        · rw [← HU2.out, List.getLastD_eq_getLast?]
        · simp; omega
      · have hlt' : (64 : Int) ≤ u.length := by omega
        have hE : opText t = u := by
          rw [HO.out, hu]
          by_cases h : 64 ≤ t.length
          · rw [show 64 - t.length = 0 by omega, show k = 0 by omega]
          · rw [show k = 64 - t.length by omega]
        have HE := Lib.hid hE; clear hE hu hul HO
        clear hlt
        go_wp2
        go_ret
        rw [HE.out]
        exact ⟨rfl, hbr⟩
end Go.Proofs.Ytkffgmhaiodagaa

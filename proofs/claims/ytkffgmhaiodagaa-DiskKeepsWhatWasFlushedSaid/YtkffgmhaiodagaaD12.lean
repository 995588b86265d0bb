/- New of the program's disk. -/
import Derived.Test.YtkffgmhaiodagaaD11
namespace Go.Proofs.Ytkffgmhaiodagaa
open Go.RowKit Go.Own Go.Disk
attribute [local go_sem] setCell_twice str_size
theorem hTbs : Try.prog.underlying 67 = some (.slice 74) := by kernel_rfl
theorem mk_blocks (n : Nat) (hn : n ≤ 1000000) (u : World) : (Instr.makeSlice 67 (.int .i64 n) (.int .i64 n)).run Try.prog u = .ok (.slice (some ⟨u.heap.size, 0, none⟩) n n) (u.alloc (.cells (Array.replicate (n * 64) (byv 0)) 74)) := by
  obtain ⟨i, hi1, hi2, hi3, hi4⟩ := info_parts (P := Try.prog) (e := 74) (z := .agg zero64.toArray) (size := 64) (bytes := 64) (by kernel_rfl)
  have := run_make (P := Try.prog) u 67 74 i (.agg zero64.toArray) hTbs hi1 hi2 .i64 .i64 n n (by omega) (Int.le_refl _) (by rw [hi4]; omega) (by omega)
  rw [this, hi3]
  simp only [Int.toNat_natCast]
  have e : (Value.agg zero64.toArray).cells = (List.replicate 64 (byv 0)).toArray := rfl
  rw [e, madeCells_rep _ _ _ (by decide), List.toArray_replicate]
theorem flat_fresh (n : Nat) : flat (List.replicate n { t := zeros, p := none, w := false }) = List.replicate (n * 64) (byv 0) := by
  induction n with
  | zero => rfl
  | succ n ih =>
    rw [List.replicate_succ, show (n + 1) * 64 = 64 + n * 64 by omega, ← List.replicate_append_replicate, ← ih]
    rfl
theorem sec_fresh (n : Nat) (k : Int) (h : inR (Disk.fresh n) k = true) : sec (Disk.fresh n) k = { t := zeros, p := none, w := false } := by
  obtain ⟨hm, _⟩ := sec_mem h
  exact (List.mem_replicate.1 hm).2
theorem Ok.fresh (n : Nat) (h1 : 1 ≤ n) (h2 : n ≤ 4096) : Ok (Disk.fresh n) where
  t := fun x hx => by rw [(List.mem_replicate.1 hx).2]; rfl
  p := fun x hx q hq => by rw [(List.mem_replicate.1 hx).2] at hq; cases hq
  pos := by simpa [Disk.fresh] using h1
  most := by simpa [Disk.fresh] using h2
  left := by simp [Disk.fresh]
theorem new_bad (n : Int) (hn : n < 1 ∨ 4096 < n) (w : World) : Calls Try.prog 14 #[.int .i64 n] w fun e w' => e = .returned (.tuple #[.pointer none, .int .i64 1]) ∧ w' = w := by
  go_enter Try.func14, Try.ntmps14
  by_cases h : n < 1
  · go_wp2
    go_ret2
    exact ⟨rfl, rfl⟩
  · have h2 : 4096 < n := by omega
    go_wp2
    go_ret2
    exact ⟨rfl, rfl⟩
theorem PD.made (n : Nat) (h1 : 1 ≤ n) (h2 : n ≤ 4096) (w : World) : PD ((((w.alloc (.cells (Array.replicate (n * 64) (byv 0)) 74)).alloc (.map #[] 0)).alloc (.map #[] 0)).alloc (.cells #[.slice (some ⟨w.heap.size, 0, none⟩) n n, .map (some (w.heap.size + 1)), .map (some (w.heap.size + 2)), .bool false, .int .i64 (-1)] 71))
    ⟨w.heap.size + 3, w.heap.size, w.heap.size + 1, w.heap.size + 2, n, []⟩ (Disk.fresh n) := by
  obtain ⟨w1, e1⟩ : ∃ w1, w1 = w.alloc (.cells (Array.replicate (n * 64) (byv 0)) 74) := ⟨_, rfl⟩
  have s1 : w1.heap.size = w.heap.size + 1 := by rw [e1, alloc_size]
  have b1 : Blk w1 w.heap.size (List.replicate (n * 64) (byv 0)) 74 := by
    have := Blk.new w (Array.replicate (n * 64) (byv 0)) 74
    rw [Array.toList_replicate] at this
    rw [e1]; exact this
  rw [← e1]
  obtain ⟨w2, e2⟩ : ∃ w2, w2 = w1.alloc (.map #[] 0) := ⟨_, rfl⟩
  have s2 : w2.heap.size = w.heap.size + 2 := by rw [e2, alloc_size, s1]
  have b2 : IMap w2 (w.heap.size + 1) [] := by rw [← s1, e2]; exact IMap.new w1
  have k2 : Below w1.heap.size w1 w2 := by rw [e2]; exact alloc_below _ _
  rw [← e2]
  obtain ⟨w3, e3⟩ : ∃ w3, w3 = w2.alloc (.map #[] 0) := ⟨_, rfl⟩
  have s3 : w3.heap.size = w.heap.size + 3 := by rw [e3, alloc_size, s2]
  have b3 : IMap w3 (w.heap.size + 2) [] := by rw [← s2, e3]; exact IMap.new w2
  have k3 : Below w2.heap.size w2 w3 := by rw [e3]; exact alloc_below _ _
  rw [← e3]
  have k4 : ∀ o, Below w3.heap.size w3 (w3.alloc o) := fun o => alloc_below _ _
  have hl : (Disk.fresh n).s.length = n := by simp [Disk.fresh]
  refine ⟨?_, ⟨-1, ?_, rfl, by decide⟩, ?_, ⟨[], (b2.below k3).below (k4 _), fun k => ?_⟩, ⟨[], b3.below (k4 _), fun k => ?_⟩, Ok.fresh n h1 h2, ?_⟩
  · rw [hl]
    exact ⟨Nat.le_refl _, by show n ≤ maxLen; unfold maxLen; omega⟩
  · rw [hl]
    exact Blk.new_at w3 _ _ s3.symm
  · rw [show flatS (Disk.fresh n).s [] = List.replicate (n * 64) (byv 0) from by unfold flatS; rw [List.append_nil]; exact flat_fresh n]
    exact ((b1.below k2 b1.lt).below k3 (by rw [s2]; omega)).below (k4 _) (by rw [s3]; omega)
  · by_cases h : inR (Disk.fresh n) k = true
    · rw [if_pos h, sec_fresh n k h]; rfl
    · rw [if_neg h]; rfl
  · by_cases h : inR (Disk.fresh n) k = true
    · rw [h, sec_fresh n k h]; rfl
    · simp [h]; rfl
  · simp
theorem new_any (n : Nat) (h1 : 1 ≤ n) (h2 : n ≤ 4096) (w : World) : Calls Try.prog 14 #[.int .i64 n] w fun e w' => ∃ f : Ft, e = .returned (.tuple #[.pointer (some ⟨f.p, 0, none⟩), .int .i64 0]) ∧ PD w' f (Disk.fresh n) ∧ (∀ x ∈ f.all, w.heap.size ≤ x) ∧ Below w.heap.size w w' := by
  have hmk := mk_blocks n (by omega)
  have hm1 := fun (u : World) => run_makeMap (P := Try.prog) 68 u
  have hm2 := fun (u : World) => run_makeMap (P := Try.prog) 69 u
  go_enter Try.func14, Try.ntmps14
  go_wp2
  go_ret2
  refine ⟨⟨w.heap.size + 3, w.heap.size, w.heap.size + 1, w.heap.size + 2, n, []⟩, rfl, ?_, ?_, ?_⟩
  · exact PD.made n h1 h2 w
  · simp [Ft.all]
  · exact ((((Below.refl _ w).alloc (Nat.le_refl _) _).alloc (by simp) _).alloc (by simp; omega) _).alloc (by simp; omega) _
end Go.Proofs.Ytkffgmhaiodagaa

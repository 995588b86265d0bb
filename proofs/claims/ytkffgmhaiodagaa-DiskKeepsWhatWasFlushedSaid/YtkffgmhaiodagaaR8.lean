/- New of the reference. -/
import Derived.Test.YtkffgmhaiodagaaR7
namespace Go.Disk
open Go.RowKit Go.Own
def zsec : Sec := { t := zeros, p := none, w := false }
def zcells : List Value := [str zeros, str [], .bool false, .bool false]
theorem rcells_rep_succ (k : Nat) : rcells (List.replicate (k + 1) zsec) = rcells (List.replicate k zsec) ++ zcells := by
  rw [List.replicate_succ']
  simp [rcells, List.flatMap_append]
  rfl
end Go.Disk
namespace Go.Proofs.Ytkffgmhaiodagaa
open Go.RowKit Go.Own Go.Disk Go.BigFrame
attribute [local go_sem] setCell_twice str_size str_append bytes_extract
attribute [local irreducible] SqC.SqW
theorem rnew_bad (n : Int) (hn : n < 1 ∨ 4096 < n) (w : World) : Calls Try.prog 32 #[.int .i64 n] w fun e w' => e = .returned (.tuple #[.pointer none, .int .i64 1]) ∧ w' = w := by
  go_enter Try.func32, Try.ntmps32
  by_cases h : n < 1
  · go_wp2
    go_ret2
    exact ⟨rfl, rfl⟩
  · have h2 : 4096 < n := by omega
    have h3 : 1 ≤ n := by omega
    clear h
    go_wp2
    go_ret2
    exact ⟨rfl, rfl⟩
theorem hTsecs : Try.prog.underlying 55 = some (.slice 54) := by kernel_rfl
theorem infoSecZ : (Try.prog.info? 54).map (fun i => (i.zero, i.size, i.bytes)) = some (some (.agg #[str [], str [], .bool false, .bool false]), 4, 40) := by kernel_rfl
set_option maxHeartbeats 3200000 in
set_option maxRecDepth 100000 in
theorem rnew_any (n : Nat) (h1 : 1 ≤ n) (h2 : n ≤ 4096) (w : World) : Calls Try.prog 32 #[.int .i64 n] w fun e w' => ∃ f : Rt, e = .returned (.tuple #[.pointer (some ⟨f.p, 0, none⟩), .int .i64 0]) ∧ RD w' f (Disk.fresh n) ∧ (∀ x ∈ f.all, w.heap.size ≤ x) ∧ Below w.heap.size w w' := by
  have hmk : ∀ u : World, (Instr.makeSlice 72 (.int .i64 64) (.int .i64 64)).run Try.prog u = .ok (.slice (some ⟨u.heap.size, 0, none⟩) 64 64) (u.alloc (.cells (Array.replicate 64 (byv 0)) 5)) := fun u => mk_bytes 64 (by decide) u
  go_enter Try.func32, Try.ntmps32
  go_wp2
  obtain ⟨wo, hwo⟩ : ∃ wo : World, wo = w.alloc (.cells #[.slice none 0 0, .bool false, .int .i64 (-1)] 57) := ⟨_, rfl⟩
  have hbo : Below w.heap.size w wo := by rw [hwo]; exact alloc_below _ _
  have hso : wo.heap.size = w.heap.size + 1 := by rw [hwo, alloc_size]
  have hXo : Blk wo w.heap.size [.slice none 0 0, .bool false, .int .i64 (-1)] 57 := by rw [hwo]; exact Blk.new w _ _
  rw [← hwo]
  clear hwo
  obtain ⟨X, hX⟩ : ∃ X, X = w.heap.size := ⟨_, rfl⟩
  rw [← hX] at hXo hso hbo ⊢
  have HX := Lib.hid hX; clear hX
  go_loopw [5] (fun c wr => ∃ (k : Nat) (V : Value), k ≤ n ∧ c = .int .i64 k ∧ Blk wr X [V, .bool false, .int .i64 (-1)] 57 ∧ wr.ownsRow (X + 1) 54 4 V k (rcells (List.replicate k zsec)) ∧ Below X w wr ∧ X + 1 ≤ wr.heap.size) (fun c _ => n - (intOf c).toNat)
  case atStart => exact ⟨0, _, by omega, rfl, hXo, World.ownsRow_nil _ _ _ _, hbo, by omega⟩
  case round =>
    obtain ⟨k, V, hk, rfl, hXr, how, hbr, hsr⟩ := hrel
    by_cases hkl : k < n
    · go_wp2
      have hVX : some X ≠ V.ownBlock := by
        intro e
        have := (how.lt X e.symm).1
        omega
      have cV : wr.drew.cell? ⟨X, 0, none⟩ = some V := hXr.drew.cell rfl
      haveI : Nonempty (SqC.Come fun W => W.cell? ⟨X, 0, none⟩ = some V) := ⟨⟨_, cV⟩⟩
      refine SqC.wp_region_sqc 13 [5, 6, 8, 9, 12] (fun W => W.cell? ⟨X, 0, none⟩ = some V) (by kernel_rfl) (by kernel_rfl) (by kernel_rfl) cV ?_
      obtain ⟨wd, hwd⟩ : ∃ wd : World, wd = wr.drew := ⟨_, rfl⟩
      have bd : Below wr.heap.size wr wd := by rw [hwd]; exact (Below.refl _ _).drew
      have sd : wd.heap.size = wr.heap.size := by rw [hwd]; rfl
      rw [← hwd]
      clear hwd
      iterate 4 (refine SqC.quiet rfl rfl ?_; go_big_quiet_step (fail); refine wpQuiet_nil ?_)
      refine SqC.value V rfl rfl (by intro W cx; go_simp) ?_
      simp only [Act.put, List.setIfInBounds_toArray, List.set_cons_zero, List.set_cons_succ]
      -- make
      refine SqC.effectW rfl rfl ?_
      go_wp2
      obtain ⟨w1, hw1⟩ : ∃ w1 : World, w1 = wd.alloc (.cells (Array.replicate 64 (byv 0)) 5) := ⟨_, rfl⟩
      have b1 : Below wr.heap.size wr w1 := by rw [hw1]; exact bd.alloc (by rw [sd]; exact Nat.le_refl _) _
      have B1 : Blk w1 wr.heap.size (List.replicate 64 (byv 0)) 5 := by rw [hw1, ← sd]; exact blk_make wd 64 _ _
      rw [← hw1]
      have X1 := hXr.below b1 hXr.lt
      refine SqC.here rfl ?_ ?_
      · exact fun _ => X1.cell rfl
      -- string(..)
      have hcv := convB w1 (.slice (some ⟨wr.heap.size, 0, none⟩) 64 64) zeros ⟨rfl, .inr ⟨_, 0, 64, rfl, Nat.le_refl _, by decide, B1.cells0, B1.lt⟩⟩
      clear hw1
      refine SqC.effectW rfl rfl ?_
      go_wp2
      refine SqC.here rfl ?_ ?_
      · exact fun _ => X1.cell rfl
      refine SqC.quiet rfl rfl ?_; go_big_quiet_step (fail); refine wpQuiet_nil ?_
      -- the slice of one
      refine SqC.effectW rfl rfl ?_
      go_wp2
      obtain ⟨w2, hw2⟩ : ∃ w2 : World, w2 = w1.alloc (.cells #[str zeros, str [], .bool false, .bool false] 54) := ⟨_, rfl⟩
      have b2 : Below wr.heap.size wr w2 := by rw [hw2]; exact b1.alloc b1.size _
      have B2 : Blk w2 w1.heap.size [str zeros, str [], .bool false, .bool false] 54 := by rw [hw2]; exact Blk.new w1 _ _
      rw [← hw2]
      clear hw2
      have X2 := hXr.below b2 hXr.lt
      refine SqC.here rfl ?_ ?_
      · exact fun _ => X2.cell rfl
      -- append
      have HOW := own_below how b2
      have HSL : Sl w2 4 (.slice (some ⟨w1.heap.size, 0, none⟩) 1 1) 1 zcells := ⟨rfl, .inr ⟨_, 0, 1, rfl, Nat.le_refl _, by decide, B2.cells0, B2.lt⟩⟩
      have h1c : ∀ u ∈ zcells, u.oneCell' = true := by intro u hu; simp [zcells] at hu; rcases hu with rfl | rfl | rfl | rfl <;> rfl
      have hXb : Below X w w2 := hbr.trans (b2.mono (by omega))
      have hs2 := b2.size
      refine SqC.effectW rfl rfl ?_
      refine wpList_append_sl rfl _ _ 55 rfl (X + 1) 54 (.agg #[str [], str [], .bool false, .bool false]) 4 40 hTsecs infoSecZ rfl (by decide) V k _ rfl HOW (.slice (some ⟨w1.heap.size, 0, none⟩) 1 1) 1 zcells rfl HSL h1c (by unfold maxLen; omega) (by omega) (by omega) ?_
      intro v' w3 hown hgr
      obtain ⟨sa', cap', rfl, _⟩ := Own.own_slice hown
      have X3 := X2.grown hgr hVX
      have b3 : Below X w w3 := grown_below hXb (own_weaken HOW (by omega)) hgr (by omega)
      have s3 := hgr.size
      simp only [Act.put, List.setIfInBounds_toArray, List.set_cons_zero, List.set_cons_succ]
      refine wpList_nil (SqC.here rfl ?_ ?_)
      · exact fun _ => X3.cell rfl
      iterate 2 (refine SqC.quiet rfl rfl ?_; go_big_quiet_step (fail); refine wpQuiet_nil ?_)
      -- the store
      have cx : w3.cell? ⟨X, 0, none⟩ = some V := X3.cell rfl
      have hfr := X3.frozen
      refine SqC.effectW rfl rfl ?_
      go_wp2
      refine SqC.here rfl (by intro h; first | exact h.elim | exact absurd rfl h) (SqC.nil ?_)
      have X4 := X3.set 0 (.slice sa' (k + 1) cap')
      have hVX2 : ∀ b, (Value.slice sa' (k + 1) cap').ownBlock = some b → b ∉ [X] := by
        intro b hb
        have := (hown.lt b hb).1
        simp; omega
      have how4 := own_chg hown ((Chg.refl [X] w3).set (a := ⟨X, 0, none⟩) (.slice sa' (k + 1) cap') (by simp)) hVX2
      have b4 : Below X w (w3.setCell ⟨X, 0, none⟩ (.slice sa' (k + 1) cap')) := b3.trans ((((Chg.refl [X] w3).set (a := ⟨X, 0, none⟩) (.slice sa' (k + 1) cap') (by simp))).below (by omega) (by simp))
      rw [← rcells_rep_succ] at how4
      have s4 : X + 1 ≤ (w3.setCell ⟨X, 0, none⟩ (.slice sa' (k + 1) cap')).heap.size := by rw [World.size_setCell]; omega
      go_wp2
      go_roundw
      case rel => exact ⟨k + 1, _, by omega, by go_num, X4, how4, b4, s4⟩
      case measure => simp [intOf]; omega
    · obtain rfl : k = n := by omega
      go_wp2
      go_ret2
      obtain ⟨g, cap, sp, rfl, hg1, hg2, hg3, hgB⟩ := own_blk how (by omega)
      have hl : (Disk.fresh k).s.length = k := by simp [Disk.fresh]
      refine ⟨⟨X, g, cap, sp⟩, rfl, ⟨by rw [hl]; exact ⟨hg2, hg3⟩, by rw [hl]; exact hXr, hgB, Ok.fresh k h1 h2, by show X ≠ g; omega⟩, ?_, ?_⟩
      · simp only [Rt.all, List.mem_cons, List.not_mem_nil, or_false]
        have := HX.out
        rintro x (rfl | rfl) <;> omega
      · rw [← HX.out]; exact hbr
end Go.Proofs.Ytkffgmhaiodagaa

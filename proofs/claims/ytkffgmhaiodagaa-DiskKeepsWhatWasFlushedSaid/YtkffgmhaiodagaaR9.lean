/- Clone of the reference. -/
import Derived.Test.YtkffgmhaiodagaaR8
namespace Go.Proofs.Ytkffgmhaiodagaa
open Go.RowKit Go.Own Go.Disk Go.BigFrame
attribute [local go_sem] setCell_twice str_size str_append bytes_extract
attribute [local irreducible] SqC.SqW
set_option maxHeartbeats 3200000 in
set_option maxRecDepth 100000 in
theorem rclone_any (f : Rt) (d : DS) (w : World) (h : RD w f d) : Calls Try.prog 29 #[.pointer (some ⟨f.p, 0, none⟩)] w fun e w' => ∃ f' : Rt, e = .returned (.pointer (some ⟨f'.p, 0, none⟩)) ∧ RD w' f' d ∧ (∀ x ∈ f'.all, w.heap.size ≤ x) ∧ Below w.heap.size w w' := by
  have hpos := h.ok.pos
  have hmost := h.ok.most
  have hlp : f.p < w.heap.size := h.head.lt
  go_enter Try.func29, Try.ntmps29
  go_wp2
  have e0 : Below w.heap.size w w.drew := (Below.refl _ _).drew
  haveI : Nonempty (SqC.Come fun W => Below w.heap.size w W) := ⟨⟨_, e0⟩⟩
  refine SqC.wp_region_sqc 17 [0, 5, 15] (fun W => Below w.heap.size w W) (by kernel_rfl) (by kernel_rfl) (by kernel_rfl) e0 ?_
  obtain ⟨wd, hwd⟩ : ∃ wd : World, wd = w.drew := ⟨_, rfl⟩
  have sd : wd.heap.size = w.heap.size := by rw [hwd]; rfl
  rw [← hwd] at e0 ⊢
  clear hwd
  refine SqC.effectW rfl rfl ?_
  go_wp2
  obtain ⟨w1, hw1⟩ : ∃ w1 : World, w1 = wd.alloc (.cells #[] 54) := ⟨_, rfl⟩
  have b1 : Below w.heap.size w w1 := by rw [hw1]; exact e0.alloc (by rw [sd]; exact Nat.le_refl _) _
  have o1 : w1.ownsRow w.heap.size 54 4 (.slice (some ⟨w.heap.size, 0, none⟩) 0 0) 0 [] := by rw [hw1, ← sd]; exact World.ownsRow_made wd #[] 0 (Nat.le_refl _) (by decide) (by simp)
  rw [← hw1]
  clear hw1
  refine SqC.here rfl ?_ ?_
  · exact fun _ => b1
  iterate 3 (refine SqC.quiet rfl rfl ?_; go_big_quiet_step (fail); refine wpQuiet_nil ?_)
  refine SqC.value (.slice (some ⟨f.sb, 0, none⟩) d.s.length f.cap) rfl rfl (by intro W hW; have cx : W.cell? ⟨f.p, 0, none⟩ = some (.slice (some ⟨f.sb, 0, none⟩) d.s.length f.cap) := (h.below hW).head.cell rfl; go_simp) ?_
  simp only [Act.put, List.setIfInBounds_toArray, List.set_cons_zero, List.set_cons_succ]
  have hr1 := h.below b1
  have HSL : Sl w1 4 (.slice (some ⟨f.sb, 0, none⟩) d.s.length f.cap) d.s.length (rcells d.s) := ⟨rcells_length _, .inr ⟨_, 0, f.cap, rfl, h.fit.1, h.fit.2, hr1.secs.cells _ _ (by rw [List.drop_zero]; exact List.take_left), hr1.secs.lt⟩⟩
  have h1c : ∀ u ∈ rcells d.s, u.oneCell' = true := by
    intro u hu
    obtain ⟨x, _, hu⟩ := List.mem_flatMap.1 hu
    simp [rsec] at hu; rcases hu with rfl | rfl | rfl | rfl <;> rfl
  have hsz1 := b1.size
  refine SqC.effectW rfl rfl ?_
  refine wpList_append_sl rfl _ _ 55 rfl w.heap.size 54 (.agg #[str [], str [], .bool false, .bool false]) 4 40 hTsecs infoSecZ rfl (by decide) (.slice (some ⟨w.heap.size, 0, none⟩) 0 0) 0 [] rfl o1 (.slice (some ⟨f.sb, 0, none⟩) d.s.length f.cap) d.s.length (rcells d.s) rfl HSL h1c (by unfold maxLen; omega) (by omega) hsz1 ?_
  intro v' w3 hown hgr
  rw [Nat.zero_add, List.nil_append] at hown
  have b3 : Below w.heap.size w w3 := grown_below b1 o1 hgr hsz1
  obtain ⟨g, cap, sp, rfl, hg1, hg2, hg3, hgB⟩ := own_blk hown (by omega)
  simp only [Act.put, List.setIfInBounds_toArray, List.set_cons_zero, List.set_cons_succ]
  refine wpList_nil (SqC.here rfl ?_ ?_)
  · exact fun _ => b3
  iterate 3 (refine SqC.quiet rfl rfl ?_; go_big_quiet_step (fail); refine wpQuiet_nil ?_)
  refine SqC.value (.bool d.off) rfl rfl (by intro W hW; have cx : W.cell? ⟨f.p, 1, none⟩ = some (.bool d.off) := (h.below hW).head.cell rfl; go_simp) ?_
  simp only [Act.put, List.setIfInBounds_toArray, List.set_cons_zero, List.set_cons_succ]
  iterate 3 (refine SqC.quiet rfl rfl ?_; go_big_quiet_step (fail); refine wpQuiet_nil ?_)
  refine SqC.value (.int .i64 d.left) rfl rfl (by intro W hW; have cx : W.cell? ⟨f.p, 2, none⟩ = some (.int .i64 d.left) := (h.below hW).head.cell rfl; go_simp) ?_
  simp only [Act.put, List.setIfInBounds_toArray, List.set_cons_zero, List.set_cons_succ]
  refine SqC.quiet rfl rfl ?_; go_big_quiet_step (fail); refine wpQuiet_nil ?_
  refine SqC.effectW rfl rfl ?_
  go_wp2
  obtain ⟨w4, hw4⟩ : ∃ w4 : World, w4 = w3.alloc (.cells #[.slice (some ⟨g, 0, none⟩) d.s.length cap, .bool d.off, .int .i64 d.left] 57) := ⟨_, rfl⟩
  have b4' : Below w3.heap.size w3 w4 := by rw [hw4]; exact alloc_below _ _
  have B4 : Blk w4 w3.heap.size [.slice (some ⟨g, 0, none⟩) d.s.length cap, .bool d.off, .int .i64 d.left] 57 := by rw [hw4]; exact Blk.new w3 _ _
  rw [← hw4]
  clear hw4
  have b4 : Below w.heap.size w w4 := b3.trans (b4'.mono b3.size)
  refine SqC.here rfl ?_ ?_
  · exact fun _ => b4
  refine SqC.quiet rfl rfl ?_; go_big_quiet_step (fail); refine wpQuiet_nil ?_
  refine SqC.nil ?_
  go_wp2
  go_ret
  have hgl := hgB.lt
  have hs3 := b3.size
  refine ⟨⟨w3.heap.size, g, cap, sp⟩, rfl, ⟨⟨hg2, hg3⟩, B4, hgB.below b4' hgl, h.ok, by show w3.heap.size ≠ g; omega⟩, ?_, b4⟩
  simp only [Rt.all, List.mem_cons, List.not_mem_nil, or_false]
  rintro x (rfl | rfl)
  · exact hs3
  · exact hg1
end Go.Proofs.Ytkffgmhaiodagaa

/- An operation of a script, on both disks. -/
import Derived.Test.YtkffgmhaiodagaaR9
namespace Go.Proofs.Ytkffgmhaiodagaa
open Go.RowKit Go.Own Go.Disk Go.BigFrame
attribute [local go_sem] setCell_twice str_size
attribute [local irreducible] SqC.SqW
theorem aggOp : (match Try.prog.underlying 33 with | some (.struct _) | some (.array _ _) => true | _ => false) = true := by kernel_rfl
theorem infoOp : (Try.prog.info? 33).map (·.size) = some 5 := by kernel_rfl
/-- An operation as a value. -/
def opv (o : Disk.Op) (sp : Option Addr) (pc : Nat) : Value := .agg #[.int .i64 o.kind, .int .i64 o.i, .int .i64 o.bit, str o.text, .slice sp o.picks.length pc]
set_option maxHeartbeats 3200000 in
set_option maxRecDepth 100000 in
theorem rdo_any (f : Rt) (d : DS) (o : Disk.Op) (sp : Option Addr) (pc : Nat) (w : World) (h : RD w f d) (hi : -9223372036854775808 ≤ o.i ∧ o.i ≤ 9223372036854775807) (hps : o.picks ≠ [] → Sl w 1 (.slice sp o.picks.length pc) o.picks.length (o.picks.map fun z => .int .i64 z)) (hpn : o.picks ≠ [] → ∀ b, (Value.slice sp o.picks.length pc).ownBlock = some b → b ∉ f.all) :
    Calls Try.prog 12 #[.pointer (some ⟨f.p, 0, none⟩), opv o sp pc] w fun e w' => e = .returned (.tuple #[str (ado d o).1.1, .int .i64 (ado d o).1.2]) ∧ RD w' f (ado d o).2 ∧ Chg f.all w w' := by
  obtain ⟨z, i, b, t, ps⟩ := o
  dsimp only at hi hps hpn
  have hX : Blk (w.alloc (.cells #[.int .i64 z, .int .i64 i, .int .i64 b, str t, .slice sp ps.length pc] 33)) w.heap.size [.int .i64 z, .int .i64 i, .int .i64 b, str t, .slice sp ps.length pc] 33 := Blk.new w _ _
  have hb0 := alloc_below w (.cells #[.int .i64 z, .int .i64 i, .int .i64 b, str t, .slice sp ps.length pc] 33)
  have hC0 : Chg f.all w (w.alloc (.cells #[.int .i64 z, .int .i64 i, .int .i64 b, str t, .slice sp ps.length pc] 33)) := .of_below hb0
  have h0 := h.below hb0
  have hps0 := fun hne => (hps hne).below hb0
  obtain ⟨w0, hw0⟩ : ∃ w0 : World, w0 = w.alloc (.cells #[.int .i64 z, .int .i64 i, .int .i64 b, str t, .slice sp ps.length pc] 33) := ⟨_, rfl⟩
  rw [← hw0] at hX hb0 hC0 h0 hps0
  have HPS := Lib.hid hps0; clear hps0 hps
  have hXn : w.heap.size ∉ f.all := fun hx => absurd (h.lt _ hx) (Nat.lt_irrefl _)
  have HW := Lib.hid hw0; clear hw0
  have hz0 : w0.cell? ⟨w.heap.size, 0, none⟩ = some (.int .i64 z) := hX.cell rfl
  have hz1 : w0.cell? ⟨w.heap.size, 1, none⟩ = some (.int .i64 i) := hX.cell rfl
  have hz2 : w0.cell? ⟨w.heap.size, 2, none⟩ = some (.int .i64 b) := hX.cell rfl
  have hz4 : w0.cell? ⟨w.heap.size, 4, none⟩ = some (.slice sp ps.length pc) := hX.cell rfl
  go_enter Try.func12, Try.ntmps12
  unfold opv
  by_cases h1 : z = 1
  · subst h1
    have HE : Hid (ado d ⟨1, i, b, t, ps⟩ = (([], (awrite d i (opText t)).1), (awrite d i (opText t)).2)) := Lib.hid (by unfold ado; simp)
    go_wp2_with fail
    rw [← HW.out]
    haveI : Nonempty (SqC.Come fun W => Blk W w.heap.size [.int .i64 1, .int .i64 i, .int .i64 b, str t, .slice sp ps.length pc] 33) := ⟨⟨_, hX.drew⟩⟩
    refine SqC.wp_region_sqc 8 [4, 5] (fun W => Blk W w.heap.size [.int .i64 1, .int .i64 i, .int .i64 b, str t, .slice sp ps.length pc] 33) (by kernel_rfl) (by kernel_rfl) (by kernel_rfl) hX.drew ?_
    obtain ⟨wd, hwd⟩ : ∃ wd : World, wd = w0.drew := ⟨_, rfl⟩
    have ed : Below w0.heap.size w0 wd := by rw [hwd]; exact (Below.refl _ _).drew
    have hXd := hX.below ed hX.lt
    have hd := h0.below ed
    rw [← hwd]
    clear hwd
    iterate 2 (refine SqC.quiet rfl rfl ?_; go_big_quiet_step (fail); refine wpQuiet_nil ?_)
    refine SqC.value (.int .i64 i) rfl rfl (by intro W hW; have cx : W.cell? ⟨w.heap.size, 1, none⟩ = some (.int .i64 i) := hW.cell rfl; go_simp) ?_
    simp only [Act.put, List.setIfInBounds_toArray, List.set_cons_zero, List.set_cons_succ]
    refine SqC.value (.agg #[.int .i64 1, .int .i64 i, .int .i64 b, str t, .slice sp ps.length pc]) rfl rfl (by intro W hW; exact load_agg_exec rfl rfl (run_load_agg (P := Try.prog) (ty := 33) hW.cells0 aggOp infoOp)) ?_
    simp only [Act.put, List.setIfInBounds_toArray, List.set_cons_zero, List.set_cons_succ]
    refine SqC.effect rfl rfl ?_
    refine yields_call rfl (by kernel_rfl) rfl rfl ((text_any 1 i b t (.slice sp ps.length pc) rfl wd).mono ?_)
    rintro e w1 ⟨rfl, b1⟩
    have X1 := hXd.below b1 hXd.lt
    refine ⟨_, rfl, fun _ => X1, ?_⟩
    simp only [Act.put, List.setIfInBounds_toArray, List.set_cons_zero, List.set_cons_succ]
    refine SqC.effect rfl rfl ?_
    refine yields_call rfl (by kernel_rfl) rfl rfl ((rwrite_any f d i (opText t) w1 (hd.below b1)).mono ?_)
    rintro e w2 ⟨rfl, hP, hC⟩
    refine ⟨_, rfl, fun _ => X1.chg hC hXn, ?_⟩
    simp only [Act.put, List.setIfInBounds_toArray, List.set_cons_zero, List.set_cons_succ]
    iterate 2 (refine SqC.quiet rfl rfl ?_; go_big_quiet_step (fail); refine wpQuiet_nil ?_)
    refine SqC.nil ?_
    have hcc : Chg f.all w w2 := ((hC0.trans (.of_below ed)).trans (.of_below b1)).trans hC
    go_wp2
    go_ret2
    rw [HE.out]
    exact ⟨rfl, hP, hcc⟩
  · have n1 : (z == 1) = false := by simpa using h1
    by_cases h2 : z = 2
    · subst h2
      have HE : Hid (ado d ⟨2, i, b, t, ps⟩ = (aread d i, d)) := Lib.hid (by unfold ado; simp)
      go_wp2_with fail
      rw [← HW.out]
      refine (rread_any f d i w0 h0).mono ?_
      rintro e w2 ⟨rfl, rfl⟩
      go_wp2
      go_ret2
      rw [HE.out]
      exact ⟨rfl, h0, hC0⟩
    · have n2 : (z == 2) = false := by simpa using h2
      by_cases h3 : z = 3
      · subst h3
        have HE : Hid (ado d ⟨3, i, b, t, ps⟩ = (([], (aflush d).1), (aflush d).2)) := Lib.hid (by unfold ado; simp)
        go_wp2_with fail
        rw [← HW.out]
        refine (rflush_any f d w0 h0).mono ?_
        rintro e w2 ⟨rfl, hP, hC⟩
        have hcc : Chg f.all w w2 := hC0.trans hC
        go_wp2
        go_ret2
        rw [HE.out]
        exact ⟨rfl, hP, hcc⟩
      · have n3 : (z == 3) = false := by simpa using h3
        by_cases h4 : z = 4
        · subst h4
          have HE : Hid (ado d ⟨4, i, b, t, ps⟩ = (([], 0), atrip d i)) := Lib.hid (by unfold ado; simp)
          go_wp2_with fail
          rw [← HW.out]
          refine (rtrip_any f d i hi w0 h0).mono ?_
          rintro e w2 ⟨rfl, hP, hC⟩
          have hcc : Chg f.all w w2 := hC0.trans (hC.mono (by simp [Rt.all]))
          go_wp2
          go_ret2
          rw [HE.out]
          exact ⟨rfl, hP, hcc⟩
        · have n4 : (z == 4) = false := by simpa using h4
          by_cases h5 : z = 5
          · subst h5
            have HE : Hid (ado d ⟨5, i, b, t, ps⟩ = (([], 0), amount d ps)) := Lib.hid (by unfold ado; simp)
            go_wp2_with fail
            rw [← HW.out]
            refine (rmount_any f d ps sp pc w0 h0 HPS.out hpn).mono ?_
            rintro e w2 ⟨rfl, hP, hC⟩
            have hcc : Chg f.all w w2 := hC0.trans hC
            go_wp2
            go_ret2
            rw [HE.out]
            exact ⟨rfl, hP, hcc⟩
          · have n5 : (z == 5) = false := by simpa using h5
            by_cases h6 : z = 6
            · subst h6
              have HE : Hid (ado d ⟨6, i, b, t, ps⟩ = (([], (arot d i b).1), (arot d i b).2)) := Lib.hid (by unfold ado; simp)
              go_wp2_with fail
              rw [← HW.out]
              refine (rrot_any f d i b w0 h0).mono ?_
              rintro e w2 ⟨rfl, hP, hC⟩
              have hcc : Chg f.all w w2 := hC0.trans hC
              go_wp2
              go_ret2
              rw [HE.out]
              exact ⟨rfl, hP, hcc⟩
            · have n6 : (z == 6) = false := by simpa using h6
              by_cases h7 : z = 7
              · subst h7
                have HE : Hid (ado d ⟨7, i, b, t, ps⟩ = (([], (awear d i).1), (awear d i).2)) := Lib.hid (by unfold ado; simp)
                go_wp2_with fail
                rw [← HW.out]
                refine (rwear_any f d i w0 h0).mono ?_
                rintro e w2 ⟨rfl, hP, hC⟩
                have hcc : Chg f.all w w2 := hC0.trans hC
                go_wp2
                go_ret2
                rw [HE.out]
                exact ⟨rfl, hP, hcc⟩
              · have n7 : (z == 7) = false := by simpa using h7
                have HE : Hid (ado d ⟨z, i, b, t, ps⟩ = (([], 0), d)) := Lib.hid (by unfold ado; simp [h1, h2, h3, h4, h5, h6, h7])
                clear h1 h2 h3 h4 h5 h6 h7
                go_wp2
                rw [← HW.out]
                go_ret2
                rw [HE.out]
                exact ⟨rfl, h0, hC0⟩
set_option maxHeartbeats 3200000 in
set_option maxRecDepth 100000 in
theorem do_any (f : Ft) (d : DS) (o : Disk.Op) (sp : Option Addr) (pc : Nat) (w : World) (h : PD w f d) (hi : -9223372036854775808 ≤ o.i ∧ o.i ≤ 9223372036854775807) (hps : o.picks ≠ [] → Sl w 1 (.slice sp o.picks.length pc) o.picks.length (o.picks.map fun z => .int .i64 z)) (hpn : o.picks ≠ [] → ∀ b, (Value.slice sp o.picks.length pc).ownBlock = some b → b ∉ f.all) :
    Calls Try.prog 11 #[.pointer (some ⟨f.p, 0, none⟩), opv o sp pc] w fun e w' => e = .returned (.tuple #[str (ado d o).1.1, .int .i64 (ado d o).1.2]) ∧ PD w' f (ado d o).2 ∧ Chg f.all w w' := by
  obtain ⟨z, i, b, t, ps⟩ := o
  dsimp only at hi hps hpn
  have hX : Blk (w.alloc (.cells #[.int .i64 z, .int .i64 i, .int .i64 b, str t, .slice sp ps.length pc] 33)) w.heap.size [.int .i64 z, .int .i64 i, .int .i64 b, str t, .slice sp ps.length pc] 33 := Blk.new w _ _
  have hb0 := alloc_below w (.cells #[.int .i64 z, .int .i64 i, .int .i64 b, str t, .slice sp ps.length pc] 33)
  have hC0 : Chg f.all w (w.alloc (.cells #[.int .i64 z, .int .i64 i, .int .i64 b, str t, .slice sp ps.length pc] 33)) := .of_below hb0
  have h0 := h.below hb0
  have hps0 := fun hne => (hps hne).below hb0
  obtain ⟨w0, hw0⟩ : ∃ w0 : World, w0 = w.alloc (.cells #[.int .i64 z, .int .i64 i, .int .i64 b, str t, .slice sp ps.length pc] 33) := ⟨_, rfl⟩
  rw [← hw0] at hX hb0 hC0 h0 hps0
  have HPS := Lib.hid hps0; clear hps0 hps
  have hXn : w.heap.size ∉ f.all := fun hx => absurd (h.lt _ hx) (Nat.lt_irrefl _)
  have HW := Lib.hid hw0; clear hw0
  have hz0 : w0.cell? ⟨w.heap.size, 0, none⟩ = some (.int .i64 z) := hX.cell rfl
  have hz1 : w0.cell? ⟨w.heap.size, 1, none⟩ = some (.int .i64 i) := hX.cell rfl
  have hz2 : w0.cell? ⟨w.heap.size, 2, none⟩ = some (.int .i64 b) := hX.cell rfl
  have hz4 : w0.cell? ⟨w.heap.size, 4, none⟩ = some (.slice sp ps.length pc) := hX.cell rfl
  go_enter Try.func11, Try.ntmps11
  unfold opv
  by_cases h1 : z = 1
  · subst h1
    have HE : Hid (ado d ⟨1, i, b, t, ps⟩ = (([], (awrite d i (opText t)).1), (awrite d i (opText t)).2)) := Lib.hid (by unfold ado; simp)
    go_wp2_with fail
    rw [← HW.out]
    haveI : Nonempty (SqC.Come fun W => Blk W w.heap.size [.int .i64 1, .int .i64 i, .int .i64 b, str t, .slice sp ps.length pc] 33) := ⟨⟨_, hX.drew⟩⟩
    refine SqC.wp_region_sqc 8 [4, 5] (fun W => Blk W w.heap.size [.int .i64 1, .int .i64 i, .int .i64 b, str t, .slice sp ps.length pc] 33) (by kernel_rfl) (by kernel_rfl) (by kernel_rfl) hX.drew ?_
    obtain ⟨wd, hwd⟩ : ∃ wd : World, wd = w0.drew := ⟨_, rfl⟩
    have ed : Below w0.heap.size w0 wd := by rw [hwd]; exact (Below.refl _ _).drew
    have hXd := hX.below ed hX.lt
    have hd := h0.below ed
    rw [← hwd]
    clear hwd
    iterate 2 (refine SqC.quiet rfl rfl ?_; go_big_quiet_step (fail); refine wpQuiet_nil ?_)
    refine SqC.value (.int .i64 i) rfl rfl (by intro W hW; have cx : W.cell? ⟨w.heap.size, 1, none⟩ = some (.int .i64 i) := hW.cell rfl; go_simp) ?_
    simp only [Act.put, List.setIfInBounds_toArray, List.set_cons_zero, List.set_cons_succ]
    refine SqC.value (.agg #[.int .i64 1, .int .i64 i, .int .i64 b, str t, .slice sp ps.length pc]) rfl rfl (by intro W hW; exact load_agg_exec rfl rfl (run_load_agg (P := Try.prog) (ty := 33) hW.cells0 aggOp infoOp)) ?_
    simp only [Act.put, List.setIfInBounds_toArray, List.set_cons_zero, List.set_cons_succ]
    refine SqC.effect rfl rfl ?_
    refine yields_call rfl (by kernel_rfl) rfl rfl ((text_any 1 i b t (.slice sp ps.length pc) rfl wd).mono ?_)
    rintro e w1 ⟨rfl, b1⟩
    have X1 := hXd.below b1 hXd.lt
    refine ⟨_, rfl, fun _ => X1, ?_⟩
    simp only [Act.put, List.setIfInBounds_toArray, List.set_cons_zero, List.set_cons_succ]
    refine SqC.effect rfl rfl ?_
    refine yields_call rfl (by kernel_rfl) rfl rfl ((write_any f d i (opText t) w1 (hd.below b1)).mono ?_)
    rintro e w2 ⟨rfl, hP, hC⟩
    refine ⟨_, rfl, fun _ => X1.chg hC hXn, ?_⟩
    simp only [Act.put, List.setIfInBounds_toArray, List.set_cons_zero, List.set_cons_succ]
    iterate 2 (refine SqC.quiet rfl rfl ?_; go_big_quiet_step (fail); refine wpQuiet_nil ?_)
    refine SqC.nil ?_
    have hcc : Chg f.all w w2 := ((hC0.trans (.of_below ed)).trans (.of_below b1)).trans hC
    go_wp2
    go_ret2
    rw [HE.out]
    exact ⟨rfl, hP, hcc⟩
  · have n1 : (z == 1) = false := by simpa using h1
    by_cases h2 : z = 2
    · subst h2
      have HE : Hid (ado d ⟨2, i, b, t, ps⟩ = (aread d i, d)) := Lib.hid (by unfold ado; simp)
      go_wp2_with fail
      rw [← HW.out]
      refine (read_any f d i w0 h0).mono ?_
      rintro e w2 ⟨rfl, hb2⟩
      go_wp2
      go_ret2
      rw [HE.out]
      exact ⟨rfl, h0.below hb2, hC0.trans (.of_below hb2)⟩
    · have n2 : (z == 2) = false := by simpa using h2
      by_cases h3 : z = 3
      · subst h3
        have HE : Hid (ado d ⟨3, i, b, t, ps⟩ = (([], (aflush d).1), (aflush d).2)) := Lib.hid (by unfold ado; simp)
        go_wp2_with fail
        rw [← HW.out]
        refine (flush_any f d w0 h0).mono ?_
        rintro e w2 ⟨rfl, hP, hC⟩
        have hcc : Chg f.all w w2 := hC0.trans hC
        go_wp2
        go_ret2
        rw [HE.out]
        exact ⟨rfl, hP, hcc⟩
      · have n3 : (z == 3) = false := by simpa using h3
        by_cases h4 : z = 4
        · subst h4
          have HE : Hid (ado d ⟨4, i, b, t, ps⟩ = (([], 0), atrip d i)) := Lib.hid (by unfold ado; simp)
          go_wp2_with fail
          rw [← HW.out]
          refine (trip_any f d i hi w0 h0).mono ?_
          rintro e w2 ⟨rfl, hP, hC⟩
          have hcc : Chg f.all w w2 := hC0.trans (hC.mono (by simp [Ft.all]))
          go_wp2
          go_ret2
          rw [HE.out]
          exact ⟨rfl, hP, hcc⟩
        · have n4 : (z == 4) = false := by simpa using h4
          by_cases h5 : z = 5
          · subst h5
            have HE : Hid (ado d ⟨5, i, b, t, ps⟩ = (([], 0), amount d ps)) := Lib.hid (by unfold ado; simp)
            go_wp2_with fail
            rw [← HW.out]
            refine (mount_any f d ps sp pc w0 h0 HPS.out hpn).mono ?_
            rintro e w2 ⟨rfl, hP, hC⟩
            have hcc : Chg f.all w w2 := hC0.trans hC
            go_wp2
            go_ret2
            rw [HE.out]
            exact ⟨rfl, hP, hcc⟩
          · have n5 : (z == 5) = false := by simpa using h5
            by_cases h6 : z = 6
            · subst h6
              have HE : Hid (ado d ⟨6, i, b, t, ps⟩ = (([], (arot d i b).1), (arot d i b).2)) := Lib.hid (by unfold ado; simp)
              go_wp2_with fail
              rw [← HW.out]
              refine (rot_any f d i b w0 h0).mono ?_
              rintro e w2 ⟨rfl, hP, hC⟩
              have hcc : Chg f.all w w2 := hC0.trans hC
              go_wp2
              go_ret2
              rw [HE.out]
              exact ⟨rfl, hP, hcc⟩
            · have n6 : (z == 6) = false := by simpa using h6
              by_cases h7 : z = 7
              · subst h7
                have HE : Hid (ado d ⟨7, i, b, t, ps⟩ = (([], (awear d i).1), (awear d i).2)) := Lib.hid (by unfold ado; simp)
                go_wp2_with fail
                rw [← HW.out]
                refine (wear_any f d i w0 h0).mono ?_
                rintro e w2 ⟨rfl, hP, hC⟩
                have hcc : Chg f.all w w2 := hC0.trans hC
                go_wp2
                go_ret2
                rw [HE.out]
                exact ⟨rfl, hP, hcc⟩
              · have n7 : (z == 7) = false := by simpa using h7
                have HE : Hid (ado d ⟨z, i, b, t, ps⟩ = (([], 0), d)) := Lib.hid (by unfold ado; simp [h1, h2, h3, h4, h5, h6, h7])
                clear h1 h2 h3 h4 h5 h6 h7
                go_wp2
                rw [← HW.out]
                go_ret2
                rw [HE.out]
                exact ⟨rfl, h0, hC0⟩
end Go.Proofs.Ytkffgmhaiodagaa

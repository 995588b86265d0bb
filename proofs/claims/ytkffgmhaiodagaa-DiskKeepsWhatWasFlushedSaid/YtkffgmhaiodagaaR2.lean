/- settle, Rot of the reference. -/
import Derived.Test.YtkffgmhaiodagaaR1
namespace Go.Own
theorem bytes_extract (q : List UInt8) (a b : Nat) : (⟨q.toArray⟩ : ByteArray).extract a b = ⟨((q.take b).drop a).toArray⟩ := by
  apply ByteArray.ext
  simp [ByteArray.data_extract, List.extract_toArray, List.extract_eq_take_drop, List.drop_take]
end Go.Own
namespace Go.Proofs.Ytkffgmhaiodagaa
open Go.RowKit Go.Own Go.Disk Go.BigFrame
attribute [local go_sem] setCell_twice str_size str_append bytes_extract
theorem aggSec : (match Try.prog.underlying 54 with | some (.struct _) | some (.array _ _) => true | _ => false) = true := by kernel_rfl
theorem infoSec : (Try.prog.info? 54).map (·.size) = some 4 := by kernel_rfl
set_option maxHeartbeats 1600000 in
set_option maxRecDepth 100000 in
theorem rsettle_any (f : Rt) (d : DS) (n : Nat) (p : Int) (w : World) (h : RD w f d) (hi : inR d n = true) (hp : (sec d n).p.isSome = true) : Calls Try.prog 57 #[.pointer (some ⟨f.p, 0, none⟩), .int .i64 n, .int .i64 p] w fun e w' => e = .returned (.tuple #[]) ∧ RD w' f (upd d n (settle1 p)) ∧ Chg f.all w w' := by
  have c0 : w.cell? ⟨f.p, 0, none⟩ = some (.slice (some ⟨f.sb, 0, none⟩) d.s.length f.cap) := h.head.cell rfl
  obtain ⟨hm, hil, hi0, _⟩ := sec_mem hi
  have hil' : n < d.s.length := by omega
  clear hil hi0
  obtain ⟨q, hq⟩ := Option.isSome_iff_exists.1 hp
  have hql := h.ok.p _ hm q hq
  have htl := h.ok.t _ hm
  obtain ⟨t0, ht0⟩ : ∃ t0, t0 = (sec d n).t := ⟨_, rfl⟩
  obtain ⟨wn, hwn⟩ : ∃ wn, wn = (sec d n).w := ⟨_, rfl⟩
  have hrs : rsec (sec d n) = [str t0, str q, .bool true, .bool wn] := by rw [ht0, hwn]; simp [rsec, hq]
  have hC : Cells w f.sb (n * 4) [str t0, str q, .bool true, .bool wn] := by
    refine h.secs.cells _ _ ?_
    rw [← hrs]
    obtain ⟨A, B, hA, h1, _⟩ := rcells_split hil' f.sp
    rw [h1, ← hA, List.drop_left]
    exact List.take_left
  have hltx := h.secs.lt
  obtain ⟨c, hc⟩ : ∃ c : Nat, clamp p = c := ⟨_, rfl⟩
  have hc64 : c ≤ 64 := by rw [← hc]; unfold clamp; omega
  have hck : max 0 (min p 64) = (c : Int) := by rw [← hc]; unfold clamp; omega
  have ht0l : t0.length = 64 := by rw [ht0]; exact htl
  have HT := Lib.hid ht0; clear ht0
  have HW := Lib.hid hwn; clear hwn
  clear htl
  have hcq : (c : Int) ≤ 64 := by omega
  go_enter Try.func57, Try.ntmps57
  cases wn with
  | true =>
    have E6 : rsec (settle1 p (d.s.getD n default)) = [str t0, str [], .bool false, .bool true] := by
      have hw : (d.s.getD n default).w = true := HW.out.symm
      have ht : (d.s.getD n default).t = t0 := HT.out.symm
      generalize d.s.getD n default = x at hw ht ⊢
      simp [rsec, settle1, hw, ht]
    go_wp2_with (refine wpList_load_agg [str t0, str q, .bool true, .bool true] hC rfl rfl rfl aggSec infoSec ?_)
    have HX : Blk (w.alloc (.cells #[str t0, str [], .bool false, .bool true] 54)) w.heap.size [str t0, str [], .bool false, .bool true] 54 := Blk.new w _ _
    have HB : Below w.heap.size w (w.alloc (.cells #[str t0, str [], .bool false, .bool true] 54)) := alloc_below w _
    obtain ⟨w5, hw5⟩ : ∃ w5 : World, w5 = w.alloc (.cells #[str t0, str [], .bool false, .bool true] 54) := ⟨_, rfl⟩
    rw [← hw5]
    have hX : Blk w5 w.heap.size [str (t0), str [], .bool false, .bool true] 54 := by
      rw [hw5]; exact HX
    have hb5 : Below w.heap.size w w5 := by rw [hw5]; exact HB
    clear hw5 HX HB
    have h5 := h.below hb5
    have k0 : w5.cell? ⟨f.p, 0, none⟩ = some (.slice (some ⟨f.sb, 0, none⟩) d.s.length f.cap) := h5.head.cell rfl
    have hlX : ((rcells d.s ++ f.sp)).length = (rcells d.s ++ f.sp).length := rfl
    have hil5 : n * 4 + 4 ≤ (rcells d.s ++ f.sp).length := by rw [List.length_append, rcells_length]; omega
    haveI : Nonempty (SqC.Come fun W => W = w5.drew) := ⟨⟨_, rfl⟩⟩
    refine SqC.wp_region_sqc 8 [7] (fun W => W = w5.drew) (by kernel_rfl) (by kernel_rfl) (by kernel_rfl) rfl ?_
    refine SqC.quiet rfl rfl ?_; go_big_quiet_step (fail); refine wpQuiet_nil ?_
    refine SqC.quiet rfl rfl ?_; go_big_quiet_step (fail); refine wpQuiet_nil ?_
    refine SqC.quiet rfl rfl ?_; go_big_quiet_step (fail); refine wpQuiet_nil ?_
    refine SqC.value (.slice (some ⟨f.sb, 0, none⟩) d.s.length f.cap) rfl rfl (by rintro _ rfl; go_simp) ?_
    simp only [Act.put, List.setIfInBounds_toArray, List.set_cons_zero, List.set_cons_succ]
    refine SqC.quiet rfl rfl ?_; go_big_quiet_step (fail); refine wpQuiet_nil ?_
    refine SqC.value (.agg #[str (t0), str [], .bool false, .bool true]) rfl rfl ?_ ?_
    · rintro _ rfl
      have hl := run_load_agg (P := Try.prog) (ty := 54) hX.drew.cells0 aggSec infoSec
      exact load_agg_exec rfl rfl hl
    simp only [Act.put, List.setIfInBounds_toArray, List.set_cons_zero, List.set_cons_succ]
    refine SqC.quiet rfl rfl ?_; go_big_quiet_step (fail); refine wpQuiet_nil ?_
    refine SqC.effectW rfl rfl ?_
    refine wpList_store_blk (vs := [str (t0), str [], .bool false, .bool true]) h5.secs.drew rfl rfl rfl rfl rfl infoSec rfl hil5 (by intro u hu; simp at hu; rcases hu with rfl | rfl | rfl | rfl <;> rfl) ?_
    intro w6 hb6 ho6
    refine wpList_nil (SqC.here rfl (fun h => absurd rfl h) (SqC.nil ?_))
    have e6 : rcells (d.s.modify n (settle1 p)) ++ f.sp = (rcells d.s ++ f.sp).take (n * 4) ++ [str (t0), str [], .bool false, .bool true] ++ (rcells d.s ++ f.sp).drop (n * 4 + 4) := by
      rw [rcells_modify hil', E6]
    rw [← e6] at hb6
    have hP := h5.upd (w' := w6) hi (settle1 p) (fun x h1 h2 => settle1_len p x h1 h2) hb6 ((Chg.of_oth ho6 (by simp)).pre_drew)
    have hcc : Chg f.all w w6 := (Chg.of_below hb5).trans ((Chg.of_oth ho6 (by simp [Rt.all])).pre_drew)
    go_wp2
    refine bodyPost_end (results_none rfl _ _ _) rfl ?_
    exact ⟨rfl, hP, hcc⟩
  | false =>
    have e64 : List.take 64 t0 = t0 := List.take_of_length_le (by omega)
    have E6 : rsec (settle1 p (d.s.getD n default)) = [str (q.take c ++ t0.drop c), str [], .bool false, .bool false] := by
      have hw : (d.s.getD n default).w = false := HW.out.symm
      have ht : (d.s.getD n default).t = t0 := HT.out.symm
      have hq' : (d.s.getD n default).p = some q := hq
      generalize d.s.getD n default = x at hw ht hq' ⊢
      simp [rsec, settle1, hw, ht, hq', hc]
    go_wp2_with (refine wpList_load_agg [str t0, str q, .bool true, .bool false] hC rfl rfl rfl aggSec infoSec ?_)
    refine wp_region_tail 10 (by kernel_rfl) (by kernel_rfl) ?_
    simp only [List.take_succ_cons, List.take_zero, List.drop_succ_cons, List.drop_zero]
    repeat (go_big_quiet_step (fail))
    refine wpQuiet_nil ?_
    intro nq
    go_wp2
    have HX := ((((Blk.new w #[str t0, str q, .bool true, .bool false] 54).drewN nq).set 0 (str (q.take c ++ t0.drop c))).set 1 (str [])).set 2 (.bool false)
    have HB := below_set (below_set (below_set (below_drewN (alloc_below w (.cells #[str t0, str q, .bool true, .bool false] 54)) nq) (Nat.le_refl _) (Nat.le_refl _) 0 (str (q.take c ++ t0.drop c))) (Nat.le_refl _) (Nat.le_refl _) 1 (str [])) (Nat.le_refl _) (Nat.le_refl _) 2 (.bool false)
    obtain ⟨w5, hw5⟩ : ∃ w5 : World, w5 = ((((w.alloc (.cells #[str t0, str q, .bool true, .bool false] 54)).drewN nq).setCell ⟨w.heap.size, 0, none⟩ (str (q.take c ++ t0.drop c))).setCell ⟨w.heap.size, 1, none⟩ (str [])).setCell ⟨w.heap.size, 2, none⟩ (.bool false) := ⟨_, rfl⟩
    rw [← hw5]
    have hX : Blk w5 w.heap.size [str (q.take c ++ t0.drop c), str [], .bool false, .bool false] 54 := by
      rw [hw5]; exact HX
    have hb5 : Below w.heap.size w w5 := by rw [hw5]; exact HB
    clear hw5 HX HB
    have h5 := h.below hb5
    have k0 : w5.cell? ⟨f.p, 0, none⟩ = some (.slice (some ⟨f.sb, 0, none⟩) d.s.length f.cap) := h5.head.cell rfl
    have hlX : ((rcells d.s ++ f.sp)).length = (rcells d.s ++ f.sp).length := rfl
    have hil5 : n * 4 + 4 ≤ (rcells d.s ++ f.sp).length := by rw [List.length_append, rcells_length]; omega
    haveI : Nonempty (SqC.Come fun W => W = w5.drew) := ⟨⟨_, rfl⟩⟩
    refine SqC.wp_region_sqc 8 [7] (fun W => W = w5.drew) (by kernel_rfl) (by kernel_rfl) (by kernel_rfl) rfl ?_
    refine SqC.quiet rfl rfl ?_; go_big_quiet_step (fail); refine wpQuiet_nil ?_
    refine SqC.quiet rfl rfl ?_; go_big_quiet_step (fail); refine wpQuiet_nil ?_
    refine SqC.quiet rfl rfl ?_; go_big_quiet_step (fail); refine wpQuiet_nil ?_
    refine SqC.value (.slice (some ⟨f.sb, 0, none⟩) d.s.length f.cap) rfl rfl (by rintro _ rfl; go_simp) ?_
    simp only [Act.put, List.setIfInBounds_toArray, List.set_cons_zero, List.set_cons_succ]
    refine SqC.quiet rfl rfl ?_; go_big_quiet_step (fail); refine wpQuiet_nil ?_
    refine SqC.value (.agg #[str (q.take c ++ t0.drop c), str [], .bool false, .bool false]) rfl rfl ?_ ?_
    · rintro _ rfl
      have hl := run_load_agg (P := Try.prog) (ty := 54) hX.drew.cells0 aggSec infoSec
      exact load_agg_exec rfl rfl hl
    simp only [Act.put, List.setIfInBounds_toArray, List.set_cons_zero, List.set_cons_succ]
    refine SqC.quiet rfl rfl ?_; go_big_quiet_step (fail); refine wpQuiet_nil ?_
    refine SqC.effectW rfl rfl ?_
    refine wpList_store_blk (vs := [str (q.take c ++ t0.drop c), str [], .bool false, .bool false]) h5.secs.drew rfl rfl rfl rfl rfl infoSec rfl hil5 (by intro u hu; simp at hu; rcases hu with rfl | rfl | rfl | rfl <;> rfl) ?_
    intro w6 hb6 ho6
    refine wpList_nil (SqC.here rfl (fun h => absurd rfl h) (SqC.nil ?_))
    have e6 : rcells (d.s.modify n (settle1 p)) ++ f.sp = (rcells d.s ++ f.sp).take (n * 4) ++ [str (q.take c ++ t0.drop c), str [], .bool false, .bool false] ++ (rcells d.s ++ f.sp).drop (n * 4 + 4) := by
      rw [rcells_modify hil', E6]
    rw [← e6] at hb6
    have hP := h5.upd (w' := w6) hi (settle1 p) (fun x h1 h2 => settle1_len p x h1 h2) hb6 ((Chg.of_oth ho6 (by simp)).pre_drew)
    have hcc : Chg f.all w w6 := (Chg.of_below hb5).trans ((Chg.of_oth ho6 (by simp [Rt.all])).pre_drew)
    go_wp2
    refine bodyPost_end (results_none rfl _ _ _) rfl ?_
    exact ⟨rfl, hP, hcc⟩
end Go.Proofs.Ytkffgmhaiodagaa

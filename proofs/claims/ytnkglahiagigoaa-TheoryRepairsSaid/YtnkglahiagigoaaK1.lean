/- theory: package conflict: the comparison of sets. -/
import Derived.Test.YtnkglahiagigoaaT4
import Derived.Test.YtnkglahiagigoaaOn
import Derived.Test.YtnkglahiagigoaaF11
import Derived.Test.YtnkglahiagigoaaRf
namespace Go.Theory
/-- fewer first, then lesser: as a number -/
def scf (x y : Nat) : Int := if cmpI (pop x) (pop y) = 0 then cmpI x y else cmpI (pop x) (pop y)
end Go.Theory
namespace Go.Proofs.Ytnkglahiagigoaa
open Go.RowKit Go.Own Go.Theory Go.BigFrame Go.Shelf Go.Ib
set_option maxRecDepth 100000 in
theorem or_any (a b : Int) (g : Nat) (w : World) (h : Sl w 1 (.slice (some ⟨g, 0, none⟩) 2 2) 2 [.int .i64 a, .int .i64 b]) :
    Calls Try.prog 96 #[.slice (some ⟨g, 0, none⟩) 2 2] w fun e w' => e = .returned (.int .i64 (if a = 0 then b else a)) ∧ w' = w := by
  obtain ⟨g', o, e, _, _, hC, _⟩ := sl_at h (by omega)
  injection e with e; injection e with e1 e2 _
  subst e1 e2
  have c0 : w.cell? ⟨g, 0, none⟩ = some (.int .i64 a) := hC 0 _ rfl
  have c1 : w.cell? ⟨g, 1, none⟩ = some (.int .i64 b) := hC 1 _ rfl
  clear hC h
  go_enter Try.func96, Try.ntmps96
  go_wp2
  go_loopw [8] (fun vi wr => ∃ i : Nat, i ≤ 2 ∧ vi = .int .i64 i ∧ (1 ≤ i → a = 0) ∧ (2 ≤ i → b = 0) ∧ wr = w) (fun vi _ => 2 - (vInt vi).toNat)
  case atStart => exact ⟨0, by omega, rfl, fun h => absurd h (by omega), fun h => absurd h (by omega), rfl⟩
  case round =>
    obtain ⟨i, hi, rfl, ha, hb, rfl⟩ := hrel
    have h3 : i = 0 ∨ i = 1 ∨ i = 2 := by omega
    rcases h3 with rfl | rfl | rfl
    · clear ha hb hi
      by_cases ha : a = 0
      · have hq : (a != 0) = false := by simp [ha]
        have HA := Lib.hid ha; clear ha
        go_wp2
        go_roundw
        case rel => exact ⟨1, by omega, by first | rfl | go_num, fun _ => HA.out, fun h => absurd h (by omega), trivial⟩
        case measure => simp [vInt]
      · have hq : (a != 0) = true := by simp [ha]
        have HA := Lib.hid ha; clear ha
        go_wp2
        go_ret
        exact ⟨rfl, rfl⟩
    · have HA := Lib.hid (ha (by omega))
      clear hb hi ha
      by_cases hb : b = 0
      · have hq : (b != 0) = false := by simp [hb]
        have HB := Lib.hid hb; clear hb
        go_wp2
        go_roundw
        case rel => exact ⟨2, by omega, by first | rfl | go_num, fun _ => HA.out, fun _ => HB.out, trivial⟩
        case measure => simp [vInt]
      · have hq : (b != 0) = true := by simp [hb]
        clear hb
        go_wp2
        go_ret
        exact ⟨rfl, rfl⟩
    · have HA := Lib.hid (ha (by omega))
      have HB := Lib.hid (hb (by omega))
      clear ha hb hi
      go_wp2
      go_ret
      exact ⟨by rw [HB.out]; rfl, rfl⟩
set_option maxRecDepth 100000 in
theorem ord1_any (x : Nat) (hx : x < 256) (w : World) : Calls Try.prog 72 #[.int .i64 x] w fun e w' => e = .returned (.int .i64 (pop x)) ∧ w' = w := by
  go_enter Try.func72, Try.ntmps72
  go_wp2_with (fail)
  refine (ones_any x hx w).mono ?_
  rintro e w2 ⟨rfl, rfl⟩
  go_wp2
  go_ret
  exact ⟨rfl, rfl⟩
set_option maxRecDepth 100000 in
theorem ord2_any (x : Nat) (w : World) : Calls Try.prog 75 #[.int .i64 x] w fun e w' => e = .returned (.int .i64 x) ∧ w' = w := by
  go_enter Try.func75, Try.ntmps75
  go_wp2
  go_ret
  exact ⟨rfl, rfl⟩
set_option maxRecDepth 100000 in
set_option maxHeartbeats 1600000 in
theorem scmp_any (x y B1 B2 : Nat) (hx : x < 256) (hy : y < 256) (w : World) (h1 : w.cell? ⟨B1, 0, none⟩ = some (.func (.func 72) #[] #[])) (h2 : w.cell? ⟨B2, 0, none⟩ = some (.func (.func 75) #[] #[])) :
    Calls Try.prog 95 #[.int .i64 x, .int .i64 y, .pointer (some ⟨B1, 0, none⟩), .pointer (some ⟨B2, 0, none⟩)] w fun e w' => e = .returned (.int .i64 (scf x y)) ∧ ∃ o, w' = w.drew.alloc o := by
  have eX : w.drew.cell? ⟨B1, 0, none⟩ = some (.func (.func 72) #[] #[]) ∧ w.drew.cell? ⟨B2, 0, none⟩ = some (.func (.func 75) #[] #[]) := ⟨h1, h2⟩
  clear h1 h2
  unfold scf
  obtain ⟨p, hp⟩ : ∃ p, p = cmpI (pop x) (pop y) := ⟨_, rfl⟩
  obtain ⟨q, hq⟩ : ∃ q, q = cmpI x y := ⟨_, rfl⟩
  have hcp := fun u => compare_any (pop x) (pop y) u
  have hcq := fun u => compare_any x y u
  rw [← hp, ← hq]
  simp only [← hp] at hcp
  simp only [← hq] at hcq
  clear hp hq
  have hor := fun u h => or_any p q w.drew.heap.size u h
  obtain ⟨r, hr⟩ : ∃ r, r = if p = 0 then q else p := ⟨_, rfl⟩
  rw [← hr]
  simp only [← hr] at hor
  clear hr
  go_enter Try.func95, Try.ntmps95
  go_wp2
  obtain ⟨Ext, hExt⟩ : ∃ Ext : World → Prop, Ext = fun U => U.cell? ⟨B1, 0, none⟩ = some (.func (.func 72) #[] #[]) ∧ U.cell? ⟨B2, 0, none⟩ = some (.func (.func 75) #[] #[]) := ⟨_, rfl⟩
  have eX2 : Ext w.drew := by rw [hExt]; exact eX
  have hU : ∀ U, Ext U → U.cell? ⟨B1, 0, none⟩ = some (.func (.func 72) #[] #[]) ∧ U.cell? ⟨B2, 0, none⟩ = some (.func (.func 75) #[] #[]) := fun U h => by rw [hExt] at h; exact h
  have hE2 : Ext (w.drew.alloc (.cells #[.int .i64 p, .int .i64 q] 3)) := by
    rw [hExt]
    exact ⟨by rw [World.cell?_alloc_lt _ _ _ (World.block_lt_of_cell? _ _ eX.1)]; exact eX.1, by rw [World.cell?_alloc_lt _ _ _ (World.block_lt_of_cell? _ _ eX.2)]; exact eX.2⟩
  clear hExt eX
  haveI : Nonempty (SqC.Come Ext) := ⟨⟨_, eX2⟩⟩
  refine SqC.wp_region_sqc 17 [2, 5, 6, 9, 12, 13, 14, 15] Ext (by kernel_rfl) (by kernel_rfl) (by kernel_rfl) eX2 ?_
  refine SqC.value (.func (.func 72) #[] #[]) rfl rfl (by intro U h; have cx := (hU U h).1; go_simp) ?_
  simp only [Act.put, List.setIfInBounds_toArray, List.set_cons_zero, List.set_cons_succ]
  refine SqC.quiet rfl rfl ?_; go_big_quiet_step (fail); refine wpQuiet_nil ?_
  refine SqC.effect rfl rfl ?_
  refine yields_closure rfl (by kernel_rfl) rfl (args := #[.int .i64 x]) rfl ((ord1_any x hx _).mono ?_)
  rintro e w2 ⟨rfl, rfl⟩
  refine ⟨_, rfl, fun _ => eX2, ?_⟩
  simp only [Act.put, List.setIfInBounds_toArray, List.set_cons_zero, List.set_cons_succ]
  refine SqC.value (.func (.func 72) #[] #[]) rfl rfl (by intro U h; have cx := (hU U h).1; go_simp) ?_
  simp only [Act.put, List.setIfInBounds_toArray, List.set_cons_zero, List.set_cons_succ]
  refine SqC.quiet rfl rfl ?_; go_big_quiet_step (fail); refine wpQuiet_nil ?_
  refine SqC.effect rfl rfl ?_
  refine yields_closure rfl (by kernel_rfl) rfl (args := #[.int .i64 y]) rfl ((ord1_any y hy _).mono ?_)
  rintro e w2 ⟨rfl, rfl⟩
  refine ⟨_, rfl, fun _ => eX2, ?_⟩
  simp only [Act.put, List.setIfInBounds_toArray, List.set_cons_zero, List.set_cons_succ]
  refine SqC.effect rfl rfl ?_
  refine yields_call rfl (by kernel_rfl) rfl rfl ((hcp _).mono ?_)
  rintro e w2 ⟨rfl, rfl⟩
  refine ⟨_, rfl, fun _ => eX2, ?_⟩
  simp only [Act.put, List.setIfInBounds_toArray, List.set_cons_zero, List.set_cons_succ]
  refine SqC.value (.func (.func 75) #[] #[]) rfl rfl (by intro U h; have cx := (hU U h).2; go_simp) ?_
  simp only [Act.put, List.setIfInBounds_toArray, List.set_cons_zero, List.set_cons_succ]
  refine SqC.quiet rfl rfl ?_; go_big_quiet_step (fail); refine wpQuiet_nil ?_
  refine SqC.effect rfl rfl ?_
  refine yields_closure rfl (by kernel_rfl) rfl (args := #[.int .i64 x]) rfl ((ord2_any x _).mono ?_)
  rintro e w2 ⟨rfl, rfl⟩
  refine ⟨_, rfl, fun _ => eX2, ?_⟩
  simp only [Act.put, List.setIfInBounds_toArray, List.set_cons_zero, List.set_cons_succ]
  refine SqC.value (.func (.func 75) #[] #[]) rfl rfl (by intro U h; have cx := (hU U h).2; go_simp) ?_
  simp only [Act.put, List.setIfInBounds_toArray, List.set_cons_zero, List.set_cons_succ]
  refine SqC.quiet rfl rfl ?_; go_big_quiet_step (fail); refine wpQuiet_nil ?_
  refine SqC.effect rfl rfl ?_
  refine yields_closure rfl (by kernel_rfl) rfl (args := #[.int .i64 y]) rfl ((ord2_any y _).mono ?_)
  rintro e w2 ⟨rfl, rfl⟩
  refine ⟨_, rfl, fun _ => eX2, ?_⟩
  simp only [Act.put, List.setIfInBounds_toArray, List.set_cons_zero, List.set_cons_succ]
  refine SqC.effect rfl rfl ?_
  refine yields_call rfl (by kernel_rfl) rfl rfl ((hcq _).mono ?_)
  rintro e w2 ⟨rfl, rfl⟩
  refine ⟨_, rfl, fun _ => eX2, ?_⟩
  simp only [Act.put, List.setIfInBounds_toArray, List.set_cons_zero, List.set_cons_succ]
  refine SqC.effect rfl rfl ?_
  refine yields_value (v := .slice (some ⟨w.drew.heap.size, 0, none⟩) 2 2) (w' := w.drew.alloc (.cells #[.int .i64 p, .int .i64 q] 3)) ?_ ⟨fun _ => hE2, ?_⟩
  · go_simp
  simp only [Act.put, List.setIfInBounds_toArray, List.set_cons_zero, List.set_cons_succ]
  refine SqC.effect rfl rfl ?_
  refine yields_call rfl (by kernel_rfl) rfl rfl ((hor _ (sl_new w.drew _ 3 2 rfl (by decide))).mono ?_)
  rintro e w2 ⟨rfl, rfl⟩
  refine ⟨_, rfl, fun _ => hE2, ?_⟩
  simp only [Act.put, List.setIfInBounds_toArray, List.set_cons_zero, List.set_cons_succ]
  refine SqC.quiet rfl rfl ?_; go_big_quiet_step (fail); refine wpQuiet_nil ?_
  refine SqC.nil ?_
  go_wp2
  go_ret
  exact ⟨rfl, _, rfl⟩
end Go.Proofs.Ytnkglahiagigoaa

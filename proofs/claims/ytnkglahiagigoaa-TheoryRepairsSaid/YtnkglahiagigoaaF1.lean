/- theory: the program's of, least. -/
import Derived.Test.YtnkglahiagigoaaF0
import Derived.Test.YtnkglahiagigoaaRf
namespace Go.Theory
open Go.RowKit Go.Own
theorem snoc_ind {α : Type} {p : List α → Prop} (h0 : p []) (h1 : ∀ l x, p l → p (l ++ [x])) (l : List α) : p l := by
  have aux : ∀ r : List α, p r.reverse := fun r => by
    induction r with
    | nil => exact h0
    | cons x r ih => rw [List.reverse_cons]; exact h1 _ _ ih
  have := aux l.reverse
  rwa [List.reverse_reverse] at this
/-- the sum of weights over a list of numbers -/
def esum (wl : List Int) {s : Nat} (pre : List (El s)) : Int := pre.foldl (fun a x => a + wl.getD x.1 0) 0
theorem esum_snoc (wl : List Int) {s : Nat} (pre : List (El s)) (x : El s) : esum wl (pre ++ [x]) = esum wl pre + wl.getD x.1 0 := by unfold esum; rw [List.foldl_append]; rfl
theorem esum_rg {wl : List Int} (h : ∀ z ∈ wl, 0 ≤ z ∧ z ≤ 16384) {s : Nat} (pre : List (El s)) : 0 ≤ esum wl pre ∧ esum wl pre ≤ 16384 * pre.length := by
  refine snoc_ind (p := fun pre => 0 ≤ esum wl pre ∧ esum wl pre ≤ 16384 * pre.length) (by simp [esum]) (fun l x ih => ?_) pre
  · have := getD_wt h x.1
    rw [esum_snoc, List.length_append]
    simp only [List.length_cons, List.length_nil]
    omega
theorem esum_els (wl : List Int) (s : Nat) : ∀ k, k ≤ 16 → esum wl (els s k) = wsum wl s k
  | 0, _ => rfl
  | k + 1, hk => by
    rw [wsum, ← esum_els wl s k (by omega)]
    cases h : s.testBit k with
    | true => rw [els_yes (by omega) h, esum_snoc]; simp
    | false => rw [els_no h]; simp
def emin (wl : List Int) {s : Nat} (pre : List (El s)) : Int := pre.foldl (fun a x => min a (wl.getD x.1 0)) 16384
theorem emin_snoc (wl : List Int) {s : Nat} (pre : List (El s)) (x : El s) : emin wl (pre ++ [x]) = min (emin wl pre) (wl.getD x.1 0) := by unfold emin; rw [List.foldl_append]; rfl
theorem emin_rg {wl : List Int} (h : ∀ z ∈ wl, 0 ≤ z ∧ z ≤ 16384) {s : Nat} (pre : List (El s)) : 0 ≤ emin wl pre ∧ emin wl pre ≤ 16384 := by
  refine snoc_ind (p := fun pre => 0 ≤ emin wl pre ∧ emin wl pre ≤ 16384) (by simp [emin]) (fun l x ih => ?_) pre
  · have := getD_wt h x.1
    rw [emin_snoc]
    omega
theorem emin_els (wl : List Int) (s : Nat) : ∀ k, k ≤ 16 → emin wl (els s k) = wmin wl s k
  | 0, _ => rfl
  | k + 1, hk => by
    rw [wmin, ← emin_els wl s k (by omega)]
    cases h : s.testBit k with
    | true => rw [els_yes (by omega) h, emin_snoc]; simp
    | false => rw [els_no h]; simp
end Go.Theory
namespace Go.Proofs.Ytnkglahiagigoaa
open Go.RowKit Go.Own Go.Theory Go.BigFrame Go.Shelf
attribute [local go_sem] Oper.semAt_some SqC.wide_fn SqC.wide_round_fn
set_option maxRecDepth 100000 in
theorem of_any (wl : List Int) (s : Nat) (nv mv lv : Value) (sa : Option Addr) (cap : Nat) (hs : s < 65536) (w : World) (hl : Sl w 1 (.slice sa wl.length cap) wl.length (wl.map (.int .i64))) (hb : ∀ k, s.testBit k = true → k < wl.length) (hr : ∀ z ∈ wl, 0 ≤ z ∧ z ≤ 16384) :
    Calls Try.prog 40 #[.agg #[nv, mv, lv, .slice sa wl.length cap], .int .i64 s] w fun e w' => e = .returned (.int .i64 (wsum wl s 16)) ∧ Below w.heap.size w w' := by
  refine (callsIn_wide (n := 4)).1 ?_
  refine callsIn_of_wp_marks Try.func40 rfl trivial ?_ rfl
  simp only [Try.ntmps40, List.size_toArray, List.length_cons, List.length_nil, Nat.reduceAdd, Nat.reduceSub, Array.replicate_succ, Array.replicate_zero, List.push_toArray, List.append_toArray, List.nil_append, List.cons_append]
  gi_wp2_with (gi_at_call 53; refine (callsIn_wide.2 (bits_any s _)).mono ?_; rintro e w' ⟨rfl, rfl⟩)
  gi_wp2
  obtain ⟨W0, hW0⟩ : ∃ W0, ((w.alloc (.cells #[nv, mv, lv, .slice sa wl.length cap] 61)).alloc (.cells #[.int .i64 0] 3)).alloc (.cells #[.int .i64 s] 23) = W0 := ⟨_, rfl⟩
  have h1 : Blk W0 w.heap.size [nv, mv, lv, .slice sa wl.length cap] 61 := by rw [← hW0]; exact ((Blk.new w _ _).alloc _).alloc _
  have h2 : Blk W0 (w.heap.size + 1) [.int .i64 0] 3 := by rw [← hW0]; exact (Blk.new_at _ _ _ (by simp)).alloc _
  have h3 : Blk W0 (w.heap.size + 1 + 1) [.int .i64 s] 23 := by rw [← hW0]; exact Blk.new_at _ _ _ (by simp)
  have h4 : Below w.heap.size w W0 := by rw [← hW0]; exact (((Below.refl _ w).alloc (Nat.le_refl _) _).alloc (by simp) _).alloc (by simp; omega) _
  have h5 : W0.heap.size = w.heap.size + 3 := by rw [← hW0]; simp
  rw [hW0]
  clear hW0
  refine wpIn_rangeFunc_ownF rfl (by decide) (gf := 71) (lb := #[.pointer (some ⟨w.heap.size + 1 + 1, 0, none⟩)]) rfl trivial (enters_of Try.func71 (by kernel_rfl) rfl)
    (bits1_stops 3 (by decide) (w.heap.size + 1 + 1) s hs W0 (by omega) (h3.cell rfl)) KpB.trans (fun W l o o' _ h ho _ => KpB.put W l o o' h ho) (Below.refl _ _) (fun _ => rfl)
    (fun pre W => (Blk W w.heap.size [nv, mv, lv, .slice sa wl.length cap] 61 ∧ Blk W (w.heap.size + 1) [.int .i64 (esum wl pre)] 3) ∧ Below w.heap.size w W)
    (fun _ _ _ => False) ((ownFrom_blk.and ownFrom_blk).and (ownFrom_below (Nat.le_refl _) (by omega))) (fun _ => ownFrom_false) ⟨⟨h1, h2⟩, h4⟩
    (fun x => { tmps := #[.agg #[nv, mv, lv, .slice sa wl.length cap], .int .i64 s, .pointer (some ⟨w.heap.size, 0, none⟩), undef, .int .i64 0, .pointer (some ⟨w.heap.size + 1, 0, none⟩), .int .i64 (x.1 : Int), .int .i64 s, .func (.func 71) #[] #[.pointer (some ⟨w.heap.size + 1 + 1, 0, none⟩)], .int .i64 (x.1 : Int), undef, undef, undef, undef, undef, undef, undef, undef], defers := [] }) ?assign ?body ?done ?stop
  case assign =>
    intro l x W K hK
    gi_wp2
    exact hK
  case body =>
    rintro l pre x W ⟨⟨k1, k2⟩, k3⟩ hlt
    have hx := hb x.1 x.2.2
    obtain ⟨b, o, rfl, _, _, hC, hbs⟩ := sl_at hl (by omega)
    obtain ⟨y, hy⟩ : ∃ y, y = wl.getD x.1 0 := ⟨_, rfl⟩
    have cW : W.cell? ⟨b, o + x.1, none⟩ = some (.int .i64 y) := (hC.below k3 hbs) x.1 _ (by simp [hx, hy])
    have cF : W.cell? ⟨w.heap.size, 3, none⟩ = some (.slice (some ⟨b, o, none⟩) wl.length cap) := k1.cell rfl
    obtain ⟨z, hz⟩ : ∃ z, z = esum wl pre := ⟨_, rfl⟩
    rw [← hz] at k2
    have cS : W.cell? ⟨w.heap.size + 1, 0, none⟩ = some (.int .i64 z) := k2.cell rfl
    have cSf : W.frozen? ⟨w.heap.size + 1, 0, none⟩ = false := k2.frozen 0
    have r1 := getD_wt hr x.1
    have r2 := esum_rg hr pre
    rw [← hy] at r1
    rw [← hz] at r2
    have hxi : ((x.1 : Nat) : Int) < wl.length := by omega
    have HS : Hid (esum wl (pre ++ [x]) = z + y) := Lib.hid (by rw [esum_snoc, hy, hz])
    clear hy hz
    gi_wp2
    refine SqC.wpIn_region_tail 7 (by kernel_rfl) (by kernel_rfl) (by kernel_rfl) ?_
    simp only [List.take_succ_cons, List.take_zero, List.drop_succ_cons, List.drop_zero]
    repeat (go_big_quiet_step (fail))
    refine wpQuiet_nil ?_
    intro nq2
    go_wp2
    refine ⟨(keepsOthers_drewN W nq2).trans (KeepsOthers.setCell _ _ _), KpB.set _ _ _ (by simp), ⟨⟨(k1.drewN nq2).set_ne _ (by simp), ?_⟩, below_set (below_drewN k3 nq2) (Nat.le_refl _) (by omega) _ _⟩⟩
    rw [HS.out]
    exact (k2.drewN nq2).set 0 _
  case done =>
    rintro D ys W hD rfl ⟨⟨k1, k2⟩, k3⟩ hK
    have cS : W.cell? ⟨w.heap.size + 1, 0, none⟩ = some (.int .i64 (esum wl (els s 16))) := k2.cell rfl
    gi_wp2
    refine ⟨by simp, .inl ⟨_, _, rfl, run_takeDeferred hK, ?_⟩⟩
    refine ⟨_, results_tmp rfl _ _ _, ?_⟩
    rw [esum_els wl s 16 (Nat.le_refl _)]
    exact ⟨rfl, k3.trans (belowK_b (w := w) (Nat.le_refl _) W D _ _ (by omega) hK rfl rfl)⟩
  case stop =>
    rintro D c pre W _ _ h _
    exact h.elim
set_option maxRecDepth 100000 in
theorem pleast_any (wl : List Int) (s : Nat) (nv mv lv : Value) (sa : Option Addr) (cap : Nat) (hs : s < 65536) (w : World) (hl : Sl w 1 (.slice sa wl.length cap) wl.length (wl.map (.int .i64))) (hb : ∀ k, s.testBit k = true → k < wl.length) (hr : ∀ z ∈ wl, 0 ≤ z ∧ z ≤ 16384) :
    Calls Try.prog 46 #[.agg #[nv, mv, lv, .slice sa wl.length cap], .int .i64 s] w fun e w' => e = .returned (.int .i64 (wmin wl s 16)) ∧ Below w.heap.size w w' := by
  refine (callsIn_wide (n := 4)).1 ?_
  refine callsIn_of_wp_marks Try.func46 rfl trivial ?_ rfl
  simp only [Try.ntmps46, List.size_toArray, List.length_cons, List.length_nil, Nat.reduceAdd, Nat.reduceSub, Array.replicate_succ, Array.replicate_zero, List.push_toArray, List.append_toArray, List.nil_append, List.cons_append]
  gi_wp2_with (gi_at_call 53; refine (callsIn_wide.2 (bits_any s _)).mono ?_; rintro e w' ⟨rfl, rfl⟩)
  gi_wp2
  obtain ⟨W0, hW0⟩ : ∃ W0, ((w.alloc (.cells #[nv, mv, lv, .slice sa wl.length cap] 61)).alloc (.cells #[.int .i64 16384] 3)).alloc (.cells #[.int .i64 s] 23) = W0 := ⟨_, rfl⟩
  have h1 : Blk W0 w.heap.size [nv, mv, lv, .slice sa wl.length cap] 61 := by rw [← hW0]; exact ((Blk.new w _ _).alloc _).alloc _
  have h2 : Blk W0 (w.heap.size + 1) [.int .i64 16384] 3 := by rw [← hW0]; exact (Blk.new_at _ _ _ (by simp)).alloc _
  have h3 : Blk W0 (w.heap.size + 1 + 1) [.int .i64 s] 23 := by rw [← hW0]; exact Blk.new_at _ _ _ (by simp)
  have h4 : Below w.heap.size w W0 := by rw [← hW0]; exact (((Below.refl _ w).alloc (Nat.le_refl _) _).alloc (by simp) _).alloc (by simp; omega) _
  have h5 : W0.heap.size = w.heap.size + 3 := by rw [← hW0]; simp
  rw [hW0]
  clear hW0
  refine wpIn_rangeFunc_ownF rfl (by decide) (gf := 71) (lb := #[.pointer (some ⟨w.heap.size + 1 + 1, 0, none⟩)]) rfl trivial (enters_of Try.func71 (by kernel_rfl) rfl)
    (bits1_stops 3 (by decide) (w.heap.size + 1 + 1) s hs W0 (by omega) (h3.cell rfl)) KpB.trans (fun W l o o' _ h ho _ => KpB.put W l o o' h ho) (Below.refl _ _) (fun _ => rfl)
    (fun pre W => (Blk W w.heap.size [nv, mv, lv, .slice sa wl.length cap] 61 ∧ Blk W (w.heap.size + 1) [.int .i64 (emin wl pre)] 3) ∧ Below w.heap.size w W)
    (fun _ _ _ => False) ((ownFrom_blk.and ownFrom_blk).and (ownFrom_below (Nat.le_refl _) (by omega))) (fun _ => ownFrom_false) ⟨⟨h1, h2⟩, h4⟩
    (fun x => { tmps := #[.agg #[nv, mv, lv, .slice sa wl.length cap], .int .i64 s, .pointer (some ⟨w.heap.size, 0, none⟩), undef, .int .i64 0, .pointer (some ⟨w.heap.size + 1, 0, none⟩), .int .i64 (x.1 : Int), .int .i64 s, .func (.func 71) #[] #[.pointer (some ⟨w.heap.size + 1 + 1, 0, none⟩)], .int .i64 (x.1 : Int), undef, undef, undef, undef, undef, undef, undef, undef], defers := [] }) ?assign ?body ?done ?stop
  case assign =>
    intro l x W K hK
    gi_wp2
    exact hK
  case body =>
    rintro l pre x W ⟨⟨k1, k2⟩, k3⟩ hlt
    have hx := hb x.1 x.2.2
    obtain ⟨b, o, rfl, _, _, hC, hbs⟩ := sl_at hl (by omega)
    obtain ⟨y, hy⟩ : ∃ y, y = wl.getD x.1 0 := ⟨_, rfl⟩
    have cW : W.cell? ⟨b, o + x.1, none⟩ = some (.int .i64 y) := (hC.below k3 hbs) x.1 _ (by simp [hx, hy])
    have cF : W.cell? ⟨w.heap.size, 3, none⟩ = some (.slice (some ⟨b, o, none⟩) wl.length cap) := k1.cell rfl
    obtain ⟨z, hz⟩ : ∃ z, z = emin wl pre := ⟨_, rfl⟩
    rw [← hz] at k2
    have cS : W.cell? ⟨w.heap.size + 1, 0, none⟩ = some (.int .i64 z) := k2.cell rfl
    have cSf : W.frozen? ⟨w.heap.size + 1, 0, none⟩ = false := k2.frozen 0
    have r1 := getD_wt hr x.1
    have r2 := emin_rg hr pre
    rw [← hy] at r1
    rw [← hz] at r2
    have hxi : ((x.1 : Nat) : Int) < wl.length := by omega
    have HS : Hid (emin wl (pre ++ [x]) = min z y) := Lib.hid (by rw [emin_snoc, hy, hz])
    clear hy hz
    gi_wp2
    refine SqC.wpIn_region_tail 7 (by kernel_rfl) (by kernel_rfl) (by kernel_rfl) ?_
    simp only [List.take_succ_cons, List.take_zero, List.drop_succ_cons, List.drop_zero]
    repeat (go_big_quiet_step (fail))
    refine wpQuiet_nil ?_
    intro nq2
    go_wp2
    all_goals
      refine ⟨(keepsOthers_drewN W nq2).trans (KeepsOthers.setCell _ _ _), KpB.set _ _ _ (by simp), ⟨⟨(k1.drewN nq2).set_ne _ (by simp), ?_⟩, below_set (below_drewN k3 nq2) (Nat.le_refl _) (by omega) _ _⟩⟩
      rw [HS.out]
      first
        | exact (k2.drewN nq2).set 0 _
        | (rw [show min z y = y by omega]; exact (k2.drewN nq2).set 0 _)
        | (rw [show min z y = z by omega]; exact (k2.drewN nq2).set 0 _)
  case done =>
    rintro D ys W hD rfl ⟨⟨k1, k2⟩, k3⟩ hK
    have cS : W.cell? ⟨w.heap.size + 1, 0, none⟩ = some (.int .i64 (emin wl (els s 16))) := k2.cell rfl
    gi_wp2
    refine ⟨by simp, .inl ⟨_, _, rfl, run_takeDeferred hK, ?_⟩⟩
    refine ⟨_, results_tmp rfl _ _ _, ?_⟩
    rw [emin_els wl s 16 (Nat.le_refl _)]
    exact ⟨rfl, k3.trans (belowK_b (w := w) (Nat.le_refl _) W D _ _ (by omega) hK rfl rfl)⟩
  case stop =>
    rintro D c pre W _ _ h _
    exact h.elim
end Go.Proofs.Ytnkglahiagigoaa

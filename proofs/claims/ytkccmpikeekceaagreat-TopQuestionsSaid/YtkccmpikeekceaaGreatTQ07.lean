/- theory: the program's Check. -/
import Derived.Test.YtkccmpikeekceaaGreatTQ06
/- theory: the program's Check. -/
section
namespace Go.Theory
open Go.RowKit Go.Own Go.Ib
theorem idxBy_fst (l : List Int) (s : Int) : Lib.idxBy (fun _ y => sub y s) l default = fst l s := by
  have h := Lib.idxBy_hit (fun (_ : Int) y => sub y s) l l.length
  have h2 := Lib.idxBy_miss (fun (_ : Int) y => sub y s) l l.length default
  rw [List.take_length] at h h2
  by_cases hx : ∃ k, k < l.length ∧ sub l[k]! s = true ∧ ∀ j, j < k → sub l[j]! s = false
  · obtain ⟨k, hk, h3, h4⟩ := hx
    rw [h k default hk (Nat.le_refl _) h3 h4, fst_at hk]
    · intro j hj hjk; have := h4 j hjk; simpa [hj] using this
    · simpa [hk] using h3
  · have hno : ∀ k, k < l.length → sub l[k]! s = false := by
      intro k
      induction k using Nat.strongRecOn with
      | _ k ih =>
        intro hk
        cases e : sub l[k]! s with
        | false => rfl
        | true => exact absurd ⟨k, hk, e, fun j hj => ih j hj (by omega)⟩ hx
    rw [h2 hno, fst_none]
    intro j hj
    have := hno j hj
    simpa [hj] using this
/-- what Check finds over a list of numbers -/
def efound (l : List Int) (s : Nat) {m : Nat} (pre : List (El m)) : List Int := pre.map fun x => fst l ((s ||| 2 ^ x.1 : Nat) : Int)
theorem efound_els (l : List Int) {may s : Nat} (hm : may < 65536) : ∀ k, k ≤ 16 → efound l s (els (diff may s) k) = founds l may s k
  | 0, _ => rfl
  | k + 1, hk => by
    have ih := efound_els l (s := s) hm k (by omega)
    have hb := diff_bit may s k (by omega)
    cases h : (may.testBit k && !s.testBit k) with
    | true =>
      rw [h] at hb
      rw [founds_yes h, els_yes (by omega) hb, ← ih]
      simp [efound]
    | false =>
      rw [h] at hb
      rw [founds_no h, els_no hb, ih]
theorem founds16 {l : List Int} {may s n : Nat} (hm : may < 2 ^ n) : ∀ d, founds l may s (n + d) = founds l may s n
  | 0 => rfl
  | d + 1 => by
    rw [← Nat.add_assoc, founds_no, founds16 hm d]
    cases h : may.testBit (n + d) with
    | false => rfl
    | true => have := bits_of_lt hm h; omega
theorem chk_els {n may s : Nat} {l : List Int} (hn : n ≤ 16) (hm : may < 2 ^ n) : chk n may l s = if 0 ≤ fst l s then ([], 15) else if (efound l s (els (diff may s) 16)).all (fun x => decide (0 ≤ x)) then (efound l s (els (diff may s) 16), 0) else ([], 10) := by
  have h := founds16 (l := l) (s := s) hm (16 - n)
  rw [show n + (16 - n) = 16 by omega] at h
  rw [efound_els l (by have := pow16 hn; omega) 16 (Nat.le_refl _), h]
  rfl
end Go.Theory
namespace Go.Proofs.YtkccmpikeekceaaGreat
open Go.RowKit Go.Own Go.Theory Go.BigFrame Go.Shelf
theorem subP (s : Int) (B : Nat) (w : World) (hB : B < w.heap.size) (hc : w.cell? ⟨B, 0, none⟩ = some (.int .i64 s)) :
    PredAt Tryz.prog 28 #[.pointer (some ⟨B, 0, none⟩)] (Value.int .i64) (fun c => sub c s) w := fun W x hb => by
  have hcW : W.cell? ⟨B, 0, none⟩ = some (.int .i64 s) := (hb.cell (p := ⟨B, 0, none⟩) hB).trans hc
  show Calls Tryz.prog 28 #[.int .i64 x, .pointer (some ⟨B, 0, none⟩)] W _
  go_enter Tryz.func28, Tryz.ntmps28
  go_wp2_with (fail)
  refine (contains_any s x W).mono ?_
  rintro e w' ⟨rfl, rfl⟩
  go_wp2
  go_ret
  exact ⟨rfl, 0, rfl⟩
theorem within_any (l : List Int) (s : Int) (sa : Option Addr) (cap B : Nat) (w : World) (hB : w.cell? ⟨B, 0, none⟩ = some (.slice sa l.length cap)) (hBl : B < w.heap.size) (hl : Sl w 1 (.slice sa l.length cap) l.length (l.map (.int .i64))) (hll : l.length ≤ 1000000) :
    Calls Tryz.prog 26 #[.int .i64 s, .pointer (some ⟨B, 0, none⟩)] w fun e w' => e = .returned (.int .i64 (fst l s)) ∧ Below w.heap.size w w' := by
  rw [← idxBy_fst]
  obtain ⟨W1, hW1⟩ : ∃ W1, w.alloc (.cells #[.int .i64 s] 23) = W1 := ⟨_, rfl⟩
  have b1 : Below w.heap.size w W1 := by rw [← hW1]; exact alloc_below _ _
  have k1 : Blk W1 w.heap.size [.int .i64 s] 23 := by rw [← hW1]; exact Blk.new _ _ _
  have c1 : W1.cell? ⟨B, 0, none⟩ = some (.slice sa l.length cap) := (b1.cell (p := ⟨B, 0, none⟩) hBl).trans hB
  have cf : Calls Tryz.prog 27 #[.slice sa l.length cap, .func (.func 28) #[] #[.pointer (some ⟨w.heap.size, 0, none⟩)]] W1 _ := if_any Tryz.li51 _ 28 _ (enters_of Tryz.func28 (by kernel_rfl) rfl) l sa cap W1 (subP s w.heap.size W1 k1.lt (k1.cell rfl)) (hl.below b1) (by omega)
  obtain ⟨r, hr⟩ : ∃ r, r = Lib.idxBy (fun _ y => sub y s) l default := ⟨_, rfl⟩
  rw [← hr] at cf ⊢
  clear hr
  go_enter Tryz.func26, Tryz.ntmps26
  go_wp2_with (fail)
  refine cf.mono ?_
  rintro e w' ⟨rfl, q, rfl⟩
  go_wp2
  go_ret
  exact ⟨rfl, below_drewN b1 q⟩
theorem load_ints {w : World} {b : Nat} {v : Value} (h : w.cell? ⟨b, 0, none⟩ = some v) : (loadVar 22 ⟨b, 0, none⟩).run Tryz.prog w = .ok v w := by
  go_simp
theorem load_err {w : World} {b : Nat} {v : Value} (h : w.cell? ⟨b, 0, none⟩ = some v) : (loadVar 27 ⟨b, 0, none⟩).run Tryz.prog w = .ok v w := by
  go_simp
attribute [local go_sem] Oper.semAt_some SqC.wide_fn SqC.wide_round_fn run_store_func
set_option maxRecDepth 100000 in
theorem pcheck_bad (n may s : Int) (l : List Int) (sa : Option Addr) (cap : Nat) (hn : rg n) (hm : rg may) (hv : ¬ (valid n may l ∧ sub s may = true)) (w : World) (hl : Sl w 1 (.slice sa l.length cap) l.length (l.map (.int .i64))) (hll : l.length ≤ 1000000) (hr : ∀ z ∈ l, rg z) :
    Calls Tryz.prog 8 #[.int .i64 n, .int .i64 may, .slice sa l.length cap, .int .i64 s] w fun e w' => e = .returned (.tuple #[.slice none 0 0, .int .i64 1]) ∧ Below w.heap.size w w' := by
  obtain ⟨B, hB⟩ : ∃ B, w.heap.size = B := ⟨_, rfl⟩
  obtain ⟨b7, h7⟩ : ∃ b, B + 1 = b := ⟨_, rfl⟩
  obtain ⟨b8, h8⟩ : ∃ b, b7 + 1 = b := ⟨_, rfl⟩
  obtain ⟨b9, h9⟩ : ∃ b, b8 + 1 = b := ⟨_, rfl⟩
  obtain ⟨b10, h10⟩ : ∃ b, b9 + 1 = b := ⟨_, rfl⟩
  obtain ⟨W4, hW4⟩ : ∃ W4, (((w.alloc (.cells #[.slice sa l.length cap] 24)).alloc (.cells #[.int .i64 s] 23)).alloc (.cells #[.slice none 0 0] 22)).alloc (.cells #[.int .i64 0] 27) = W4 := ⟨_, rfl⟩
  have b4 : Below B w W4 := by rw [← hW4, ← hB]; exact (((alloc_below w _).alloc (by simp) _).alloc (by simp; omega) _).alloc (by simp; omega) _
  have j6 : Blk W4 B [.slice sa l.length cap] 24 := by rw [← hW4]; exact (((Blk.new_at _ _ _ hB.symm).alloc _).alloc _).alloc _
  have j7 : Blk W4 b7 [.int .i64 s] 23 := by rw [← hW4]; exact ((Blk.new_at _ _ _ (by simp; omega)).alloc _).alloc _
  have j8 : Blk W4 b8 [.slice none 0 0] 22 := by rw [← hW4]; exact (Blk.new_at _ _ _ (by simp; omega)).alloc _
  have j9 : Blk W4 b9 [.int .i64 0] 27 := by rw [← hW4]; exact Blk.new_at _ _ _ (by simp; omega)
  have sz4 : W4.heap.size = b10 := by rw [← hW4]; simp; omega
  have c6 : W4.cell? ⟨B, 0, none⟩ = some (.slice sa l.length cap) := j6.cell rfl
  obtain ⟨W1, hW1⟩ : ∃ W1, W4.alloc (.cells #[.int .i64 n, .int .i64 may, .slice sa l.length cap] 48) = W1 := ⟨_, rfl⟩
  have b1 : Below B w W1 := by rw [← hW1]; exact b4.alloc (by omega) _
  have k6 : Blk W1 B [.slice sa l.length cap] 24 := by rw [← hW1]; exact j6.alloc _
  have k7 : Blk W1 b7 [.int .i64 s] 23 := by rw [← hW1]; exact j7.alloc _
  have k8 : Blk W1 b8 [.slice none 0 0] 22 := by rw [← hW1]; exact j8.alloc _
  have k9 : Blk W1 b9 [.int .i64 0] 27 := by rw [← hW1]; exact j9.alloc _
  have k10 : Blk W1 b10 [.int .i64 n, .int .i64 may, .slice sa l.length cap] 48 := by rw [← hW1]; exact Blk.new_at _ _ _ sz4.symm
  have hC : Cells W1 b10 0 [.int .i64 n, .int .i64 may, .slice sa l.length cap] := k10.cells 0 _ rfl
  refine (callsIn_wide (n := 4)).1 ?_
  refine callsIn_of_wp_marks Tryz.func8 rfl trivial ?_ rfl
  simp only [Tryz.ntmps8, List.size_toArray, List.length_cons, List.length_nil, Nat.reduceAdd, Nat.reduceSub, Array.replicate_succ, Array.replicate_zero, List.push_toArray, List.append_toArray, List.nil_append, List.cons_append]
  refine wpIn_wide.2 ?_
  go_wp2_with (refine wpList_load_agg [.int .i64 n, .int .i64 may, .slice sa l.length cap] hC rfl rfl rfl aggBase infoBase ?_)
  clear hC c6 j6 j7 j8 j9 b4
  have hV := pvalid_any n may l sa cap hn hm W1 (hl.below (by rw [hB]; exact b1)) hll hr
  have hsz := k10.lt
  by_cases hv1 : valid n may l
  · have hsf : sub s may = false := by
      cases hx : sub s may with
      | false => rfl
      | true => exact absurd ⟨hv1, hx⟩ hv
    rw [decide_eq_true hv1] at hV
    refine hV.mono ?_
    clear hV
    rintro e w2 ⟨rfl, hb⟩
    have hcn := contains_any may s w2
    rw [hsf] at hcn
    have c7 : w2.cell? ⟨b7, 0, none⟩ = some (.int .i64 s) := (k7.below hb k7.lt).cell rfl
    have c8 : w2.cell? ⟨b8, 0, none⟩ = some (.slice none 0 0) := (k8.below hb k8.lt).cell rfl
    have f8 : w2.frozen? ⟨b8, 0, none⟩ = false := (k8.below hb k8.lt).frozen 0
    have c9 : w2.cell? ⟨b9, 0, none⟩ = some (.int .i64 0) := (k9.below hb k9.lt).cell rfl
    have f9 : w2.frozen? ⟨b9, 0, none⟩ = false := (k9.below hb k9.lt).frozen 0
    have bw := b1.trans (hb.mono (by omega))
    clear k6 k7 k8 k9 k10 hW1 hW4 sz4
    go_wp2_with (fail)
    refine hcn.mono ?_
    rintro e w3 ⟨rfl, rfl⟩
    go_wp2
    have r8 : ((w3.setCell ⟨b8, 0, none⟩ (.slice none 0 0)).setCell ⟨b9, 0, none⟩ (.int .i64 1)).cell? ⟨b8, 0, none⟩ = some (.slice none 0 0) := by go_simp
    have r9 : ((w3.setCell ⟨b8, 0, none⟩ (.slice none 0 0)).setCell ⟨b9, 0, none⟩ (.int .i64 1)).cell? ⟨b9, 0, none⟩ = some (.int .i64 1) := by go_simp
    refine ⟨_, results_cells2 rfl rfl rfl (load_ints r8) (load_err r9), rfl, ?_⟩
    rw [hB]
    exact below_set (below_set bw (by omega) (by omega) _ _) (by omega) (by omega) _ _
  · rw [decide_eq_false hv1] at hV
    refine hV.mono ?_
    clear hV
    rintro e w2 ⟨rfl, hb⟩
    have c8 : w2.cell? ⟨b8, 0, none⟩ = some (.slice none 0 0) := (k8.below hb k8.lt).cell rfl
    have f8 : w2.frozen? ⟨b8, 0, none⟩ = false := (k8.below hb k8.lt).frozen 0
    have c9 : w2.cell? ⟨b9, 0, none⟩ = some (.int .i64 0) := (k9.below hb k9.lt).cell rfl
    have f9 : w2.frozen? ⟨b9, 0, none⟩ = false := (k9.below hb k9.lt).frozen 0
    have bw := b1.trans (hb.mono (by omega))
    clear k6 k7 k8 k9 k10 hW1 hW4 sz4
    go_wp2
    have r8 : ((w2.setCell ⟨b8, 0, none⟩ (.slice none 0 0)).setCell ⟨b9, 0, none⟩ (.int .i64 1)).cell? ⟨b8, 0, none⟩ = some (.slice none 0 0) := by go_simp
    have r9 : ((w2.setCell ⟨b8, 0, none⟩ (.slice none 0 0)).setCell ⟨b9, 0, none⟩ (.int .i64 1)).cell? ⟨b9, 0, none⟩ = some (.int .i64 1) := by go_simp
    refine ⟨_, results_cells2 rfl rfl rfl (load_ints r8) (load_err r9), rfl, ?_⟩
    rw [hB]
    exact below_set (below_set bw (by omega) (by omega) _ _) (by omega) (by omega) _ _
set_option maxRecDepth 100000 in
set_option maxHeartbeats 1600000 in
theorem pcheck_any (n may s : Nat) (l : List Int) (sa : Option Addr) (cap : Nat) (hv : valid n may l) (hs : s < 65536) (hsub : sub s may = true) (w : World) (hl : Sl w 1 (.slice sa l.length cap) l.length (l.map (.int .i64))) (hr : ∀ z ∈ l, rg z) :
    Calls Tryz.prog 8 #[.int .i64 n, .int .i64 may, .slice sa l.length cap, .int .i64 s] w fun e w' => ∃ v, e = .returned (.tuple #[v, .int .i64 (chk n may l s).2]) ∧ w'.ownsRow w.heap.size 3 1 v (chk n may l s).1.length ((chk n may l s).1.map (.int .i64)) ∧ Below w.heap.size w w' := by
  obtain ⟨hn16, hmayM, hll', _⟩ := valid_nat hv
  have hp2 := pow16 hn16
  have hmay : may < 65536 := by omega
  have hll : l.length ≤ 1000000 := by omega
  have HCK := Lib.hid (chk_els (l := l) (s := s) hn16 hmayM)
  have HMM := Lib.hid hmayM
  have HP2 := Lib.hid hp2
  clear hmayM hp2
  obtain ⟨B, hB⟩ : ∃ B, w.heap.size = B := ⟨_, rfl⟩
  obtain ⟨b7, h7⟩ : ∃ b, B + 1 = b := ⟨_, rfl⟩
  obtain ⟨b8, h8⟩ : ∃ b, b7 + 1 = b := ⟨_, rfl⟩
  obtain ⟨b9, h9⟩ : ∃ b, b8 + 1 = b := ⟨_, rfl⟩
  obtain ⟨b10, h10⟩ : ∃ b, b9 + 1 = b := ⟨_, rfl⟩
  obtain ⟨W4, hW4⟩ : ∃ W4, (((w.alloc (.cells #[.slice sa l.length cap] 24)).alloc (.cells #[.int .i64 s] 23)).alloc (.cells #[.slice none 0 0] 22)).alloc (.cells #[.int .i64 0] 27) = W4 := ⟨_, rfl⟩
  have b4 : Below B w W4 := by rw [← hW4, ← hB]; exact (((alloc_below w _).alloc (by simp) _).alloc (by simp; omega) _).alloc (by simp; omega) _
  have j6 : Blk W4 B [.slice sa l.length cap] 24 := by rw [← hW4]; exact (((Blk.new_at _ _ _ hB.symm).alloc _).alloc _).alloc _
  have j7 : Blk W4 b7 [.int .i64 s] 23 := by rw [← hW4]; exact ((Blk.new_at _ _ _ (by simp; omega)).alloc _).alloc _
  have j8 : Blk W4 b8 [.slice none 0 0] 22 := by rw [← hW4]; exact (Blk.new_at _ _ _ (by simp; omega)).alloc _
  have j9 : Blk W4 b9 [.int .i64 0] 27 := by rw [← hW4]; exact Blk.new_at _ _ _ (by simp; omega)
  have sz4 : W4.heap.size = b10 := by rw [← hW4]; simp; omega
  have c6 : W4.cell? ⟨B, 0, none⟩ = some (.slice sa l.length cap) := j6.cell rfl
  obtain ⟨W1, hW1⟩ : ∃ W1, W4.alloc (.cells #[.int .i64 n, .int .i64 may, .slice sa l.length cap] 48) = W1 := ⟨_, rfl⟩
  have b1 : Below B w W1 := by rw [← hW1]; exact b4.alloc (by omega) _
  have k6 : Blk W1 B [.slice sa l.length cap] 24 := by rw [← hW1]; exact j6.alloc _
  have k7 : Blk W1 b7 [.int .i64 s] 23 := by rw [← hW1]; exact j7.alloc _
  have k8 : Blk W1 b8 [.slice none 0 0] 22 := by rw [← hW1]; exact j8.alloc _
  have k9 : Blk W1 b9 [.int .i64 0] 27 := by rw [← hW1]; exact j9.alloc _
  have k10 : Blk W1 b10 [.int .i64 n, .int .i64 may, .slice sa l.length cap] 48 := by rw [← hW1]; exact Blk.new_at _ _ _ sz4.symm
  have hC : Cells W1 b10 0 [.int .i64 n, .int .i64 may, .slice sa l.length cap] := k10.cells 0 _ rfl
  refine (callsIn_wide (n := 4)).1 ?_
  refine callsIn_of_wp_marks Tryz.func8 rfl trivial ?_ rfl
  simp only [Tryz.ntmps8, List.size_toArray, List.length_cons, List.length_nil, Nat.reduceAdd, Nat.reduceSub, Array.replicate_succ, Array.replicate_zero, List.push_toArray, List.append_toArray, List.nil_append, List.cons_append]
  refine wpIn_wide.2 ?_
  go_wp2_with (refine wpList_load_agg [.int .i64 n, .int .i64 may, .slice sa l.length cap] hC rfl rfl rfl aggBase infoBase ?_)
  clear hC c6 j6 j7 j8 j9 b4
  have hV := pvalid_any n may l sa cap (by unfold rg; omega) (rg_nat hmay) W1 (hl.below (by rw [hB]; exact b1)) hll hr
  rw [decide_eq_true hv] at hV
  have hsz := k10.lt
  refine hV.mono ?_
  clear hV
  rintro e w2 ⟨rfl, hb⟩
  have hcn := contains_any may s w2
  rw [hsub] at hcn
  have z6 := k6.below hb k6.lt
  have z7 := k7.below hb k7.lt
  have z8 := k8.below hb k8.lt
  have z9 := k9.below hb k9.lt
  have bw := b1.trans (hb.mono (by omega))
  have c7 : w2.cell? ⟨b7, 0, none⟩ = some (.int .i64 s) := z7.cell rfl
  clear k6 k7 k8 k9 k10 hW1 hW4 sz4 b1 hb
  have hl2 := hl.below (hB ▸ bw)
  go_wp2_with (fail)
  refine hcn.mono ?_
  clear hcn
  rintro e w3 ⟨rfl, rfl⟩
  obtain ⟨W5, hW5⟩ : ∃ W5, w3.alloc (.cells #[.func (.func 26) #[] #[.pointer (some ⟨B, 0, none⟩)]] 87) = W5 := ⟨_, rfl⟩
  have y1 : Below w3.heap.size w3 W5 := by rw [← hW5]; exact alloc_below _ _
  have y6 := z6.below y1 z6.lt
  have y7 := z7.below y1 z7.lt
  have yA : Blk W5 w3.heap.size [.func (.func 26) #[] #[.pointer (some ⟨B, 0, none⟩)]] 87 := by rw [← hW5]; exact Blk.new _ _ _
  have hl5 := hl2.below y1
  have cA : W5.cell? ⟨w3.heap.size, 0, none⟩ = some (.func (.func 26) #[] #[.pointer (some ⟨B, 0, none⟩)]) := yA.cell rfl
  have c75 : W5.cell? ⟨b7, 0, none⟩ = some (.int .i64 s) := y7.cell rfl
  have hwi := within_any l s sa cap B W5 (y6.cell rfl) y6.lt hl5 hll
  have hf0 := fst_rg l s hll
  obtain ⟨f0, hf0e⟩ : ∃ f0, f0 = fst l s := ⟨_, rfl⟩
  rw [← hf0e] at hwi hf0
  have HF0 := Lib.hid hf0e; clear hf0e
  go_wp2_with (fail)
  obtain ⟨A, hA⟩ : ∃ A, w3.heap.size = A := ⟨_, rfl⟩
  rw [hA] at y1 yA cA ⊢
  have hA5 : A < W5.heap.size := yA.lt
  clear hW5
  refine hwi.mono ?_
  clear hwi
  rintro e w6 ⟨rfl, hb6⟩
  have x6 := y6.below hb6 y6.lt
  have x7 := y7.below hb6 y7.lt
  have xA := yA.below hb6 yA.lt
  have x8 := (z8.below (hA ▸ y1) z8.lt).below hb6 (Nat.lt_of_lt_of_le z8.lt y1.size)
  have x9 := (z9.below (hA ▸ y1) z9.lt).below hb6 (Nat.lt_of_lt_of_le z9.lt y1.size)
  have b6w : Below B w w6 := bw.trans ((hA ▸ y1 : Below w3.heap.size w3 W5).trans (hb6.mono y1.size) |>.mono (by have := bw.size; omega))
  have hAw : A < w6.heap.size := xA.lt
  have hb9 : b9 < A := by have := z9.lt; omega
  clear y1 y6 y7 yA cA c75 hb6 z6 z7 z8 z9 hl2 hl5 hA5 hA bw
  have hlw := hl.below (hB ▸ b6w)
  by_cases h0 : 0 ≤ f0
  · have hck : chk n may l s = ([], 15) := by rw [HCK.out, ← HF0.out, if_pos h0]
    have HC := Lib.hid hck; clear hck
    have c8 : w6.cell? ⟨b8, 0, none⟩ = some (.slice none 0 0) := x8.cell rfl
    have f8 : w6.frozen? ⟨b8, 0, none⟩ = false := x8.frozen 0
    have c9 : w6.cell? ⟨b9, 0, none⟩ = some (.int .i64 0) := x9.cell rfl
    have f9 : w6.frozen? ⟨b9, 0, none⟩ = false := x9.frozen 0
    go_wp2
    have r8 : ((w6.setCell ⟨b8, 0, none⟩ (.slice none 0 0)).setCell ⟨b9, 0, none⟩ (.int .i64 15)).cell? ⟨b8, 0, none⟩ = some (.slice none 0 0) := by go_simp
    have r9 : ((w6.setCell ⟨b8, 0, none⟩ (.slice none 0 0)).setCell ⟨b9, 0, none⟩ (.int .i64 15)).cell? ⟨b9, 0, none⟩ = some (.int .i64 15) := by go_simp
    refine ⟨_, results_cells2 rfl rfl rfl (load_ints r8) (load_err r9), ?_⟩
    rw [HC.out, hB]
    exact ⟨_, rfl, World.ownsRow_nil _ _ _ _, below_set (below_set b6w (by omega) (by omega) _ _) (by omega) (by omega) _ _⟩
  · have h0' : f0 < 0 := by omega
    have hck : chk n may l s = if (efound l s (els (Go.Ib.diff may s) 16)).all (fun x => decide (0 ≤ x)) then (efound l s (els (Go.Ib.diff may s) 16), 0) else ([], 10) := by rw [HCK.out, ← HF0.out, if_neg h0]
    have HC := Lib.hid hck; clear hck h0
    obtain ⟨m, hm⟩ : ∃ m, m = Go.Ib.diff may s := ⟨_, rfl⟩
    have hand : bits .andNot .i64 (may : Int) (s : Int) = (m : Int) := by rw [hm]; exact Go.Ib.b_andNot may s (by omega) (by omega)
    have hmle : m < 65536 := by rw [hm]; exact Nat.lt_of_le_of_lt (Go.Ib.diff_le _ _) hmay
    rw [← hm] at HC
    clear hm
    obtain ⟨O, hO⟩ : ∃ O, w6.heap.size = O := ⟨_, rfl⟩
    obtain ⟨W7, hW7⟩ : ∃ W7, w6.alloc (.cells #[.slice none 0 0] 22) = W7 := ⟨_, rfl⟩
    have sz7 : W7.heap.size = O + 1 := by rw [← hW7, ← hO]; simp
    have t7 : Blk W7 b7 [.int .i64 s] 23 := by rw [← hW7]; exact x7.alloc _
    have c77 : W7.cell? ⟨b7, 0, none⟩ = some (.int .i64 s) := t7.cell rfl
    go_wp2_with (fail)
    refine (bits_any _ W7).mono ?_
    rintro e w8 ⟨rfl, rfl⟩
    go_wp2
    obtain ⟨W0, hW0⟩ : ∃ W0, W7.alloc (.cells #[.int .i64 m] 23) = W0 := ⟨_, rfl⟩
    have o1 : Below O w6 W0 := by rw [← hW0, ← hW7, ← hO]; exact (alloc_below _ _).alloc (by simp) _
    have oO : Blk W0 O [.slice none 0 0] 22 := by rw [← hW0, ← hW7, ← hO]; exact (Blk.new _ _ _).alloc _
    have oB : Blk W0 (O + 1) [.int .i64 m] 23 := by rw [← hW0]; exact Blk.new_at _ _ _ sz7.symm
    have sz0 : W0.heap.size = O + 2 := by rw [← hW0]; simp [sz7]
    rw [hW0]
    have o6 := x6.below (hO ▸ o1) x6.lt
    have o7 := x7.below (hO ▸ o1) x7.lt
    have oA := xA.below (hO ▸ o1) xA.lt
    have o8 := x8.below (hO ▸ o1) x8.lt
    have o9 := x9.below (hO ▸ o1) x9.lt
    have ow : Below B w W0 := b6w.trans (o1.mono (by omega))
    have hl0 := hl.below (hB ▸ ow)
    clear hW0 hW7 sz7 t7 c77 x6 x7 xA x8 x9 b6w hlw o1
    refine (wpIn_wide (n := 4)).1 ?_
    refine wpIn_rangeFunc_ownF rfl (by decide) (gf := 72) (lb := #[.pointer (some ⟨O + 1, 0, none⟩)]) rfl trivial (enters_of Tryz.func72 (by kernel_rfl) rfl)
      (bits1_stops 3 (by decide) (O + 1) m hmle W0 (by omega) (oB.cell rfl)) KpB.trans (fun W l o o' _ h ho _ => KpB.put W l o o' h ho) (Below.refl _ _) (fun _ => rfl)
      (fun pre W => (∃ v, Blk W O [v] 22 ∧ W.ownsRow (O + 2) 3 1 v (efound l s pre).length ((efound l s pre).map (.int .i64))) ∧ (efound l s pre).all (fun x => decide (0 ≤ x)) = true ∧ Below O W0 W)
      (fun c pre W => c = .ret ∧ Blk W b8 [.slice none 0 0] 22 ∧ Blk W b9 [.int .i64 10] 27 ∧ (∃ x ∈ pre, fst l ((s ||| 2 ^ x.1 : Nat) : Int) < 0) ∧ Below B w W)
      ?hI ?hIx ⟨⟨_, oO, World.ownsRow_nil _ _ _ _⟩, rfl, Below.refl _ _⟩
      (fun x => { tmps := #[.int .i64 n, .int .i64 may, .slice sa l.length cap, .int .i64 s, undef, undef, .pointer (some ⟨B, 0, none⟩), .pointer (some ⟨b7, 0, none⟩), .pointer (some ⟨b8, 0, none⟩), .pointer (some ⟨b9, 0, none⟩), .pointer (some ⟨b10, 0, none⟩), .pointer (some ⟨A, 0, none⟩), .pointer (some ⟨O, 0, none⟩), .int .i64 (x.1 : Int), undef, .int .i64 n, .int .i64 may, .slice sa l.length cap, .agg #[.int .i64 n, .int .i64 may, .slice sa l.length cap], .agg #[.int .i64 n, .int .i64 may, .slice sa l.length cap], .bool true, .bool false, .bool false, .int .i64 may, .int .i64 s, .bool true, .bool false, .bool false, .func (.func 26) #[] #[.pointer (some ⟨B, 0, none⟩)], .func (.func 26) #[] #[.pointer (some ⟨B, 0, none⟩)], .int .i64 s, .int .i64 f0, .bool (decide (0 ≤ f0)), .int .i64 may, .int .i64 s, .int .i64 m, .func (.func 72) #[] #[.pointer (some ⟨O + 1, 0, none⟩)], .int .i64 (x.1 : Int), undef, undef, undef, undef, undef, undef, undef, undef, undef, undef, undef, undef, undef], defers := [] }) ?assign ?body ?done ?stop
    case hI =>
      rintro pre W W' row ⟨⟨v, q1, q2⟩, q3, q4⟩ hg hr
      exact ⟨⟨v, q1.kept hg fun r e => (hr r e).2, own_kept q2 hg fun r e => (hr r e).2⟩, q3, ownFrom_below (β := Unit) (B := W0.heap.size) (by omega) (by omega) () W W' row q4 hg hr⟩
    case hIx =>
      rintro c pre W W' row ⟨q0, q1, q2, q3, q4⟩ hg hr
      exact ⟨q0, q1.kept hg fun r e => (hr r e).2, q2.kept hg fun r e => (hr r e).2, q3, ownFrom_below (β := Unit) (B := W0.heap.size) (by omega) (by omega) () W W' row q4 hg hr⟩
    case assign =>
      intro _ x W K hK
      gi_wp2
      exact hK
    case body =>
      rintro _ pre x W ⟨⟨v, q1, q2⟩, q3, q4⟩ hlt
      have hx2 : 2 ^ x.1 < 65536 := Nat.pow_lt_pow_right (n := 16) (by omega) x.2.1
      have hd : s ||| 2 ^ x.1 < 65536 := Nat.or_lt_two_pow (n := 16) hs (Nat.pow_lt_pow_right (by decide) x.2.1)
      obtain ⟨d, hdd⟩ : ∃ d, d = s ||| 2 ^ x.1 := ⟨_, rfl⟩
      have hor2 : bits .or .i64 (s : Int) (wrap64 ((2 : Int) ^ x.1)) = (d : Int) := by
        rw [wrap_pow (by have := x.2.1; omega), Go.Ib.b_or s (2 ^ x.1) (by omega) (by omega), hdd]
      have HS2 : Hid (efound l s (pre ++ [x]) = efound l s pre ++ [fst l d]) := Lib.hid (by rw [hdd]; simp [efound])
      rw [← hdd] at hd
      have HD := Lib.hid hdd; clear hdd
      have p6 := o6.below q4 (by omega)
      have p7 := o7.below q4 (by omega)
      have pA := oA.below q4 (by omega)
      have pw : Below B w W := ow.trans (q4.mono (by omega))
      have hlW := hl.below (hB ▸ pw)
      have hLl : (efound l s pre).length ≤ 16 := by unfold efound; rw [List.length_map]; omega
      gi_wp2
      have eX : Blk W.drew A [.func (.func 26) #[] #[.pointer (some ⟨B, 0, none⟩)]] 87 ∧ Blk W.drew b7 [.int .i64 s] 23 := ⟨pA.drew, p7.drew⟩
      haveI : Nonempty (SqC.Come fun U => Blk U A [.func (.func 26) #[] #[.pointer (some ⟨B, 0, none⟩)]] 87 ∧ Blk U b7 [.int .i64 s] 23) := ⟨⟨_, eX⟩⟩
      refine SqC.wpIn_region_sqc 7 [5] (fun U => Blk U A [.func (.func 26) #[] #[.pointer (some ⟨B, 0, none⟩)]] 87 ∧ Blk U b7 [.int .i64 s] 23) (by kernel_rfl) (by kernel_rfl) (by kernel_rfl) (by kernel_rfl) eX ?_
      refine SqC.value (.func (.func 26) #[] #[.pointer (some ⟨B, 0, none⟩)]) rfl rfl (by intro U hU; have cx : U.cell? ⟨A, 0, none⟩ = some (.func (.func 26) #[] #[.pointer (some ⟨B, 0, none⟩)]) := hU.1.cell rfl; go_simp) ?_
      simp only [Act.put, List.setIfInBounds_toArray, List.set_cons_zero, List.set_cons_succ]
      refine SqC.value (.int .i64 s) rfl rfl (by intro U hU; have cx : U.cell? ⟨b7, 0, none⟩ = some (.int .i64 s) := hU.2.cell rfl; go_simp) ?_
      simp only [Act.put, List.setIfInBounds_toArray, List.set_cons_zero, List.set_cons_succ]
      iterate 3 (refine SqC.quiet rfl rfl ?_; go_big_quiet_step (fail); refine wpQuiet_nil ?_)
      refine SqC.effect rfl rfl ?_
      refine yields_closure rfl (by kernel_rfl) rfl (args := #[.int .i64 d]) (by first | rfl | simp [hor2]) ((within_any l d sa cap B W.drew (p6.drew.cell rfl) p6.drew.lt hlW.drew hll).mono ?_)
      rintro e W1 ⟨rfl, hb1⟩
      have hbW : Below W.heap.size W W1 := ((Below.refl W.heap.size W).drew).trans hb1
      refine ⟨_, rfl, fun _ => ⟨pA.below hbW pA.lt, p7.below hbW p7.lt⟩, ?_⟩
      simp only [Act.put, List.setIfInBounds_toArray, List.set_cons_zero, List.set_cons_succ]
      refine SqC.quiet rfl rfl ?_; go_big_quiet_step (fail); refine wpQuiet_nil ?_
      refine SqC.nil ?_
      have r1 := q1.below hbW q1.lt
      have r2 : W1.ownsRow (O + 2) 3 1 v (efound l s pre).length ((efound l s pre).map (.int .i64)) := own_below q2 hbW
      have r4 : Below O W0 W1 := q4.trans (hbW.mono (by have := q4.size; omega))
      have rk := below_others hbW
      have hfd := fst_rg l d hll
      obtain ⟨f, hf⟩ : ∃ f, f = fst l d := ⟨_, rfl⟩
      have HF := Lib.hid hf
      rw [← hf] at hfd HS2 ⊢
      clear hf
      have cO : W1.cell? ⟨O, 0, none⟩ = some v := r1.cell rfl
      have cOf : W1.frozen? ⟨O, 0, none⟩ = false := r1.frozen 0
      by_cases hf0 : 0 ≤ f
      · have HOW := r2.alloc (.cells #[.int .i64 f] 3)
        have hsz1 := r4.size
        gi_wp2_with (gi_at_builtin; refine SqC.wpListIn_only _ (by kernel_rfl) _ _ ?_)
        go_wp2_with (refine wpList_append_sl rfl _ _ 22 rfl (O + 2) 3 (.int .i64 0) 1 8 hTint infoInt rfl (by decide) _ (efound l s pre).length _ rfl HOW _ 1 [.int .i64 f] rfl (sl_new _ _ _ 1 rfl (by decide)) (by intro u hu; simp at hu; rw [hu]; rfl) (by unfold maxLen; omega) (by omega) (by simp; omega) ?_)
        intro v' w' g1 g2
        have hvb : ∀ b, v.ownBlock = some b → O + 2 ≤ b := by
          obtain ⟨_, _, _, h⟩ := own_slice r2
          exact h
        have u1 : Blk w' O [v] 22 := (r1.alloc _).grown g2 fun e => by have := hvb O e.symm; omega
        have cO' : w'.cell? ⟨O, 0, none⟩ = some v := u1.cell rfl
        have fO' : w'.frozen? ⟨O, 0, none⟩ = false := u1.frozen 0
        have kk := (rk.trans (KeepsOthers.alloc W1 (.cells #[.int .i64 f] 3))).trans (own_keeps HOW g2)
        have kp : KpB (O + 1) W w' := ((KpB.below hbW (by have := q4.size; omega)).trans (KpB.below (alloc_below W1 (.cells #[.int .i64 f] 3)) (by omega))).trans fun u hu => (World.cell?_of_block (g2.block (O + 1) (by simp; omega) fun e => by have := hvb (O + 1) e.symm; omega)).trans hu
        have b9' : Below O W0 w' := (r4.alloc (by omega) (.cells #[.int .i64 f] 3)).grown g2 (by simp; omega) fun k e => by have := hvb k e; omega
        obtain ⟨sv, cv, rfl, hsv⟩ := own_slice g1
        go_wp2
        refine ⟨kk.trans (KeepsOthers.setCell _ _ _), kp.trans (KpB.set _ _ _ (by simp)), ⟨⟨_, u1.set 0 _, ?_⟩, ?_, below_set b9' (by omega) (Nat.le_refl _) _ _⟩⟩
        · rw [HS2.out, List.length_append, List.map_append]
          exact own_set g1 (fun b hb => by have := hsv b hb; show b ≠ O; omega)
        · rw [HS2.out, List.all_append, q3]; simp; exact hf0
      · have hf0' : f < 0 := by omega
        clear hf0
        have r8 := o8.below r4 (by omega)
        have r9 := o9.below r4 (by omega)
        have c8 : W1.cell? ⟨b8, 0, none⟩ = some (.slice none 0 0) := r8.cell rfl
        have f8 : W1.frozen? ⟨b8, 0, none⟩ = false := r8.frozen 0
        have c9 : W1.cell? ⟨b9, 0, none⟩ = some (.int .i64 0) := r9.cell rfl
        have f9 : W1.frozen? ⟨b9, 0, none⟩ = false := r9.frozen 0
        gi_wp2
        refine ⟨(rk.trans (KeepsOthers.setCell _ _ _)).trans (KeepsOthers.setCell _ _ _), rfl, (r8.set 0 _).set_ne _ (by simp; omega), (r9.set_ne _ (by simp; omega)).set 0 _, ⟨x, by simp, ?_⟩, below_set (below_set (ow.trans (r4.mono (by omega))) (by omega) (by omega) _ _) (by omega) (by omega) _ _⟩
        rw [← HD.out, ← HF.out]
        exact hf0'
    case done =>
      rintro D ys W hD rfl ⟨⟨v, q1, q2⟩, q3, q4⟩ hK
      have cO : W.cell? ⟨O, 0, none⟩ = some v := q1.cell rfl
      obtain ⟨sv, cv, rfl, hsv⟩ := own_slice q2
      have t8 := o8.below q4 (by omega)
      have t9 := o9.below q4 (by omega)
      have c8 : W.cell? ⟨b8, 0, none⟩ = some (.slice none 0 0) := t8.cell rfl
      have f8 : W.frozen? ⟨b8, 0, none⟩ = false := t8.frozen 0
      have c9 : W.cell? ⟨b9, 0, none⟩ = some (.int .i64 0) := t9.cell rfl
      have f9 : W.frozen? ⟨b9, 0, none⟩ = false := t9.frozen 0
      have hck : chk n may l s = (efound l s (els m 16), 0) := by rw [HC.out, q3, if_pos rfl]
      have HC := Lib.hid hck; clear hck
      gi_wp2
      go_wp2
      obtain ⟨W2, hW2⟩ : ∃ W2, (W.setCell ⟨b8, 0, none⟩ (.slice sv (efound l s (els m 16)).length cv)).setCell ⟨b9, 0, none⟩ (.int .i64 0) = W2 := ⟨_, rfl⟩
      have s8 : Blk W2 b8 [.slice sv (efound l s (els m 16)).length cv] 22 := by rw [← hW2]; exact (t8.set 0 _).set_ne _ (by simp; omega)
      have s9 : Blk W2 b9 [.int .i64 0] 27 := by rw [← hW2]; exact (t9.set_ne _ (by simp; omega)).set 0 _
      have so := own_set (a := ⟨b9, 0, none⟩) (u := .int .i64 0) (own_set (a := ⟨b8, 0, none⟩) (u := .slice sv (efound l s (els m 16)).length cv) q2 (fun b hb => by have := hsv b hb; show b ≠ b8; omega)) (fun b hb => by have := hsv b hb; show b ≠ b9; omega)
      have sk : W2.heap[D]? = some (.deferred (some [])) := by rw [← hW2]; exact ((KeepsOthers.setCell W ⟨b8, 0, none⟩ (.slice sv (efound l s (els m 16)).length cv)).trans (KeepsOthers.setCell _ ⟨b9, 0, none⟩ (.int .i64 0))).same D _ hK rfl
      have sb : Below B w W2 := by rw [← hW2]; exact below_set (below_set (ow.trans (q4.mono (by omega))) (by omega) (by omega) _ _) (by omega) (by omega) _ _
      rw [hW2] at so ⊢
      clear hW2
      refine ⟨by simp, .inl ⟨_, _, rfl, run_takeDeferred sk, ?_⟩⟩
      have e8 := s8.kept (grownBy_putObj' W2 D (.deferred none)) (fun r e => by cases e; exact ⟨_, sk, rfl⟩)
      have e9 := s9.kept (grownBy_putObj' W2 D (.deferred none)) (fun r e => by cases e; exact ⟨_, sk, rfl⟩)
      refine ⟨_, results_cells2 rfl rfl rfl (load_ints (e8.cell rfl)) (load_err (e9.cell rfl)), ?_⟩
      rw [HC.out, hB]
      exact ⟨_, rfl, own_weaken (own_put _ so sk rfl) (by omega), sb.trans (belowK_b (w := w) (n₀ := B) (by omega) W2 D _ (.deferred none) (by omega) sk rfl rfl)⟩
    case stop =>
      rintro D c pre W hD hpre ⟨rfl, q1, q2, q3, q4⟩ hK
      have hck : chk n may l s = ([], 10) := by
        rw [HC.out, if_neg]
        intro hall
        obtain ⟨x, hx, hneg⟩ := q3
        have := List.all_eq_true.1 hall (fst l ((s ||| 2 ^ x.1 : Nat) : Int)) (by unfold efound; exact List.mem_map.2 ⟨x, hpre.subset hx, rfl⟩)
        have := of_decide_eq_true this
        omega
      have HC := Lib.hid hck; clear hck
      gi_wp2
      refine ⟨by simp, .inl ⟨_, _, rfl, run_takeDeferred hK, ?_⟩⟩
      have e8 := q1.kept (grownBy_putObj' W D (.deferred none)) (fun r e => by cases e; exact ⟨_, hK, rfl⟩)
      have e9 := q2.kept (grownBy_putObj' W D (.deferred none)) (fun r e => by cases e; exact ⟨_, hK, rfl⟩)
      refine ⟨_, results_cells2 rfl rfl rfl (load_ints (e8.cell rfl)) (load_err (e9.cell rfl)), ?_⟩
      rw [HC.out, hB]
      exact ⟨_, rfl, World.ownsRow_nil _ _ _ _, q4.trans (belowK_b (w := w) (n₀ := B) (by omega) W D _ (.deferred none) (by omega) hK rfl rfl)⟩
end Go.Proofs.YtkccmpikeekceaaGreat
end
/- top: in place of a text of theory that is not needed here. -/
section

end
/- theory: the generators Base, Some, and bent. -/
section
namespace Go.Theory
open Go.RowKit Go.Own Go.Ib
/-- conflicts below M -/
def good (M : Nat) (c : List Int) : Prop := ∀ z ∈ c, 1 ≤ z ∧ z < (M : Int)
theorem valid_of {n may : Nat} {c : List Int} (hn : n ≤ 16) (hm : may < 2 ^ n) (hl : c.length ≤ 1024) (hg : good (2 ^ n) c) : valid n may c := by
  unfold valid
  rw [show ((2 : Int) ^ (n : Int).toNat) = ((2 ^ n : Nat) : Int) by simp]
  exact ⟨by omega, by omega, hl, by omega, by omega, hg⟩
end Go.Theory
namespace Go.Proofs.YtkccmpikeekceaaGreat
open Go.RowKit Go.Own Go.Theory Go.BigFrame Go.Shelf
set_option maxRecDepth 100000 in
set_option maxHeartbeats 1600000 in
theorem base_any (l : List Int) (sa : Option Addr) (cap : Nat) (hr : ∀ z ∈ l, rg z) (w : World) (hl : Sl w 1 (.slice sa l.length cap) l.length (l.map (.int .i64))) (hm : l.length ≤ maxLen) :
    Calls Tryz.prog 4 #[.slice sa l.length cap] w fun e w' => ∃ (n may : Nat) (c : List Int) (v : Value), e = .returned (.tuple #[.int .i64 n, .int .i64 may, v]) ∧ valid n may c ∧ n ≤ 8 ∧ c.length ≤ 10 ∧ w'.ownsRow w.heap.size 23 1 v c.length (c.map (.int .i64)) ∧ Below w.heap.size w w' := by
  have hml : (l.length : Int) ≤ 9223372036854775807 := by unfold maxLen at hm; omega
  obtain ⟨n, hn, hn9⟩ := at3_rg l 0 (n := 9) (by omega)
  obtain ⟨a1, ha1, _⟩ := at3_rg l 1 (n := 3) (by omega)
  obtain ⟨a2, ha2, hb2⟩ := at3_rg l 1 (n := 1024) (by omega)
  obtain ⟨a3, ha3, hb3⟩ := at3_rg l 2 (n := 1024) (by omega)
  have c0 := fun W h => at_any l 0 9 sa cap (by unfold rg; omega) (by omega) hr W h hm
  have c1 := fun W h => at_any l 1 3 sa cap (by unfold rg; omega) (by omega) hr W h hm
  have c2 := fun W h => at_any l 1 1024 sa cap (by unfold rg; omega) (by omega) hr W h hm
  have c3 := fun W h => at_any l 2 1024 sa cap (by unfold rg; omega) (by omega) hr W h hm
  rw [show at3 l 0 9 = (n : Int) from hn] at c0
  rw [show at3 l 1 3 = (a1 : Int) from ha1] at c1
  rw [show at3 l 1 1024 = (a2 : Int) from ha2] at c2
  rw [show at3 l 2 1024 = (a3 : Int) from ha3] at c3
  clear hn ha1 ha2 ha3
  have hp := wrap_pow (n := n) (by omega)
  have hp2 : 2 ^ n ≤ 256 := Nat.pow_le_pow_right (n := 2) (by omega) (show n ≤ 8 by omega)
  have hp3 : 1 ≤ 2 ^ n := Nat.one_le_two_pow
  have hlt : ∀ j, j < n → 2 ^ j < 2 ^ n := fun j hj => Nat.pow_lt_pow_right (by decide) hj
  have hor : ∀ x y, x < 2 ^ n → y < 2 ^ n → x ||| y < 2 ^ n := fun x y hx hy => Nat.or_lt_two_pow hx hy
  have hval := fun (may : Nat) (c : List Int) => valid_of (n := n) (may := may) (c := c) (by omega)
  obtain ⟨M, hM⟩ : ∃ M, M = 2 ^ n := ⟨_, rfl⟩
  rw [← hM] at hp hp2 hp3
  simp only [← hM] at hlt hor hval
  clear hM
  have hM9 : M < 9223372036854775808 := by omega
  have HM9 := Lib.hid hM9; clear hM9
  have HV := Lib.hid hval; clear hval
  have HLT := Lib.hid hlt; clear hlt
  have HOR := Lib.hid hor; clear hor
  have key : ∃ may : Nat, may < M ∧ (if a1 = 0 then may = M - 1 else bits .and .i64 ((M : Int) - 1) (bits .or .i64 (a2 : Int) (a3 : Int)) = (may : Int)) := by
    by_cases h : a1 = 0
    · exact ⟨M - 1, by omega, by rw [if_pos h]⟩
    · have ho : a2 ||| a3 < 1024 := Nat.or_lt_two_pow (n := 10) hb2 hb3
      refine ⟨(M - 1) &&& (a2 ||| a3), Nat.lt_of_le_of_lt Nat.and_le_left (by omega), ?_⟩
      rw [if_neg h, Go.Ib.b_or a2 a3 (by omega) (by omega), show (M : Int) - 1 = ((M - 1 : Nat) : Int) by omega]
      exact Go.Ib.b_and _ _ (by omega) (by omega)
  obtain ⟨may, hmay, hmk⟩ := key
  have HMK := Lib.hid hmk; clear hmk
  go_enter Tryz.func4, Tryz.ntmps4
  go_wp2_with (fail)
  refine (c0 w hl).mono ?_
  clear c0
  rintro e w2 ⟨rfl, rfl⟩
  go_wp2_with (fail)
  refine (c1 w2 hl).mono ?_
  clear c1
  rintro e w3 ⟨rfl, rfl⟩
  by_cases h1 : a1 = 0
  · have hmk : (M : Int) - 1 = (may : Int) := by have := HMK.out; rw [if_pos h1] at this; omega
    subst h1
    go_wp2
    go_loopw [8, 9] (fun v c wr => ∃ (i : Nat) (L : List Int), i ≤ 10 ∧ c = .int .i64 i ∧ L.length ≤ i ∧ good M L ∧ wr.ownsRow w3.heap.size 23 1 v L.length (L.map (.int .i64)) ∧ Below w3.heap.size w3 wr) (fun _ c _ => 10 - (vInt c).toNat)
    case atStart => exact ⟨0, [], by omega, rfl, by simp, fun z h => absurd h (by simp), World.ownsRow_nil _ _ _ _, Below.refl _ _⟩
    case round =>
      obtain ⟨i, L, hi, rfl, hLl, hLg, how, hbr⟩ := hrel
      by_cases h1 : 3 * (i : Int) + 3 < l.length
      · by_cases h2 : i < 10
        · have h2' : (i : Int) < 10 := by omega
          by_cases h3 : n = 0
          · have h3' : (n : Int) ≤ 0 := by omega
            clear h3
            go_wp2
            go_ret3
            exact ⟨n, may, L, _, rfl, HV.out may L hmay (Nat.le_trans hLl (Nat.le_trans hi (by decide))) hLg, Nat.le_of_lt_succ hn9, Nat.le_trans hLl hi, how, hbr⟩
          · have h3' : 0 < (n : Int) := by omega
            have hlr := hl.below hbr
            obtain ⟨x1, hx1, hy1⟩ := at3_rg l (3 * (i : Int) + 3) (n := n) (by omega)
            obtain ⟨x2, hx2, hy2⟩ := at3_rg l (3 * (i : Int) + 4) (n := n) (by omega)
            obtain ⟨x3, hx3, hy3⟩ := at3_rg l (3 * (i : Int) + 5) (n := 2) (by omega)
            obtain ⟨x4, hx4, hy4⟩ := at3_rg l (3 * (i : Int) + 5) (n := n) (by omega)
            have d1 := at_any l (3 * (i : Int) + 3) n sa cap (by unfold rg; omega) (by omega) hr wr hlr hm
            have d2 := at_any l (3 * (i : Int) + 4) n sa cap (by unfold rg; omega) (by omega) hr wr hlr hm
            have d3 := at_any l (3 * (i : Int) + 5) 2 sa cap (by unfold rg; omega) (by omega) hr wr hlr hm
            have d4 := at_any l (3 * (i : Int) + 5) n sa cap (by unfold rg; omega) (by omega) hr wr hlr hm
            rw [hx1] at d1
            rw [hx2] at d2
            rw [show at3 l (3 * (i : Int) + 5) 2 = (x3 : Int) from hx3] at d3
            rw [hx4] at d4
            clear hx1 hx2 hx3 hx4
            have q1 := wrap_pow (n := x1) (by omega)
            have q2 := wrap_pow (n := x2) (by omega)
            have q4 := wrap_pow (n := x4) (by omega)
            have e1 := HLT.out x1 hy1
            have e2 := HLT.out x2 hy2
            have e4 := HLT.out x4 hy4
            have g1 : 1 ≤ 2 ^ x1 := Nat.one_le_two_pow
            obtain ⟨y1, hz1⟩ : ∃ y, y = 2 ^ x1 := ⟨_, rfl⟩
            obtain ⟨y2, hz2⟩ : ∃ y, y = 2 ^ x2 := ⟨_, rfl⟩
            obtain ⟨y4, hz4⟩ : ∃ y, y = 2 ^ x4 := ⟨_, rfl⟩
            rw [← hz1] at q1 e1 g1
            rw [← hz2] at q2 e2
            rw [← hz4] at q4 e4
            clear hz1 hz2 hz4
            have f1 : bits .or .i64 (y1 : Int) (y2 : Int) = ((y1 ||| y2 : Nat) : Int) := Go.Ib.b_or y1 y2 (Nat.lt_trans e1 HM9.out) (Nat.lt_trans e2 HM9.out)
            have r1 := HOR.out y1 y2 e1 e2
            have g2 : y1 ≤ y1 ||| y2 := Nat.left_le_or
            obtain ⟨s1, hs1⟩ : ∃ s, s = y1 ||| y2 := ⟨_, rfl⟩
            rw [← hs1] at f1 r1 g2
            clear hs1
            have f2 : bits .or .i64 (s1 : Int) (y4 : Int) = ((s1 ||| y4 : Nat) : Int) := Go.Ib.b_or s1 y4 (Nat.lt_trans r1 HM9.out) (Nat.lt_trans e4 HM9.out)
            have r2 := HOR.out s1 y4 r1 e4
            have g3 : s1 ≤ s1 ||| y4 := Nat.left_le_or
            obtain ⟨s2, hs2⟩ : ∃ s, s = s1 ||| y4 := ⟨_, rfl⟩
            rw [← hs2] at f2 r2 g3
            clear hs2
            have hbsz := hbr.size
            have grow : ∀ s : Nat, 1 ≤ s → s < M → good M (L ++ [(s : Int)]) := fun s hs1 hs2 z hz => by
              rcases List.mem_append.1 hz with hz | hz
              · exact hLg z hz
              · simp at hz; subst hz; omega
            have GG := Lib.hid grow; clear grow
            go_wp2_with (fail)
            refine d1.mono ?_
            clear d1
            rintro e w4 ⟨rfl, rfl⟩
            go_wp2_with (fail)
            refine d2.mono ?_
            clear d2
            rintro e w5 ⟨rfl, rfl⟩
            go_wp2_with (fail)
            refine d3.mono ?_
            clear d3
            rintro e w6 ⟨rfl, rfl⟩
            by_cases h4 : x3 = 0
            · subst h4
              go_wp2_with (fail)
              refine d4.mono ?_
              clear d4
              rintro e w7 ⟨rfl, rfl⟩
              have HOW := how.alloc (.cells #[.int .i64 s2] 23)
              go_wp2_with (refine wpList_append_sl rfl _ _ 24 rfl w3.heap.size 23 (.int .i64 0) 1 8 hTset infoSet rfl (by decide) _ L.length _ rfl HOW _ 1 [.int .i64 s2] rfl (sl_new _ _ _ 1 rfl (by decide)) (by intro u hu; simp at hu; rw [hu]; rfl) (by unfold maxLen; omega) (by omega) (by simp; omega) ?_)
              intro v' w' h8 h9
              have hb9 : Below w3.heap.size w3 w' := grown_below (hbr.trans ((alloc_below _ _).mono hbsz)) HOW h9 (by simp; omega)
              go_wp2
              go_roundw
              case rel =>
                refine ⟨i + 1, L ++ [(s2 : Int)], by omega, by go_num, by rw [List.length_append]; exact Nat.succ_le_succ hLl, GG.out s2 (Nat.le_trans g1 (Nat.le_trans g2 g3)) r2, ?_, hb9⟩
                rw [List.length_append, List.map_append]; exact h8
              case measure => simp [vInt]; omega
            · have h4' : ((x3 : Int) == 0) = false := beq_eq_false_iff_ne.2 (by omega)
              have HOW := how.alloc (.cells #[.int .i64 s1] 23)
              go_wp2_with (refine wpList_append_sl rfl _ _ 24 rfl w3.heap.size 23 (.int .i64 0) 1 8 hTset infoSet rfl (by decide) _ L.length _ rfl HOW _ 1 [.int .i64 s1] rfl (sl_new _ _ _ 1 rfl (by decide)) (by intro u hu; simp at hu; rw [hu]; rfl) (by unfold maxLen; omega) (by omega) (by simp; omega) ?_)
              intro v' w' h8 h9
              have hb9 : Below w3.heap.size w3 w' := grown_below (hbr.trans ((alloc_below _ _).mono hbsz)) HOW h9 (by simp; omega)
              go_wp2
              go_roundw
              case rel =>
                refine ⟨i + 1, L ++ [(s1 : Int)], by omega, by go_num, by rw [List.length_append]; exact Nat.succ_le_succ hLl, GG.out s1 (Nat.le_trans g1 g2) r1, ?_, hb9⟩
                rw [List.length_append, List.map_append]; exact h8
              case measure => simp [vInt]; omega
        · have h2' : (10 : Int) ≤ i := by omega
          go_wp2
          go_ret3
          exact ⟨n, may, L, _, rfl, HV.out may L hmay (Nat.le_trans hLl (Nat.le_trans hi (by decide))) hLg, Nat.le_of_lt_succ hn9, Nat.le_trans hLl hi, how, hbr⟩
      · have h1' : (l.length : Int) ≤ 3 * (i : Int) + 3 := by omega
        clear h1
        go_wp2
        go_ret3
        exact ⟨n, may, L, _, rfl, HV.out may L hmay (Nat.le_trans hLl (Nat.le_trans hi (by decide))) hLg, Nat.le_of_lt_succ hn9, Nat.le_trans hLl hi, how, hbr⟩
  · have hmk : bits .and .i64 ((M : Int) - 1) (bits .or .i64 (a2 : Int) (a3 : Int)) = (may : Int) := by have := HMK.out; rw [if_neg h1] at this; exact this
    have h1' : 0 < (a1 : Int) := by omega
    have h1n : 0 < a1 := by omega
    go_wp2_with (fail)
    refine (c2 w3 hl).mono ?_
    clear c2
    rintro e w4 ⟨rfl, rfl⟩
    go_wp2_with (fail)
    refine (c3 w4 hl).mono ?_
    clear c3
    rintro e w3 ⟨rfl, rfl⟩
    clear h1
    go_wp2
    go_loopw [8, 9] (fun v c wr => ∃ (i : Nat) (L : List Int), i ≤ 10 ∧ c = .int .i64 i ∧ L.length ≤ i ∧ good M L ∧ wr.ownsRow w3.heap.size 23 1 v L.length (L.map (.int .i64)) ∧ Below w3.heap.size w3 wr) (fun _ c _ => 10 - (vInt c).toNat)
    case atStart => exact ⟨0, [], by omega, rfl, by simp, fun z h => absurd h (by simp), World.ownsRow_nil _ _ _ _, Below.refl _ _⟩
    case round =>
      obtain ⟨i, L, hi, rfl, hLl, hLg, how, hbr⟩ := hrel
      by_cases h1 : 3 * (i : Int) + 3 < l.length
      · by_cases h2 : i < 10
        · have h2' : (i : Int) < 10 := by omega
          by_cases h3 : n = 0
          · have h3' : (n : Int) ≤ 0 := by omega
            clear h3
            go_wp2
            go_ret3
            exact ⟨n, may, L, _, rfl, HV.out may L hmay (Nat.le_trans hLl (Nat.le_trans hi (by decide))) hLg, Nat.le_of_lt_succ hn9, Nat.le_trans hLl hi, how, hbr⟩
          · have h3' : 0 < (n : Int) := by omega
            have hlr := hl.below hbr
            obtain ⟨x1, hx1, hy1⟩ := at3_rg l (3 * (i : Int) + 3) (n := n) (by omega)
            obtain ⟨x2, hx2, hy2⟩ := at3_rg l (3 * (i : Int) + 4) (n := n) (by omega)
            obtain ⟨x3, hx3, hy3⟩ := at3_rg l (3 * (i : Int) + 5) (n := 2) (by omega)
            obtain ⟨x4, hx4, hy4⟩ := at3_rg l (3 * (i : Int) + 5) (n := n) (by omega)
            have d1 := at_any l (3 * (i : Int) + 3) n sa cap (by unfold rg; omega) (by omega) hr wr hlr hm
            have d2 := at_any l (3 * (i : Int) + 4) n sa cap (by unfold rg; omega) (by omega) hr wr hlr hm
            have d3 := at_any l (3 * (i : Int) + 5) 2 sa cap (by unfold rg; omega) (by omega) hr wr hlr hm
            have d4 := at_any l (3 * (i : Int) + 5) n sa cap (by unfold rg; omega) (by omega) hr wr hlr hm
            rw [hx1] at d1
            rw [hx2] at d2
            rw [show at3 l (3 * (i : Int) + 5) 2 = (x3 : Int) from hx3] at d3
            rw [hx4] at d4
            clear hx1 hx2 hx3 hx4
            have q1 := wrap_pow (n := x1) (by omega)
            have q2 := wrap_pow (n := x2) (by omega)
            have q4 := wrap_pow (n := x4) (by omega)
            have e1 := HLT.out x1 hy1
            have e2 := HLT.out x2 hy2
            have e4 := HLT.out x4 hy4
            have g1 : 1 ≤ 2 ^ x1 := Nat.one_le_two_pow
            obtain ⟨y1, hz1⟩ : ∃ y, y = 2 ^ x1 := ⟨_, rfl⟩
            obtain ⟨y2, hz2⟩ : ∃ y, y = 2 ^ x2 := ⟨_, rfl⟩
            obtain ⟨y4, hz4⟩ : ∃ y, y = 2 ^ x4 := ⟨_, rfl⟩
            rw [← hz1] at q1 e1 g1
            rw [← hz2] at q2 e2
            rw [← hz4] at q4 e4
            clear hz1 hz2 hz4
            have f1 : bits .or .i64 (y1 : Int) (y2 : Int) = ((y1 ||| y2 : Nat) : Int) := Go.Ib.b_or y1 y2 (Nat.lt_trans e1 HM9.out) (Nat.lt_trans e2 HM9.out)
            have r1 := HOR.out y1 y2 e1 e2
            have g2 : y1 ≤ y1 ||| y2 := Nat.left_le_or
            obtain ⟨s1, hs1⟩ : ∃ s, s = y1 ||| y2 := ⟨_, rfl⟩
            rw [← hs1] at f1 r1 g2
            clear hs1
            have f2 : bits .or .i64 (s1 : Int) (y4 : Int) = ((s1 ||| y4 : Nat) : Int) := Go.Ib.b_or s1 y4 (Nat.lt_trans r1 HM9.out) (Nat.lt_trans e4 HM9.out)
            have r2 := HOR.out s1 y4 r1 e4
            have g3 : s1 ≤ s1 ||| y4 := Nat.left_le_or
            obtain ⟨s2, hs2⟩ : ∃ s, s = s1 ||| y4 := ⟨_, rfl⟩
            rw [← hs2] at f2 r2 g3
            clear hs2
            have hbsz := hbr.size
            have grow : ∀ s : Nat, 1 ≤ s → s < M → good M (L ++ [(s : Int)]) := fun s hs1 hs2 z hz => by
              rcases List.mem_append.1 hz with hz | hz
              · exact hLg z hz
              · simp at hz; subst hz; omega
            have GG := Lib.hid grow; clear grow
            go_wp2_with (fail)
            refine d1.mono ?_
            clear d1
            rintro e w4 ⟨rfl, rfl⟩
            go_wp2_with (fail)
            refine d2.mono ?_
            clear d2
            rintro e w5 ⟨rfl, rfl⟩
            go_wp2_with (fail)
            refine d3.mono ?_
            clear d3
            rintro e w6 ⟨rfl, rfl⟩
            by_cases h4 : x3 = 0
            · subst h4
              go_wp2_with (fail)
              refine d4.mono ?_
              clear d4
              rintro e w7 ⟨rfl, rfl⟩
              have HOW := how.alloc (.cells #[.int .i64 s2] 23)
              go_wp2_with (refine wpList_append_sl rfl _ _ 24 rfl w3.heap.size 23 (.int .i64 0) 1 8 hTset infoSet rfl (by decide) _ L.length _ rfl HOW _ 1 [.int .i64 s2] rfl (sl_new _ _ _ 1 rfl (by decide)) (by intro u hu; simp at hu; rw [hu]; rfl) (by unfold maxLen; omega) (by omega) (by simp; omega) ?_)
              intro v' w' h8 h9
              have hb9 : Below w3.heap.size w3 w' := grown_below (hbr.trans ((alloc_below _ _).mono hbsz)) HOW h9 (by simp; omega)
              go_wp2
              go_roundw
              case rel =>
                refine ⟨i + 1, L ++ [(s2 : Int)], by omega, by go_num, by rw [List.length_append]; exact Nat.succ_le_succ hLl, GG.out s2 (Nat.le_trans g1 (Nat.le_trans g2 g3)) r2, ?_, hb9⟩
                rw [List.length_append, List.map_append]; exact h8
              case measure => simp [vInt]; omega
            · have h4' : ((x3 : Int) == 0) = false := beq_eq_false_iff_ne.2 (by omega)
              have HOW := how.alloc (.cells #[.int .i64 s1] 23)
              go_wp2_with (refine wpList_append_sl rfl _ _ 24 rfl w3.heap.size 23 (.int .i64 0) 1 8 hTset infoSet rfl (by decide) _ L.length _ rfl HOW _ 1 [.int .i64 s1] rfl (sl_new _ _ _ 1 rfl (by decide)) (by intro u hu; simp at hu; rw [hu]; rfl) (by unfold maxLen; omega) (by omega) (by simp; omega) ?_)
              intro v' w' h8 h9
              have hb9 : Below w3.heap.size w3 w' := grown_below (hbr.trans ((alloc_below _ _).mono hbsz)) HOW h9 (by simp; omega)
              go_wp2
              go_roundw
              case rel =>
                refine ⟨i + 1, L ++ [(s1 : Int)], by omega, by go_num, by rw [List.length_append]; exact Nat.succ_le_succ hLl, GG.out s1 (Nat.le_trans g1 g2) r1, ?_, hb9⟩
                rw [List.length_append, List.map_append]; exact h8
              case measure => simp [vInt]; omega
        · have h2' : (10 : Int) ≤ i := by omega
          go_wp2
          go_ret3
          exact ⟨n, may, L, _, rfl, HV.out may L hmay (Nat.le_trans hLl (Nat.le_trans hi (by decide))) hLg, Nat.le_of_lt_succ hn9, Nat.le_trans hLl hi, how, hbr⟩
      · have h1' : (l.length : Int) ≤ 3 * (i : Int) + 3 := by omega
        clear h1
        go_wp2
        go_ret3
        exact ⟨n, may, L, _, rfl, HV.out may L hmay (Nat.le_trans hLl (Nat.le_trans hi (by decide))) hLg, Nat.le_of_lt_succ hn9, Nat.le_trans hLl hi, how, hbr⟩
end Go.Proofs.YtkccmpikeekceaaGreat
end

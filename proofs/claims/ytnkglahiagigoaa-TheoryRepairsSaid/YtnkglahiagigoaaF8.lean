/- theory: each consistent part of may lies in a theory; the reference's Best. -/
import Derived.Test.YtnkglahiagigoaaF7
namespace Go.Theory
open Go.RowKit Go.Own Go.Ib
theorem mem_theories {n may s : Nat} {l : List Int} (hs : s < 2 ^ n) (h : theory n may l s) : s ∈ theories n may l := by
  unfold theories theoriesTo
  exact List.mem_filter.2 ⟨List.mem_range.2 hs, decide_eq_true h⟩
theorem lt_or_bit {s k : Nat} (h : s.testBit k = false) : s < s ||| 2 ^ k := by
  have h1 : s ≤ s ||| 2 ^ k := Nat.left_le_or
  have h2 : s ≠ s ||| 2 ^ k := fun e => by
    have := congrArg (fun x => x.testBit k) e
    simp [h] at this
  omega
theorem sub_bits {s may : Nat} (hs : s < 65536) (hm : may < 65536) : sub s may = true ↔ ∀ k, s.testBit k = true → may.testBit k = true := subN (by omega) (by omega)
/-- Each part of may without a conflict is contained in a theory. -/
theorem ext_theory {n may : Nat} {l : List Int} (hn : n ≤ 16) (hm : may < 2 ^ n) : ∀ (d s : Nat), 2 ^ n - s ≤ d → s < 2 ^ n → (∀ k, s.testBit k = true → may.testBit k = true) → cl l s = false → ∃ t ∈ theories n may l, ∀ k, s.testBit k = true → t.testBit k = true
  | 0, s, hd, hs, _, _ => by omega
  | d + 1, s, hd, hs, hb, hc => by
    have hp := pow16 hn
    by_cases ht : theory n may l s
    · exact ⟨s, mem_theories hs ht, fun _ h => h⟩
    · have hf : fst l s < 0 := by
        have := cl_fst (l := l) (s := s)
        rw [hc] at this
        have := (decide_eq_false_iff_not.1 this.symm)
        omega
      have : ∃ k, k < n ∧ may.testBit k = true ∧ s.testBit k = false ∧ cl l (s ||| 2 ^ k) = false := by
        apply Classical.byContradiction
        intro hno
        refine ht ⟨(sub_bits (by omega) (by omega)).2 hb, hf, fun k hk h1 h2 => ?_⟩
        cases hcl : cl l (s ||| 2 ^ k) with
        | false => exact absurd ⟨k, hk, h1, h2, hcl⟩ hno
        | true =>
          rw [cl_fst] at hcl
          exact of_decide_eq_true hcl
      obtain ⟨k, hk, h1, h2, h3⟩ := this
      have hlt := lt_or_bit h2
      have hs2 : s ||| 2 ^ k < 2 ^ n := Nat.or_lt_two_pow hs (Nat.pow_lt_pow_right (by decide) hk)
      obtain ⟨t, ht1, ht2⟩ := ext_theory hn hm d (s ||| 2 ^ k) (by omega) hs2 (fun j hj => by
        rw [Nat.testBit_or, Nat.testBit_two_pow] at hj
        by_cases e : k = j
        · subst e; exact h1
        · simp [e] at hj; exact hb j hj) h3
      refine ⟨t, ht1, fun j hj => ht2 j ?_⟩
      rw [Nat.testBit_or, hj]; rfl
theorem cl_zero {l : List Int} {M : Nat} (hM : M ≤ 65536) (hv : ∀ c ∈ l, 1 ≤ c ∧ c < (M : Int)) : cl l 0 = false := by
  unfold cl
  rw [List.any_eq_false]
  intro c hc h
  obtain ⟨m, rfl⟩ : ∃ m : Nat, c = m := ⟨c.toNat, by have := hv c hc; omega⟩
  have hc2 := hv _ hc
  have h2 := (subN (m := m) (s := 0) (by omega) (by omega)).1 h
  have : m = 0 := Nat.eq_of_testBit_eq fun k => by
    cases hk : m.testBit k with
    | false => simp
    | true => have := h2 k hk; simp at this
  omega
theorem valid_nat {n may : Nat} {l : List Int} (hv : valid n may l) : n ≤ 16 ∧ may < 2 ^ n ∧ l.length ≤ 1024 ∧ ∀ c ∈ l, 1 ≤ c ∧ c < ((2 ^ n : Nat) : Int) := by
  obtain ⟨_, h2, h3, _, h5, h6⟩ := hv
  rw [show ((2 : Int) ^ (n : Int).toNat) = ((2 ^ n : Nat) : Int) by simp] at h5 h6
  exact ⟨by omega, by omega, h3, h6⟩
theorem pbest_one (f : Nat → Int) {T : List Nat} (h : 0 < T.length) (h0 : 0 ≤ f T[0]) : pbest f (T.take 1) = (T[0], f T[0]) := by
  have := pbest_take f (k := 0) h
  rw [this, bstep, if_pos]
  show (-1 : Int) < _
  omega
theorem theories_ne {n may : Nat} {l : List Int} (hv : valid n may l) : theories n may l ≠ [] := by
  obtain ⟨h1, h2, _, h4⟩ := valid_nat hv
  obtain ⟨t, ht, _⟩ := ext_theory (l := l) h1 h2 (2 ^ n) 0 (by omega) (Nat.two_pow_pos n) (fun k h => by simp at h) (cl_zero (pow16 h1) h4)
  exact List.ne_nil_of_mem ht
end Go.Theory
namespace Go.Proofs.Ytnkglahiagigoaa
open Go.RowKit Go.Own Go.Theory Go.BigFrame Go.Shelf
set_option maxRecDepth 100000 in
theorem rbest_any (n may : Nat) (l wl : List Int) (sa wa : Option Addr) (cap wcap : Nat) (hv : valid n may l) (hw : wts n wl) (w : World) (hl : Sl w 1 (.slice sa l.length cap) l.length (l.map (.int .i64))) (hr : ∀ z ∈ l, rg z)
    (hwl : Sl w 1 (.slice wa wl.length wcap) wl.length (wl.map (.int .i64))) :
    Calls Try.prog 22 #[.int .i64 n, .int .i64 may, .slice sa l.length cap, .slice wa wl.length wcap] w fun e w' => e = .returned (.tuple #[.int .i64 ((pbest (fun s => wsum wl s wl.length) (theories n may l)).1 : Int), .int .i64 (pbest (fun s => wsum wl s wl.length) (theories n may l)).2, .int .i64 0]) ∧ Below w.heap.size w w' := by
  have hn16 : n ≤ 16 := by have := hv.2.1; omega
  have hp2 := pow16 hn16
  have HWN : Hid (wl.length = n) := Lib.hid (by have := hw.1; omega)
  have hA := rall_any n may l sa cap hv w hl hr
  have hT := fun s (hs : s ∈ theories n may l) => theories_lt hs
  have hne := theories_ne hv
  obtain ⟨T, hTT⟩ : ∃ T, T = theories n may l := ⟨_, rfl⟩
  rw [← hTT] at hA hne ⊢
  simp only [← hTT] at hT
  have hTl : T.length ≤ 65536 := by rw [hTT]; exact Nat.le_trans (theoriesTo_len _ _ _ _) hp2
  have hT0 : 0 < T.length := List.length_pos_iff.2 hne
  clear hv hTT hne
  go_enter Try.func22, Try.ntmps22
  go_wp2_with (fail)
  refine hA.mono ?_
  clear hA
  rintro e w2 ⟨v, rfl, ho, hb⟩
  have hsT := Sl.of_owns ho
  obtain ⟨ta, tcap, rfl, _⟩ := own_slice ho
  clear ho
  have hW := rweights_any n wl wa wcap (by omega) w2 (hwl.below hb) (by have := HWN.out; omega)
  rw [decide_eq_true hw] at hW
  go_wp2_with (fail)
  refine hW.mono ?_
  clear hW
  rintro e w3 ⟨rfl, rfl⟩
  have hwl3 := hwl.below hb
  obtain ⟨b, o, rfl, _, _, hCt, hbt⟩ := sl_split hsT hT0
  go_wp2
  have hwr := wsum_rg hw.2
  go_loopw [13, 14] (fun bv c wr => ∃ (i j : Nat) (hj : j < T.length), 1 ≤ i ∧ i ≤ T.length ∧ c = .int .i64 i ∧ bv = .int .i64 j ∧ pbest (fun s => wsum wl s wl.length) (T.take i) = (T[j], wsum wl T[j] wl.length) ∧ Below w3.heap.size w3 wr) (fun _ c _ => T.length - (vInt c).toNat)
  case atStart => exact ⟨1, 0, hT0, by omega, by omega, rfl, rfl, pbest_one _ hT0 (hwr _ _).1, Below.refl _ _⟩
  case round =>
    obtain ⟨i, j, hj, h1, hi, rfl, rfl, hp, hbr⟩ := hrel
    obtain ⟨sj, hsj⟩ : ∃ s, s = T[j] := ⟨_, rfl⟩
    have cj : wr.cell? ⟨b, o + j, none⟩ = some (.int .i64 sj) := (hCt.below hbr hbt) j _ (by simp [hj, hsj])
    have hjT : sj < 65536 := by have := hT _ (List.getElem_mem hj); omega
    rw [← hsj] at hp
    have HSJ := Lib.hid hsj; clear hsj
    have hji : (j : Int) < T.length := by omega
    have hwr2 := hwl3.below hbr
    by_cases hil : i < T.length
    · obtain ⟨si, hsi⟩ : ∃ s, s = T[i] := ⟨_, rfl⟩
      have ci : wr.cell? ⟨b, o + i, none⟩ = some (.int .i64 si) := (hCt.below hbr hbt) i _ (by simp [hil, hsi])
      have hiT : si < 65536 := by have := hT _ (List.getElem_mem hil); omega
      have hst := pbest_take (fun s => wsum wl s wl.length) hil
      rw [hp, bstep, ← hsi] at hst
      have HSI := Lib.hid hsi; clear hsi
      have HST := Lib.hid hst; clear hst
      have HP := Lib.hid hp; clear hp
      have wi := fun m => weight_any wl si wa wcap hiT (wr.drewN m) (hwr2.drewN m) (by have := HWN.out; omega) hw.2
      have wj := fun m => weight_any wl sj wa wcap hjT (wr.drewN m) (hwr2.drewN m) (by have := HWN.out; omega) hw.2
      obtain ⟨x, hx⟩ : ∃ x, x = wsum wl si wl.length := ⟨_, rfl⟩
      obtain ⟨y, hy⟩ : ∃ y, y = wsum wl sj wl.length := ⟨_, rfl⟩
      simp only [← hx] at wi
      simp only [← hy] at wj
      have HX := Lib.hid hx; clear hx
      have HY := Lib.hid hy; clear hy
      go_wp2
      refine wp_region_quiet_lit (by kernel_rfl) (by kernel_rfl) ?_
      repeat (go_big_quiet_step (fail))
      go_big_quiet_step (exact Calls.quiet_of_same (wi _))
      repeat (go_big_quiet_step (fail))
      go_big_quiet_step (exact Calls.quiet_of_same (wj _))
      repeat (go_big_quiet_step (fail))
      refine wpQuiet_nil ?_
      intro _ hw'
      obtain ⟨nq, hw''⟩ := hw'
      subst hw''
      by_cases hlt : y < x
      · have hn : pbest (fun s => wsum wl s wl.length) (T.take (i + 1)) = (T[i], wsum wl T[i] wl.length) := by rw [HST.out, if_pos (by rw [← HX.out, ← HY.out]; exact hlt), HSI.out]
        have HN := Lib.hid hn; clear hn
        go_wp2
        go_roundw
        case rel => exact ⟨i + 1, i, hil, by omega, by omega, by go_num, rfl, HN.out, below_drewN hbr nq⟩
        case measure => simp [vInt]; omega
      · have hn : pbest (fun s => wsum wl s wl.length) (T.take (i + 1)) = (T[j], wsum wl T[j] wl.length) := by rw [HST.out, if_neg (by rw [← HX.out, ← HY.out]; exact hlt), HSJ.out]
        have HN := Lib.hid hn; clear hn
        have hle : x ≤ y := by omega
        clear hlt
        go_wp2
        go_roundw
        case rel => exact ⟨i + 1, j, hj, by omega, by omega, by go_num, rfl, HN.out, below_drewN hbr nq⟩
        case measure => simp [vInt]; omega
    · obtain rfl : i = T.length := by omega
      rw [List.take_length] at hp
      have wj := fun m => weight_any wl sj wa wcap hjT (wr.drewN m) (hwr2.drewN m) (by have := HWN.out; omega) hw.2
      have HP := Lib.hid hp; clear hp
      go_wp2
      refine wp_region_quiet_lit (by kernel_rfl) (by kernel_rfl) ?_
      repeat (go_big_quiet_step (fail))
      go_big_quiet_step (exact Calls.quiet_of_same (wj _))
      repeat (go_big_quiet_step (fail))
      refine wpQuiet_nil ?_
      intro _ hw'
      obtain ⟨nq, hw''⟩ := hw'
      subst hw''
      go_wp2
      go_ret3
      rw [HP.out]
      exact ⟨rfl, hb.trans ((below_drewN hbr nq).mono hb.size)⟩
set_option maxRecDepth 100000 in
theorem rbest_bad (n may : Int) (l wl : List Int) (sa wa : Option Addr) (cap wcap : Nat) (hn : rg n) (hm : rg may) (hv : ¬ (valid n may l ∧ wts n wl)) (w : World) (hl : Sl w 1 (.slice sa l.length cap) l.length (l.map (.int .i64))) (hll : l.length ≤ 1000000) (hr : ∀ z ∈ l, rg z)
    (hwl : Sl w 1 (.slice wa wl.length wcap) wl.length (wl.map (.int .i64))) (hwll : wl.length ≤ 1000000) :
    Calls Try.prog 22 #[.int .i64 n, .int .i64 may, .slice sa l.length cap, .slice wa wl.length wcap] w fun e w' => e = .returned (.tuple #[.int .i64 0, .int .i64 0, .int .i64 1]) ∧ Below w.heap.size w w' := by
  by_cases h1 : valid n may l
  · obtain ⟨n, rfl⟩ : ∃ k : Nat, n = k := ⟨n.toNat, by have := h1.1; omega⟩
    obtain ⟨may, rfl⟩ : ∃ k : Nat, may = k := ⟨may.toNat, by have := h1.2.2.2.1; omega⟩
    have h2 : ¬ wts n wl := fun h => hv ⟨h1, h⟩
    have hn16 : n ≤ 16 := (valid_nat h1).1
    have hA := rall_any n may l sa cap h1 w hl hr
    go_enter Try.func22, Try.ntmps22
    go_wp2_with (fail)
    refine hA.mono ?_
    clear hA
    rintro e w2 ⟨v, rfl, ho, hb⟩
    have hW := rweights_any n wl wa wcap (by omega) w2 (hwl.below hb) (by omega)
    rw [decide_eq_false h2] at hW
    go_wp2_with (fail)
    refine hW.mono ?_
    clear hW
    rintro e w3 ⟨rfl, rfl⟩
    go_wp2
    go_ret3
    exact ⟨rfl, hb⟩
  · have hA := rall_bad n may l sa cap hn hm h1 w hl hll hr
    go_enter Try.func22, Try.ntmps22
    go_wp2_with (fail)
    refine hA.mono ?_
    clear hA
    rintro e w2 ⟨rfl, rfl⟩
    go_wp2
    go_ret3
    exact ⟨rfl, Below.refl _ _⟩
end Go.Proofs.Ytnkglahiagigoaa

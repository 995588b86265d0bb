/- theory: the law TheoryRepairs. -/
import Derived.Test.YtnkglahiagigoaaK4
import Derived.Test.YtnkglahiagigoaaF19
namespace Go.Proofs.Ytnkglahiagigoaa
open Go.RowKit Go.Own Go.Theory Go.BigFrame Go.Shelf Go.Ib
set_option maxRecDepth 100000 in
set_option maxHeartbeats 4000000 in
theorem law_repairs (la : List Int) (a : Option Addr) (ca : Nat) (hra : ∀ z ∈ la, rg z) (w : World) (hla : Sl w 1 (.slice a la.length ca) la.length (la.map (.int .i64))) (hma : la.length ≤ maxLen) :
    Calls Try.prog 10 #[.slice a la.length ca] w fun e w' => e = .returned (.bool true) ∧ Below w.heap.size w w' := by
  go_enter Try.func10, Try.ntmps10
  go_wp2_with (fail)
  refine (base_two la a ca hra w hla hma).mono ?_
  rintro e w1 ⟨n, may, c, v, rfl, hv0, hn8, hc10, hrow, hmk, hb1⟩
  obtain ⟨sc, cc, rfl, hP⟩ := hmk w1 (Sl.of_owns hrow.2)
  have z1 := hb1.size
  clear hrow hmk hla hma hra
  have hv := valid_whole hv0
  obtain ⟨hn16, hmM, _, hcr⟩ := valid_nat hv
  have hp2 := pow16 hn16
  obtain ⟨l, hl, hl2⟩ := ints_of hv
  have hl0 : ∀ x ∈ l, x ≠ 0 := fun x hx => by
    have := hcr x (by rw [← hl]; exact List.mem_map.2 ⟨x, hx, rfl⟩)
    omega
  have HLL : Hid (c.length = l.length) := Lib.hid (by rw [← hl, ints_len])
  have HL := Lib.hid hl; clear hl
  have hpa := fun w (h : Prob w n may c sc cc) => pall_any n (2 ^ n - 1) c sc cc hv w h.sl h.hr
  have hTl : (theories n (2 ^ n - 1) c).length ≤ 65536 := theories_len hn16
  have hlaw := fun out (h : Rep n l out) => repairs_law (by rw [HL.out]; exact hv) h
  rw [HL.out] at hlaw
  have hT6 := fun t (ht : t ∈ theories n (2 ^ n - 1) c) => Nat.lt_of_lt_of_le (theories_lt ht) hp2
  have hrp := fun w h => crepairs_any n l sc cc hn8 w h (by have := HLL.out; omega) hl2 hl0
  rw [← HLL.out] at hrp
  obtain ⟨T, hTT⟩ : ∃ T, T = theories n (2 ^ n - 1) c := ⟨_, rfl⟩
  rw [← hTT] at hTl hlaw
  simp only [← hTT] at hpa hT6 hlaw
  clear hTT hv hv0 hmM hcr hl2 hl0
  have hwp := wrap_pow hn16
  obtain ⟨M, hM⟩ : ∃ M, M = 2 ^ n := ⟨_, rfl⟩
  have hM1 : 1 ≤ M := by rw [hM]; exact Nat.two_pow_pos n
  rw [← hM] at hwp hp2
  simp only [← hM] at hpa
  rw [show ((M - 1 : Nat) : Int) = (M : Int) - 1 by omega] at hpa
  have HM := Lib.hid hM; clear hM
  have HTL := Lib.hid hTl; clear hTl
  go_wp2_with (fail)
  clear hwp
  have hTl := HTL.out
  refine (hpa w1 hP).mono ?_
  clear hpa
  rintro e w2 ⟨v2, rfl, how2, hb2⟩
  have hP2 := hP.below hb2
  have hb12 := hb1.trans (hb2.mono z1)
  have z2 := hb12.size
  obtain ⟨sT, cT, rfl, hT2⟩ := own_nat how2
  clear hP how2 hb1 hb2 z1
  have hrq := hrp w2 (by
    have := hP2.sl
    rw [← HL.out, ints_row, ints_len] at this
    rw [HLL.out]
    exact this)
  clear hrp
  go_wp2_with (fail)
  refine hrq.mono ?_
  clear hrq
  rintro e w3 ⟨R, v3, rfl, hR, how3, hb3⟩
  obtain ⟨sR, cR, rfl, hR3⟩ := own_nat how3
  have hT3 := hT2.below hb3
  have hb13 := hb12.trans (hb3.mono z2)
  have z3 := hb13.size
  obtain ⟨hA, hB, hlen⟩ := hlaw R hR
  have hR6 := fun r (hr : r ∈ R) => Nat.lt_of_lt_of_le (hR.lt r hr) (by rw [← HM.out]; exact hp2)
  clear hlaw hR how3 hb3 hT2 hP2 hb12 z2
  have hlq : ((T.length : Int) != (R.length : Int)) = false := by simp [hlen]
  have HLEN := Lib.hid hlen; clear hlen
  go_wp2
  go_loopw [11] (fun vi wr => ∃ i : Nat, i ≤ T.length ∧ vi = .int .i64 i ∧ wr = w3) (fun vi _ => T.length - (vInt vi).toNat)
  case atStart => exact ⟨0, by omega, rfl, rfl⟩
  case round =>
    obtain ⟨i, hi, rfl, rfl⟩ := hrel
    by_cases h1 : i < T.length
    · have h1' : (i : Int) < T.length := by omega
      have h1R : i < R.length := by have := HLEN.out; omega
      have h1R' : (i : Int) < R.length := by omega
      obtain ⟨g, o, rfl, hcx⟩ := nat_cell hT3 h1
      obtain ⟨g2, o2, rfl, hcy⟩ := nat_cell hR3 h1R
      obtain ⟨t, ht⟩ : ∃ t, t = T[i] := ⟨_, rfl⟩
      obtain ⟨r, hr⟩ : ∃ r, r = R[i] := ⟨_, rfl⟩
      have htm : t ∈ T := by rw [ht]; exact List.getElem_mem h1
      have hrm : r ∈ R := by rw [hr]; exact List.getElem_mem h1R
      rw [← ht] at hcx
      rw [← hr] at hcy
      have cx := hcx wr (Below.refl _ _)
      have cy := hcy wr (Below.refl _ _)
      have ht6 := hT6 t htm
      have hr6 := hR6 r hrm
      have d1 : bits .andNot .i64 ((M : Int) - 1) (t : Int) = ((cop n t : Nat) : Int) := by
        have := b_andNot (M - 1) t (by omega) (by omega)
        rw [show ((M - 1 : Nat) : Int) = (M : Int) - 1 by omega] at this
        rw [this, HM.out]; rfl
      have d2 : bits .andNot .i64 ((M : Int) - 1) (r : Int) = ((cop n r : Nat) : Int) := by
        have := b_andNot (M - 1) r (by omega) (by omega)
        rw [show ((M - 1 : Nat) : Int) = (M : Int) - 1 by omega] at this
        rw [this, HM.out]; rfl
      have f1 := find_any (ints R) (cop n t : Nat) (some ⟨g2, o2, none⟩) cR wr (by rw [ints_len, ints_row]; exact hR3) (by rw [ints_len]; have := HLEN.out; omega)
      rw [ints_len, decide_eq_true (show ((cop n t : Nat) : Int) ∈ ints R from List.mem_map.2 ⟨_, hA t htm, rfl⟩)] at f1
      have f2 := find_any (ints T) (cop n r : Nat) (some ⟨g, o, none⟩) cT wr (by rw [ints_len, ints_row]; exact hT3) (by rw [ints_len]; omega)
      rw [ints_len, decide_eq_true (show ((cop n r : Nat) : Int) ∈ ints T from List.mem_map.2 ⟨_, hB r hrm, rfl⟩)] at f2
      have HT := Lib.hid ht; clear ht
      have HR := Lib.hid hr; clear hr
      obtain ⟨p, hp⟩ : ∃ p, p = cop n t := ⟨_, rfl⟩
      obtain ⟨q, hq⟩ : ∃ q, q = cop n r := ⟨_, rfl⟩
      rw [← hp] at d1 f1
      rw [← hq] at d2 f2
      clear hp hq hcx hcy
      go_wp2_with (fail)
      refine f1.mono ?_
      clear f1
      rintro e w4 ⟨rfl, rfl⟩
      go_wp2_with (fail)
      refine f2.mono ?_
      clear f2
      rintro e w5 ⟨rfl, rfl⟩
      go_wp2
      go_roundw
      case rel => exact ⟨i + 1, by omega, by go_num, trivial⟩
      case measure => simp [vInt]; omega
    · have h1' : (T.length : Int) ≤ i := by omega
      go_wp2_with (fail)
      refine (lives_any wr).mono ?_
      rintro e w6 ⟨rfl, hb6⟩
      go_wp2
      go_ret
      exact ⟨rfl, hb13.trans (hb6.mono z3)⟩
end Go.Proofs.Ytnkglahiagigoaa

/- theory: the law TheoryCommon. -/
import Derived.Test.YtnkglahiagigoaaK3
import Derived.Test.YtnkglahiagigoaaF19
namespace Go.Theory
open Go.RowKit Go.Own Go.Ib
theorem ints_row (l : List Nat) : (ints l).map (Value.int .i64) = l.map fun (j : Nat) => .int .i64 j := by unfold ints; rw [List.map_map]; rfl
theorem ints_len (l : List Nat) : (ints l).length = l.length := by simp [ints]
theorem ints_of {n may : Nat} {c : List Int} (hv : valid n may c) : ∃ l : List Nat, ints l = c ∧ ∀ x ∈ l, x < 2 ^ n := by
  obtain ⟨_, _, _, h⟩ := valid_nat hv
  refine ⟨c.map Int.toNat, ?_, fun x hx => ?_⟩
  · unfold ints
    rw [List.map_map]
    conv => rhs; rw [← List.map_id c]
    refine List.map_congr_left fun z hz => ?_
    have := h z hz
    show ((z.toNat : Nat) : Int) = z
    omega
  · obtain ⟨z, hz, rfl⟩ := List.mem_map.1 hx
    have := h z hz
    omega
theorem valid_least {n may : Nat} {l L : List Nat} (hv : valid n may (ints l)) (h : IsLeast l L) (hl : L.length ≤ 1024) : valid n may (ints L) := by
  obtain ⟨v1, v2, v3, v4, v5, v6⟩ := hv
  refine ⟨v1, v2, by rw [ints_len]; exact hl, v4, v5, fun z hz => ?_⟩
  obtain ⟨x, hx, rfl⟩ := List.mem_map.1 hz
  exact v6 _ (List.mem_map.2 ⟨x, h.mem x hx, rfl⟩)
theorem least_len {l L : List Nat} (h : IsLeast l L) : L.length ≤ l.length := by
  have hp : L.Perm (l.eraseDups.filter fun x => decide (x ∈ L)) ∨ True := .inr trivial
  clear hp
  have : L ⊆ l := h.mem
  exact List.Nodup.length_le_of_subset h.nodup this
end Go.Theory
namespace Go.Proofs.Ytnkglahiagigoaa
open Go.RowKit Go.Own Go.Theory Go.BigFrame Go.Shelf Go.Ib
set_option maxRecDepth 100000 in
set_option maxHeartbeats 4000000 in
theorem law_common (la : List Int) (a : Option Addr) (ca : Nat) (hra : ∀ z ∈ la, rg z) (w : World) (hla : Sl w 1 (.slice a la.length ca) la.length (la.map (.int .i64))) (hma : la.length ≤ maxLen) :
    Calls Try.prog 9 #[.slice a la.length ca] w fun e w' => e = .returned (.bool true) ∧ Below w.heap.size w w' := by
  go_enter Try.func9, Try.ntmps9
  go_wp2_with (fail)
  refine (base_two la a ca hra w hla hma).mono ?_
  rintro e w1 ⟨n, may, c, v, rfl, hv, hn8, hc10, hrow, hmk, hb1⟩
  obtain ⟨sc, cc, rfl, hP⟩ := hmk w1 (Sl.of_owns hrow.2)
  have z1 := hb1.size
  clear hrow hmk hla hma hra
  obtain ⟨hn16, hmM, _, _⟩ := valid_nat hv
  have hp2 := pow16 hn16
  have hm6 : may < 65536 := Nat.lt_of_lt_of_le hmM hp2
  have hM8 : (2 : Nat) ^ n ≤ 256 := Nat.pow_le_pow_right (n := 2) (by omega) hn8
  obtain ⟨l, hl, hl2⟩ := ints_of hv
  have hl8 : ∀ x ∈ l, x < 256 := fun x hx => Nat.lt_of_lt_of_le (hl2 x hx) hM8
  have HLL : Hid (c.length = l.length) := Lib.hid (by rw [← hl, ints_len])
  have HL := Lib.hid hl; clear hl
  go_wp2_with (fail)
  refine (pall_any n may c sc cc hv w1 hP.sl hP.hr).mono ?_
  rintro e w2 ⟨v2, rfl, how2, hb2⟩
  have hP2 := hP.below hb2
  have hb12 := hb1.trans (hb2.mono z1)
  have z2 := hb12.size
  obtain ⟨sT, cT, rfl, hT2⟩ := own_nat how2
  have hTl : (theories n may c).length ≤ 65536 := theories_len hn16
  clear hP how2 hb1 hb2 z1
  have hsl : Sl w2 1 (.slice sc l.length cc) l.length (l.map fun (j : Nat) => .int .i64 j) := by
    have := hP2.sl
    rw [← HL.out, ints_row, ints_len] at this
    exact this
  have hcl := cleast_any l sc cc w2 hsl (by have := HLL.out; omega) hl8
  rw [← HLL.out] at hcl
  have hvl : valid n may (ints l) := by rw [HL.out]; exact hv
  have hcom := fun L h => common_law (L := L) hvl h
  have hsame := fun L (h : IsLeast l L) => theories_cl (n := n) (may := may) (cl_least h)
  rw [HL.out] at hcom hsame
  go_wp2_with (fail)
  refine hcl.mono ?_
  clear hcl hsl
  rintro e w3 ⟨L, v3, rfl, hL, how3, hb3⟩
  have hvL := valid_least hvl hL (by have := least_len hL; have := HLL.out; omega)
  replace hcom := hcom L hL
  replace hsame := hsame L hL
  have hL8 : ∀ x ∈ L, x < 65536 := fun x hx => Nat.lt_of_lt_of_le (hl8 x (hL.mem x hx)) (by decide)
  obtain ⟨sL, cL, rfl, hL3⟩ := own_nat how3
  have hT3 := hT2.below hb3
  have hb13 := hb12.trans (hb3.mono z2)
  have z3 := hb13.size
  have hLl : L.length ≤ 10 := by have := least_len hL; have := HLL.out; omega
  clear how3 hb3 hT2 hP2 hb12 z2 hl2 hl8 hM8 hvl
  have hpa := pall_any n may (ints L) sL cL hvL w3 (by rw [ints_len, ints_row]; exact hL3) (fun z hz => by obtain ⟨x, hx, rfl⟩ := List.mem_map.1 hz; exact rg_nat (hL8 x hx))
  rw [ints_len, hsame] at hpa
  obtain ⟨T, hTT⟩ : ∃ T, T = theories n may c := ⟨_, rfl⟩
  rw [← hTT] at hpa hT3 hTl hcom ⊢
  have hst := strike_spec hm6 L
  clear hTT hsame hvL hv hL
  go_wp2_with (fail)
  refine hpa.mono ?_
  clear hpa
  rintro e w4 ⟨v4, rfl, how4, hb4⟩
  obtain ⟨s4, c4, rfl, hU4⟩ := own_nat how4
  have hT4 := hT3.below hb4
  have hL4 := hL3.below hb4
  have hb14 := hb13.trans (hb4.mono z3)
  have z4 := hb14.size
  clear how4 hb4 hT3 hL3 hb13 z3
  have hsm := same_any (ints T) (ints T) sT s4 cT c4 w4 (by rw [ints_len, ints_row]; exact hT4) (by rw [ints_len, ints_row]; exact hU4) (.inl (by rw [ints_len]; omega))
  rw [ints_len, show (ints T == ints T) = true from beq_self_eq_true _] at hsm
  go_wp2_with (fail)
  refine hsm.mono ?_
  clear hsm
  rintro e w5 ⟨rfl, hb5⟩
  have hT5 := hT4.below hb5
  have hL5 := hL4.below hb5
  have hb15 := hb14.trans (hb5.mono z4)
  have z5 := hb15.size
  clear hT4 hL4 hb14 hb5 z4 hU4
  go_wp2
  go_loopw [11, 12] (fun vw vi wr => ∃ i : Nat, i ≤ L.length ∧ vi = .int .i64 i ∧ vw = .int .i64 (strike may (L.take i) : Nat) ∧ wr = w5) (fun _ vi _ => L.length - (vInt vi).toNat)
  case atStart => exact ⟨0, by omega, rfl, rfl, rfl⟩
  case round =>
    obtain ⟨i, hi, rfl, rfl, rfl⟩ := hrel
    by_cases h1 : i < L.length
    · have h1' : (i : Int) < L.length := by omega
      obtain ⟨g, o, rfl, hcx⟩ := nat_cell hL5 h1
      have htk := strike_take (may := may) h1
      have hsi := (strike_spec hm6 (L.take i)).1
      obtain ⟨x, hx⟩ : ∃ x, x = L[i] := ⟨_, rfl⟩
      have hx6 := hL8 x (by rw [hx]; exact List.getElem_mem h1)
      rw [← hx] at hcx htk
      have cx := hcx wr (Below.refl _ _)
      obtain ⟨s, hs⟩ : ∃ s, s = strike may (L.take i) := ⟨_, rfl⟩
      rw [← hs] at htk hsi ⊢
      have han := sub_andNot (x : Int) (may : Int)
      have hdf := b_andNot s x (by omega) (by omega)
      have HX := Lib.hid hx; clear hx
      have HS := Lib.hid hs; clear hs
      obtain ⟨b, hb⟩ : ∃ b, b = sub (x : Int) may := ⟨_, rfl⟩
      rw [← hb] at han htk
      clear hb hcx
      cases b with
      | true =>
        rw [if_pos rfl] at htk
        have HTK := Lib.hid htk; clear htk
        go_wp2
        go_roundw
        case rel => exact ⟨i + 1, by omega, by go_num, by rw [HTK.out], trivial⟩
        case measure => simp [vInt]; omega
      | false =>
        rw [if_neg Bool.false_ne_true] at htk
        have HTK := Lib.hid htk; clear htk
        go_wp2
        go_roundw
        case rel => exact ⟨i + 1, by omega, by go_num, by rw [HTK.out], trivial⟩
        case measure => simp [vInt]; omega
    · have h1' : (L.length : Int) ≤ i := by omega
      rw [List.take_of_length_le (show L.length ≤ i by omega)]
      have hcm := common_any (ints T) sT cT wr (by rw [ints_len, ints_row]; exact hT5) (by rw [ints_len]; omega)
      rw [ints_len, hcom] at hcm
      obtain ⟨s, hs⟩ : ∃ s, s = strike may L := ⟨_, rfl⟩
      rw [← hs] at hcm ⊢
      clear hs hcom hst
      go_wp2_with (fail)
      refine hcm.mono ?_
      clear hcm
      rintro e w6 ⟨rfl, rfl⟩
      go_wp2_with (fail)
      refine (lives_any w6).mono ?_
      rintro e w7 ⟨rfl, hb7⟩
      go_wp2
      go_ret
      exact ⟨rfl, hb15.trans (hb7.mono z5)⟩
end Go.Proofs.Ytnkglahiagigoaa

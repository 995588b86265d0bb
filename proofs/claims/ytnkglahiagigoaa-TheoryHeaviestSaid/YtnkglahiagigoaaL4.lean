/- theory: the law TheoryMaximal. -/
import Derived.Test.YtnkglahiagigoaaT2
namespace Go.Proofs.Ytnkglahiagigoaa
open Go.RowKit Go.Own Go.Theory Go.BigFrame Go.Shelf Go.Ib
/-- A row of natural sets: the slice and its cells. -/
theorem own_nat {w : World} {base : Nat} {t : TypeId} {L : List Nat} {v : Value} (h : w.ownsRow base t 1 v L.length (L.map fun (j : Nat) => .int .i64 j)) : ∃ sb cb, v = .slice sb L.length cb ∧ Sl w 1 (.slice sb L.length cb) L.length (L.map fun (j : Nat) => .int .i64 j) := by
  obtain ⟨sb, cb, e, _⟩ := own_slice h
  subst e
  exact ⟨sb, cb, rfl, Sl.of_owns h⟩
theorem nat_cell {w : World} {L : List Nat} {sb : Option Addr} {cb k : Nat} (h : Sl w 1 (.slice sb L.length cb) L.length (L.map fun (j : Nat) => .int .i64 j)) (hk : k < L.length) : ∃ g o, sb = some ⟨g, o, none⟩ ∧ ∀ W, Below w.heap.size w W → W.cell? ⟨g, o + k, none⟩ = some (.int .i64 (L[k] : Nat)) := by
  obtain ⟨g, o, rfl, _, _, hC, ha⟩ := sl_at h (by omega)
  exact ⟨g, o, rfl, fun W hb => (hC.below hb ha) k _ (by simp [hk])⟩
set_option maxRecDepth 100000 in
set_option maxHeartbeats 4000000 in
theorem law_maximal (la : List Int) (a : Option Addr) (ca : Nat) (hra : ∀ z ∈ la, rg z) (w : World) (hla : Sl w 1 (.slice a la.length ca) la.length (la.map (.int .i64))) (hma : la.length ≤ maxLen) :
    Calls Try.prog 6 #[.slice a la.length ca] w fun e w' => e = .returned (.bool true) ∧ Below w.heap.size w w' := by
  go_enter Try.func6, Try.ntmps6
  go_wp2_with (fail)
  refine (base_two la a ca hra w hla hma).mono ?_
  rintro e w1 ⟨n, may, c, v, rfl, hv, hn8, hc10, hrow, hmk, hb1⟩
  obtain ⟨sc, cc, rfl, hP⟩ := hmk w1 (Sl.of_owns hrow.2)
  have z1 := hb1.size
  clear hrow hmk hla hma hra
  obtain ⟨hn16, hmM, _, _⟩ := valid_nat hv
  have hp2 := pow16 hn16
  have hm6 : may < 65536 := Nat.lt_of_lt_of_le hmM hp2
  have hwp := wrap_pow hn16
  go_wp2_with (fail)
  refine (pall_any n may c sc cc hv w1 hP.sl hP.hr).mono ?_
  rintro e w2 ⟨v2, rfl, how2, hb2⟩
  have hP2 := hP.below hb2
  have hb := hb1.trans (hb2.mono z1)
  have z2 := hb.size
  obtain ⟨sT, cT, rfl, hT⟩ := own_nat how2
  have hne := theories_ne hv
  have hthy := fun s (hs : s ∈ theories n may c) => theories_thy hs
  have hlt := fun s (hs : s ∈ theories n may c) => theories_lt hs
  have hlt6 := fun s (hs : s ∈ theories n may c) => Nat.lt_of_lt_of_le (theories_lt hs) hp2
  have hnd := theories_nodup n may c
  have hmax := fun (s : Nat) (h1 : sub s may = true) (h2 : s < 2 ^ n) (h3 : cl c s = false) => in_theory (l := c) hn16 hmM h1 h2 h3
  have hTl : (theories n may c).length ≤ 65536 := theories_len hn16
  have hM8 : (2 : Nat) ^ n ≤ 256 := Nat.pow_le_pow_right (n := 2) (by omega) hn8
  obtain ⟨T, hTT⟩ : ∃ T, T = theories n may c := ⟨_, rfl⟩
  rw [← hTT] at hT hne hTl hnd
  simp only [← hTT] at hthy hlt hlt6 hmax
  have hT0 : 0 < T.length := List.length_pos_iff.2 hne
  obtain ⟨M, hM⟩ : ∃ M, M = 2 ^ n := ⟨_, rfl⟩
  rw [← hM] at hp2 hwp hM8
  have HM := Lib.hid hM; clear hM
  rw [hTT.symm]
  have HTT := Lib.hid hTT; clear hTT
  clear hP how2 hb1 hb2 z1 hne hn8 hc10
  have hlen0 : ((T.length : Int) == 0) = false := beq_eq_false_iff_ne.2 (by omega)
  go_wp2
  go_loopw [8] (fun vi wr => ∃ i : Nat, i ≤ T.length ∧ vi = .int .i64 i ∧ Below w2.heap.size w2 wr) (fun vi _ => T.length - (vInt vi).toNat)
  case atStart => exact ⟨0, by omega, rfl, Below.refl _ _⟩
  case round =>
    obtain ⟨i, hi, rfl, hbr⟩ := hrel
    have zr := hbr.size
    by_cases h1 : i < T.length
    · have h1' : (i : Int) < T.length := by omega
      have hPr := hP2.below hbr
      obtain ⟨g, o, rfl, hcx⟩ := nat_cell (hT.below hbr) h1
      obtain ⟨x, hx⟩ : ∃ x, x = T[i] := ⟨_, rfl⟩
      have hxm : x ∈ T := by rw [hx]; exact List.getElem_mem h1
      rw [← hx] at hcx
      have hx1 := hthy x hxm
      have hx2 := hlt x hxm
      have hck := pcheck_any n may x c sc cc hv (hlt6 x hxm) hx1.1 wr hPr.sl hPr.hr
      rw [thy_chk hx1] at hck
      have HX := Lib.hid hx; clear hx
      have cx := hcx wr (Below.refl _ _)
      go_wp2_with (fail)
      refine hck.mono ?_
      clear hck cx
      rintro e w3 ⟨v3, rfl, _, hb3⟩
      have hb23 := hbr.trans (hb3.mono zr)
      have z23 := hb23.size
      have hcx3 : ∀ W, Below w2.heap.size w2 W → W.cell? ⟨g, o + i, none⟩ = some (.int .i64 x) := by
        intro W hW
        obtain ⟨g', o', e', hc'⟩ := nat_cell hT h1
        injection e' with e'; injection e' with e1 e2 _
        subst e1 e2
        rw [HX.out]
        exact hc' W hW
      clear hcx hPr
      go_wp2
      go_loopw [11] (fun vk ws => ∃ k : Nat, k ≤ T.length ∧ vk = .int .i64 k ∧ Below w2.heap.size w2 ws) (fun vk _ => T.length - (vInt vk).toNat)
      case atStart => exact ⟨0, by omega, rfl, hb23⟩
      case round =>
        obtain ⟨k, hk, rfl, hbs⟩ := hrel
        have zs := hbs.size
        by_cases h2 : k < T.length
        · have h2' : (k : Int) < T.length := by omega
          by_cases hik : i = k
          · have hq : ((i : Int) != (k : Int)) = false := by simp [hik]
            clear hcx3
            have HIK := Lib.hid hik; clear hik
            go_wp2
            go_quiet (fail)
            go_wp2
            go_roundw
            case rel => exact ⟨k + 1, by omega, by go_num, below_drewN hbs _⟩
            case measure => simp [vInt]; omega
          · have hq : ((i : Int) != (k : Int)) = true := by simp; omega
            obtain ⟨y, hy⟩ : ∃ y, y = T[k] := ⟨_, rfl⟩
            have cx := hcx3 wr hbs
            have cy : wr.cell? ⟨g, o + k, none⟩ = some (.int .i64 y) := by
              obtain ⟨g', o', e', hc'⟩ := nat_cell hT h2
              injection e' with e'; injection e' with e1 e2 _
              subst e1 e2
              rw [hy]
              exact hc' wr hbs
            have hym : y ∈ T := by rw [hy]; exact List.getElem_mem h2
            have hxy : x ≠ y := by
              rw [HX.out, hy]
              intro e
              exact hik (List.getElem_inj hnd |>.1 e)
            have hy1 := hthy y hym
            have hy2 := hlt y hym
            have hor : (bits .or .i64 (x : Int) (y : Int) == (y : Int)) = false := by
              rw [sub_or _ _ (rg_nat (hlt6 y hym))]
              cases hs : sub (x : Int) y with
              | false => rfl
              | true => exact absurd (thy_anti hn16 hmM hx1 hy1 hx2 hy2 hs) hxy
            have HIK := Lib.hid hik; clear hik
            have HY := Lib.hid hy; clear hy
            clear hcx3 hxy
            go_wp2
            go_quiet (fail)
            go_wp2
            go_roundw
            case rel => exact ⟨k + 1, by omega, by go_num, below_drewN hbs _⟩
            case measure => simp [vInt]; omega
        · have h2' : (T.length : Int) ≤ k := by omega
          go_wp2
          go_roundw
          case rel => exact ⟨i + 1, by omega, by go_num, hbs⟩
          case measure => simp [vInt]; omega
    · have h1' : (T.length : Int) ≤ i := by omega
      obtain ⟨w9, h9⟩ : ∃ w9, w9 = wr := ⟨_, rfl⟩
      subst h9
      have hP9 := hP2.below hbr
      have hT9 := hT.below hbr
      have hb9 := hb.trans (hbr.mono z2)
      have z9 := hb9.size
      clear hP2 hT hb hbr z2 zr
      go_wp2
      go_loopw [12] (fun vs wq => ∃ s : Nat, s ≤ M ∧ vs = .int .i64 s ∧ Below w9.heap.size w9 wq) (fun vs _ => M - (vInt vs).toNat)
      case atStart => exact ⟨0, by omega, rfl, Below.refl _ _⟩
      case round =>
        obtain ⟨s, hs, rfl, hbq⟩ := hrel
        have zq := hbq.size
        by_cases h3 : s < M
        · have h3' : (s : Int) < M := by omega
          have hPq := hP9.below hbq
          have hfi := first_any c s sc cc (rg_nat (by omega)) wr hPq.sl (by have := hPq.hl; omega)
          by_cases hsm : sub s may = true
          · have hand : (bits .and .i64 (s : Int) (may : Int) != (s : Int)) = false := by
              rw [b_and s may (by omega) (by omega)]
              have := (sub_bits (s := s) (may := may) (by omega) (by omega)).1 hsm
              have e : s &&& may = s := Nat.eq_of_testBit_eq fun j => by
                rw [Nat.testBit_and]
                cases hj : s.testBit j with
                | true => rw [this j hj]; rfl
                | false => rfl
              rw [e]; simp
            cases hcl : cl c s with
            | true =>
              have hf0 : (0 : Int) ≤ fst c s := by rw [cl_fst] at hcl; exact of_decide_eq_true hcl
              go_wp2_with (fail)
              refine hfi.mono ?_
              clear hfi
              rintro e w3 ⟨rfl, rfl⟩
              go_wp2
              go_roundw
              case rel => exact ⟨s + 1, by omega, by go_num, hbq⟩
              case measure => simp [vInt]; omega
            | false =>
              have hf0 := fst_neg hcl
              obtain ⟨t, ht, hst⟩ := hmax s hsm (by have := HM.out; omega) hcl
              obtain ⟨q, hq, hqt⟩ := List.getElem_of_mem ht
              go_wp2_with (fail)
              refine hfi.mono ?_
              clear hfi
              rintro e w3 ⟨rfl, rfl⟩
              have HQ := Lib.hid hqt; clear hqt
              go_wp2
              go_loopw [13, 14] (fun vb vi ws => ∃ (i : Nat) (b : Bool), i ≤ T.length ∧ vi = .int .i64 i ∧ vb = .bool b ∧ (q < i → b = true) ∧ Below w9.heap.size w9 ws) (fun _ vi _ => T.length - (vInt vi).toNat)
              case atStart => exact ⟨0, false, by omega, rfl, rfl, fun h => absurd h (by omega), hbq⟩
              case round =>
                obtain ⟨i2, b, hi2, rfl, rfl, hbt, hbs⟩ := hrel
                by_cases h4 : i2 < T.length
                · have h4' : (i2 : Int) < T.length := by omega
                  cases b with
                  | true =>
                    clear hbt
                    go_wp2
                    go_quiet (fail)
                    go_wp2
                    go_roundw
                    case rel => exact ⟨i2 + 1, true, by omega, by go_num, rfl, fun _ => rfl, below_drewN hbs _⟩
                    case measure => simp [vInt]; omega
                  | false =>
                    obtain ⟨g2, o2, rfl, hcy⟩ := nat_cell (hT9.below hbs) h4
                    obtain ⟨y, hy⟩ : ∃ y, y = T[i2] := ⟨_, rfl⟩
                    rw [← hy] at hcy
                    have cy := hcy wr (Below.refl _ _)
                    have hym : y ∈ T := by rw [hy]; exact List.getElem_mem h4
                    have hy2 := hlt y hym
                    have hor := sub_or (s : Int) y (rg_nat (hlt6 y hym))
                    have hyt : i2 = q → sub (s : Int) y = true := by
                      intro e; subst e; rw [hy, HQ.out]; exact hst
                    have HY := Lib.hid hy; clear hy
                    obtain ⟨b2, hb2⟩ : ∃ b2, b2 = sub (s : Int) y := ⟨_, rfl⟩
                    rw [← hb2] at hor hyt
                    clear hb2 hcy
                    have HYT := Lib.hid hyt; clear hyt
                    have HBT := Lib.hid hbt; clear hbt
                    go_wp2
                    go_quiet (fail)
                    go_wp2
                    go_roundw
                    case rel =>
                      refine ⟨i2 + 1, b2, by omega, by go_num, rfl, fun h => ?_, below_drewN hbs _⟩
                      by_cases e : i2 = q
                      · exact HYT.out e
                      · have := HBT.out (by omega); cases this
                    case measure => simp [vInt]; omega
                · have h4' : (T.length : Int) ≤ i2 := by omega
                  obtain rfl := hbt (by omega)
                  clear hbt
                  go_wp2
                  go_roundw
                  case rel => exact ⟨s + 1, by omega, by go_num, hbs⟩
                  case measure => simp [vInt]; omega
          · have hand : (bits .and .i64 (s : Int) (may : Int) != (s : Int)) = true := by
              rw [b_and s may (by omega) (by omega)]
              have : ¬ s &&& may = s := fun e => hsm ((sub_bits (by omega) (by omega)).2 fun j hj => by
                rw [← e, Nat.testBit_and, Bool.and_eq_true] at hj; exact hj.2)
              simp; omega
            clear hfi
            have HSM := Lib.hid hsm; clear hsm
            go_wp2
            go_roundw
            case rel => exact ⟨s + 1, by omega, by go_num, hbq⟩
            case measure => simp [vInt]; omega
        · have h3' : (M : Int) ≤ s := by omega
          go_wp2_with (fail)
          refine (lives_any wr).mono ?_
          rintro e w6 ⟨rfl, hb6⟩
          go_wp2
          go_ret
          exact ⟨rfl, (hb9.trans (hbq.mono z9)).trans (hb6.mono (by omega))⟩
end Go.Proofs.Ytnkglahiagigoaa

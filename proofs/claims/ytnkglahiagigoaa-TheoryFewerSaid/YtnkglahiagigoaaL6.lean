/- theory: the law TheoryFewer. -/
import Derived.Test.YtnkglahiagigoaaL4
namespace Go.Theory
open Go.RowKit Go.Own Go.Ib
theorem and_nat (m : Nat) (p : Int) (hm : m < 65536) : ∃ x : Nat, bits .and .i64 (m : Int) p = (x : Int) ∧ x ≤ m ∧ ∀ k, x.testBit k = true → m.testBit k = true := by
  refine ⟨m &&& (B p).toNat, ?_, Nat.and_le_left, fun k h => by rw [Nat.testBit_and, Bool.and_eq_true] at h; exact h.1⟩
  have hle : m &&& (B p).toNat ≤ m := Nat.and_le_left
  refine B_inj (bits_rg _ _ _) (rg_nat (by omega)) ?_
  rw [B_and]
  refine BitVec.eq_of_toNat_eq ?_
  rw [BitVec.toNat_and, B_nat m (by omega), B_nat _ (by omega)]
theorem and_comm' (a b : Int) : bits .and .i64 a b = bits .and .i64 b a := by
  refine B_inj (bits_rg _ _ _) (bits_rg _ _ _) ?_
  rw [B_and, B_and, BitVec.and_comm]
end Go.Theory
namespace Go.Proofs.Ytnkglahiagigoaa
open Go.RowKit Go.Own Go.Theory Go.BigFrame Go.Shelf Go.Ib
theorem nats_one (L : List Nat) : ∀ u ∈ L.map (fun (j : Nat) => (Value.int .i64 j)), u.oneCell' = true := by
  intro u hu
  obtain ⟨j, _, rfl⟩ := List.mem_map.1 hu
  rfl
attribute [local irreducible] theories fst cl sub
set_option maxRecDepth 100000 in
set_option maxHeartbeats 4000000 in
theorem law_fewer (la : List Int) (more part : Int) (a : Option Addr) (ca : Nat) (hmo : rg more) (hpa : rg part) (hra : ∀ z ∈ la, rg z) (w : World) (hla : Sl w 1 (.slice a la.length ca) la.length (la.map (.int .i64))) (hma : la.length ≤ maxLen) :
    Calls Try.prog 8 #[.slice a la.length ca, .int .i64 more, .int .i64 part] w fun e w' => e = .returned (.bool true) ∧ Below w.heap.size w w' := by
  go_enter Try.func8, Try.ntmps8
  go_wp2_with (fail)
  refine (base_two la a ca hra w hla hma).mono ?_
  rintro e w1 ⟨n, may, c, v, rfl, hv, hn8, hc10, hrow, hmk, hb1⟩
  obtain ⟨sc, cc, rfl, hP⟩ := hmk w1 (Sl.of_owns hrow.2)
  have z1 := hb1.size
  clear hrow hmk hla hma hra
  obtain ⟨hn16, hmM, hcl, hcr⟩ := valid_nat hv
  have hp2 := pow16 hn16
  have hm6 : may < 65536 := Nat.lt_of_lt_of_le hmM hp2
  have hwp := wrap_pow hn16
  go_wp2_with (fail)
  refine (pall_any n may c sc cc hv w1 hP.sl hP.hr).mono ?_
  rintro e w2 ⟨v2, rfl, how2, hb2⟩
  have hP2 := hP.below hb2
  have hb := hb1.trans (hb2.mono z1)
  have z2 := hb.size
  obtain ⟨sT, cT, rfl, hT⟩ := own_nat how2
  clear hP how2 hb1 hb2 z1
  have hTr : ∀ t ∈ theories n may c, t < 65536 := fun t ht => Nat.lt_of_lt_of_le (theories_lt ht) hp2
  have hl3 : (theories n may c).length ≤ 65536 := theories_len hn16
  obtain ⟨T, hTT⟩ : ∃ T, T = theories n may c := ⟨_, rfl⟩
  rw [← hTT] at hT hTr hl3 ⊢
  have HTT := Lib.hid hTT; clear hTT
  have HL3 := Lib.hid hl3; clear hl3
  obtain ⟨x, hx, hxm, _⟩ := and_nat (2 ^ n - 1) more (by have := Nat.two_pow_pos n; omega)
  rw [and_comm', show ((2 ^ n - 1 : Nat) : Int) = ((2 ^ n : Nat) : Int) - 1 by have := Nat.two_pow_pos n; omega] at hx
  have hxM : x < 2 ^ n := by have := Nat.two_pow_pos n; omega
  obtain ⟨M, hM⟩ : ∃ M, M = 2 ^ n := ⟨_, rfl⟩
  rw [← hM] at hp2 hwp hx hxM
  have HWP := Lib.hid hwp; clear hwp
  have HM := Lib.hid hM; clear hM
  clear hxm
  have hx0 : x = 0 ∨ 0 < x := by omega
  rcases hx0 with h0 | h0
  focus
    have hq : ((x : Int) != 0) = false := by simp; omega
    have hwp := HWP.out
    go_wp2_with (fail)
    clear hwp
    have hl3 := HL3.out
    have hDv := hv
    have hDr := hP2.hr
    have hDl : c.length ≤ 11 := by omega
    have hDc : ∀ s : Nat, cl c s = false → cl c s = false := fun _ h => h
    have hDs := hP2.sl
    obtain ⟨w4, hw4⟩ : ∃ w4, w4 = w2 := ⟨_, rfl⟩
    have hb24 : Below w2.heap.size w2 w4 := by rw [hw4]; exact Below.refl _ _
    subst hw4
    clear hq hx h0
    have hPw := hP2.below hb24
    have hTw := hT.below hb24
    have hbw := hb.trans (hb24.mono z2)
    have zw := hbw.size
    clear hP2 hT hb hb24
    refine (pall_any n may c sc cc hDv w4 hDs hDr).mono ?_
    rintro e w5 ⟨v5, rfl, how5, hb5⟩
    obtain ⟨s5, c5, rfl, hA5⟩ := own_nat how5
    have hP5 := hPw.below hb5
    have hT5 := hTw.below hb5
    have hb15 := hbw.trans (hb5.mono zw)
    have z5 := hb15.size
    clear hPw hTw hbw hb5 zw how5 hDs
    obtain ⟨m, hm, hmm, hmb⟩ := and_nat may part (by omega)
    have hv' : valid n m c := by
      obtain ⟨v1, v2, v3, v4, v5, v6⟩ := hv
      exact ⟨v1, v2, v3, Int.natCast_nonneg m, Int.lt_of_le_of_lt (Int.ofNat_le.2 hmm) v5, v6⟩
    have hms : sub m may = true := (sub_bits (Nat.lt_of_le_of_lt hmm hm6) hm6).2 hmb
    go_wp2_with (fail)
    refine (pall_any n m c sc cc hv' w5 hP5.sl hP5.hr).mono ?_
    rintro e w6 ⟨v6, rfl, how6, hb6⟩
    obtain ⟨s6, c6, rfl, hB6⟩ := own_nat how6
    have hT6 := hT5.below hb6
    have hA6 := hA5.below hb6
    have hb16 := hb15.trans (hb6.mono z5)
    have z6 := hb16.size
    clear hP5 hT5 hb15 hb6 z5 how6 hA5
    have hin : ∀ s ∈ theories n may c ++ theories n m c, s < 65536 ∧ ∃ t ∈ T, sub s t = true := fun s hs => by
      rw [HTT.out]
      rcases List.mem_append.1 hs with hs | hs
      · exact ⟨Nat.lt_of_lt_of_le (theories_lt hs) (by rw [← HM.out]; exact hp2), fewer hn16 hmM (sub_self _) hDc hs⟩
      · exact ⟨Nat.lt_of_lt_of_le (theories_lt hs) (by rw [← HM.out]; exact hp2), fewer hn16 hmM hms (fun _ h => h) hs⟩
    have hne1 := List.length_pos_iff.2 (theories_ne hDv)
    have hne2 := List.length_pos_iff.2 (theories_ne hv')
    have hl1 : (theories n may c).length ≤ 65536 := theories_len hn16
    have hl2 : (theories n m c).length ≤ 65536 := theories_len hn16
    obtain ⟨T1, hT1⟩ : ∃ T1, T1 = theories n may c := ⟨_, rfl⟩
    obtain ⟨T2, hT2⟩ : ∃ T2, T2 = theories n m c := ⟨_, rfl⟩
    rw [← hT1] at hA6 hin hne1 hl1 ⊢
    rw [← hT2] at hB6 hin hne2 hl2 ⊢
    clear hT1 hT2 hv' hms hm hmm hmb hDv hDr hDc hDl
    have e1 : ((T1.length : Int) == 0) = false := beq_eq_false_iff_ne.2 (by omega)
    have e2 : ((T2.length : Int) == 0) = false := beq_eq_false_iff_ne.2 (by omega)
    have hO := World.ownsRow_made (e := 23) (size := 1) w6 #[] 0 (Nat.le_refl _) (by decide) (by simp)
    have hS : Sl (w6.alloc (.cells #[] 23)) 1 (.slice s5 T1.length c5) T1.length (T1.map fun (j : Nat) => .int .i64 j) := hA6.alloc _
    go_wp2_with (refine wpList_append_sl rfl _ _ 24 rfl w6.heap.size 23 (.int .i64 0) 1 8 hTset infoSet rfl (by decide) _ 0 [] rfl hO _ T1.length (T1.map fun (j : Nat) => .int .i64 j) rfl hS (nats_one T1) (by rw [Nat.zero_add]; unfold maxLen; omega) (by omega) (by simp) ?_)
    intro v7 w7 h1 h2
    have b67 : Below w6.heap.size w6 w7 := grown_below (alloc_below w6 (.cells #[] 23)) hO h2 (by simp)
    clear hS hO h2
    have z67 := b67.size
    have hS := hB6.below b67
    go_wp2_with (refine wpList_append_sl rfl _ _ 24 rfl w6.heap.size 23 (.int .i64 0) 1 8 hTset infoSet rfl (by decide) _ _ _ rfl h1 _ T2.length (T2.map fun (j : Nat) => .int .i64 j) rfl hS (nats_one T2) (by unfold maxLen; omega) (by omega) (by omega) ?_)
    intro v8 w8 h3 h4
    have b68 : Below w6.heap.size w6 w8 := grown_below b67 h1 h4 (by omega)
    obtain ⟨S, hS', hSl⟩ : ∃ S, S = T1 ++ T2 ∧ S.length ≤ 200000 := ⟨_, rfl, by simp; omega⟩
    have h5 : w8.ownsRow w6.heap.size 23 1 v8 S.length (S.map fun (j : Nat) => .int .i64 j) := by
      rw [hS', List.length_append, List.map_append]
      simpa using h3
    rw [← hS'] at hin
    clear hS h1 h3 h4 b67 z67 hA6 hB6
    obtain ⟨s8, c8, rfl, hS8⟩ := own_nat h5
    clear h5 hS'
    have hT8 := hT6.below b68
    have hb18 := hb16.trans (b68.mono z6)
    have z8 := hb18.size
    clear hT6 hb16 b68 z6 e1 e2 hne1 hne2
    go_wp2
    go_loopw [19] (fun vi wr => ∃ i : Nat, i ≤ S.length ∧ vi = .int .i64 i ∧ Below w8.heap.size w8 wr) (fun vi _ => S.length - (vInt vi).toNat)
    case atStart => exact ⟨0, by omega, rfl, Below.refl _ _⟩
    case round =>
      obtain ⟨i, hi, rfl, hbr⟩ := hrel
      have zr := hbr.size
      by_cases h1 : i < S.length
      · have h1' : (i : Int) < S.length := by omega
        obtain ⟨g, o, rfl, hcx⟩ := nat_cell hS8 h1
        obtain ⟨x, hx⟩ : ∃ x, x = S[i] := ⟨_, rfl⟩
        have hxm : x ∈ S := by rw [hx]; exact List.getElem_mem h1
        rw [← hx] at hcx
        obtain ⟨hx6, t, ht, hst⟩ := hin x hxm
        obtain ⟨q, hq, hqt⟩ := List.getElem_of_mem ht
        have HX := Lib.hid hx; clear hx
        have HQ := Lib.hid hqt; clear hqt
        go_wp2
        go_loopw [20, 21] (fun vb vi ws => ∃ (k : Nat) (b : Bool), k ≤ T.length ∧ vi = .int .i64 k ∧ vb = .bool b ∧ (q < k → b = true) ∧ Below w8.heap.size w8 ws) (fun _ vi _ => T.length - (vInt vi).toNat)
        case atStart => exact ⟨0, false, by omega, rfl, rfl, fun h => absurd h (by omega), hbr⟩
        case round =>
          obtain ⟨k, b, hk, rfl, rfl, hbt, hbs⟩ := hrel
          by_cases h4 : k < T.length
          · have h4' : (k : Int) < T.length := by omega
            cases b with
            | true =>
              clear hbt hcx
              go_wp2
              go_quiet (fail)
              go_wp2
              go_roundw
              case rel => exact ⟨k + 1, true, by omega, by go_num, rfl, fun _ => rfl, below_drewN hbs _⟩
              case measure => simp [vInt]; omega
            | false =>
              obtain ⟨g2, o2, rfl, hcy⟩ := nat_cell hT8 h4
              obtain ⟨y, hy⟩ : ∃ y, y = T[k] := ⟨_, rfl⟩
              rw [← hy] at hcy
              have cx := hcx wr hbs
              have cy := hcy wr hbs
              have hym : y ∈ T := by rw [hy]; exact List.getElem_mem h4
              have hy2 := hTr y hym
              have hor := sub_or (x : Int) y (rg_nat hy2)
              have hyt : k = q → sub (x : Int) y = true := by
                intro e; subst e; rw [hy, HQ.out]; exact hst
              have HY := Lib.hid hy; clear hy
              obtain ⟨b2, hb2⟩ : ∃ b2, b2 = sub (x : Int) y := ⟨_, rfl⟩
              rw [← hb2] at hor hyt
              clear hb2 hcy hcx
              have HYT := Lib.hid hyt; clear hyt
              have HBT := Lib.hid hbt; clear hbt
              go_wp2
              go_quiet (fail)
              go_wp2
              go_roundw
              case rel =>
                refine ⟨k + 1, b2, by omega, by go_num, rfl, fun h => ?_, below_drewN hbs _⟩
                by_cases e : k = q
                · exact HYT.out e
                · have := HBT.out (by omega); cases this
              case measure => simp [vInt]; omega
          · have h4' : (T.length : Int) ≤ k := by omega
            obtain rfl := hbt (by omega)
            clear hbt hcx
            go_wp2
            go_roundw
            case rel => exact ⟨i + 1, by omega, by go_num, hbs⟩
            case measure => simp [vInt]; omega
      · have h1' : (S.length : Int) ≤ i := by omega
        go_wp2_with (fail)
        refine (lives_any wr).mono ?_
        rintro e w9 ⟨rfl, hb9⟩
        go_wp2
        go_ret
        exact ⟨rfl, (hb18.trans (hbr.mono z8)).trans (hb9.mono (by omega))⟩
  focus
    have hq : ((x : Int) != 0) = true := by simp; omega
    have hO := World.ownsRow_made (e := 23) (size := 1) w2 #[] 0 (Nat.le_refl _) (by decide) (by simp)
    have hS : Sl (w2.alloc (.cells #[] 23)) 1 (.slice sc c.length cc) c.length (c.map (.int .i64)) := hP2.sl.alloc _
    have hwp := HWP.out
    go_wp2_with (refine wpList_append_sl rfl _ _ 24 rfl w2.heap.size 23 (.int .i64 0) 1 8 hTset infoSet rfl (by decide) _ 0 [] rfl hO _ c.length (c.map (.int .i64)) rfl hS (ints_one c) (by rw [Nat.zero_add]; unfold maxLen; omega) (by omega) (by simp) ?_)
    clear hwp
    have hl3 := HL3.out
    intro v3 w3 h1 h2
    have b23 : Below w2.heap.size w2 w3 := grown_below (alloc_below w2 (.cells #[] 23)) hO h2 (by simp)
    clear hS hO h2
    have z23 := b23.size
    have HOW := World.ownsRow.alloc h1 (.cells #[.int .i64 x] 23)
    go_wp2_with (refine wpList_append_sl rfl _ _ 24 rfl w2.heap.size 23 (.int .i64 0) 1 8 hTset infoSet rfl (by decide) _ _ _ rfl HOW _ 1 [.int .i64 x] rfl (sl_new _ _ _ 1 rfl (by decide)) (by intro u hu; simp at hu; rw [hu]; rfl) (by unfold maxLen; omega) (by omega) (by simp; omega) ?_)
    intro v4 w4 h3 h4
    have hb24 : Below w2.heap.size w2 w4 := grown_below (b23.trans ((alloc_below _ _).mono z23)) HOW h4 (by simp; omega)
    obtain ⟨sD, cD, hvD, hDs, hDv, hDr, hDl, hDc⟩ : ∃ (sD : Option Addr) (cD : Nat), v4 = .slice sD (c ++ [(x : Int)]).length cD ∧ Sl w4 1 (.slice sD (c ++ [(x : Int)]).length cD) (c ++ [(x : Int)]).length ((c ++ [(x : Int)]).map (.int .i64)) ∧ valid n may (c ++ [(x : Int)]) ∧ (∀ z ∈ c ++ [(x : Int)], rg z) ∧ (c ++ [(x : Int)]).length ≤ 11 ∧ (∀ s : Nat, cl (c ++ [(x : Int)]) s = false → cl c s = false) := by
      obtain ⟨sD, cD, e, _⟩ := own_slice h3
      have hxp : (x : Int) < 2 ^ n := by
        have := HM.out
        rw [show ((2 : Int) ^ n) = ((2 ^ n : Nat) : Int) by simp]
        omega
      refine ⟨sD, cD, by rw [e]; simp, ?_, ?_, ?_, by simp; omega, fun s h => cl_append h⟩
      · have := Sl.of_owns h3
        rw [e] at this
        simpa using this
      · obtain ⟨v1, v2, v3, v4, v5, v6⟩ := hv
        refine ⟨v1, v2, by simp; omega, v4, v5, fun z hz => ?_⟩
        rcases List.mem_append.1 hz with hz | hz
        · exact v6 z hz
        · simp at hz; subst hz; simp; omega
      · intro z hz
        rcases List.mem_append.1 hz with hz | hz
        · exact hP2.hr z hz
        · simp at hz; subst hz; exact rg_nat (by omega)
    clear h1 h3 HOW b23 h4
    subst hvD
    generalize c ++ [(x : Int)] = D at hDs hDv hDr hDl hDc ⊢
    clear hq hx h0 z23
    go_wp2_with (fail)
    have hPw := hP2.below hb24
    have hTw := hT.below hb24
    have hbw := hb.trans (hb24.mono z2)
    have zw := hbw.size
    clear hP2 hT hb hb24
    refine (pall_any n may D sD cD hDv w4 hDs hDr).mono ?_
    rintro e w5 ⟨v5, rfl, how5, hb5⟩
    obtain ⟨s5, c5, rfl, hA5⟩ := own_nat how5
    have hP5 := hPw.below hb5
    have hT5 := hTw.below hb5
    have hb15 := hbw.trans (hb5.mono zw)
    have z5 := hb15.size
    clear hPw hTw hbw hb5 zw how5 hDs
    obtain ⟨m, hm, hmm, hmb⟩ := and_nat may part (by omega)
    have hv' : valid n m c := by
      obtain ⟨v1, v2, v3, v4, v5, v6⟩ := hv
      exact ⟨v1, v2, v3, Int.natCast_nonneg m, Int.lt_of_le_of_lt (Int.ofNat_le.2 hmm) v5, v6⟩
    have hms : sub m may = true := (sub_bits (Nat.lt_of_le_of_lt hmm hm6) hm6).2 hmb
    go_wp2_with (fail)
    refine (pall_any n m c sc cc hv' w5 hP5.sl hP5.hr).mono ?_
    rintro e w6 ⟨v6, rfl, how6, hb6⟩
    obtain ⟨s6, c6, rfl, hB6⟩ := own_nat how6
    have hT6 := hT5.below hb6
    have hA6 := hA5.below hb6
    have hb16 := hb15.trans (hb6.mono z5)
    have z6 := hb16.size
    clear hP5 hT5 hb15 hb6 z5 how6 hA5
    have hin : ∀ s ∈ theories n may D ++ theories n m c, s < 65536 ∧ ∃ t ∈ T, sub s t = true := fun s hs => by
      rw [HTT.out]
      rcases List.mem_append.1 hs with hs | hs
      · exact ⟨Nat.lt_of_lt_of_le (theories_lt hs) (by rw [← HM.out]; exact hp2), fewer hn16 hmM (sub_self _) hDc hs⟩
      · exact ⟨Nat.lt_of_lt_of_le (theories_lt hs) (by rw [← HM.out]; exact hp2), fewer hn16 hmM hms (fun _ h => h) hs⟩
    have hne1 := List.length_pos_iff.2 (theories_ne hDv)
    have hne2 := List.length_pos_iff.2 (theories_ne hv')
    have hl1 : (theories n may D).length ≤ 65536 := theories_len hn16
    have hl2 : (theories n m c).length ≤ 65536 := theories_len hn16
    obtain ⟨T1, hT1⟩ : ∃ T1, T1 = theories n may D := ⟨_, rfl⟩
    obtain ⟨T2, hT2⟩ : ∃ T2, T2 = theories n m c := ⟨_, rfl⟩
    rw [← hT1] at hA6 hin hne1 hl1 ⊢
    rw [← hT2] at hB6 hin hne2 hl2 ⊢
    clear hT1 hT2 hv' hms hm hmm hmb hDv hDr hDc hDl
    have e1 : ((T1.length : Int) == 0) = false := beq_eq_false_iff_ne.2 (by omega)
    have e2 : ((T2.length : Int) == 0) = false := beq_eq_false_iff_ne.2 (by omega)
    have hO := World.ownsRow_made (e := 23) (size := 1) w6 #[] 0 (Nat.le_refl _) (by decide) (by simp)
    have hS : Sl (w6.alloc (.cells #[] 23)) 1 (.slice s5 T1.length c5) T1.length (T1.map fun (j : Nat) => .int .i64 j) := hA6.alloc _
    go_wp2_with (refine wpList_append_sl rfl _ _ 24 rfl w6.heap.size 23 (.int .i64 0) 1 8 hTset infoSet rfl (by decide) _ 0 [] rfl hO _ T1.length (T1.map fun (j : Nat) => .int .i64 j) rfl hS (nats_one T1) (by rw [Nat.zero_add]; unfold maxLen; omega) (by omega) (by simp) ?_)
    intro v7 w7 h1 h2
    have b67 : Below w6.heap.size w6 w7 := grown_below (alloc_below w6 (.cells #[] 23)) hO h2 (by simp)
    clear hS hO h2
    have z67 := b67.size
    have hS := hB6.below b67
    go_wp2_with (refine wpList_append_sl rfl _ _ 24 rfl w6.heap.size 23 (.int .i64 0) 1 8 hTset infoSet rfl (by decide) _ _ _ rfl h1 _ T2.length (T2.map fun (j : Nat) => .int .i64 j) rfl hS (nats_one T2) (by unfold maxLen; omega) (by omega) (by omega) ?_)
    intro v8 w8 h3 h4
    have b68 : Below w6.heap.size w6 w8 := grown_below b67 h1 h4 (by omega)
    obtain ⟨S, hS', hSl⟩ : ∃ S, S = T1 ++ T2 ∧ S.length ≤ 200000 := ⟨_, rfl, by simp; omega⟩
    have h5 : w8.ownsRow w6.heap.size 23 1 v8 S.length (S.map fun (j : Nat) => .int .i64 j) := by
      rw [hS', List.length_append, List.map_append]
      simpa using h3
    rw [← hS'] at hin
    clear hS h1 h3 h4 b67 z67 hA6 hB6
    obtain ⟨s8, c8, rfl, hS8⟩ := own_nat h5
    clear h5 hS'
    have hT8 := hT6.below b68
    have hb18 := hb16.trans (b68.mono z6)
    have z8 := hb18.size
    clear hT6 hb16 b68 z6 e1 e2 hne1 hne2
    go_wp2
    go_loopw [19] (fun vi wr => ∃ i : Nat, i ≤ S.length ∧ vi = .int .i64 i ∧ Below w8.heap.size w8 wr) (fun vi _ => S.length - (vInt vi).toNat)
    case atStart => exact ⟨0, by omega, rfl, Below.refl _ _⟩
    case round =>
      obtain ⟨i, hi, rfl, hbr⟩ := hrel
      have zr := hbr.size
      by_cases h1 : i < S.length
      · have h1' : (i : Int) < S.length := by omega
        obtain ⟨g, o, rfl, hcx⟩ := nat_cell hS8 h1
        obtain ⟨x, hx⟩ : ∃ x, x = S[i] := ⟨_, rfl⟩
        have hxm : x ∈ S := by rw [hx]; exact List.getElem_mem h1
        rw [← hx] at hcx
        obtain ⟨hx6, t, ht, hst⟩ := hin x hxm
        obtain ⟨q, hq, hqt⟩ := List.getElem_of_mem ht
        have HX := Lib.hid hx; clear hx
        have HQ := Lib.hid hqt; clear hqt
        go_wp2
        go_loopw [20, 21] (fun vb vi ws => ∃ (k : Nat) (b : Bool), k ≤ T.length ∧ vi = .int .i64 k ∧ vb = .bool b ∧ (q < k → b = true) ∧ Below w8.heap.size w8 ws) (fun _ vi _ => T.length - (vInt vi).toNat)
        case atStart => exact ⟨0, false, by omega, rfl, rfl, fun h => absurd h (by omega), hbr⟩
        case round =>
          obtain ⟨k, b, hk, rfl, rfl, hbt, hbs⟩ := hrel
          by_cases h4 : k < T.length
          · have h4' : (k : Int) < T.length := by omega
            cases b with
            | true =>
              clear hbt hcx
              go_wp2
              go_quiet (fail)
              go_wp2
              go_roundw
              case rel => exact ⟨k + 1, true, by omega, by go_num, rfl, fun _ => rfl, below_drewN hbs _⟩
              case measure => simp [vInt]; omega
            | false =>
              obtain ⟨g2, o2, rfl, hcy⟩ := nat_cell hT8 h4
              obtain ⟨y, hy⟩ : ∃ y, y = T[k] := ⟨_, rfl⟩
              rw [← hy] at hcy
              have cx := hcx wr hbs
              have cy := hcy wr hbs
              have hym : y ∈ T := by rw [hy]; exact List.getElem_mem h4
              have hy2 := hTr y hym
              have hor := sub_or (x : Int) y (rg_nat hy2)
              have hyt : k = q → sub (x : Int) y = true := by
                intro e; subst e; rw [hy, HQ.out]; exact hst
              have HY := Lib.hid hy; clear hy
              obtain ⟨b2, hb2⟩ : ∃ b2, b2 = sub (x : Int) y := ⟨_, rfl⟩
              rw [← hb2] at hor hyt
              clear hb2 hcy hcx
              have HYT := Lib.hid hyt; clear hyt
              have HBT := Lib.hid hbt; clear hbt
              go_wp2
              go_quiet (fail)
              go_wp2
              go_roundw
              case rel =>
                refine ⟨k + 1, b2, by omega, by go_num, rfl, fun h => ?_, below_drewN hbs _⟩
                by_cases e : k = q
                · exact HYT.out e
                · have := HBT.out (by omega); cases this
              case measure => simp [vInt]; omega
          · have h4' : (T.length : Int) ≤ k := by omega
            obtain rfl := hbt (by omega)
            clear hbt hcx
            go_wp2
            go_roundw
            case rel => exact ⟨i + 1, by omega, by go_num, hbs⟩
            case measure => simp [vInt]; omega
      · have h1' : (S.length : Int) ≤ i := by omega
        go_wp2_with (fail)
        refine (lives_any wr).mono ?_
        rintro e w9 ⟨rfl, hb9⟩
        go_wp2
        go_ret
        exact ⟨rfl, (hb18.trans (hbr.mono z8)).trans (hb9.mono (by omega))⟩
end Go.Proofs.Ytnkglahiagigoaa

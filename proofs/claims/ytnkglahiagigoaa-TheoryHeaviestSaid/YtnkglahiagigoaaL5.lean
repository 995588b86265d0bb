/- theory: the law TheoryHeaviest. -/
import Derived.Test.YtnkglahiagigoaaT3
import Derived.Test.YtnkglahiagigoaaL4
namespace Go.Proofs.Ytnkglahiagigoaa
open Go.RowKit Go.Own Go.Theory Go.BigFrame Go.Shelf Go.Ib
attribute [local irreducible] theories wsum sw un wt wmin low20 bndL bndV fst cl cnf pbest sub
set_option maxRecDepth 100000 in
set_option maxHeartbeats 4000000 in
theorem law_heaviest (la lb : List Int) (a b : Option Addr) (ca cb : Nat) (hra : ∀ z ∈ la, rg z) (hrb : ∀ z ∈ lb, rg z) (w : World) (hla : Sl w 1 (.slice a la.length ca) la.length (la.map (.int .i64))) (hma : la.length ≤ maxLen)
    (hlb : Sl w 1 (.slice b lb.length cb) lb.length (lb.map (.int .i64))) (hmb : lb.length ≤ maxLen) :
    Calls Try.prog 7 #[.slice a la.length ca, .slice b lb.length cb] w fun e w' => e = .returned (.bool true) ∧ Below w.heap.size w w' := by
  go_enter Try.func7, Try.ntmps7
  go_wp2_with (fail)
  refine (base_two la a ca hra w hla hma).mono ?_
  rintro e w1 ⟨n, may, c, v, rfl, hv, hn8, hc10, hrow, hmk, hb1⟩
  obtain ⟨sc, cc, rfl, hP⟩ := hmk w1 (Sl.of_owns hrow.2)
  have hlb1 := hlb.below hb1
  have z1 := hb1.size
  clear hrow hmk hla hma hra hlb
  obtain ⟨hn16, hmM, hcl', _⟩ := valid_nat hv
  have hp2 := pow16 hn16
  have hm6 : may < 65536 := Nat.lt_of_lt_of_le hmM hp2
  have hM8 : (2 : Nat) ^ n ≤ 256 := Nat.pow_le_pow_right (n := 2) (by omega) hn8
  go_wp2_with (fail)
  refine (some_any lb n b cb (by omega) hrb w1 hlb1 hmb).mono ?_
  rintro e w2 ⟨wl, v2, rfl, hw, how2, hb2⟩
  obtain ⟨⟨s2, c2, rfl⟩, how2⟩ := Row.of how2
  have hP2 := hP.below hb2
  have hW2 := Sl.of_owns how2
  have hb12 := hb1.trans (hb2.mono z1)
  have z2 := hb12.size
  have hwn : wl.length = n := by have := hw.1; omega
  clear hP hlb1 hb1 hb2 z1 how2 hrb hmb
  -- what the three questions answer
  have hbm := fun s (hs : s ∈ theories n may c) => theories_thy hs
  have hlt := fun s (hs : s ∈ theories n may c) => theories_lt hs
  have hsp := pbest_spec (fun s => wsum wl s 16) (theories n may c) (fun t _ => (wsum_rg hw.2 t 16).1)
  have hbest := fun w' (h : Prob w' n may c sc cc) h' => pbest_any n may c wl sc s2 cc c2 hv hw w' h.sl h.hr h'
  rcases hsp with ⟨he, _⟩ | ⟨q1, q2, q3⟩
  · exact absurd he (theories_ne hv)
  obtain ⟨s, hs⟩ : ∃ s, s = (pbest (fun s => wsum wl s 16) (theories n may c)).1 := ⟨_, rfl⟩
  obtain ⟨most, hmost⟩ : ∃ m, m = (pbest (fun s => wsum wl s 16) (theories n may c)).2 := ⟨_, rfl⟩
  rw [← hs] at q1 q2
  rw [← hmost] at q2 q3
  simp only [← hs, ← hmost] at hbest
  have hs1 := hbm s q1
  have hs2 := hlt s q1
  have hsN : cl c s = false := cl_false hs1.2.1
  have q2' : most = wsum wl s wl.length := by rw [q2]; exact wsum16 s (by omega)
  have hxs : ∀ x : Nat, sub x may = true → x < 2 ^ n → cl c x = false → wsum wl x wl.length ≤ most := fun x h1 h2 h3 => by
    obtain ⟨t, ht, hst⟩ := in_theory (l := c) hn16 hmM h1 h2 h3
    have h4 := q3 t ht
    have h5 := wsum_mono hw.2 ((sub_bits (s := x) (may := t) (by omega) (by have := hlt t ht; omega)).1 hst) 16
    rw [← wsum16 x (by omega)]
    omega
  have hge : most ≤ bndV wl c may := by rw [q2]; exact bound_ge hv hw.2 hs1.1 hs2 hsN
  have hfree : cl c may = false → s = may ∧ bndL wl c may = [] ∧ bndV wl c may = most := fun h => by
    have e := free_all hv h q1
    refine ⟨e, free_none h, ?_⟩
    rw [bndV_eq (cnf_ne hv), free_none h, q2, e]
    simp [sw]
  have hbV := bndV_eq (wl := wl) (may := may) (cnf_ne hv)
  have hbmem := fun i (h : i ∈ bndL wl c may) => bndL_mem h
  have hbap := bndL_apart (wl := wl) (may := may) (cnf_ne hv)
  have hbound := fun w' (h : Prob w' n may c sc cc) h' => pbound_any n may c wl sc s2 cc c2 hv hw (by omega) w' h.sl h.hr h'
  have hmw := wsum_rg hw.2 may 16
  have hLl := bndL_len wl c may
  obtain ⟨B, hB⟩ : ∃ B, B = bndL wl c may := ⟨_, rfl⟩
  obtain ⟨V, hV⟩ : ∃ V, V = bndV wl c may := ⟨_, rfl⟩
  rw [← hB] at hbV hbap hfree hLl
  rw [← hV] at hge hbV hfree
  simp only [← hB] at hbmem
  simp only [← hB, ← hV] at hbound
  have HB := Lib.hid hB; clear hB
  have HV := Lib.hid hV; clear hV
  have HS := Lib.hid hs; clear hs
  have HMO := Lib.hid hmost; clear hmost
  have Q2 := Lib.hid q2; clear q2
  have Q2' := Lib.hid q2'; clear q2'
  have HBV := Lib.hid hbV; clear hbV
  have HWN := Lib.hid hwn; clear hwn
  clear q1 q3 hbm hlt
  go_wp2_with (fail)
  refine (hbest w2 hP2 hW2).mono ?_
  clear hbest
  rintro e w3 ⟨rfl, hb3⟩
  have hP3 := hP2.below hb3
  have hW3 := hW2.below hb3
  have hb13 := hb12.trans (hb3.mono z2)
  have z3 := hb13.size
  clear hP2 hW2 hb12 hb3 z2
  have hck := pcheck_any n may s c sc cc hv (by omega) hs1.1 w3 hP3.sl hP3.hr
  rw [thy_chk hs1] at hck
  go_wp2_with (fail)
  refine hck.mono ?_
  clear hck
  rintro e w4 ⟨v4, rfl, _, hb4⟩
  have hP4 := hP3.below hb4
  have hW4 := hW3.below hb4
  have hb14 := hb13.trans (hb4.mono z3)
  have z4 := hb14.size
  clear hP3 hW3 hb13 hb4 z3
  go_wp2_with (fail)
  refine (hbound w4 hP4 hW4).mono ?_
  clear hbound
  rintro e w5 ⟨v5, rfl, how5, hb5⟩
  have hP5 := hP4.below hb5
  have hW5 := hW4.below hb5
  have hb15 := hb14.trans (hb5.mono z4)
  have z5 := hb15.size
  obtain ⟨sB, cB, rfl, hT5⟩ := own_nat how5
  clear hP4 hW4 hb14 hb5 z4 how5
  have hwt := fun (x : Nat) (hx : x < 65536) w' (h : Below w5.heap.size w5 w') => weight_any wl x s2 c2 hx w' (hW5.below h) (by have := HWN.out; omega) hw.2
  have hws := hwt s (by omega) w5 (Below.refl _ _)
  rw [← Q2'.out] at hws
  go_wp2_with (fail)
  refine hws.mono ?_
  clear hws
  rintro e w6 ⟨rfl, rfl⟩
  have hge' : (V < most) = False := by simp; omega
  have HMW := Lib.hid hmw; clear hmw
  have HLL := Lib.hid hLl; clear hLl
  obtain ⟨M, hM⟩ : ∃ M, M = 2 ^ n := ⟨_, rfl⟩
  have hwp := wrap_pow hn16
  rw [← hM] at hp2 hwp hM8 hxs
  have HWP := Lib.hid hwp; clear hwp
  have HM := Lib.hid hM; clear hM
  have HC10 := Lib.hid hc10; clear hc10
  clear hge hs2 hmM hM8
  go_wp2
  go_loopw [17] (fun vx wq => ∃ x : Nat, x ≤ M ∧ vx = .int .i64 x ∧ Below w6.heap.size w6 wq) (fun vx _ => M - (vInt vx).toNat)
  case atStart => exact ⟨0, by omega, rfl, Below.refl _ _⟩
  case round =>
    obtain ⟨x, hx, rfl, hbq⟩ := hrel
    have zq := hbq.size
    by_cases h3 : x < M
    · have h3' : (x : Int) < M := by omega
      have hPq := hP5.below hbq
      have hfi := first_any c x sc cc (rg_nat (by omega)) wr hPq.sl (by have := hPq.hl; omega)
      by_cases hsm : sub x may = true
      · have hand : (bits .and .i64 (x : Int) (may : Int) == (x : Int)) = true := by
          rw [b_and x may (by omega) (by omega)]
          have := (sub_bits (s := x) (may := may) (by omega) (by omega)).1 hsm
          have e : x &&& may = x := Nat.eq_of_testBit_eq fun j => by
            rw [Nat.testBit_and]
            cases hj : x.testBit j with
            | true => rw [this j hj]; rfl
            | false => rfl
          rw [e]; simp
        cases hcl : cl c x with
        | true =>
          have hf0 : (0 : Int) ≤ fst c x := by rw [cl_fst] at hcl; exact of_decide_eq_true hcl
          clear hxs
          have hwp := HWP.out
          go_wp2_with (fail)
          clear hwp
          refine hfi.mono ?_
          clear hfi
          rintro e w3 ⟨rfl, rfl⟩
          go_wp2
          go_roundw
          case rel => exact ⟨x + 1, by omega, by go_num, hbq⟩
          case measure => simp [vInt]; omega
        | false =>
          have hf0 := fst_neg hcl
          have hle := hxs x hsm h3 hcl
          obtain ⟨y, hy⟩ : ∃ y, y = wsum wl x wl.length := ⟨_, rfl⟩
          have hwx := hwt x (by omega) wr hbq
          rw [← hy] at hle hwx
          clear hy hxs
          have hle' : (most < y) = False := by simp; omega
          have hwp := HWP.out
          go_wp2_with (fail)
          clear hwp
          refine hfi.mono ?_
          clear hfi
          rintro e w3 ⟨rfl, rfl⟩
          go_wp2_with (fail)
          refine hwx.mono ?_
          clear hwx
          rintro e w3' ⟨rfl, rfl⟩
          go_wp2
          go_roundw
          case rel => exact ⟨x + 1, by omega, by go_num, hbq⟩
          case measure => simp [vInt]; omega
      · have hand : (bits .and .i64 (x : Int) (may : Int) == (x : Int)) = false := by
          rw [b_and x may (by omega) (by omega)]
          have : ¬ x &&& may = x := fun e => hsm ((sub_bits (by omega) (by omega)).2 fun j hj => by
            rw [← e, Nat.testBit_and, Bool.and_eq_true] at hj; exact hj.2)
          simp; omega
        clear hfi hxs
        have HSM := Lib.hid hsm; clear hsm
        clear hge' hfree hbap hbmem hcl' hwt hs1 hsN hn8
        have hwp := HWP.out
        go_wp2
        clear hwp
        go_roundw
        case rel => exact ⟨x + 1, by omega, by go_num, hbq⟩
        case measure => simp [vInt]; omega
    · have h3' : (M : Int) ≤ x := by omega
      obtain ⟨w9, h9⟩ : ∃ w9, w9 = wr := ⟨_, rfl⟩
      subst h9
      have hP9 := hP5.below hbq
      have hT9 := hT5.below hbq
      have hW9 := hW5.below hbq
      have hb9 := hb15.trans (hbq.mono z5)
      have z9 := hb9.size
      have hw9 := hwt may (by omega) w9 hbq
      rw [← wsum16 may (by have := HWN.out; omega)] at hw9
      clear hP5 hT5 hW5 hb15 hbq z5 zq hwt hxs hx h3
      obtain ⟨R0, hR0⟩ : ∃ R0, R0 = wsum wl may 16 := ⟨_, rfl⟩
      rw [← hR0] at hw9
      have hmw := HMW.out
      rw [← hR0] at hmw
      have HMW2 := Lib.hid hmw; clear hmw
      have HR0 := Lib.hid hR0; clear hR0
      have hwp := HWP.out
      go_wp2_with (fail)
      clear hwp h3'
      have hmw := HMW2.out
      have hLl := HLL.out
      have hc10 := HC10.out
      refine hw9.mono ?_
      clear hw9
      rintro e w6' ⟨rfl, rfl⟩
      go_wp2
      go_loopw [18, 19, 20] (fun vr vu vi wq => ∃ i : Nat, i ≤ B.length ∧ vi = .int .i64 i ∧ vr = .int .i64 (R0 - sw wl c (B.take i)) ∧ vu = .int .i64 (un c (B.take i) : Nat) ∧ wq = w6') (fun _ _ vi _ => B.length - (vInt vi).toNat)
      case atStart => exact ⟨0, by omega, rfl, by simp [sw], by simp [un], rfl⟩
      case round =>
        obtain ⟨i, hi, rfl, rfl, rfl, rfl⟩ := hrel
        by_cases h4 : i < B.length
        · have h4' : (i : Int) < B.length := by omega
          have hut := un_take (l := c) h4
          have hst := sw_take (wl := wl) (l := c) h4
          have hap := take_apart hbap h4
          have hul : un c (B.take i) < 65536 := Nat.lt_of_lt_of_le (un_lt (n := n) (B.take i) fun j hj => (cnf_cast hv (hbmem j (List.mem_of_mem_take hj)).1).2) (pow16 hn16)
          have hswi := sw_rg (l := c) hw.2 (B.take i)
          obtain ⟨gB, oB, rfl, hcB⟩ := nat_cell hT9 h4
          obtain ⟨j, hj⟩ : ∃ j, j = B[i] := ⟨_, rfl⟩
          have hjm : j ∈ B := by rw [hj]; exact List.getElem_mem h4
          obtain ⟨hj1, hj2⟩ := hbmem j hjm
          rw [← hj] at hcB hut hst hap
          obtain ⟨hcj, hcjl⟩ := cnf_cast hv hj1
          replace hcjl := Nat.lt_of_lt_of_le hcjl (pow16 hn16)
          rw [cnf_getD hv hj1] at hj2
          have hlw := low_wt hv hw hj1
          have hwtr := wt_rg (l := c) hw.2 j
          obtain ⟨gc, oc, rfl, _, _, hCc, _⟩ := sl_at hP9.sl (by omega)
          have cB := hcB wr (Below.refl _ _)
          have cj : wr.cell? ⟨gc, oc + j, none⟩ = some (.int .i64 (cnf c j : Nat)) := hCc j _ (by rw [hcj]; simp [hj1])
          have hlen12 : (B.take i).length ≤ 10 := by rw [List.length_take]; omega
          have hswb : 0 ≤ R0 - sw wl c (B.take i) + 1000000 ∧ R0 - sw wl c (B.take i) ≤ 1000000 := by omega
          obtain ⟨d, hd⟩ : ∃ d, d = cnf c j := ⟨_, rfl⟩
          obtain ⟨u, hu⟩ : ∃ u, u = un c (B.take i) := ⟨_, rfl⟩
          obtain ⟨r, hr⟩ : ∃ r, r = R0 - sw wl c (B.take i) := ⟨_, rfl⟩
          rw [← hd] at cj hut hap hcjl hlw hj2
          rw [← hu] at hut hap hul ⊢
          rw [← hr] at hswb ⊢
          have hrn : R0 - sw wl c (B.take (i + 1)) = r - wt wl c j := by rw [hst, hr]; omega
          have hdu : bits .and .i64 (d : Int) (u : Int) = 0 := by rw [b_and d u (by omega) (by omega), hap]; rfl
          have hdm : bits .andNot .i64 (d : Int) (may : Int) = 0 := by
            have := sub_andNot (d : Int) (may : Int)
            rw [hj2] at this
            simpa using this
          have hou : bits .or .i64 (u : Int) (d : Int) = ((u ||| d : Nat) : Int) := b_or u d (by omega) (by omega)
          have hjc : (j : Int) < c.length := by omega
          have hj0 : ((j : Int) < 0) = False := eq_false (by omega)
          have hj1 : (c.length ≤ j) = False := eq_false (by omega)
          have hj4 : ((c.length : Int) ≤ (j : Int)) = False := eq_false (by omega)
          have HD := Lib.hid hd; clear hd
          have HU := Lib.hid hu; clear hu
          have HR := Lib.hid hr; clear hr
          have HJ := Lib.hid hj; clear hj
          have HUT := Lib.hid hut; clear hut
          have HST := Lib.hid hst; clear hst
          have HRN := Lib.hid hrn; clear hrn
          have HCJ := Lib.hid hcj; clear hcj
          have HLW := Lib.hid hlw; clear hlw
          clear hap hcB hswi hCc hbap hbmem
          go_wp2
          go_loopw [21, 22] (fun vl vk wq => ∃ k : Nat, k ≤ n ∧ vk = .int .i64 k ∧ vl = .int .i64 (low20 wl d k) ∧ wq = wr) (fun _ vk _ => n - (vInt vk).toNat)
          case atStart => exact ⟨0, by omega, rfl, by simp [low20], rfl⟩
          case round =>
            obtain ⟨k, hk, rfl, rfl, rfl⟩ := hrel
            by_cases h5 : k < n
            · have h5' : (k : Int) < n := by omega
              have hwk : k < wl.length := by have := HWN.out; omega
              obtain ⟨gw, ow, rfl, _, _, hCw, _⟩ := sl_at hW9 (by omega)
              have hw1 := low_rg hw.2 d k
              have hw2 := getD_wt hw.2 k
              obtain ⟨x, hx⟩ : ∃ x, x = wl.getD k 0 := ⟨_, rfl⟩
              have cx : wr.cell? ⟨gw, ow + k, none⟩ = some (.int .i64 x) := hCw k _ (by simp [hwk, hx])
              rw [← hx] at hw2
              have HX := Lib.hid hx; clear hx
              obtain ⟨y, hy⟩ : ∃ y, y = low20 wl d k := ⟨_, rfl⟩
              rw [← hy] at hw1 ⊢
              have HY := Lib.hid hy; clear hy
              have hwk' : (k : Int) < wl.length := by omega
              go_wp2_with (fail)
              refine (has_any d k (by omega) (by omega) wr).mono ?_
              rintro e w2' ⟨rfl, rfl⟩
              cases hb : d.testBit k with
              | true =>
                have hn : low20 wl d (k + 1) = min y x := by rw [low20, if_pos hb, ← HX.out, ← HY.out]
                have HN := Lib.hid hn; clear hn
                go_wp2
                go_roundw
                case rel => exact ⟨k + 1, by omega, by go_num, by rw [HN.out], trivial⟩
                case measure => simp [vInt]; omega
              | false =>
                have hn : low20 wl d (k + 1) = y := by rw [low20, if_neg (by simp [hb]), ← HY.out]
                have HN := Lib.hid hn; clear hn
                go_wp2
                go_roundw
                case rel => exact ⟨k + 1, by omega, by go_num, by rw [HN.out], trivial⟩
                case measure => simp [vInt]; omega
            · obtain rfl : k = n := by omega
              rw [HLW.out]
              obtain ⟨t, ht⟩ : ∃ t, t = wt wl c j := ⟨_, rfl⟩
              rw [← ht] at hwtr ⊢
              have HT := Lib.hid ht; clear ht
              go_wp2
              go_roundw
              case rel => exact ⟨i + 1, by omega, by go_num, by rw [HRN.out, ← HT.out], by rw [HUT.out], trivial⟩
              case measure => simp [vInt]; omega
        · have h4' : (B.length : Int) ≤ i := by omega
          have e1 : B.take i = B := List.take_of_length_le (by omega)
          have hRV : R0 - sw wl c (B.take i) = V := by rw [e1, HBV.out, ← HR0.out]
          rw [hRV]
          have hfi := first_any c may sc cc (rg_nat (by omega)) wr hP9.sl (by have := hP9.hl; omega)
          clear hbmem hbap hi h4 e1 hRV
          go_wp2_with (fail)
          refine hfi.mono ?_
          clear hfi
          rintro e w7 ⟨rfl, rfl⟩
          cases hcl : cl c may with
          | true =>
            have hf0 : (0 : Int) ≤ fst c may := by rw [cl_fst] at hcl; exact of_decide_eq_true hcl
            clear hfree
            go_wp2_with (fail)
            refine (lives_any w7).mono ?_
            rintro e w8 ⟨rfl, hb8⟩
            go_wp2
            go_ret
            exact ⟨rfl, hb9.trans (hb8.mono (by omega))⟩
          | false =>
            have hf0 := fst_neg hcl
            obtain ⟨e1, e2, e3⟩ := hfree hcl
            have e2' : ((B.length : Int) == 0) = true := by rw [e2]; rfl
            subst e1
            subst e3
            clear hfree e2
            go_wp2_with (fail)
            refine (lives_any w7).mono ?_
            rintro e w8 ⟨rfl, hb8⟩
            go_wp2
            go_ret
            exact ⟨rfl, hb9.trans (hb8.mono (by omega))⟩
end Go.Proofs.Ytnkglahiagigoaa

/- label: the program's Check. -/
import Derived.Test.YtcbmifaobdamhaaA19
namespace Go.Label
/-- a rule of a proof -/
def chkStep (b : Lg) (st : Nat × Bool) (i : Int) : Option (Nat × Bool) :=
  if i < 0 ∨ (b.rules.length : Int) ≤ i then none
  else if bdy (b.rules.getD i.toNat rl0).body st.1 then some (if (b.rules.getD i.toNat rl0).head < 0 then (st.1, true) else (st.1 ||| 2 ^ (b.rules.getD i.toNat rl0).head.toNat, st.2)) else none
def chkN (b : Lg) (s : Nat) (p : List Int) : Nat → Option (Nat × Bool)
  | 0 => some (giv b s, false)
  | j + 1 => (chkN b s p j).bind fun st => chkStep b st (p.getD j 0)
theorem chkN_none {b : Lg} {s : Nat} {p : List Int} {j : Nat} (h : chkN b s p j = none) : ∀ d, chkN b s p (j + d) = none
  | 0 => h
  | d + 1 => by rw [← Nat.add_assoc]; show (chkN b s p (j + d)).bind _ = none; rw [chkN_none h d]; rfl
def provB (fact : Int) (st : Nat × Bool) : Bool := if fact < 0 then st.2 else st.1.testBit fact.toNat
def checkE (b : Lg) (isb : Bool) (s : Nat) (fact : Int) (p : List Int) : Int :=
  if fitsE b isb fact ≠ 0 then fitsE b isb fact else match chkN b s p p.length with
    | none => 22
    | some st => if provB fact st then 0 else 22
theorem fits0 {b : Lg} {isb : Bool} {fact : Int} (h : fitsE b isb fact = 0) : valE b = 0 ∧ isb = true ∧ -1 ≤ fact ∧ fact < b.facts := by
  unfold fitsE at h
  by_cases h1 : valE b = 0
  · rw [if_neg (by simpa using h1)] at h
    by_cases h2 : isb = false ∨ fact < -1 ∨ b.facts ≤ fact
    · rw [if_pos h2] at h; cases h
    · cases isb with
      | false => exact absurd (.inl rfl) h2
      | true => exact ⟨h1, rfl, Int.not_lt.1 fun e => h2 (.inr (.inl e)), Int.not_le.1 fun e => h2 (.inr (.inr e))⟩
  · rw [if_pos h1] at h; exact absurd h h1
end Go.Label
namespace Go.Proofs.Ytcbmifaobdamhaa
open Go.RowKit Go.Own Go.Theory Go.BigFrame Go.Ib Go.Label Go.Shelf
attribute [local irreducible] SqC.SqW
set_option maxRecDepth 100000 in
set_option maxHeartbeats 4000000 in
theorem pcheck_any (b : Lg) (s fact : Int) (p : List Int) (sa sr sp : Option Addr) (ca cr cp : Nat) (bs : List Value) (hrg : LgRg b) (w : World) (h : LgAt w b sa sr ca cr bs) (hal : True) (hp : Sl w 1 (.slice sp p.length cp) p.length (p.map (.int .i64))) (hpl : p.length ≤ 1000000) :
    Calls Try.prog 27 #[lgV b sa sr ca cr, .int .i64 s, .int .i64 fact, .slice sp p.length cp] w fun e w' => e = .returned (.int .i64 (checkE b (isB b s) s.toNat fact p)) ∧ Below w.heap.size w w' := by
  have hlgV : lgV b sa sr ca cr = .agg #[.int .i64 b.facts, .slice sa b.assume.length ca, .slice sr b.rules.length cr] := rfl
  have hbox := box_new w b sa sr ca cr 25
  obtain ⟨W1, hW1⟩ : ∃ W1, W1 = w.alloc (.cells #[.int .i64 b.facts, .slice sa b.assume.length ca, .slice sr b.rules.length cr] 25) := ⟨_, rfl⟩
  have hblk : Blk W1 w.heap.size [.int .i64 b.facts, .slice sa b.assume.length ca, .slice sr b.rules.length cr] 25 := by rw [hW1]; exact Blk.new w #[.int .i64 b.facts, .slice sa b.assume.length ca, .slice sr b.rules.length cr] 25
  rw [← hW1] at hbox
  have hH := h.below hbox.b1
  have hv := fits_any b s fact sa sr ca cr bs hrg W1 hH hal
  rw [hlgV] at hv ⊢
  have hpW := hp.below hbox.b1
  have HPW := Lib.hid hpW; clear hpW hp
  have HBLK := Lib.hid hblk; clear hblk
  have HBOX := Lib.hid hbox; clear hbox
  have HH := Lib.hid hH; clear hH h
  have HW1 := Lib.hid hW1; clear hW1
  have HV := Lib.hid hv; clear hv hrg
  have HLV := Lib.hid hlgV; clear hlgV
  have hce : checkE b (isB b s) s.toNat fact p = if fitsE b (isB b s) fact ≠ 0 then fitsE b (isB b s) fact else match chkN b s.toNat p p.length with
    | none => 22
    | some st => if provB fact st then 0 else 22 := rfl
  have hf0 : fitsE b (isB b s) fact = 0 → _ := fits0
  obtain ⟨R, hR⟩ : ∃ R, R = checkE b (isB b s) s.toNat fact p := ⟨_, rfl⟩
  rw [← hR] at hce ⊢
  clear hR
  obtain ⟨E, hE⟩ : ∃ E, E = fitsE b (isB b s) fact := ⟨_, rfl⟩
  rw [← hE] at hce hf0 HV
  clear hE
  have HCE := Lib.hid hce; clear hce
  have HF0 := Lib.hid hf0; clear hf0
  go_enter Try.func27, Try.ntmps27
  go_wp2_with (fail)
  rw [← HW1.out]
  refine HV.out.mono ?_
  rintro e w2 ⟨rfl, b2⟩
  by_cases hv : E = 0
  · subst hv
    obtain ⟨v1, v2, v3, v4⟩ := HF0.out rfl
    have HOK := Lib.hid (valE_ok.1 v1)
    obtain ⟨m, rfl, hm⟩ := isB_nat HOK.out v2
    have hR : R = match chkN b m p p.length with
      | none => 22
      | some st => if provB fact st then 0 else 22 := by
      have h := HCE.out
      rwa [if_neg (by simp), Int.toNat_natCast] at h
    have HR := Lib.hid hR; clear hR HCE HF0 v1 v2
    have hf64 := HOK.out.f64
    have hr64 := HOK.out.r64
    have HB2 := Lib.hid b2
    go_wp2
    have eX : Below W1.heap.size W1 w2.drew := b2.drew
    haveI : Nonempty (SqC.Come fun U => Below W1.heap.size W1 U) := ⟨⟨_, eX⟩⟩
    refine SqC.wp_region_sqc 8 [2, 4] (fun U => Below W1.heap.size W1 U) (by kernel_rfl) (by kernel_rfl) (by kernel_rfl) eX ?_
    obtain ⟨wd, hwd⟩ : ∃ wd : World, wd = w2.drew := ⟨_, rfl⟩
    rw [← hwd] at eX ⊢
    clear hwd b2
    have hld : ∀ U, Below W1.heap.size W1 U → (loadVar 25 ⟨w.heap.size, 0, none⟩).run Try.prog U = .ok (.agg #[.int .i64 b.facts, .slice sa b.assume.length ca, .slice sr b.rules.length cr]) U := fun U hU =>
      run_load_agg (P := Try.prog) (ty := 25) (HBLK.out.below hU HBLK.out.lt).cells0 aggB infoB
    refine SqC.value (.agg #[.int .i64 b.facts, .slice sa b.assume.length ca, .slice sr b.rules.length cr]) rfl rfl (by intro U hU; exact load_agg_exec rfl rfl (hld U hU)) ?_
    simp only [Act.put, List.setIfInBounds_toArray, List.set_cons_zero, List.set_cons_succ]
    refine SqC.quiet rfl rfl ?_; go_big_quiet_step (fail); refine wpQuiet_nil ?_
    refine SqC.effect rfl rfl ?_
    have hcg := given_any b m sa sr ca cr bs HOK.out hm wd (HH.out.below eX)
    rw [HLV.out] at hcg
    refine yields_call rfl (by kernel_rfl) rfl rfl (hcg.mono ?_)
    rintro e w3 ⟨rfl, b3⟩
    have e3 : Below W1.heap.size W1 w3 := eX.trans (b3.mono eX.size)
    refine ⟨_, rfl, fun _ => e3, ?_⟩
    simp only [Act.put, List.setIfInBounds_toArray, List.set_cons_zero, List.set_cons_succ]
    refine SqC.value (.agg #[.int .i64 b.facts, .slice sa b.assume.length ca, .slice sr b.rules.length cr]) rfl rfl (by intro U hU; exact load_agg_exec rfl rfl (hld U hU)) ?_
    simp only [Act.put, List.setIfInBounds_toArray, List.set_cons_zero, List.set_cons_succ]
    refine SqC.effect rfl rfl ?_
    have hcm := masks_any b sa sr ca cr bs HOK.out w3 (HH.out.below e3)
    rw [HLV.out] at hcm
    refine yields_call rfl (by kernel_rfl) rfl rfl (hcm.mono ?_)
    rintro e w4 ⟨G, hG, rfl, hg, b4⟩
    have e4 : Below W1.heap.size W1 w4 := e3.trans (b4.mono e3.size)
    refine ⟨_, rfl, fun _ => e4, ?_⟩
    simp only [Act.put, List.setIfInBounds_toArray, List.set_cons_zero, List.set_cons_succ]
    iterate 3 (refine SqC.quiet rfl rfl ?_; go_big_quiet_step (fail); refine wpQuiet_nil ?_)
    refine SqC.nil ?_
    clear hld hcg hcm b3 b4 eX e3 HB2
    have hHw := HH.out.below e4
    have hPw := HPW.out.below e4
    obtain ⟨c0, c1, c2⟩ := HBOX.out.cell w4 e4
    have HHW := Lib.hid hHw; clear hHw
    have HPP := Lib.hid hPw; clear hPw
    have HG := Lib.hid hg; clear hg
    have HB4 := Lib.hid (HBOX.out.below e4); clear e4
    have hK0 := givN_lt HOK.out m _ (Nat.le_refl _)
    obtain ⟨K0, hKe⟩ : ∃ K0, K0 = giv b m := ⟨_, rfl⟩
    have hst0 : chkN b m p 0 = some (K0, false) := by rw [hKe]; rfl
    unfold giv at hKe
    rw [← hKe] at hK0
    obtain ⟨K1, hK1⟩ : ∃ K1, K1 = giv b m := ⟨_, rfl⟩
    have hK01 : K1 = K0 := by rw [hK1, hKe]; rfl
    rw [← hK1, hK01]
    clear hK1 hK01 hKe
    have HST0 := Lib.hid hst0; clear hst0
    obtain ⟨n, hn⟩ : ∃ n, n = b.rules.length := ⟨_, rfl⟩
    have HN := Lib.hid hn
    rw [← hn] at c2 hr64 ⊢
    clear hn
    go_wp2
    go_loopw [10, 12, 30] (fun v10 v12 vi wq => ∃ (j K : Nat) (bad : Bool), j ≤ p.length ∧ vi = .int .i64 j ∧ v10 = .int .u64 K ∧ v12 = .bool bad ∧ chkN b m p j = some (K, bad) ∧ K < 18446744073709551616 ∧ wq = w4) (fun _ _ vi _ => p.length - (vInt vi).toNat)
    case atStart => exact ⟨0, K0, false, by omega, rfl, rfl, rfl, HST0.out, hK0, rfl⟩
    case round =>
      clear HST0 hK0
      obtain ⟨j, K, bad, hj, rfl, rfl, rfl, hst, hK, rfl⟩ := hrel
      have HST := Lib.hid hst; clear hst
      by_cases h1 : j < p.length
      · have h1' : (j : Int) < p.length := by omega
        obtain ⟨gp, op, rfl, _, _, hCp, _⟩ := sl_at HPP.out (by omega)
        obtain ⟨x, hx⟩ : ∃ x, x = p[j] := ⟨_, rfl⟩
        have cx : wr.cell? ⟨gp, op + j, none⟩ = some (.int .i64 x) := hCp j _ (by simp [h1, hx])
        have hnext : chkN b m p (j + 1) = chkStep b (K, bad) x := by
          show (chkN b m p j).bind _ = _
          rw [HST.out, getD_eq 0 h1, ← hx]; rfl
        have hbadR : chkStep b (K, bad) x = none → R = 22 := fun h => by
          have h2 := chkN_none (hnext.trans h) (p.length - (j + 1))
          rw [show j + 1 + (p.length - (j + 1)) = p.length by omega] at h2
          rw [HR.out, h2]
        have HNX := Lib.hid hnext; clear hnext hx hCp
        have HBR := Lib.hid hbadR; clear hbadR
        by_cases h2 : x < 0
        · have e : chkStep b (K, bad) x = none := by unfold chkStep; rw [if_pos (.inl h2)]
          have E := Lib.hid (HBR.out e); clear e
          go_wp2
          go_ret
          exact ⟨by rw [E.out]; rfl, HB4.out⟩
        have h2' : (x < 0) = False := eq_false h2
        by_cases h3 : (n : Int) ≤ x
        · have e : chkStep b (K, bad) x = none := by unfold chkStep; rw [if_pos (.inr (by rw [← HN.out]; exact h3))]
          have E := Lib.hid (HBR.out e); clear e
          go_wp2
          go_ret
          exact ⟨by rw [E.out]; rfl, HB4.out⟩
        have h3' : ((n : Int) ≤ x) = False := eq_false h3
        obtain ⟨i, rfl⟩ : ∃ i : Nat, x = i := ⟨x.toNat, by omega⟩
        have hi : i < n := by omega
        have h3'' : (n ≤ i) = False := eq_false (by omega)
        have hin : i < b.rules.length := by have := HN.out; omega
        have hstep : chkStep b (K, bad) i = if bdy b.rules[i].body K then some (if b.rules[i].head < 0 then (K, true) else (K ||| 2 ^ b.rules[i].head.toNat, bad)) else none := by
          unfold chkStep
          rw [if_neg (by have := HN.out; omega), Int.toNat_natCast, getD_eq rl0 hin]
        obtain ⟨g, o, sb, cb, rfl, hc, hbd⟩ := HHW.out.rule hin
        obtain ⟨k0, k1⟩ := hc wr (Below.refl _ _)
        clear hbd hc k1
        have hb64 : ∀ f ∈ b.rules[i].body, 0 ≤ f ∧ f < 64 := fun f hf => by
          have h := HOK.out.body _ (List.getElem_mem hin) f hf
          omega
        have hhr := HOK.out.head _ (List.getElem_mem hin)
        obtain ⟨M, hMe⟩ : ∃ M, M = msk b.rules[i].body := ⟨_, rfl⟩
        have cm : wr.cell? ⟨G, i, none⟩ = some (.int .u64 M) := HG.out.cell (by rw [List.getElem?_map, List.getElem?_eq_getElem hin, hMe]; rfl)
        have hM64 : M < 18446744073709551616 := by rw [hMe]; exact mskN_lt hb64 _ (Nat.le_refl _)
        have hbm := bdy_msk hb64 K
        rw [← hMe] at hbm
        have hand := bu_andNot M K hM64 hK
        obtain ⟨D, hD⟩ : ∃ D, D = diff M K := ⟨_, rfl⟩
        rw [← hD] at hand hbm
        obtain ⟨hd, hhd⟩ : ∃ hd, hd = b.rules[i].head := ⟨_, rfl⟩
        rw [← hhd] at k0 hhr hstep
        have HSTEP := Lib.hid hstep; clear hstep hhd
        have HBM := Lib.hid hbm; clear hbm
        clear hMe hb64 hM64 hD h2 h3
        by_cases hD0 : D = 0
        · subst hD0
          have hbt := HBM.out.1 rfl
          by_cases hh : hd < 0
          · have e : chkN b m p (j + 1) = some (K, true) := by rw [HNX.out, HSTEP.out, if_pos hbt, if_pos hh]
            have EE := Lib.hid e; clear e hbt
            go_wp2
            go_roundw
            case rel => exact ⟨j + 1, K, true, by omega, by go_num, rfl, rfl, EE.out, hK, trivial⟩
            case measure => simp [vInt]; omega
          · obtain ⟨q, rfl⟩ : ∃ q : Nat, hd = q := ⟨hd.toNat, by omega⟩
            have hq64 : q < 64 := by omega
            have hp := wu_pow hq64
            have hp2 := pow64 hq64
            have e : chkN b m p (j + 1) = some (K ||| 2 ^ q, bad) := by rw [HNX.out, HSTEP.out, if_pos hbt, if_neg hh, Int.toNat_natCast]
            obtain ⟨Y, hY⟩ : ∃ Y, Y = 2 ^ q := ⟨_, rfl⟩
            rw [← hY] at hp hp2 e
            have hor := bu_or K Y hK hp2
            have hlt : K ||| Y < 18446744073709551616 := Nat.or_lt_two_pow (n := 64) hK hp2
            have EE := Lib.hid e; clear e hY hbt
            have hneg : ((q : Int) < 0) = False := eq_false (by omega)
            go_wp2
            go_roundw
            case rel => exact ⟨j + 1, K ||| Y, bad, by omega, by go_num, rfl, rfl, EE.out, hlt, trivial⟩
            case measure => simp [vInt]; omega
        · have hD1 : ((D : Int) = 0) = False := eq_false (by omega)
          have hD2 : ((D : Int) == 0) = false := by simpa using hD0
          have hbf : ¬ bdy b.rules[i].body K = true := fun h => hD0 (HBM.out.2 h)
          have e : chkStep b (K, bad) i = none := by rw [HSTEP.out, if_neg hbf]
          have E := Lib.hid (HBR.out e); clear e hbf hD0
          go_wp2
          go_ret
          exact ⟨by rw [E.out]; rfl, HB4.out⟩
      · have h1' : (p.length : Int) ≤ j := by omega
        obtain rfl : j = p.length := by omega
        have hR2 : R = if provB fact (K, bad) then 0 else 22 := by rw [HR.out, HST.out]
        have HR2 := Lib.hid hR2; clear hR2
        by_cases h2 : fact < 0
        · have e : provB fact (K, bad) = bad := by unfold provB; rw [if_pos h2]
          have h2' : (0 ≤ fact) = False := eq_false (by omega)
          cases bad with
          | true =>
            have E : Hid (R = 0) := Lib.hid (by rw [HR2.out, e]; rfl)
            clear e
            go_wp2
            go_ret
            exact ⟨by rw [E.out]; rfl, HB4.out⟩
          | false =>
            have E : Hid (R = 22) := Lib.hid (by rw [HR2.out, e]; rfl)
            clear e
            go_wp2
            go_ret
            exact ⟨by rw [E.out]; rfl, HB4.out⟩
        · obtain ⟨q, rfl⟩ : ∃ q : Nat, fact = q := ⟨fact.toNat, by omega⟩
          have e : provB q (K, bad) = K.testBit q := by unfold provB; rw [if_neg h2, Int.toNat_natCast]
          have h2' : ((q : Int) < 0) = False := eq_false h2
          have hand := bu_and1 (K := K) (k := q) hK
          have hq64 : q < 64 := by omega
          cases htb : K.testBit q with
          | true =>
            rw [htb, if_pos rfl] at hand
            have E : Hid (R = 0) := Lib.hid (by rw [HR2.out, e, htb]; rfl)
            clear e htb
            go_wp2
            go_ret
            exact ⟨by rw [E.out]; rfl, HB4.out⟩
          | false =>
            rw [htb, if_neg Bool.false_ne_true] at hand
            have E : Hid (R = 22) := Lib.hid (by rw [HR2.out, e, htb]; rfl)
            clear e htb
            go_wp2
            go_ret
            exact ⟨by rw [E.out]; rfl, HB4.out⟩
  · have e : R = E := by rw [HCE.out, if_pos hv]
    have HE := Lib.hid e; clear e
    have HB := Lib.hid (HBOX.out.below b2); clear b2
    have hv2 : (E != 0) = true := by simpa using hv
    have hv3 : (E = 0) = False := eq_false hv
    clear hv
    go_wp2
    go_ret
    exact ⟨by rw [HE.out]; rfl, HB.out⟩
end Go.Proofs.Ytcbmifaobdamhaa

/- order: the reference's Sums. -/
import Derived.Test.YtnkinjilnccmfaaQ29
import Derived.Test.YtnkinjilnccmfaaQ23
import Derived.Deep.CutBlock
import Derived.Deep.DeepCutAuto
namespace Go.Order
open Go.RowKit Go.Own Go.Proofs.Ytnkinjilnccmfaa Go.Theory
def setsL (may : List Spl) (st : List Int) : List Int := (srt st).filter fun s => decide (0 ≤ bs may st s)
def rowL (pre : List Int) (c : Int) (post : List Value) : List Value := intsI pre ++ (.int .i64 c :: post)
theorem rowL_at (pre : List Int) (c : Int) (post : List Value) {i : Nat} (h : pre.length = i) : (rowL pre c post)[i]? = some (.int .i64 c) := by
  unfold rowL
  rw [List.getElem?_append_right (by rw [intsI_len]; omega), intsI_len, h, Nat.sub_self]; rfl
theorem rowL_set (pre : List Int) (c d : Int) (post : List Value) {i : Nat} (h : pre.length = i) : (rowL pre c post).take i ++ [.int .i64 d] ++ (rowL pre c post).drop (i + 1) = rowL pre d post := by
  unfold rowL
  rw [List.take_append_of_le_length (by rw [intsI_len]; omega), List.take_of_length_le (by rw [intsI_len]; omega)]
  have e : (intsI pre ++ Value.int .i64 c :: post).drop (i + 1) = post := by
    rw [show i + 1 = (intsI pre).length + 1 by rw [intsI_len]; omega, ← List.drop_drop, List.drop_left]; rfl
  rw [e, List.append_assoc]; rfl
theorem rowL_len (pre : List Int) (c : Int) (post : List Value) : (rowL pre c post).length = pre.length + 1 + post.length := by
  unfold rowL; rw [List.length_append, intsI_len, List.length_cons]; omega
theorem rowL_next (pre : List Int) (c : Int) (n : Nat) : rowL pre c (List.replicate (n + 1) (.int .i64 0)) = rowL (pre ++ [c]) 0 (List.replicate n (.int .i64 0)) := by
  unfold rowL intsI
  rw [List.map_append, List.append_assoc, List.replicate_succ]; rfl
end Go.Order
namespace Go.Proofs.Ytnkinjilnccmfaa
open Go.RowKit Go.Own Go.BigFrame Go.Big Go.Order
theorem hTsets' : Try.prog.underlying 24 = some (.slice (Try.prog.elem 24)) := by kernel_rfl
theorem hTint' : Try.prog.underlying 50 = some (.slice (Try.prog.elem 50)) := by kernel_rfl
theorem sizeSet1 (w : World) : (sizeOf (Try.prog.elem 24)).run Try.prog w = .ok 1 w := by kernel_rfl
theorem sizeInt1 (w : World) : (sizeOf (Try.prog.elem 50)).run Try.prog w = .ok 1 w := by kernel_rfl
theorem add_zero (a : Option Addr) : a.map (·.add (0 * 1)) = a := by cases a <;> simp [Addr.add]
theorem sl_to1 (a : Option Addr) (len cap k : Nat) (hk : k ≤ cap) (w : World) : (Instr.sliceAt 24 (.slice a len cap) none (some (.int .i64 (k : Int))) none).run Try.prog w = .ok (.slice a k cap) w := by
  rw [run_sliceAt_slice w _ _ _ _ _ hTsets', run_slice_h w _ a len cap hTsets' .i64 (k : Int) (by omega) (by omega), sizeSet1]
  simp only [Result.andThen, sliced, Int.toNat_natCast, add_zero, ite_self, Nat.sub_zero]
theorem sl_to2 (a : Option Addr) (len cap k : Nat) (hk : k ≤ cap) (w : World) : (Instr.sliceAt 50 (.slice a len cap) none (some (.int .i64 (k : Int))) none).run Try.prog w = .ok (.slice a k cap) w := by
  rw [run_sliceAt_slice w _ _ _ _ _ hTint', run_slice_h w _ a len cap hTint' .i64 (k : Int) (by omega) (by omega), sizeInt1]
  simp only [Result.andThen, sliced, Int.toNat_natCast, add_zero, ite_self, Nat.sub_zero]
theorem own_lt' {w : World} {base size n : Nat} {e : TypeId} {v : Value} {xs : List Value} (h : w.ownsRow base e size v n xs) {b : Nat} (hb : v.ownBlock = some b) : b < w.heap.size := by
  rcases h.2 with ⟨h6, _⟩ | ⟨g, cap, cur, h6, _, h7, _⟩
  · rw [h6] at hb; cases hb
  · rw [h6] at hb
    cases hb
    rcases Nat.lt_or_ge g w.heap.size with h8 | h8
    · exact h8
    · rw [Array.getElem?_eq_none h8] at h7; cases h7
structure SmQ (may : List Spl) (st : List Int) (w : World) (e : Ending) (w' : World) : Prop where
  out : ∃ sa ca sb cb, e = .returned (.tuple #[.slice sa (setsL may st).length ca, .slice sb (setsL may st).length cb]) ∧
    Sz w' (.slice sa (setsL may st).length ca) (setsL may st).length (intsI (setsL may st)) ∧ Sz w' (.slice sb (setsL may st).length cb) (setsL may st).length (intsI ((setsL may st).map (bs may st))) ∧ Below w.heap.size w w'
attribute [local irreducible] SqC.SqW
set_option maxRecDepth 100000 in
set_option maxHeartbeats 6400000 in
theorem rsums_any (may : List Spl) (st : List Int) (s t : Option Addr) (ca cb : Nat) (w : World) (hl : Lst w (.slice s may.length ca) may) (hm : Sz w (.slice t st.length cb) st.length (intsI st)) (hok : may.all Spl.ok = true) (hst : st.all isB = true) (nm : may.length ≤ 4096) (ns : st.length ≤ 4096) :
    Calls Try.prog 38 #[.slice s may.length ca, .slice t st.length cb] w fun e w' => SmQ may st w e w' := by
  have hns : (st.length : Int) < 4611686018427387904 := by omega
  have hnm : (may.length : Int) < 4611686018427387904 := by omega
  have HL := Lib.hid hl; clear hl
  have HM := Lib.hid hm; clear hm
  have HOK := Lib.hid hok; clear hok
  have HIS := Lib.hid hst; clear hst
  have HNM := Lib.hid (And.intro nm ns); clear nm ns
  obtain ⟨wz, hwz⟩ : ∃ wz, wz = w := ⟨_, rfl⟩
  rw [← hwz] at HL HM ⊢
  clear hwz
  go_enter Try.func38, Try.ntmps38
  go_wp2
  go_loopw [6, 7] (fun v6 v wr => ∃ i : Nat, i ≤ st.length ∧ v = .int .i64 i ∧ wr.ownsRow wz.heap.size 22 1 v6 (srtN st i).length (intsI (srtN st i)) ∧ Below wz.heap.size wz wr) (fun _ v _ => st.length - (vInt v).toNat)
  case atStart => exact ⟨0, Nat.zero_le _, rfl, World.ownsRow_nil _ _ _ _, Below.refl _ _⟩
  case round =>
    obtain ⟨i, hi, rfl, how, hbr⟩ := hrel
    have hsl := srtN_len st i
    by_cases hil : i < st.length
    · have hil' : (i : Int) < st.length := by omega
      obtain ⟨g, o, rfl, -, -, hC, hg⟩ := sl_at (HM.out (by omega)) (by omega)
      have hsx := srtN_succ hil
      obtain ⟨x, hx⟩ : ∃ x, x = st[i] := ⟨_, rfl⟩
      have cx : wr.cell? ⟨g, o + i, none⟩ = some (.int .i64 x) := by rw [hx]; exact (hC.below hbr hg) i _ (intsI_at hil)
      rw [← hx] at hsx
      obtain ⟨sa, c6, rfl, _⟩ := own_slice how
      have hadd := radd_any (srtN st i) x sa c6 wr (fun _ => Sl.of_owns how) (by have := HNM.out; omega)
      rw [← hsx] at hadd
      have HADD := Lib.hid hadd; clear hadd how
      have HBR := Lib.hid hbr; clear hbr hx hC hsx hsl
      go_wp2_with (fail)
      refine HADD.out.mono ?_
      rintro e w2 ⟨v, rfl, hown, hb2⟩
      have hown2 := own_weaken hown HBR.out.size
      have hb3 := HBR.out.trans (hb2.mono HBR.out.size)
      have HO := Lib.hid hown2; clear hown2 hown
      have HB3 := Lib.hid hb3; clear hb3 hb2 cx
      go_wp2
      go_roundw
      case rel => exact ⟨i + 1, by omega, by go_num, HO.out, HB3.out⟩
      case measure => simp [vInt]; omega
    · have hil' : ((i : Int) < st.length) = False := eq_false (by omega)
      have hie : i = st.length := by omega
      rw [hie, srtN_all] at how
      rw [hie] at hsl
      rw [srtN_all] at hsl
      obtain ⟨sa, c6, hv6, _⟩ := own_slice how
      have hinc := srt_inc st
      obtain ⟨A, hA⟩ : ∃ A, A = srt st := ⟨_, rfl⟩
      have hel : ∀ j (h : j < A.length), ∃ q : Nat, A[j] = q ∧ q < 65536 ∧ hasB st (q : Int) = true := by
        rw [hA]
        exact fun j h => by
          have h1 := (srt_mem st _).1 (List.getElem_mem h)
          obtain ⟨q, e, _, h6⟩ := isB_nat (List.all_eq_true.1 HIS.out _ h1)
          exact ⟨q, e, h6, by rw [← e]; exact hasB_iff.2 h1⟩
      have hsumT : ∀ (i p : Nat) (hi : i < A.length), p < 65536 → (p : Int) < A[i] → sumT (A.take i) ((A.take i).map (bs may st)) (p : Int) = (bb may st p).2 := by
        rw [hA]
        exact fun i p hi h6 hp => sumT_part (may := may) HOK.out hi h6 hp
      have hset : setsL may st = A.filter fun s => decide (0 ≤ bs may st s) := by rw [hA]; rfl
      rw [← hA] at how hsl hinc
      rw [← hA] at hv6
      have hslA : Sl wr 1 (.slice sa A.length c6) A.length (intsI A) := by rw [← hv6]; exact Sl.of_owns how
      have hownA : ∀ b, (Value.slice sa A.length c6).ownBlock = some b → b < wr.heap.size := fun b hb => by
        rw [← hv6] at hb
        rcases how.2 with ⟨h6, _⟩ | ⟨g, cap, cur, h6, _, h7, _⟩
        · rw [h6] at hb; cases hb
        · rw [h6] at hb
          cases hb
          rcases Nat.lt_or_ge g wr.heap.size with h8 | h8
          · exact h8
          · rw [Array.getElem?_eq_none h8] at h7; cases h7
      have hnA : (A.length : Int) < 4611686018427387904 := by have := HNM.out; omega
      have hmk := mk_ints A.length (by have := HNM.out; omega) wr
      obtain ⟨U, hU⟩ : ∃ U, U = wr.alloc (.cells (Array.replicate A.length (.int .i64 0)) 3) := ⟨_, rfl⟩
      have bU : Below wr.heap.size wr U := by rw [hU]; exact alloc_below _ _
      have kU : Blk U wr.heap.size (List.replicate A.length (.int .i64 0)) 3 := by rw [hU]; exact blk_make _ _ _ _
      have bzU : Below wz.heap.size wz U := hbr.trans (bU.mono hbr.size)
      have hzr : wz.heap.size ≤ wr.heap.size := hbr.size
      have HSA := Lib.hid (hslA.below bU); clear hslA
      have HOA := Lib.hid hownA; clear hownA how
      have HEL := Lib.hid hel; clear hel
      have HINC := Lib.hid hinc; clear hinc
      have HST := Lib.hid hsumT; clear hsumT
      have HSET := Lib.hid hset; clear hset
      have HSLN := Lib.hid hsl; clear hsl
      have KU := Lib.hid kU; clear kU bU
      have BZU := Lib.hid bzU; clear bzU hbr
      have HZR := Lib.hid hzr; clear hzr
      have HU := Lib.hid hU; clear hU hA hie
      subst hv6
      go_wp2
      rw [← HU.out]
      clear hmk
      obtain ⟨gS, hgS⟩ : ∃ gS, gS = wr.heap.size := ⟨_, rfl⟩
      rw [← hgS] at KU HOA HZR ⊢
      clear hgS HU hil hil' hi
      clear wr
      go_loopw [9] (fun v wr => ∃ i : Nat, i ≤ A.length ∧ v = .int .i64 i ∧ Blk wr gS (intsI ((A.take i).map (bs may st)) ++ List.replicate (A.length - i) (.int .i64 0)) 3 ∧ Chg [gS] U wr) (fun v _ => A.length - (vInt v).toNat)
      case atStart => exact ⟨0, Nat.zero_le _, rfl, KU.out, Chg.refl _ _⟩
      case round =>
        obtain ⟨i, hi, rfl, hB, hch⟩ := hrel
        have HCH := Lib.hid hch; clear hch
        have HB := Lib.hid hB; clear hB
        by_cases hil : i < A.length
        · have hil' : (i : Int) < A.length := by omega
          obtain ⟨q, hq, hq6, hqf⟩ := HEL.out i hil
          obtain ⟨g, o, hsa, -, -, hC, hg⟩ := sl_at HSA.out (by omega)
          subst hsa
          have hgS : g < gS := HOA.out g rfl
          have hcap : i ≤ c6 := by have := sl_cap HSA.out; omega
          obtain ⟨pre, hpre⟩ : ∃ pre, pre = (A.take i).map (bs may st) := ⟨_, rfl⟩
          obtain ⟨post, hpost⟩ : ∃ post : List Value, post = List.replicate (A.length - i - 1) (.int .i64 0) := ⟨_, rfl⟩
          have hpl : pre.length = i := by rw [hpre, List.length_map, List.length_take]; omega
          have hpol : post.length = A.length - i - 1 := by rw [hpost, List.length_replicate]
          have hrow : Blk wr gS (rowL pre 0 post) 3 := by
            have h := HB.out
            rw [← hpre, show A.length - i = (A.length - i - 1) + 1 by omega, List.replicate_succ, ← hpost] at h
            exact h
          have hcell : ∀ W, Chg [gS] U W → W.cell? ⟨g, o + i, none⟩ = some (.int .i64 (q : Int)) := fun W hW => by
            have h := hC i _ (intsI_at hil)
            rw [hq] at h
            exact hW.cell h (by simp; omega)
          have hread : ∀ W, Chg [gS] U W → ∀ c, Blk W gS (rowL pre c post) 3 → ∀ p : Nat, p < 65536 → p < q → Calls Try.prog 39 #[.slice (some ⟨g, o, none⟩) i c6, .slice (some ⟨gS, 0, none⟩) i A.length, .int .i64 (p : Int)] W fun e w' => e = .returned (.int .i64 (bb may st p).2) ∧ w' = W := fun W hW c hc p h6 hp => by
            have hl1 : (A.take i).length = i := by rw [List.length_take]; omega
            have hs1 : Sz W (.slice (some ⟨g, o, none⟩) (A.take i).length c6) (A.take i).length (intsI (A.take i)) := fun h0 => by
              rw [hl1] at h0 ⊢
              have h := sl_take (HSA.out.chg hW (fun b hb => by have := HOA.out b hb; simp; omega)) (show i ≤ A.length by omega) h0
              unfold intsI at h ⊢
              rwa [List.map_take]
            have hs2 : Sz W (.slice (some ⟨gS, 0, none⟩) pre.length A.length) pre.length (intsI pre) := fun h0 => ⟨by rw [intsI_len]; omega, .inr ⟨gS, 0, A.length, rfl, by omega, by have := HNM.out; have := HSLN.out; unfold maxLen; omega, fun j v hj => by
              rw [Nat.zero_add]
              refine hc.cell ?_
              unfold rowL
              rw [List.getElem?_append_left (List.getElem?_eq_some_iff.1 hj).1]
              exact hj, hc.lt⟩⟩
            have h := rsum_any (A.take i) pre (p : Int) _ _ c6 A.length W hs1 hs2 (by rw [hl1, hpl]) (by have := HNM.out; have := HSLN.out; omega)
            rw [hl1, hpl, hpre, HST.out i p hil h6 (by rw [hq]; omega)] at h
            exact h
          have hnext : ∀ W, Blk W gS (rowL pre (bs may st q) post) 3 → Blk W gS (intsI ((A.take (i + 1)).map (bs may st)) ++ List.replicate (A.length - (i + 1)) (.int .i64 0)) 3 := fun W h => by
            rw [List.take_succ_eq_append_getElem hil, List.map_append, ← hpre, hq]
            rw [show A.length - (i + 1) = A.length - i - 1 by omega, ← hpost]
            unfold rowL at h
            unfold intsI at h ⊢
            rw [List.map_append, List.append_assoc]
            exact h
          have hbsq : bs may st (q : Int) = rowK may st q may.length := by unfold bs; rw [Int.toNat_natCast, rowK_all HOK.out hq6 hqf]
          have hset := fun (c d : Int) => rowL_set pre c d post hpl
          have hat := fun (c : Int) => rowL_at pre c post hpl
          have hfit := fun (c : Int) => (show i < (rowL pre c post).length by rw [rowL_len]; omega)
          have hsz := rsize_any (q : Int)
          rw [siz_nat q hq6] at hsz
          have hzero := rowK_zero may st q
          have hsl1 := fun W => sl_to1 (some ⟨g, o, none⟩) A.length c6 i hcap W
          have hsl2 := fun W => sl_to2 (some ⟨gS, 0, none⟩) A.length A.length i (by omega) W
          have HCE := Lib.hid hcell; clear hcell
          have HRD := Lib.hid hread; clear hread
          have HNX := Lib.hid hnext; clear hnext
          have HBQ := Lib.hid hbsq; clear hbsq
          have HSE := Lib.hid hset; clear hset
          have HAT := Lib.hid hat; clear hat
          have HFT := Lib.hid hfit; clear hfit
          have HSZ := Lib.hid hsz; clear hsz
          have HZE := Lib.hid hzero; clear hzero
          have HS1 := Lib.hid hsl1; clear hsl1
          have HS2 := Lib.hid hsl2; clear hsl2
          have HROW := Lib.hid hrow; clear hrow HB
          have HQ6 := Lib.hid hq6; clear hq6
          clear hpre hpost hpl hpol hC hg hgS hcap hq hqf
          have HIL := Lib.hid hil; clear hil hi
          go_wp2_with (refine wpList_store1 (ty := 3) (off := i) (v := .int .i64 (-1)) HROW.out rfl rfl rfl rfl rfl infoInt1 rfl (HFT.out 0) rfl ?_)
          intro w1 s1 s2
          rw [HSE.out 0 (-1)] at s1
          have ch1 : Chg [gS] U w1 := HCH.out.trans (Chg.of_oth s2 (by simp))
          have c1 := HCE.out w1 ch1
          have CH1 := Lib.hid ch1; clear ch1 s2
          have S1 := Lib.hid s1; clear s1
          go_wp2_with (fail)
          refine (HSZ.out w1).mono ?_
          rintro e w2 ⟨rfl, h⟩
          have h2 := h.symm; clear h; subst h2
          clear c1
          go_upto_if 45 with fail
          go_cut [8] (fun v8 wx => v8 = .slice (some ⟨gS, 0, none⟩) A.length A.length ∧ Blk wx gS (rowL pre (rowK may st q 0) post) 3 ∧ Chg [gS] U wx)
          case first =>
            clear hns hnm hnA
            by_cases hp1 : Go.Theory.pop q = 1
            · have hz : rowK may st q 0 = 0 := by rw [HZE.out, if_pos hp1]
              have HZ := Lib.hid hz; clear hz
              have e1 : (((Go.Theory.pop q : Nat) : Int) == 1) = true := by rw [hp1]; rfl
              have e2 : (((Go.Theory.pop q : Nat) : Int) = 1) = True := eq_true (by omega)
              clear hp1
              go_wp2_with (refine wpList_store1 (ty := 3) (off := i) (v := .int .i64 0) S1.out rfl rfl rfl rfl rfl infoInt1 rfl (HFT.out (-1)) rfl ?_)
              intro w3 s1 s2
              rw [HSE.out (-1) 0] at s1
              have ch3 : Chg [gS] U w3 := CH1.out.trans (Chg.of_oth s2 (by simp))
              go_wp2
              go_meet
              case rel => exact ⟨rfl, by rw [HZ.out]; exact s1, ch3⟩
            · have hz : rowK may st q 0 = -1 := by rw [HZE.out, if_neg hp1]
              have HZ := Lib.hid hz; clear hz
              have e1 : (((Go.Theory.pop q : Nat) : Int) == 1) = false := by rw [beq_eq_false_iff_ne]; omega
              have e2 : (((Go.Theory.pop q : Nat) : Int) = 1) = False := eq_false (by omega)
              clear hp1
              go_wp2
              go_meet
              case rel => exact ⟨rfl, by rw [HZ.out]; exact S1.out, CH1.out⟩
          case rest =>
          obtain ⟨rfl, hBc, hcc⟩ := hcut
          have HBC := Lib.hid hBc; clear hBc
          have HCC := Lib.hid hcc; clear hcc CH1 S1 HROW HCH HZE HSZ
          go_wp2
          obtain ⟨wo, rfl⟩ : ∃ wo : World, wo = wc := ⟨_, rfl⟩
          go_loopw [10] (fun v wi => ∃ k : Nat, k ≤ may.length ∧ v = .int .i64 k ∧ Blk wi gS (rowL pre (rowK may st q k) post) 3 ∧ Chg [gS] U wi) (fun v _ => may.length - (vInt v).toNat)
          case atStart => exact ⟨0, Nat.zero_le _, rfl, HBC.out, HCC.out⟩
          case round =>
            obtain ⟨k, hk, rfl, hB, hch⟩ := hrel
            have HB := Lib.hid hB; clear hB
            have HCH := Lib.hid hch; clear hch HBC HCC
            have hbnd := rowK_bnd (st := st) HOK.out q k hk
            by_cases hkl : k < may.length
            · have hkl' : (k : Int) < may.length := by omega
              have hbzr : Below wz.heap.size wz wr := BZU.out.trans (HCH.out.below BZU.out.size (by have := HZR.out; simp; omega))
              obtain ⟨g2, o2, rfl, -, -, -, hC2, hg2⟩ := HL.out.at (by omega)
              have cZ := Lst.cells hC2 hkl
              have cA := (Lst.cells hC2 hkl).below hbzr hg2
              have hg2z := hg2
              have hg2r : g2 < wr.heap.size := Nat.lt_of_lt_of_le hg2 hbzr.size
              have hmiss := rowK_miss (st := st) HOK.out (s := q) hkl
              have hhit := rowK_hit (st := st) HOK.out (s := q) hkl
              have hrest := rrest_any may[k]
              have hcost := rcost_any may[k]
              have hcle := cost_le may[k]
              obtain ⟨C, hCc⟩ : ∃ C, C = may[k].cost := ⟨_, rfl⟩
              rw [← hCc] at hhit hcost hcle
              obtain ⟨R0, hR0⟩ : ∃ R, R = may[k].rest := ⟨_, rfl⟩
              rw [← hR0] at hrest hhit
              obtain ⟨x, hx⟩ : ∃ x, x = may[k] := ⟨_, rfl⟩
              rw [← hx] at cA cZ hmiss hhit hrest hcost
              obtain ⟨c, hc⟩ : ∃ c, c = rowK may st q k := ⟨_, rfl⟩
              rw [← hc] at hmiss hhit hbnd
              rw [← hc] at HB
              clear hx hC2 hCc hR0 hg2 hc
              obtain ⟨zw, zp, ⟨na, da, sa2, ya⟩, ⟨nb, db, sb, yb⟩, ⟨nc, dc, sc, yc⟩, ⟨nd, dd, sd, yd⟩⟩ := x
              dsimp only at hmiss hhit
              have hcell0 : ∀ W, Below wr.heap.size wr W → W.cell? ⟨g2, o2 + k * 10, none⟩ = some (.int .i64 zw) ∧ W.cell? ⟨g, o + i, none⟩ = some (.int .i64 (q : Int)) := fun W hW =>
                ⟨by have := (cA.below hW hg2r) 0 _ rfl; simpa using this, HCE.out W (HCH.out.trans (Chg.of_below hW))⟩
              have HC0 := Lib.hid hcell0; clear hcell0
              by_cases hxq : zw = q
              · subst hxq
                obtain ⟨p, r, rfl, rfl, hpq, hrq, _, hst⟩ := hhit rfl
                have hbp := bb_le (st := st) HOK.out (show p < 65536 by have := HQ6.out; omega)
                have hbr := bb_le (st := st) HOK.out (show r < 65536 by have := HQ6.out; omega)
                have hrdp := fun W hW c hc => HRD.out W hW c hc p (by have := HQ6.out; omega) hpq
                have hrdr := fun W hW c hc => HRD.out W hW c hc r (by have := HQ6.out; omega) hrq
                obtain ⟨a, ha⟩ : ∃ a, a = (bb may st p).2 := ⟨_, rfl⟩
                obtain ⟨b, hb⟩ : ∃ b, b = (bb may st r).2 := ⟨_, rfl⟩
                simp only [← ha] at hrdp hst hbp
                simp only [← hb] at hrdr hst hbr
                clear ha hb hmiss hhit hpq hrq
                have hrest' : ∀ W : World, Calls Try.prog 28 #[.agg #[.int .i64 (q : Int), .int .i64 (p : Int), .bool na, .slice sa2 da.length ya, .bool nb, .slice sb db.length yb, .bool nc, .slice sc dc.length yc, .bool nd, .slice sd dd.length yd]] W fun e w' => e = .returned (.int .i64 (r : Int)) ∧ Below W.heap.size W w' := fun W => hrest W
                have hcost' : ∀ W : World, Calls Try.prog 24 #[.agg #[.int .i64 (q : Int), .int .i64 (p : Int), .bool na, .slice sa2 da.length ya, .bool nb, .slice sb db.length yb, .bool nc, .slice sc dc.length yc, .bool nd, .slice sd dd.length yd]] W fun e w' => e = .returned (.int .i64 (C : Nat)) ∧ Below W.heap.size W w' := fun W => hcost W
                clear hrest hcost
                have hmem : ∀ W, Chg [gS] U W → Cells W g2 (o2 + k * 10) [.int .i64 (q : Int), .int .i64 (p : Int), .bool na, .slice sa2 da.length ya, .bool nb, .slice sb db.length yb, .bool nc, .slice sc dc.length yc, .bool nd, .slice sd dd.length yd] ∧ W.cell? ⟨g2, o2 + k * 10 + 1, none⟩ = some (.int .i64 (p : Int)) ∧ (loadVar 58 ⟨g2, o2 + k * 10, none⟩).run Try.prog W = .ok (.agg #[.int .i64 (q : Int), .int .i64 (p : Int), .bool na, .slice sa2 da.length ya, .bool nb, .slice sb db.length yb, .bool nc, .slice sc dc.length yc, .bool nd, .slice sd dd.length yd]) W := fun W hW => by
                  have hb : Below wz.heap.size wz W := BZU.out.trans (hW.below BZU.out.size (by have := HZR.out; simp; omega))
                  have hcz : Cells wz g2 (o2 + k * 10) [.int .i64 (q : Int), .int .i64 (p : Int), .bool na, .slice sa2 da.length ya, .bool nb, .slice sb db.length yb, .bool nc, .slice sc dc.length yc, .bool nd, .slice sd dd.length yd] := cZ
                  have h := hcz.below hb hg2z
                  exact ⟨h, h 1 _ rfl, run_load_agg (P := Try.prog) (ty := 58) h aggS infoS⟩
                have HME := Lib.hid hmem; clear hmem cA cZ
                have HRE := Lib.hid hrest'; clear hrest'
                have HCO := Lib.hid hcost'; clear hcost'
                have HRP := Lib.hid hrdp; clear hrdp
                have HRR := Lib.hid hrdr; clear hrdr
                have HST2 := Lib.hid hst; clear hst
                have HBD := Lib.hid (And.intro hbp (And.intro hbr (And.intro hbnd hcle))); clear hbp hbr hbnd hcle
                have hne : ((q : Int) != (q : Int)) = false := by simp
                go_wp2
                have eX : Below wr.heap.size wr wr.drew := (Below.refl _ _).drew
                haveI : Nonempty (SqC.Come fun U : World => Below wr.heap.size wr U) := ⟨⟨_, eX⟩⟩
                refine SqC.wp_region_sqc 10 [] (fun U : World => Below wr.heap.size wr U) (by kernel_rfl) (by kernel_rfl) (by kernel_rfl) eX ?_
                obtain ⟨wd, hwd⟩ : ∃ wd : World, wd = wr.drew := ⟨_, rfl⟩
                rw [← hwd] at eX ⊢
                clear hwd
                refine SqC.quiet rfl rfl ?_; go_big_quiet_step (fail); refine wpQuiet_nil ?_
                refine SqC.quiet rfl rfl ?_; go_big_quiet_step (fail); refine wpQuiet_nil ?_
                refine SqC.quiet rfl rfl ?_; go_big_quiet_step (fail); refine wpQuiet_nil ?_
                refine SqC.quiet rfl rfl ?_; go_big_quiet_step (fail); refine wpQuiet_nil ?_
                refine SqC.value (.int .i64 (q : Int)) rfl rfl (by intro W hW; have cx := (HC0.out W hW).1; go_simp) ?_
                simp only [Act.put, List.setIfInBounds_toArray, List.set_cons_zero, List.set_cons_succ]
                refine SqC.quiet rfl rfl ?_; go_big_quiet_step (fail); refine wpQuiet_nil ?_
                refine SqC.quiet rfl rfl ?_; go_big_quiet_step (fail); refine wpQuiet_nil ?_
                refine SqC.quiet rfl rfl ?_; go_big_quiet_step (fail); refine wpQuiet_nil ?_
                refine SqC.value (.int .i64 (q : Int)) rfl rfl (by intro W hW; have cx := (HC0.out W hW).2; go_simp) ?_
                simp only [Act.put, List.setIfInBounds_toArray, List.set_cons_zero, List.set_cons_succ]
                refine SqC.quiet rfl rfl ?_; go_big_quiet_step (fail); refine wpQuiet_nil ?_
                refine SqC.nil ?_
                have CH1 := Lib.hid (HCH.out.trans (Chg.of_below eX))
                have B1 := Lib.hid (HB.out.below eX HB.out.lt)
                clear eX this HC0 hne
                obtain ⟨w1, hw1⟩ : ∃ w1, w1 = wd := ⟨_, rfl⟩
                rw [← hw1] at CH1 B1 ⊢
                clear hw1
                clear wd
                go_wp2
                have eX : Below w1.heap.size w1 w1.drew := (Below.refl _ _).drew
                haveI : Nonempty (SqC.Come fun U : World => Below w1.heap.size w1 U) := ⟨⟨_, eX⟩⟩
                refine SqC.wp_region_sqc 13 [11] (fun U : World => Below w1.heap.size w1 U) (by kernel_rfl) (by kernel_rfl) (by kernel_rfl) eX ?_
                obtain ⟨wd, hwd⟩ : ∃ wd : World, wd = w1.drew := ⟨_, rfl⟩
                rw [← hwd] at eX ⊢
                clear hwd
                refine SqC.quiet rfl rfl ?_; go_big_quiet_step (fail); refine wpQuiet_nil ?_
                refine SqC.quiet rfl rfl ?_; go_big_quiet_step (fail); refine wpQuiet_nil ?_
                refine SqC.value (.slice (some ⟨g, o, none⟩) i c6) rfl rfl (by intro W hW; have cx := HS1.out W; go_simp) ?_
                simp only [Act.put, List.setIfInBounds_toArray, List.set_cons_zero, List.set_cons_succ]
                refine SqC.quiet rfl rfl ?_; go_big_quiet_step (fail); refine wpQuiet_nil ?_
                refine SqC.quiet rfl rfl ?_; go_big_quiet_step (fail); refine wpQuiet_nil ?_
                refine SqC.value (.slice (some ⟨gS, 0, none⟩) i A.length) rfl rfl (by intro W hW; have cx := HS2.out W; go_simp) ?_
                simp only [Act.put, List.setIfInBounds_toArray, List.set_cons_zero, List.set_cons_succ]
                refine SqC.quiet rfl rfl ?_; go_big_quiet_step (fail); refine wpQuiet_nil ?_
                refine SqC.quiet rfl rfl ?_; go_big_quiet_step (fail); refine wpQuiet_nil ?_
                refine SqC.quiet rfl rfl ?_; go_big_quiet_step (fail); refine wpQuiet_nil ?_
                refine SqC.quiet rfl rfl ?_; go_big_quiet_step (fail); refine wpQuiet_nil ?_
                refine SqC.value (.int .i64 (p : Int)) rfl rfl (by intro W hW; have cx := (HME.out W (CH1.out.trans (Chg.of_below hW))).2.1; go_simp) ?_
                simp only [Act.put, List.setIfInBounds_toArray, List.set_cons_zero, List.set_cons_succ]
                refine SqC.effect rfl rfl ?_
                refine yields_call rfl (by kernel_rfl) rfl rfl ((HRP.out wd (CH1.out.trans (Chg.of_below eX)) c (B1.out.below eX B1.out.lt)).mono ?_)
                rintro e w5 ⟨rfl, h5⟩
                have h6 := h5.symm
                clear h5
                subst h6
                refine ⟨_, rfl, fun _ => eX, ?_⟩
                simp only [Act.put, List.setIfInBounds_toArray, List.set_cons_zero, List.set_cons_succ]
                refine SqC.quiet rfl rfl ?_; go_big_quiet_step (fail); refine wpQuiet_nil ?_
                refine SqC.nil ?_
                have CH2 := Lib.hid (CH1.out.trans (Chg.of_below eX))
                have B2 := Lib.hid (B1.out.below eX B1.out.lt)
                clear eX this CH1 B1
                obtain ⟨w2, hw2⟩ : ∃ w2, w2 = wd := ⟨_, rfl⟩
                rw [← hw2] at CH2 B2 ⊢
                clear hw2
                clear wd w1
                go_wp2
                have eX : Below w2.heap.size w2 w2.drew := (Below.refl _ _).drew
                haveI : Nonempty (SqC.Come fun U : World => Below w2.heap.size w2 U) := ⟨⟨_, eX⟩⟩
                refine SqC.wp_region_sqc 13 [10, 11] (fun U : World => Below w2.heap.size w2 U) (by kernel_rfl) (by kernel_rfl) (by kernel_rfl) eX ?_
                obtain ⟨wd, hwd⟩ : ∃ wd : World, wd = w2.drew := ⟨_, rfl⟩
                rw [← hwd] at eX ⊢
                clear hwd
                refine SqC.quiet rfl rfl ?_; go_big_quiet_step (fail); refine wpQuiet_nil ?_
                refine SqC.quiet rfl rfl ?_; go_big_quiet_step (fail); refine wpQuiet_nil ?_
                refine SqC.value (.slice (some ⟨g, o, none⟩) i c6) rfl rfl (by intro W hW; have cx := HS1.out W; go_simp) ?_
                simp only [Act.put, List.setIfInBounds_toArray, List.set_cons_zero, List.set_cons_succ]
                refine SqC.quiet rfl rfl ?_; go_big_quiet_step (fail); refine wpQuiet_nil ?_
                refine SqC.quiet rfl rfl ?_; go_big_quiet_step (fail); refine wpQuiet_nil ?_
                refine SqC.value (.slice (some ⟨gS, 0, none⟩) i A.length) rfl rfl (by intro W hW; have cx := HS2.out W; go_simp) ?_
                simp only [Act.put, List.setIfInBounds_toArray, List.set_cons_zero, List.set_cons_succ]
                refine SqC.quiet rfl rfl ?_; go_big_quiet_step (fail); refine wpQuiet_nil ?_
                refine SqC.quiet rfl rfl ?_; go_big_quiet_step (fail); refine wpQuiet_nil ?_
                refine SqC.quiet rfl rfl ?_; go_big_quiet_step (fail); refine wpQuiet_nil ?_
                refine SqC.value (.agg #[.int .i64 (q : Int), .int .i64 (p : Int), .bool na, .slice sa2 da.length ya, .bool nb, .slice sb db.length yb, .bool nc, .slice sc dc.length yc, .bool nd, .slice sd dd.length yd]) rfl rfl (fun W hW => load_agg_exec rfl rfl (HME.out W (CH2.out.trans (Chg.of_below hW))).2.2) ?_
                simp only [Act.put, List.setIfInBounds_toArray, List.set_cons_zero, List.set_cons_succ]
                refine SqC.effect rfl rfl ?_
                refine yields_call rfl (by kernel_rfl) rfl rfl ((HRE.out wd).mono ?_)
                rintro e w5 ⟨rfl, b5⟩
                have e5 : Below w2.heap.size w2 w5 := eX.trans (b5.mono eX.size)
                refine ⟨_, rfl, fun _ => e5, ?_⟩
                simp only [Act.put, List.setIfInBounds_toArray, List.set_cons_zero, List.set_cons_succ]
                refine SqC.effect rfl rfl ?_
                refine yields_call rfl (by kernel_rfl) rfl rfl ((HRR.out w5 (CH2.out.trans (Chg.of_below e5)) c (B2.out.below e5 B2.out.lt)).mono ?_)
                rintro e w6 ⟨rfl, h5⟩
                have h6 := h5.symm
                clear h5
                subst h6
                refine ⟨_, rfl, fun _ => e5, ?_⟩
                simp only [Act.put, List.setIfInBounds_toArray, List.set_cons_zero, List.set_cons_succ]
                refine SqC.quiet rfl rfl ?_; go_big_quiet_step (fail); refine wpQuiet_nil ?_
                refine SqC.nil ?_
                have CH3 := Lib.hid (CH2.out.trans (Chg.of_below e5))
                have B3 := Lib.hid (B2.out.below e5 B2.out.lt)
                clear e5 b5 eX this CH2 B2
                obtain ⟨w3, hw3⟩ : ∃ w3, w3 = w5 := ⟨_, rfl⟩
                rw [← hw3] at CH3 B3 ⊢
                clear hw3
                clear wd w2 w5
                have hat3 : ∀ W, Below w3.heap.size w3 W → W.cell? ⟨gS, i, none⟩ = some (.int .i64 c) := fun W hW => (B3.out.below hW B3.out.lt).cell (HAT.out c)
                have HA3 := Lib.hid hat3; clear hat3
                have HAB := Lib.hid (show -2 ≤ a + b ∧ a + b ≤ 2097152 from by have := HBD.out; omega)
                go_wp2
                have eX : Below w3.heap.size w3 w3.drew := (Below.refl _ _).drew
                haveI : Nonempty (SqC.Come fun U : World => Below w3.heap.size w3 U) := ⟨⟨_, eX⟩⟩
                refine SqC.wp_region_sqc 29 [20] (fun U : World => Below w3.heap.size w3 U) (by kernel_rfl) (by kernel_rfl) (by kernel_rfl) eX ?_
                obtain ⟨wd, hwd⟩ : ∃ wd : World, wd = w3.drew := ⟨_, rfl⟩
                rw [← hwd] at eX ⊢
                clear hwd
                by_cases hA0 : 0 ≤ a
                · have ha1 : (0 ≤ a) = True := eq_true hA0
                  by_cases hB0 : 0 ≤ b
                  · have hb1 : (0 ≤ b) = True := eq_true hB0
                    refine SqC.quiet rfl rfl ?_; go_big_quiet_step (fail); refine wpQuiet_nil ?_
                    refine SqC.quiet rfl rfl ?_; go_big_quiet_step (fail); refine wpQuiet_nil ?_
                    refine SqC.quiet rfl rfl ?_; go_big_quiet_step (fail); refine wpQuiet_nil ?_
                    refine SqC.quiet rfl rfl ?_; go_big_quiet_step (fail); refine wpQuiet_nil ?_
                    refine SqC.quiet rfl rfl ?_; go_big_quiet_step (fail); refine wpQuiet_nil ?_
                    refine SqC.quiet rfl rfl ?_; go_big_quiet_step (fail); refine wpQuiet_nil ?_
                    refine SqC.quiet rfl rfl ?_; go_big_quiet_step (fail); refine wpQuiet_nil ?_
                    refine SqC.quiet rfl rfl ?_; go_big_quiet_step (fail); refine wpQuiet_nil ?_
                    refine SqC.quiet rfl rfl ?_; go_big_quiet_step (fail); refine wpQuiet_nil ?_
                    refine SqC.quiet rfl rfl ?_; go_big_quiet_step (fail); refine wpQuiet_nil ?_
                    refine SqC.value (.int .i64 c) rfl rfl (by intro W hW; have cx := HA3.out W hW; go_simp) ?_
                    simp only [Act.put, List.setIfInBounds_toArray, List.set_cons_zero, List.set_cons_succ]
                    by_cases hc0 : c < 0
                    · have hc1 : (c < 0) = True := eq_true hc0
                      refine SqC.quiet rfl rfl ?_; go_big_quiet_step (fail); refine wpQuiet_nil ?_
                      refine SqC.quiet rfl rfl ?_; go_big_quiet_step (fail); refine wpQuiet_nil ?_
                      refine SqC.skip rfl ?_
                      simp only [Act.put, List.setIfInBounds_toArray, List.set_cons_zero, List.set_cons_succ]
                      refine SqC.skip rfl ?_
                      simp only [Act.put, List.setIfInBounds_toArray, List.set_cons_zero, List.set_cons_succ]
                      refine SqC.skip rfl ?_
                      simp only [Act.put, List.setIfInBounds_toArray, List.set_cons_zero, List.set_cons_succ]
                      refine SqC.skip rfl ?_
                      simp only [Act.put, List.setIfInBounds_toArray, List.set_cons_zero, List.set_cons_succ]
                      refine SqC.skip rfl ?_
                      simp only [Act.put, List.setIfInBounds_toArray, List.set_cons_zero, List.set_cons_succ]
                      refine SqC.skip rfl ?_
                      simp only [Act.put, List.setIfInBounds_toArray, List.set_cons_zero, List.set_cons_succ]
                      refine SqC.skip rfl ?_
                      simp only [Act.put, List.setIfInBounds_toArray, List.set_cons_zero, List.set_cons_succ]
                      refine SqC.skip rfl ?_
                      simp only [Act.put, List.setIfInBounds_toArray, List.set_cons_zero, List.set_cons_succ]
                      refine SqC.skip rfl ?_
                      simp only [Act.put, List.setIfInBounds_toArray, List.set_cons_zero, List.set_cons_succ]
                      refine SqC.skip rfl ?_
                      simp only [Act.put, List.setIfInBounds_toArray, List.set_cons_zero, List.set_cons_succ]
                      refine SqC.skip rfl ?_
                      simp only [Act.put, List.setIfInBounds_toArray, List.set_cons_zero, List.set_cons_succ]
                      refine SqC.skip rfl ?_
                      simp only [Act.put, List.setIfInBounds_toArray, List.set_cons_zero, List.set_cons_succ]
                      refine SqC.skip rfl ?_
                      simp only [Act.put, List.setIfInBounds_toArray, List.set_cons_zero, List.set_cons_succ]
                      refine SqC.skip rfl ?_
                      simp only [Act.put, List.setIfInBounds_toArray, List.set_cons_zero, List.set_cons_succ]
                      refine SqC.quiet rfl rfl ?_; go_big_quiet_step (fail); refine wpQuiet_nil ?_
                      refine SqC.quiet rfl rfl ?_; go_big_quiet_step (fail); refine wpQuiet_nil ?_
                      refine SqC.nil ?_
                      have CH4 := Lib.hid (CH3.out.trans (Chg.of_below eX))
                      have B4 := Lib.hid (B3.out.below eX B3.out.lt)
                      have hk1 : rowK may st q (k + 1) = a + b + (C : Int) := by
                        rw [HST2.out, if_pos]
                        exact ⟨hA0, hB0, .inl hc0⟩
                      have HK1 := Lib.hid hk1; clear hk1
                      obtain ⟨w4, hw4⟩ : ∃ w4, w4 = wd := ⟨_, rfl⟩
                      rw [← hw4] at CH4 B4 ⊢
                      clear hw4
                      have c4 := (HME.out w4 CH4.out).1
                      have hab9 : a + b ≤ 4000000 := by have := HAB.out; omega
                      have hab8 : -2 ≤ a + b := HAB.out.1
                      have hC16 : (C : Int) ≤ 16 := by have := HBD.out; omega
                      clear this HA3
                      have C4 := Lib.hid c4; clear c4
                      go_wp2_with (refine wpList_load_agg (ty := 58) [.int .i64 (q : Int), .int .i64 (p : Int), .bool na, .slice sa2 da.length ya, .bool nb, .slice sb db.length yb, .bool nc, .slice sc dc.length yc, .bool nd, .slice sd dd.length yd] C4.out rfl rfl rfl aggS infoS ?_)
                      go_wp2_with (fail)
                      refine (HCO.out w4).mono ?_
                      rintro e w7 ⟨rfl, b7⟩
                      have CH7 := Lib.hid (CH4.out.trans (Chg.of_below b7))
                      have B7 := Lib.hid (B4.out.below b7 B4.out.lt)
                      clear b7
                      have hnn : a + b + (C : Int) < 4611686018427387904 := by have := HAB.out; have := HBD.out; omega
                      have hnn2 : -2 ≤ a + b + (C : Int) := by have := HAB.out; omega
                      go_wp2_with (refine wpList_store1 (ty := 3) (off := i) (v := .int .i64 (a + b + (C : Int))) B7.out rfl rfl rfl rfl rfl infoInt1 rfl (HFT.out c) rfl ?_)
                      intro w8 s1 s2
                      rw [HSE.out c (a + b + (C : Int)), ← HK1.out] at s1
                      have CH8 := Lib.hid (CH7.out.trans (Chg.of_oth s2 (F := [gS]) (by simp)))
                      have S8 := Lib.hid s1; clear s1 s2 hnn hnn2 hab9 hab8 hC16
                      go_wp2
                      go_roundw
                      case rel => exact ⟨k + 1, by omega, by go_num, S8.out, CH8.out⟩
                      case measure => simp [vInt]; omega
                    · have hc1 : (c < 0) = False := eq_false hc0
                      have hab9 : a + b ≤ 4000000 := by have := HAB.out; omega
                      have hab8 : -2 ≤ a + b := HAB.out.1
                      have hC16 : (C : Int) ≤ 16 := by have := HBD.out; omega
                      refine SqC.quiet rfl rfl ?_; go_big_quiet_step (fail); refine wpQuiet_nil ?_
                      refine SqC.quiet rfl rfl ?_; go_big_quiet_step (fail); refine wpQuiet_nil ?_
                      refine SqC.quiet rfl rfl ?_; go_big_quiet_step (fail); refine wpQuiet_nil ?_
                      refine SqC.quiet rfl rfl ?_; go_big_quiet_step (fail); refine wpQuiet_nil ?_
                      refine SqC.quiet rfl rfl ?_; go_big_quiet_step (fail); refine wpQuiet_nil ?_
                      refine SqC.quiet rfl rfl ?_; go_big_quiet_step (fail); refine wpQuiet_nil ?_
                      refine SqC.quiet rfl rfl ?_; go_big_quiet_step (fail); refine wpQuiet_nil ?_
                      refine SqC.quiet rfl rfl ?_; go_big_quiet_step (fail); refine wpQuiet_nil ?_
                      refine SqC.value (.agg #[.int .i64 (q : Int), .int .i64 (p : Int), .bool na, .slice sa2 da.length ya, .bool nb, .slice sb db.length yb, .bool nc, .slice sc dc.length yc, .bool nd, .slice sd dd.length yd]) rfl rfl (fun W hW => load_agg_exec rfl rfl (HME.out W (CH3.out.trans (Chg.of_below hW))).2.2) ?_
                      simp only [Act.put, List.setIfInBounds_toArray, List.set_cons_zero, List.set_cons_succ]
                      refine SqC.effect rfl rfl ?_
                      refine yields_call rfl (by kernel_rfl) rfl rfl ((HCO.out wd).mono ?_)
                      rintro e w5 ⟨rfl, b5⟩
                      have e5 : Below w3.heap.size w3 w5 := eX.trans (b5.mono eX.size)
                      refine ⟨_, rfl, fun _ => e5, ?_⟩
                      simp only [Act.put, List.setIfInBounds_toArray, List.set_cons_zero, List.set_cons_succ]
                      have hnn : a + b + (C : Int) < 4611686018427387904 := by have := HAB.out; have := HBD.out; omega
                      have hnn2 : -2 ≤ a + b + (C : Int) := by have := HAB.out; omega
                      refine SqC.quiet rfl rfl ?_; go_big_quiet_step (fail); refine wpQuiet_nil ?_
                      refine SqC.quiet rfl rfl ?_; go_big_quiet_step (fail); refine wpQuiet_nil ?_
                      refine SqC.quiet rfl rfl ?_; go_big_quiet_step (fail); refine wpQuiet_nil ?_
                      refine SqC.quiet rfl rfl ?_; go_big_quiet_step (fail); refine wpQuiet_nil ?_
                      refine SqC.value (.int .i64 c) rfl rfl (by intro W hW; have cx := HA3.out W hW; go_simp) ?_
                      simp only [Act.put, List.setIfInBounds_toArray, List.set_cons_zero, List.set_cons_succ]
                      clear hab9 hab8 hC16
                      by_cases hlt : a + b + (C : Int) < c
                      · have hlt1 : (a + b + (C : Int) < c) = True := eq_true hlt
                        refine SqC.quiet rfl rfl ?_; go_big_quiet_step (fail); refine wpQuiet_nil ?_
                        refine SqC.quiet rfl rfl ?_; go_big_quiet_step (fail); refine wpQuiet_nil ?_
                        refine SqC.quiet rfl rfl ?_; go_big_quiet_step (fail); refine wpQuiet_nil ?_
                        clear eX b5 hnn hnn2
                        refine SqC.nil ?_
                        have CH4 := Lib.hid (CH3.out.trans (Chg.of_below e5))
                        have B4 := Lib.hid (B3.out.below e5 B3.out.lt)
                        have hk1 : rowK may st q (k + 1) = a + b + (C : Int) := by
                          rw [HST2.out, if_pos]
                          exact ⟨hA0, hB0, .inr hlt⟩
                        have HK1 := Lib.hid hk1; clear hk1
                        obtain ⟨w4, hw4⟩ : ∃ w4, w4 = w5 := ⟨_, rfl⟩
                        rw [← hw4] at CH4 B4 ⊢
                        clear hw4
                        have c4 := (HME.out w4 CH4.out).1
                        have hab9 : a + b ≤ 4000000 := by have := HAB.out; omega
                        have hab8 : -2 ≤ a + b := HAB.out.1
                        have hC16 : (C : Int) ≤ 16 := by have := HBD.out; omega
                        clear this HA3
                        have C4 := Lib.hid c4; clear c4
                        go_wp2_with (refine wpList_load_agg (ty := 58) [.int .i64 (q : Int), .int .i64 (p : Int), .bool na, .slice sa2 da.length ya, .bool nb, .slice sb db.length yb, .bool nc, .slice sc dc.length yc, .bool nd, .slice sd dd.length yd] C4.out rfl rfl rfl aggS infoS ?_)
                        go_wp2_with (fail)
                        refine (HCO.out w4).mono ?_
                        rintro e w7 ⟨rfl, b7⟩
                        have CH7 := Lib.hid (CH4.out.trans (Chg.of_below b7))
                        have B7 := Lib.hid (B4.out.below b7 B4.out.lt)
                        clear b7
                        have hnn : a + b + (C : Int) < 4611686018427387904 := by have := HAB.out; have := HBD.out; omega
                        have hnn2 : -2 ≤ a + b + (C : Int) := by have := HAB.out; omega
                        go_wp2_with (refine wpList_store1 (ty := 3) (off := i) (v := .int .i64 (a + b + (C : Int))) B7.out rfl rfl rfl rfl rfl infoInt1 rfl (HFT.out c) rfl ?_)
                        intro w8 s1 s2
                        rw [HSE.out c (a + b + (C : Int)), ← HK1.out] at s1
                        have CH8 := Lib.hid (CH7.out.trans (Chg.of_oth s2 (F := [gS]) (by simp)))
                        have S8 := Lib.hid s1; clear s1 s2 hnn hnn2 hab9 hab8 hC16
                        go_wp2
                        go_roundw
                        case rel => exact ⟨k + 1, by omega, by go_num, S8.out, CH8.out⟩
                        case measure => simp [vInt]; omega
                      · have hlt1 : (a + b + (C : Int) < c) = False := eq_false hlt
                        refine SqC.quiet rfl rfl ?_; go_big_quiet_step (fail); refine wpQuiet_nil ?_
                        refine SqC.quiet rfl rfl ?_; go_big_quiet_step (fail); refine wpQuiet_nil ?_
                        refine SqC.quiet rfl rfl ?_; go_big_quiet_step (fail); refine wpQuiet_nil ?_
                        clear eX b5 hnn hnn2
                        refine SqC.nil ?_
                        have CH4 := Lib.hid (CH3.out.trans (Chg.of_below e5))
                        have B4 := Lib.hid (B3.out.below e5 B3.out.lt)
                        have hk1 : rowK may st q (k + 1) = c := by
                          rw [HST2.out, if_neg]
                          rintro ⟨_, _, h | h⟩
                          · exact hc0 h
                          · exact hlt h
                        have hrow := B4.out
                        rw [← hk1] at hrow
                        have HROW := Lib.hid hrow; clear hrow hk1
                        clear e5 this HA3
                        go_wp2
                        go_roundw
                        case rel => exact ⟨k + 1, by omega, by go_num, HROW.out, CH4.out⟩
                        case measure => simp [vInt]; omega
                  · have hb1 : (0 ≤ b) = False := eq_false hB0
                    refine SqC.quiet rfl rfl ?_; go_big_quiet_step (fail); refine wpQuiet_nil ?_
                    refine SqC.quiet rfl rfl ?_; go_big_quiet_step (fail); refine wpQuiet_nil ?_
                    refine SqC.quiet rfl rfl ?_; go_big_quiet_step (fail); refine wpQuiet_nil ?_
                    refine SqC.quiet rfl rfl ?_; go_big_quiet_step (fail); refine wpQuiet_nil ?_
                    refine SqC.quiet rfl rfl ?_; go_big_quiet_step (fail); refine wpQuiet_nil ?_
                    refine SqC.quiet rfl rfl ?_; go_big_quiet_step (fail); refine wpQuiet_nil ?_
                    refine SqC.quiet rfl rfl ?_; go_big_quiet_step (fail); refine wpQuiet_nil ?_
                    refine SqC.skip rfl ?_
                    simp only [Act.put, List.setIfInBounds_toArray, List.set_cons_zero, List.set_cons_succ]
                    refine SqC.skip rfl ?_
                    simp only [Act.put, List.setIfInBounds_toArray, List.set_cons_zero, List.set_cons_succ]
                    refine SqC.skip rfl ?_
                    simp only [Act.put, List.setIfInBounds_toArray, List.set_cons_zero, List.set_cons_succ]
                    refine SqC.skip rfl ?_
                    simp only [Act.put, List.setIfInBounds_toArray, List.set_cons_zero, List.set_cons_succ]
                    refine SqC.skip rfl ?_
                    simp only [Act.put, List.setIfInBounds_toArray, List.set_cons_zero, List.set_cons_succ]
                    refine SqC.skip rfl ?_
                    simp only [Act.put, List.setIfInBounds_toArray, List.set_cons_zero, List.set_cons_succ]
                    refine SqC.skip rfl ?_
                    simp only [Act.put, List.setIfInBounds_toArray, List.set_cons_zero, List.set_cons_succ]
                    refine SqC.skip rfl ?_
                    simp only [Act.put, List.setIfInBounds_toArray, List.set_cons_zero, List.set_cons_succ]
                    refine SqC.skip rfl ?_
                    simp only [Act.put, List.setIfInBounds_toArray, List.set_cons_zero, List.set_cons_succ]
                    refine SqC.skip rfl ?_
                    simp only [Act.put, List.setIfInBounds_toArray, List.set_cons_zero, List.set_cons_succ]
                    refine SqC.skip rfl ?_
                    simp only [Act.put, List.setIfInBounds_toArray, List.set_cons_zero, List.set_cons_succ]
                    refine SqC.skip rfl ?_
                    simp only [Act.put, List.setIfInBounds_toArray, List.set_cons_zero, List.set_cons_succ]
                    refine SqC.skip rfl ?_
                    simp only [Act.put, List.setIfInBounds_toArray, List.set_cons_zero, List.set_cons_succ]
                    refine SqC.skip rfl ?_
                    simp only [Act.put, List.setIfInBounds_toArray, List.set_cons_zero, List.set_cons_succ]
                    refine SqC.skip rfl ?_
                    simp only [Act.put, List.setIfInBounds_toArray, List.set_cons_zero, List.set_cons_succ]
                    refine SqC.skip rfl ?_
                    simp only [Act.put, List.setIfInBounds_toArray, List.set_cons_zero, List.set_cons_succ]
                    refine SqC.skip rfl ?_
                    simp only [Act.put, List.setIfInBounds_toArray, List.set_cons_zero, List.set_cons_succ]
                    refine SqC.skip rfl ?_
                    simp only [Act.put, List.setIfInBounds_toArray, List.set_cons_zero, List.set_cons_succ]
                    refine SqC.skip rfl ?_
                    simp only [Act.put, List.setIfInBounds_toArray, List.set_cons_zero, List.set_cons_succ]
                    refine SqC.skip rfl ?_
                    simp only [Act.put, List.setIfInBounds_toArray, List.set_cons_zero, List.set_cons_succ]
                    refine SqC.skip rfl ?_
                    simp only [Act.put, List.setIfInBounds_toArray, List.set_cons_zero, List.set_cons_succ]
                    refine SqC.quiet rfl rfl ?_; go_big_quiet_step (fail); refine wpQuiet_nil ?_
                    refine SqC.nil ?_
                    have CH4 := Lib.hid (CH3.out.trans (Chg.of_below eX))
                    have B4 := Lib.hid (B3.out.below eX B3.out.lt)
                    have hk1 : rowK may st q (k + 1) = c := by
                      rw [HST2.out, if_neg]
                      exact fun h => hB0 h.2.1
                    have hrow := B4.out
                    rw [← hk1] at hrow
                    have HROW := Lib.hid hrow; clear hrow hk1
                    clear eX this HA3
                    go_wp2
                    go_roundw
                    case rel => exact ⟨k + 1, by omega, by go_num, HROW.out, CH4.out⟩
                    case measure => simp [vInt]; omega
                · have ha1 : (0 ≤ a) = False := eq_false hA0
                  refine SqC.quiet rfl rfl ?_; go_big_quiet_step (fail); refine wpQuiet_nil ?_
                  refine SqC.quiet rfl rfl ?_; go_big_quiet_step (fail); refine wpQuiet_nil ?_
                  refine SqC.quiet rfl rfl ?_; go_big_quiet_step (fail); refine wpQuiet_nil ?_
                  refine SqC.skip rfl ?_
                  simp only [Act.put, List.setIfInBounds_toArray, List.set_cons_zero, List.set_cons_succ]
                  refine SqC.skip rfl ?_
                  simp only [Act.put, List.setIfInBounds_toArray, List.set_cons_zero, List.set_cons_succ]
                  refine SqC.quiet rfl rfl ?_; go_big_quiet_step (fail); refine wpQuiet_nil ?_
                  refine SqC.quiet rfl rfl ?_; go_big_quiet_step (fail); refine wpQuiet_nil ?_
                  refine SqC.skip rfl ?_
                  simp only [Act.put, List.setIfInBounds_toArray, List.set_cons_zero, List.set_cons_succ]
                  refine SqC.skip rfl ?_
                  simp only [Act.put, List.setIfInBounds_toArray, List.set_cons_zero, List.set_cons_succ]
                  refine SqC.skip rfl ?_
                  simp only [Act.put, List.setIfInBounds_toArray, List.set_cons_zero, List.set_cons_succ]
                  refine SqC.skip rfl ?_
                  simp only [Act.put, List.setIfInBounds_toArray, List.set_cons_zero, List.set_cons_succ]
                  refine SqC.skip rfl ?_
                  simp only [Act.put, List.setIfInBounds_toArray, List.set_cons_zero, List.set_cons_succ]
                  refine SqC.skip rfl ?_
                  simp only [Act.put, List.setIfInBounds_toArray, List.set_cons_zero, List.set_cons_succ]
                  refine SqC.skip rfl ?_
                  simp only [Act.put, List.setIfInBounds_toArray, List.set_cons_zero, List.set_cons_succ]
                  refine SqC.skip rfl ?_
                  simp only [Act.put, List.setIfInBounds_toArray, List.set_cons_zero, List.set_cons_succ]
                  refine SqC.skip rfl ?_
                  simp only [Act.put, List.setIfInBounds_toArray, List.set_cons_zero, List.set_cons_succ]
                  refine SqC.skip rfl ?_
                  simp only [Act.put, List.setIfInBounds_toArray, List.set_cons_zero, List.set_cons_succ]
                  refine SqC.skip rfl ?_
                  simp only [Act.put, List.setIfInBounds_toArray, List.set_cons_zero, List.set_cons_succ]
                  refine SqC.skip rfl ?_
                  simp only [Act.put, List.setIfInBounds_toArray, List.set_cons_zero, List.set_cons_succ]
                  refine SqC.skip rfl ?_
                  simp only [Act.put, List.setIfInBounds_toArray, List.set_cons_zero, List.set_cons_succ]
                  refine SqC.skip rfl ?_
                  simp only [Act.put, List.setIfInBounds_toArray, List.set_cons_zero, List.set_cons_succ]
                  refine SqC.skip rfl ?_
                  simp only [Act.put, List.setIfInBounds_toArray, List.set_cons_zero, List.set_cons_succ]
                  refine SqC.skip rfl ?_
                  simp only [Act.put, List.setIfInBounds_toArray, List.set_cons_zero, List.set_cons_succ]
                  refine SqC.skip rfl ?_
                  simp only [Act.put, List.setIfInBounds_toArray, List.set_cons_zero, List.set_cons_succ]
                  refine SqC.skip rfl ?_
                  simp only [Act.put, List.setIfInBounds_toArray, List.set_cons_zero, List.set_cons_succ]
                  refine SqC.skip rfl ?_
                  simp only [Act.put, List.setIfInBounds_toArray, List.set_cons_zero, List.set_cons_succ]
                  refine SqC.skip rfl ?_
                  simp only [Act.put, List.setIfInBounds_toArray, List.set_cons_zero, List.set_cons_succ]
                  refine SqC.skip rfl ?_
                  simp only [Act.put, List.setIfInBounds_toArray, List.set_cons_zero, List.set_cons_succ]
                  refine SqC.quiet rfl rfl ?_; go_big_quiet_step (fail); refine wpQuiet_nil ?_
                  refine SqC.nil ?_
                  have CH4 := Lib.hid (CH3.out.trans (Chg.of_below eX))
                  have B4 := Lib.hid (B3.out.below eX B3.out.lt)
                  have hk1 : rowK may st q (k + 1) = c := by
                    rw [HST2.out, if_neg]
                    exact fun h => hA0 h.1
                  have hrow := B4.out
                  rw [← hk1] at hrow
                  have HROW := Lib.hid hrow; clear hrow hk1
                  clear eX this HA3
                  go_wp2
                  go_roundw
                  case rel => exact ⟨k + 1, by omega, by go_num, HROW.out, CH4.out⟩
                  case measure => simp [vInt]; omega
              · have hxq' : (zw != (q : Int)) = true := by rw [bne_iff_ne]; exact hxq
                have hxq2 : (zw = (q : Int)) = False := eq_false hxq
                have hrow := HB.out
                rw [← hmiss hxq] at hrow
                have HROW := Lib.hid hrow; clear hrow hmiss hhit hrest hcost hcle hxq cA cZ
                go_wp2
                have eX : Below wr.heap.size wr wr.drew := (Below.refl _ _).drew
                haveI : Nonempty (SqC.Come fun U : World => Below wr.heap.size wr U) := ⟨⟨_, eX⟩⟩
                refine SqC.wp_region_sqc 10 [] (fun U : World => Below wr.heap.size wr U) (by kernel_rfl) (by kernel_rfl) (by kernel_rfl) eX ?_
                obtain ⟨wd, hwd⟩ : ∃ wd : World, wd = wr.drew := ⟨_, rfl⟩
                rw [← hwd] at eX ⊢
                clear hwd
                refine SqC.quiet rfl rfl ?_; go_big_quiet_step (fail); refine wpQuiet_nil ?_
                refine SqC.quiet rfl rfl ?_; go_big_quiet_step (fail); refine wpQuiet_nil ?_
                refine SqC.quiet rfl rfl ?_; go_big_quiet_step (fail); refine wpQuiet_nil ?_
                refine SqC.quiet rfl rfl ?_; go_big_quiet_step (fail); refine wpQuiet_nil ?_
                refine SqC.value (.int .i64 zw) rfl rfl (by intro W hW; have cx := (HC0.out W hW).1; go_simp) ?_
                simp only [Act.put, List.setIfInBounds_toArray, List.set_cons_zero, List.set_cons_succ]
                refine SqC.quiet rfl rfl ?_; go_big_quiet_step (fail); refine wpQuiet_nil ?_
                refine SqC.quiet rfl rfl ?_; go_big_quiet_step (fail); refine wpQuiet_nil ?_
                refine SqC.quiet rfl rfl ?_; go_big_quiet_step (fail); refine wpQuiet_nil ?_
                refine SqC.value (.int .i64 (q : Int)) rfl rfl (by intro W hW; have cx := (HC0.out W hW).2; go_simp) ?_
                simp only [Act.put, List.setIfInBounds_toArray, List.set_cons_zero, List.set_cons_succ]
                refine SqC.quiet rfl rfl ?_; go_big_quiet_step (fail); refine wpQuiet_nil ?_
                refine SqC.nil ?_
                have CHD := Lib.hid (HCH.out.trans (Chg.of_below eX))
                have ROWD := Lib.hid (HROW.out.below eX HROW.out.lt)
                clear eX this HC0
                go_wp2
                go_roundw
                case rel => exact ⟨k + 1, by omega, by go_num, ROWD.out, CHD.out⟩
                case measure => simp [vInt]; omega
            · have hkl' : ((k : Int) < may.length) = False := eq_false (by omega)
              have hke : k = may.length := by omega
              have hfin := HB.out
              rw [hke, ← HBQ.out] at hfin
              have HFIN := Lib.hid (HNX.out _ hfin); clear hfin hke hbnd
              go_wp2
              go_roundw
              case rel => exact ⟨i + 1, by have := HIL.out; omega, by go_num, HFIN.out, HCH.out⟩
              case measure => have := HIL.out; simp [vInt]; omega
        · have hil' : ((i : Int) < A.length) = False := eq_false (by omega)
          have hie : i = A.length := by omega
          have hrow : Blk wr gS (intsI (A.map (bs may st))) 3 := by
            have h := HB.out
            rw [hie, List.take_length, Nat.sub_self, List.replicate_zero, List.append_nil] at h
            exact h
          have hslA : Sl wr 1 (.slice sa A.length c6) A.length (intsI A) := HSA.out.chg HCH.out (fun b hb => by have := HOA.out b hb; simp; omega)
          have hbzr : Below wz.heap.size wz wr := BZU.out.trans (HCH.out.below BZU.out.size (by have := HZR.out; simp; omega))
          have hbl : Blk wr gS (intsI (A.map (bs may st))) 3 := hrow
          have HROW := Lib.hid hrow; clear hrow HB
          have HSLA := Lib.hid hslA; clear hslA
          have HBZ := Lib.hid hbzr; clear hbzr hbl hie
          have hA6 : A.length ≤ 4096 := by have := HNM.out; have := HSLN.out; omega
          have HA6 := Lib.hid hA6; clear hA6
          go_wp2
          obtain ⟨wo, rfl⟩ : ∃ wo : World, wo = wr := ⟨_, rfl⟩
          go_loopw [13, 14, 15] (fun v13 v14 v wi => ∃ (k : Nat) (L : List Int), k ≤ A.length ∧ v = .int .i64 k ∧ L = (A.take k).filter (fun s => decide (0 ≤ bs may st s)) ∧ wi.ownsRow wo.heap.size 22 1 v13 L.length (intsI L) ∧ wi.ownsRow wo.heap.size 3 1 v14 L.length (intsI (L.map (bs may st))) ∧ (∀ b, v13.ownBlock = some b → v14.ownBlock ≠ some b) ∧ Below wo.heap.size wo wi) (fun _ _ v _ => A.length - (vInt v).toNat)
          case atStart => exact ⟨0, [], Nat.zero_le _, rfl, rfl, World.ownsRow_nil _ _ _ _, World.ownsRow_nil _ _ _ _, fun b h => (by cases h), Below.refl _ _⟩
          case round =>
            obtain ⟨k, L, hk, rfl, hL, ho1, ho2, hap, hbr⟩ := hrel
            obtain ⟨s13, c13, rfl, _⟩ := own_slice ho1
            obtain ⟨s14, c14, rfl, _⟩ := own_slice ho2
            have hLl : L.length ≤ A.length := by rw [hL]; exact filter_take_len _ _ _
            have HLE := Lib.hid hL; clear hL
            by_cases hkl : k < A.length
            · have hkl' : (k : Int) < A.length := by omega
              obtain ⟨g, o, hsa, -, -, hC, hg⟩ := sl_at HSLA.out (by omega)
              subst hsa
              have hstp := filter_take (p := fun s => decide (0 ≤ bs may st s)) hkl
              rw [← HLE.out] at hstp
              have hat : (intsI (A.map (bs may st)))[k]? = some (.int .i64 (bs may st A[k])) := by unfold intsI; simp [hkl]
              obtain ⟨y, hy⟩ : ∃ y, y = A[k] := ⟨_, rfl⟩
              rw [← hy] at hstp hat
              have cx : ∀ W, Below wr.heap.size wr W → W.cell? ⟨g, o + k, none⟩ = some (.int .i64 y) := fun W hW => by rw [hy]; exact (hC.below (hbr.trans (hW.mono hbr.size)) hg) k _ (intsI_at hkl)
              have cs : ∀ W, Below wo.heap.size wo W → W.cell? ⟨gS, k, none⟩ = some (.int .i64 (bs may st y)) := fun W hW => (HROW.out.below hW HROW.out.lt).cell hat
              obtain ⟨c, hc⟩ : ∃ c, c = bs may st y := ⟨_, rfl⟩
              rw [← hc] at hstp
              simp only [← hc] at cs
              have q1 := cx wr (Below.refl _ _)
              have q2 := cs wr hbr
              have HST2 := Lib.hid hstp; clear hstp hy hC hat
              have HCS := Lib.hid cs; clear cs
              have HBR := Lib.hid hbr; clear hbr
              have HC := Lib.hid hc; clear hc
              clear hg
              by_cases hc0 : 0 ≤ c
              · have hc1 : (0 ≤ c) = True := eq_true hc0
                have hst := HST2.out
                rw [if_pos (by simpa using hc0)] at hst
                have HS3 := Lib.hid hst; clear hst hc0
                have h6 := HA6.out
                have hz0 := HBR.out.size
                have ha1 := ho1.alloc (.cells #[.int .i64 y] 22)
                have hb0 : Below wo.heap.size wo (wr.alloc (.cells #[.int .i64 y] 22)) := HBR.out.trans ((alloc_below _ _).mono hz0)
                have HB0 := Lib.hid hb0; clear hb0
                have hga : ∀ W : World, Below wr.heap.size wr W → True := fun _ _ => trivial
                clear hga
                go_wp2_with (refine wpList_append_where rfl _ _ 24 rfl wo.heap.size 22 (.int .i64 0) 1 8 hTsets infoSet8 rfl (by decide) _ L.length _ rfl ha1 ⟨wr.heap.size, 0, none⟩ 1 1 [.int .i64 y] rfl rfl (by
                  intro j u hj
                  rw [Addr.add_lit, Nat.zero_add]; exact (Blk.new wr #[.int .i64 y] 22).cell hj) (by intro u hu; simp at hu; subst hu; rfl) (by simp only [maxLen]; omega) (by omega) (by simp; omega) ?_)
                intro v5 w5 h1 h2 h3
                have hb5 : Below wo.heap.size wo w5 := grown_below HB0.out ha1 h2 (by simp; omega)
                have ho2a := ho2.alloc (.cells #[.int .i64 y] 22)
                have ho25 := own_grown ho2a h2 (fun b hb e => hap b e.symm hb)
                have hap5 : ∀ b, v5.ownBlock = some b → (Value.slice s14 L.length c14).ownBlock ≠ some b := fun b hb e => by
                  rcases h3 b hb with h | h
                  · exact hap b h e
                  · have := own_lt' ho2 e
                    first | omega | (rw [World.size_alloc] at h; omega)
                have h15 : w5.ownsRow wo.heap.size 22 1 v5 (L ++ [y]).length (intsI (L ++ [y])) := by
                  rw [List.length_append]; unfold intsI; rw [List.map_append]; exact h1
                have q25 := HCS.out w5 hb5
                have H15 := Lib.hid h15; clear h15 h1
                have HB5 := Lib.hid hb5; clear hb5
                have HAP5 := Lib.hid hap5; clear hap5 h2 h3 ha1 HB0 q1 q2 ho2a hz0
                have hz5 := HB5.out.size
                have ha2 := ho25.alloc (.cells #[.int .i64 c] 3)
                have hb6 : Below wo.heap.size wo (w5.alloc (.cells #[.int .i64 c] 3)) := HB5.out.trans ((alloc_below _ _).mono hz5)
                have HB6 := Lib.hid hb6; clear hb6
                go_wp2_with (refine wpList_append_where rfl _ _ 50 rfl wo.heap.size 3 (.int .i64 0) 1 8 hTint infoInt rfl (by decide) _ L.length _ rfl ha2 ⟨w5.heap.size, 0, none⟩ 1 1 [.int .i64 c] rfl rfl (by
                  intro j u hj
                  rw [Addr.add_lit, Nat.zero_add]; exact (Blk.new w5 #[.int .i64 c] 3).cell hj) (by intro u hu; simp at hu; subst hu; rfl) (by simp only [maxLen]; omega) (by omega) (by simp; omega) ?_)
                intro v7 w7 h1 h2 h3
                have hb7 : Below wo.heap.size wo w7 := grown_below HB6.out ha2 h2 (by simp; omega)
                have ho17 := own_grown (H15.out.alloc (.cells #[.int .i64 c] 3)) h2 (fun b hb e => HAP5.out b hb e.symm)
                have hap7 : ∀ b, v5.ownBlock = some b → v7.ownBlock ≠ some b := fun b hb e => by
                  rcases h3 b e with h | h
                  · exact HAP5.out b hb h
                  · have := own_lt' H15.out hb
                    first | omega | (rw [World.size_alloc] at h; omega)
                have h27 : w7.ownsRow wo.heap.size 3 1 v7 (L ++ [y]).length (intsI ((L ++ [y]).map (bs may st))) := by
                  rw [List.length_append, List.map_append]; unfold intsI; rw [List.map_append, List.map_singleton, ← HC.out]; exact h1
                have H27 := Lib.hid h27; clear h27 h1
                have H17 := Lib.hid ho17; clear ho17
                have HB7 := Lib.hid hb7; clear hb7
                have HAP7 := Lib.hid hap7; clear hap7 h2 h3 ha2 HB6 q25 ho25 hz5 cx
                go_wp2
                go_roundw
                case rel => exact ⟨k + 1, L ++ [y], by omega, by go_num, HS3.out.symm, H17.out, H27.out, HAP7.out, HB7.out⟩
                case measure => simp [vInt]; omega
              · have hc1 : (0 ≤ c) = False := eq_false hc0
                have hst := HST2.out
                rw [if_neg (by simpa using hc0), List.append_nil] at hst
                have HS3 := Lib.hid hst; clear hst hc0 cx
                go_wp2
                go_roundw
                case rel => exact ⟨k + 1, L, by omega, by go_num, HS3.out.symm, ho1, ho2, hap, HBR.out⟩
                case measure => simp [vInt]; omega
            · have hkl' : ((k : Int) < A.length) = False := eq_false (by omega)
              have hfin : L = setsL may st := by rw [HSET.out, HLE.out, List.take_of_length_le (by omega)]
              obtain ⟨s1, hs1⟩ : ∃ s1, s1 = s13 := ⟨_, rfl⟩
              obtain ⟨c1, hc1⟩ : ∃ c1, c1 = c13 := ⟨_, rfl⟩
              obtain ⟨s2, hs2⟩ : ∃ s2, s2 = s14 := ⟨_, rfl⟩
              obtain ⟨c2, hc2⟩ : ∃ c2, c2 = c14 := ⟨_, rfl⟩
              rw [← hs1, ← hc1] at ho1
              rw [← hs2, ← hc2] at ho2
              subst hs1 hc1 hs2 hc2
              have hb9 : Below wz.heap.size wz wr := HBZ.out.trans (hbr.mono HBZ.out.size)
              rw [hfin] at ho1 ho2
              have H1 := Lib.hid (Sl.of_owns ho1); clear ho1
              have H2 := Lib.hid (Sl.of_owns ho2); clear ho2
              have HB9 := Lib.hid hb9; clear hb9
              have HFIN := Lib.hid hfin; clear hfin hap
              go_wp2
              go_ret2
              refine ⟨s1, c1, s2, c2, ?_, fun _ => H1.out, fun _ => ?_, HB9.out⟩
              · rw [← HFIN.out]; rfl
              · have h := H2.out
                rwa [← HFIN.out] at h ⊢
end Go.Proofs.Ytnkinjilnccmfaa

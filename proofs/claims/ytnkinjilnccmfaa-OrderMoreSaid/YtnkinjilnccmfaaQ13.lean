/- order: the program's CheckNone. -/
import Derived.Test.YtnkinjilnccmfaaQ13a
namespace Go.Proofs.Ytnkinjilnccmfaa
open Go.RowKit Go.Own Go.BigFrame Go.Big Go.Order
set_option maxRecDepth 100000 in
set_option maxHeartbeats 6400000 in
theorem checkNone_any (whole : Int) (may : List Spl) (st L : List Int) (s t u : Option Addr) (ca cb cc : Nat) (w : World) (hl : Lst w (.slice s may.length ca) may) (hm : Sz w (.slice t st.length cb) st.length (intsI st)) (hL : Sz w (.slice u L.length cc) L.length (intsI L)) (hLn : L.length < 4611686018427387904) :
    Calls Try.prog 20 #[.int .i64 whole, .slice s may.length ca, .slice t st.length cb, .agg #[.slice u L.length cc]] w fun e w' => e = .returned (.int .i64 (noneV whole may st L)) ∧ Below w.heap.size w w' := by
  have hLn2 : (L.length : Int) < 4611686018427387904 := by omega
  obtain ⟨W1, hW1⟩ : ∃ W1, W1 = w.alloc (.cells #[.slice u L.length cc] 29) := ⟨_, rfl⟩
  have b1 : Below w.heap.size w W1 := by rw [hW1]; exact alloc_below _ _
  have hB : Blk W1 w.heap.size [.slice u L.length cc] 29 := by rw [hW1]; exact Blk.new w #[.slice u L.length cc] 29
  have hft := fits_any whole may st s t ca cb W1 (hl.below b1) (hm.below b1)
  have HL := Lib.hid hl; clear hl
  have HM := Lib.hid hm; clear hm
  have HS := Lib.hid hL; clear hL
  have HB := Lib.hid hB; clear hB
  have HB1 := Lib.hid b1; clear b1
  have HFT := Lib.hid hft; clear hft
  have HW1 := Lib.hid hW1; clear hW1
  have hcs := errV_cases whole may st
  obtain ⟨ev, hev⟩ : ∃ ev, ev = errV whole may st := ⟨_, rfl⟩
  rw [← hev] at hcs HFT
  have HEV := Lib.hid hev; clear hev
  go_enter Try.func20, Try.ntmps20
  go_wp2_with (fail)
  rw [← HW1.out]
  refine HFT.out.mono ?_
  rintro e w2 ⟨rfl, b2⟩
  have b2' : Below w.heap.size w w2 := HB1.out.trans (b2.mono HB1.out.size)
  by_cases h0 : ev = 0
  case neg =>
    have hres : noneV whole may st L = ev := by unfold noneV; rw [← HEV.out, if_neg h0]
    have HRES := Lib.hid hres; clear hres
    have h1 : (ev != 0) = true := by rw [bne_iff_ne]; exact h0
    have h2 : (ev = 0) = False := eq_false h0
    go_wp2
    go_ret
    exact ⟨by rw [HRES.out]; rfl, b2'⟩
  subst h0
  clear hcs
  have hres : noneV whole may st L = if noneB whole may st L then 0 else 22 := by unfold noneV; rw [← HEV.out, if_pos rfl]
  have HRES := Lib.hid hres; clear hres
  have hlim := errV_ok (HEV.out).symm
  have hml : may.length ≤ 4096 := hlim.1
  have hsl : st.length ≤ 4096 := hlim.2.1
  clear hlim
  have hB2 := HB.out.below b2 HB.out.lt
  have hbox : w2.cell? ⟨w.heap.size, 0, none⟩ = some (.slice u L.length cc) := hB2.cell rfl
  obtain ⟨A, hA⟩ : ∃ A, A = w2.heap.size := ⟨_, rfl⟩
  obtain ⟨U1, hU1⟩ : ∃ U1, U1 = w2.alloc (.map #[] 0) := ⟨_, rfl⟩
  obtain ⟨U2, hU2⟩ : ∃ U2, U2 = U1.alloc (.map #[] 0) := ⟨_, rfl⟩
  obtain ⟨U3, hU3⟩ : ∃ U3, U3 = U2.alloc (.cells #[.map none] 71) := ⟨_, rfl⟩
  obtain ⟨U4, hU4⟩ : ∃ U4, U4 = U3.alloc (.cells #[.map none] 71) := ⟨_, rfl⟩
  have y1 : U1.heap.size = A + 1 := by rw [hU1, alloc_size, hA]
  have y2 : U2.heap.size = A + 1 + 1 := by rw [hU2, alloc_size, y1]
  have y3 : U3.heap.size = A + 1 + 1 + 1 := by rw [hU3, alloc_size, y2]
  have y4 : U4.heap.size = A + 1 + 1 + 1 + 1 := by rw [hU4, alloc_size, y3]
  have c1 : Below w2.heap.size w2 U1 := by rw [hU1]; exact alloc_below _ _
  have c2 : Below U1.heap.size U1 U2 := by rw [hU2]; exact alloc_below _ _
  have c3 : Below U2.heap.size U2 U3 := by rw [hU3]; exact alloc_below _ _
  have c4 : Below U3.heap.size U3 U4 := by rw [hU4]; exact alloc_below _ _
  have c24 : Below w2.heap.size w2 U4 := (c1.trans (c2.mono c1.size)).trans ((c3.trans (c4.mono c3.size)).mono (Nat.le_trans c1.size c2.size))
  have c34 : Below U2.heap.size U2 U4 := c3.trans (c4.mono c3.size)
  have mA : FirmM U4 A fun _ => false := by
    have := FirmM.new w2
    rw [← hU1, ← hA] at this
    exact (this.below c2).below c34
  have mB : FirmM U4 (A + 1) fun _ => false := by
    have := FirmM.new U1
    rw [← hU2, y1] at this
    exact this.below c34
  have kA : Blk U4 (A + 1 + 1) [.map none] 71 := by
    have : Blk U3 U2.heap.size [.map none] 71 := by rw [hU3]; exact Blk.new U2 #[.map none] 71
    rw [y2] at this
    exact this.below c4 (by omega)
  have kB : Blk U4 (A + 1 + 1 + 1) [.map none] 71 := by
    have : Blk U4 U3.heap.size [.map none] 71 := by rw [hU4]; exact Blk.new U3 #[.map none] 71
    rw [y3] at this
    exact this
  have hgA : w.heap.size < A := by rw [hA]; exact hB2.lt
  have kbox : U4.cell? ⟨w.heap.size, 0, none⟩ = some (.slice u L.length cc) := by rw [← hbox]; exact c24.cell (p := ⟨w.heap.size, 0, none⟩) (by show w.heap.size < _; omega)
  have bU4 : Below w.heap.size w U4 := b2'.trans (c24.mono b2'.size)
  have HMA := Lib.hid mA; clear mA
  have HMB := Lib.hid mB; clear mB
  have HU1 := Lib.hid hU1; clear hU1
  have HU2 := Lib.hid hU2; clear hU2
  have HU3 := Lib.hid hU3; clear hU3
  have HU4 := Lib.hid hU4; clear hU4
  have HA := Lib.hid hA; clear hA
  have HGA := Lib.hid hgA; clear hgA
  have HY4 := Lib.hid y4; clear y4
  have KA := Lib.hid kA; clear kA
  have KB := Lib.hid kB; clear kB
  have KBOX := Lib.hid kbox; clear kbox
  have BU4 := Lib.hid bU4; clear bU4
  clear y1 y2 y3 c1 c2 c3 c4 c24 c34 hB2 hbox b2 b2'
  have hmk1 := mk_firm w2
  have hmk2 := mk_firm (w2.alloc (.map #[] 0))
  dsimp only
  iterate 36 go_step
  clear hmk1 hmk2
  rw [← HU1.out, ← HU2.out, ← HU3.out, ← HU4.out, ← HA.out]
  refine wpList_store1 (ty := 71) (v := .map (some A)) KA.out rfl rfl rfl rfl rfl infoFirm rfl (by decide) rfl ?_
  intro S1 s1 s2
  have kB1 := s2.blk (show A + 1 + 1 + 1 ≠ A + 1 + 1 by omega) KB.out
  have S1A := Lib.hid s1; clear s1
  have S1O := Lib.hid s2; clear s2
  refine wpList_store1 (ty := 71) (v := .map (some (A + 1))) kB1 rfl rfl rfl rfl rfl infoFirm rfl (by decide) rfl ?_
  intro X x1 x2
  have hch : Chg [A + 1 + 1, A + 1 + 1 + 1] U4 X := ((Chg.of_oth S1O.out (F := [A + 1 + 1, A + 1 + 1 + 1]) (by simp)).trans (Chg.of_oth x2 (by simp)))
  have xA : FirmM X A fun _ => false := HMA.out.chg hch (by simp; omega)
  have xB : FirmM X (A + 1) fun _ => false := HMB.out.chg hch (by simp)
  have xkA : X.cell? ⟨A + 1 + 1, 0, none⟩ = some (.map (some A)) := (x2.blk (show A + 1 + 1 ≠ A + 1 + 1 + 1 by omega) S1A.out).cell rfl
  have xkB : X.cell? ⟨A + 1 + 1 + 1, 0, none⟩ = some (.map (some (A + 1))) := x1.cell rfl
  have xbox : X.cell? ⟨w.heap.size, 0, none⟩ = some (.slice u L.length cc) := hch.cell KBOX.out (by have := HGA.out; simp; omega)
  have bX : Below w.heap.size w X := BU4.out.trans (hch.below BU4.out.size (by have := HGA.out; simp; omega))
  have hq : ∀ U, Chg [A, A + 1] X U → U.cell? ⟨A + 1 + 1, 0, none⟩ = some (.map (some A)) ∧ U.cell? ⟨A + 1 + 1 + 1, 0, none⟩ = some (.map (some (A + 1))) ∧ U.cell? ⟨w.heap.size, 0, none⟩ = some (.slice u L.length cc) ∧ Below w.heap.size w U := fun U hU =>
    ⟨hU.cell xkA (by first | (simp; done) | (simp; omega)), hU.cell xkB (by first | (simp; done) | (simp; omega)), hU.cell xbox (by have := HGA.out; simp; omega), bX.trans (hU.below bX.size (by have := HGA.out; simp; omega))⟩
  have HQ := Lib.hid hq; clear hq
  have XA := Lib.hid xA; clear xA
  have XB := Lib.hid xB; clear xB
  clear x1 x2 hch xkA xkB bX kB1
  go_wp2
  go_loopw [30] (fun v wr => ∃ i : Nat, i ≤ L.length ∧ v = .int .i64 i ∧ FirmM wr A (hasB (L.take i)) ∧ FirmM wr (A + 1) (fun _ => false) ∧ (∀ j (h : j < L.length), 0 < j → j < i → L[j - 1] < L[j]) ∧ Chg [A, A + 1] X wr) (fun v _ => L.length - (vInt v).toNat)
  case atStart => exact ⟨0, Nat.zero_le _, rfl, XA.out, XB.out, fun j _ _ h => by omega, Chg.refl _ _⟩
  case round =>
    obtain ⟨i, hi, rfl, hfA, hfB, hinc, hch⟩ := hrel
    have HFA := Lib.hid hfA; clear hfA
    have HFB := Lib.hid hfB; clear hfB
    have HINC := Lib.hid hinc; clear hinc
    have HCH := Lib.hid hch; clear hch
    obtain ⟨kA, kB, kbox, hbw⟩ := HQ.out wr HCH.out
    have HBW := Lib.hid hbw; clear hbw
    by_cases hil : i < L.length
    · have hil' : (i : Int) < L.length := by omega
      obtain ⟨g, o, rfl, _, _, hC, hgl⟩ := sl_at (HS.out (by omega)) (by omega)
      obtain ⟨x, hx⟩ : ∃ x, x = L[i] := ⟨_, rfl⟩
      have cx : wr.cell? ⟨g, o + i, none⟩ = some (.int .i64 x) := by rw [hx]; exact (hC.below HBW.out hgl) i _ (intsI_at hil)
      have hhas : ∀ k, hasB (L.take (i + 1)) k = (decide (k = x) || hasB (L.take i) k) := fun k => by rw [hx]; exact hasB_take hil k
      have HHAS := Lib.hid hhas; clear hhas
      by_cases h0 : 0 < i
      · have h0' : (0 : Int) < i := by omega
        obtain ⟨q, hq⟩ : ∃ q, q = i - 1 := ⟨_, rfl⟩
        have eq1 : (i : Int) - 1 = (q : Int) := by omega
        have hql : q < L.length := by omega
        have hql' : (q : Int) < L.length := by omega
        obtain ⟨y, hy⟩ : ∃ y, y = L[q] := ⟨_, rfl⟩
        have cy : wr.cell? ⟨g, o + q, none⟩ = some (.int .i64 y) := by rw [hy]; exact (hC.below HBW.out hgl) q _ (intsI_at hql)
        have hstep : y < x → ∀ j (h : j < L.length), 0 < j → j < i + 1 → L[j - 1] < L[j] := fun hyx j h hj hji => by
          by_cases e : j = i
          · subst e
            simp only [← hq]
            rw [← hx, ← hy]; exact hyx
          · exact HINC.out j h hj (by omega)
        have hbad : ¬ y < x → noneB whole may st L = false := fun hyx => by
          unfold noneB
          rw [incB_bad h0 hil (by simp only [← hq]; rw [← hx, ← hy]; exact hyx)]; rfl
        have HSTEP0 := Lib.hid hstep; clear hstep
        have HBAD := Lib.hid hbad; clear hbad hx hy hC hq
        by_cases hyx : y < x
        · have HSTEP := Lib.hid (HSTEP0.out hyx)
          have h3 : (x ≤ y) = False := eq_false (by omega)
          obtain ⟨m, hm, hg⟩ := HFA.out
          have HMm := Lib.hid hm; clear hm
          have HGm := Lib.hid hg; clear hg
          go_wp2_with (refine wpList_mapUpdate_imap (k := x) (v := .bool true) HMm.out rfl rfl rfl rfl rfl rfl hTfirm hKset ?_)
          intro w3 hm3 hc3 hz3
          have hfn : FirmM w3 A (hasB (L.take (i + 1))) := (FirmM.set HGm.out hm3).congr fun k => by unfold bmap; rw [HHAS.out k]
          have hfb : FirmM w3 (A + 1) (fun _ => false) := HFB.out.chg hc3 (by simp)
          have hcn : Chg [A, A + 1] X w3 := HCH.out.trans (hc3.mono (by simp))
          have HFN := Lib.hid hfn; clear hfn hm3
          have HFBN := Lib.hid hfb; clear hfb
          have HCN := Lib.hid hcn; clear hcn hc3
          go_wp2
          go_roundw
          case rel => exact ⟨i + 1, by omega, by go_num, HFN.out, HFBN.out, HSTEP.out, HCN.out⟩
          case measure => simp [vInt]; omega
        · have HB2 := Lib.hid (HBAD.out hyx)
          have h3 : x ≤ y := by omega
          clear hyx
          go_wp2
          go_ret
          exact ⟨by rw [HRES.out, HB2.out]; rfl, HBW.out⟩
      · have h0' : ((0 : Int) < (i : Int)) = False := eq_false (by omega)
        have HSTEP := Lib.hid (show ∀ j (h : j < L.length), 0 < j → j < i + 1 → L[j - 1] < L[j] from fun j h hj hji => by omega)
        have h0n : (0 < i) = False := eq_false h0
        clear hx hC h0
        obtain ⟨m, hm, hg⟩ := HFA.out
        have HMm := Lib.hid hm; clear hm
        have HGm := Lib.hid hg; clear hg
        go_wp2_with (refine wpList_mapUpdate_imap (k := x) (v := .bool true) HMm.out rfl rfl rfl rfl rfl rfl hTfirm hKset ?_)
        intro w3 hm3 hc3 hz3
        have hfn : FirmM w3 A (hasB (L.take (i + 1))) := (FirmM.set HGm.out hm3).congr fun k => by unfold bmap; rw [HHAS.out k]
        have hfb : FirmM w3 (A + 1) (fun _ => false) := HFB.out.chg hc3 (by simp)
        have hcn : Chg [A, A + 1] X w3 := HCH.out.trans (hc3.mono (by simp))
        have HFN := Lib.hid hfn; clear hfn hm3
        have HFBN := Lib.hid hfb; clear hfb
        have HCN := Lib.hid hcn; clear hcn hc3
        go_wp2
        go_roundw
        case rel => exact ⟨i + 1, by omega, by go_num, HFN.out, HFBN.out, HSTEP.out, HCN.out⟩
        case measure => simp [vInt]; omega
    · have hil' : ((i : Int) < L.length) = False := eq_false (by omega)
      have hfall : FirmM wr A (hasB L) := HFA.out.congr fun k => by rw [List.take_of_length_le (by omega)]
      have hincall : incB L = true := incB_iff.2 fun j h => by
        have := HINC.out (j + 1) h (by omega) (by omega)
        simpa using this
      have HFALL := Lib.hid hfall; clear hfall
      have HIALL := Lib.hid hincall; clear hincall
      go_wp2
      obtain ⟨wo, rfl⟩ : ∃ wo : World, wo = wr := ⟨_, rfl⟩
      go_loopw [52] (fun v wi => ∃ k : Nat, k ≤ st.length ∧ v = .int .i64 k ∧ FirmM wi A (hasB L) ∧ FirmM wi (A + 1) (hasB (st.take k)) ∧ Chg [A, A + 1] X wi) (fun v _ => st.length - (vInt v).toNat)
      case atStart => exact ⟨0, Nat.zero_le _, rfl, HFALL.out, HFB.out, HCH.out⟩
      case round =>
        obtain ⟨k, hk, rfl, hfA2, hfB2, hch2⟩ := hrel
        have HFA2 := Lib.hid hfA2; clear hfA2
        have HFB2 := Lib.hid hfB2; clear hfB2
        have HCH2 := Lib.hid hch2; clear hch2
        obtain ⟨jA, jB, jbox, hbw2⟩ := HQ.out wr HCH2.out
        have HBW2 := Lib.hid hbw2; clear hbw2 jbox
        by_cases hkl : k < st.length
        · have hkl' : (k : Int) < st.length := by omega
          obtain ⟨g, o, rfl, _, _, hC, hgl⟩ := sl_at (HM.out (by omega)) (by omega)
          obtain ⟨x, hx⟩ : ∃ x, x = st[k] := ⟨_, rfl⟩
          have cx : wr.cell? ⟨g, o + k, none⟩ = some (.int .i64 x) := by rw [hx]; exact (hC.below HBW2.out hgl) k _ (intsI_at hkl)
          have hhas : ∀ z, hasB (st.take (k + 1)) z = (decide (z = x) || hasB (st.take k) z) := fun z => by rw [hx]; exact hasB_take hkl z
          have HHAS := Lib.hid hhas; clear hhas hx hC
          obtain ⟨m, hm, hg⟩ := HFB2.out
          have HMm := Lib.hid hm; clear hm
          have HGm := Lib.hid hg; clear hg
          go_wp2_with (refine wpList_mapUpdate_imap (k := x) (v := .bool true) HMm.out rfl rfl rfl rfl rfl rfl hTfirm hKset ?_)
          intro w3 hm3 hc3 hz3
          have hfn : FirmM w3 (A + 1) (hasB (st.take (k + 1))) := (FirmM.set HGm.out hm3).congr fun z => by unfold bmap; rw [HHAS.out z]
          have hfb : FirmM w3 A (hasB L) := HFA2.out.chg hc3 (by simp)
          have hcn : Chg [A, A + 1] X w3 := HCH2.out.trans (hc3.mono (by simp))
          have HFN := Lib.hid hfn; clear hfn hm3
          have HFBN := Lib.hid hfb; clear hfb
          have HCN := Lib.hid hcn; clear hcn hc3
          go_wp2
          go_roundw
          case rel => exact ⟨k + 1, by omega, by go_num, HFBN.out, HFN.out, HCN.out⟩
          case measure => simp [vInt]; omega
        · have hkl' : ((k : Int) < st.length) = False := eq_false (by omega)
          have hfall2 : FirmM wr (A + 1) (hasB st) := HFB2.out.congr fun z => by rw [List.take_of_length_le (by omega)]
          have hl1 := lookB HFA2.out whole
          have hop := hasOpen_any st (openB L) (A + 1 + 1) t cb wr (HM.out.below HBW2.out) (by omega) (fun x hx V hV => (open_any x A (A + 1 + 1) (hasB L) V ((hV.cell (p := ⟨A + 1 + 1, 0, none⟩) (World.block_lt_of_cell? _ _ jA)).trans jA) (HFA2.out.below hV)).mono fun e w' ⟨h1, h2⟩ => ⟨h1, by rw [h2]; exact Below.refl _ _⟩)
          have hgr := fun V (hV : Below wr.heap.size wr V) => hasGrows_any may (growB st L) (A + 1 + 1 + 1) (A + 1 + 1) s ca V (HL.out.below (HBW2.out.trans (hV.mono HBW2.out.size))) (by omega) (fun x hx Z hZ => by
            have hZ' := hV.trans (hZ.mono hV.size)
            exact grows_any x (A + 1) A (A + 1 + 1 + 1) (A + 1 + 1) (hasB st) (hasB L) Z ((hZ'.cell (p := ⟨A + 1 + 1 + 1, 0, none⟩) (World.block_lt_of_cell? _ _ jB)).trans jB) ((hZ'.cell (p := ⟨A + 1 + 1, 0, none⟩) (World.block_lt_of_cell? _ _ jA)).trans jA) (hfall2.below hZ') (HFA2.out.below hZ'))
          have hres : noneV whole may st L = if (!hasB L whole && !st.any (openB L) && !may.any (growB st L)) then 0 else 22 := by
            rw [HRES.out]; unfold noneB; rw [HIALL.out, Bool.true_and]
          obtain ⟨r1, hr1⟩ : ∃ r, r = hasB L whole := ⟨_, rfl⟩
          obtain ⟨r2, hr2⟩ : ∃ r, r = st.any (openB L) := ⟨_, rfl⟩
          obtain ⟨r3, hr3⟩ : ∃ r, r = may.any (growB st L) := ⟨_, rfl⟩
          rw [← hr1, ← hr2, ← hr3] at hres
          rw [← hr1] at hl1
          rw [← hr2] at hop
          rw [← hr3] at hgr
          have HR2 := Lib.hid hres; clear hres hr1 hr2 hr3 hfall2
          have HOP := Lib.hid hop; clear hop
          have HGR := Lib.hid hgr; clear hgr
          cases r1 with
          | true =>
            go_wp2
            go_ret
            exact ⟨by rw [HR2.out]; rfl, HBW2.out⟩
          | false =>
            go_wp2_with (fail)
            refine HOP.out.mono ?_
            rintro e w4 ⟨rfl, b4⟩
            have b4' := HBW2.out.trans (b4.mono HBW2.out.size)
            cases r2 with
            | true =>
              go_wp2
              go_ret
              exact ⟨by rw [HR2.out]; rfl, b4'⟩
            | false =>
              have HB4 := Lib.hid b4; clear b4
              have HB4' := Lib.hid b4'; clear b4'
              clear hl1 jA jB
              go_wp2_with (fail)
              refine (HGR.out w4 HB4.out).mono ?_
              rintro e w5 ⟨rfl, b5⟩
              have b5' := HB4'.out.trans (b5.mono HB4'.out.size)
              clear b5
              cases r3 with
              | true =>
                go_wp2
                go_ret
                exact ⟨by rw [HR2.out]; rfl, b5'⟩
              | false =>
                go_wp2
                go_ret
                exact ⟨by rw [HR2.out]; rfl, b5'⟩
end Go.Proofs.Ytnkinjilnccmfaa

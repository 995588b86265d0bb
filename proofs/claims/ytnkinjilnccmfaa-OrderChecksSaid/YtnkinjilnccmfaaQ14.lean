/- order: the reference's CheckNone. -/
import Derived.Test.YtnkinjilnccmfaaQ13
namespace Go.Order
open Go.RowKit Go.Own Go.Proofs.Ytnkinjilnccmfaa
theorem noneB_has {whole : Int} {may : List Spl} {st L : List Int} (h : hasB L whole = true) : noneB whole may st L = false := by unfold noneB; rw [h]; simp
theorem noneB_inc {whole : Int} {may : List Spl} {st L : List Int} (h : incB L = false) : noneB whole may st L = false := by unfold noneB; rw [h]; simp
theorem noneB_open {whole : Int} {may : List Spl} {st L : List Int} {i : Nat} (hi : i < st.length) (h : openB L st[i] = true) : noneB whole may st L = false := by
  unfold noneB; rw [show st.any (openB L) = true from List.any_eq_true.2 ⟨_, List.getElem_mem hi, h⟩]; simp
theorem noneB_grow {whole : Int} {may : List Spl} {st L : List Int} {i : Nat} (hi : i < may.length) (h : growB st L may[i] = true) : noneB whole may st L = false := by
  unfold noneB; rw [show may.any (growB st L) = true from List.any_eq_true.2 ⟨_, List.getElem_mem hi, h⟩]; simp
def incAt (L : List Int) (i : Nat) : Prop := ∀ j (h : j < L.length), 0 < j → j < i → L[j - 1] < L[j]
theorem any_false {α : Type} {l : List α} {f : α → Bool} (h : ∀ i (h : i < l.length), f l[i] = false) : l.any f = false := by
  rw [List.any_eq_false]
  intro x hx
  obtain ⟨j, hj, rfl⟩ := List.getElem_of_mem hx
  rw [h j hj]; exact Bool.false_ne_true
end Go.Order
namespace Go.Proofs.Ytnkinjilnccmfaa
open Go.RowKit Go.Own Go.BigFrame Go.Big Go.Order
set_option maxRecDepth 100000 in
set_option maxHeartbeats 6400000 in
theorem rcheckNone_any (whole : Int) (may : List Spl) (st L : List Int) (s t u : Option Addr) (cz1 cz2 cz3 : Nat) (w : World) (hl : Lst w (.slice s may.length cz1) may) (hm : Sz w (.slice t st.length cz2) st.length (intsI st)) (hL : Sz w (.slice u L.length cz3) L.length (intsI L)) (hLn : L.length < 4611686018427387904) :
    Calls Try.prog 21 #[.int .i64 whole, .slice s may.length cz1, .slice t st.length cz2, .slice u L.length cz3] w fun e w' => e = .returned (.int .i64 (noneV whole may st L)) ∧ Below w.heap.size w w' := by
  have hLn2 : (L.length : Int) < 4611686018427387904 := by omega
  have hft := rerror_any whole may st s t cz1 cz2 w hl hm
  have HL := Lib.hid hl; clear hl
  have HM := Lib.hid hm; clear hm
  have HS := Lib.hid hL; clear hL
  have HFT := Lib.hid hft; clear hft
  obtain ⟨ev, hev⟩ : ∃ ev, ev = errV whole may st := ⟨_, rfl⟩
  rw [← hev] at HFT
  have HEV := Lib.hid hev; clear hev
  go_enter Try.func21, Try.ntmps21
  go_wp2_with (fail)
  refine HFT.out.mono ?_
  rintro e w2 ⟨rfl, b2⟩
  by_cases h0 : ev = 0
  case neg =>
    have hres : noneV whole may st L = ev := by unfold noneV; rw [← HEV.out, if_neg h0]
    have HRES := Lib.hid hres; clear hres
    have h1 : (ev != 0) = true := by rw [bne_iff_ne]; exact h0
    have h2 : (ev = 0) = False := eq_false h0
    go_wp2
    go_ret
    exact ⟨by rw [HRES.out]; rfl, b2⟩
  subst h0
  have hres : noneV whole may st L = if noneB whole may st L then 0 else 22 := by unfold noneV; rw [← HEV.out, if_pos rfl]
  have HRES := Lib.hid hres; clear hres
  have hlim := errV_ok (HEV.out).symm
  have hml : may.length ≤ 4096 := hlim.1
  have hsl : st.length ≤ 4096 := hlim.2.1
  clear hlim
  have hh := fun (x : Int) (U : World) (hU : Below w.heap.size w U) => rhas_any L x u cz3 U (HS.out.below hU) hLn
  have hg := fun (x : Int) (U : World) (hU : Below w.heap.size w U) => rhas_any st x t cz2 U (HM.out.below hU) (by omega)
  have HH := Lib.hid hh; clear hh
  have HG := Lib.hid hg; clear hg
  have h1 := HH.out whole w2 b2
  have B2 := Lib.hid b2; clear b2
  obtain ⟨r1, hr1⟩ : ∃ r, r = hasB L whole := ⟨_, rfl⟩
  rw [← hr1] at h1
  have H1 := Lib.hid h1; clear h1
  have HR1 := Lib.hid hr1; clear hr1
  go_wp2_with (fail)
  refine H1.out.mono ?_
  rintro e w3 ⟨rfl, h⟩
  have h3 := h.symm; clear h; subst h3
  cases r1 with
  | true =>
    have hb := noneB_has (may := may) (st := st) (HR1.out).symm
    have HB := Lib.hid hb; clear hb
    go_wp2
    go_ret
    exact ⟨by rw [HRES.out, HB.out]; rfl, B2.out⟩
  | false =>
    go_wp2
    go_loopw [10] (fun v wr => ∃ i : Nat, 1 ≤ i ∧ i ≤ L.length + 1 ∧ v = .int .i64 i ∧ incAt L i ∧ Below w.heap.size w wr) (fun v _ => L.length + 1 - (vInt v).toNat)
    case atStart => exact ⟨1, Nat.le_refl _, by omega, rfl, fun j _ h1 h2 => by omega, B2.out⟩
    case round =>
      obtain ⟨i, hi1, hi, rfl, hinc, hbr⟩ := hrel
      have HINC := Lib.hid hinc; clear hinc
      by_cases hil : i < L.length
      · have hil' : (i : Int) < L.length := by omega
        obtain ⟨g, o, rfl, _, _, hC, hgl⟩ := sl_at (HS.out (by omega)) (by omega)
        obtain ⟨q, hq⟩ : ∃ q, q = i - 1 := ⟨_, rfl⟩
        have eq1 : (i : Int) - 1 = (q : Int) := by omega
        have hql : q < L.length := by omega
        have hql' : (q : Int) < L.length := by omega
        obtain ⟨x, hx⟩ : ∃ x, x = L[i] := ⟨_, rfl⟩
        obtain ⟨y, hy⟩ : ∃ y, y = L[q] := ⟨_, rfl⟩
        have cx : wr.cell? ⟨g, o + i, none⟩ = some (.int .i64 x) := by rw [hx]; exact (hC.below hbr hgl) i _ (intsI_at hil)
        have cy : wr.cell? ⟨g, o + q, none⟩ = some (.int .i64 y) := by rw [hy]; exact (hC.below hbr hgl) q _ (intsI_at hql)
        have hstep : y < x → incAt L (i + 1) := fun hyx j h hj hji => by
          by_cases e : j = i
          · subst e
            simp only [← hq]
            rw [← hx, ← hy]; exact hyx
          · exact HINC.out j h hj (by omega)
        have hbad : ¬ y < x → noneB whole may st L = false := fun hyx => noneB_inc (incB_bad (by omega) hil (by simp only [← hq]; rw [← hx, ← hy]; exact hyx))
        have HSTEP0 := Lib.hid hstep; clear hstep
        have HBAD := Lib.hid hbad; clear hbad hx hy hC hq
        have HBR := Lib.hid hbr; clear hbr
        by_cases hyx : y < x
        · have HSTEP := Lib.hid (HSTEP0.out hyx)
          have h3 : (x ≤ y) = False := eq_false (by omega)
          go_wp2
          go_quiet (fail)
          go_wp2
          go_roundw
          case rel => exact ⟨i + 1, by omega, by omega, by go_num, HSTEP.out, below_drewN HBR.out _⟩
          case measure => simp [vInt]; omega
        · have HB2 := Lib.hid (HBAD.out hyx)
          have h3 : x ≤ y := by omega
          clear hyx
          go_wp2
          go_quiet (fail)
          go_wp2
          go_ret
          exact ⟨by rw [HRES.out, HB2.out]; rfl, below_drewN HBR.out _⟩
      · have hil' : ((i : Int) < L.length) = False := eq_false (by omega)
        have hincall : incB L = true := incB_iff.2 fun j h => by
          have := HINC.out (j + 1) h (by omega) (by omega)
          simpa using this
        have HIALL := Lib.hid hincall; clear hincall
        go_wp2
        obtain ⟨wo, rfl⟩ : ∃ wo : World, wo = wr := ⟨_, rfl⟩
        go_loopw [11] (fun v wi => ∃ k : Nat, k ≤ st.length ∧ v = .int .i64 k ∧ (∀ j (h : j < st.length), j < k → openB L st[j] = false) ∧ Below w.heap.size w wi) (fun v _ => st.length - (vInt v).toNat)
        case atStart => exact ⟨0, Nat.zero_le _, rfl, fun j _ h => by omega, hbr⟩
        case round =>
          obtain ⟨k, hk, rfl, hop, hbw⟩ := hrel
          have HOP := Lib.hid hop; clear hop hbr
          by_cases hkl : k < st.length
          · have hkl' : (k : Int) < st.length := by omega
            obtain ⟨g, o, rfl, _, _, hC, hgl⟩ := sl_at (HM.out (by omega)) (by omega)
            have hne : openB L st[k] = false → ∀ j (h : j < st.length), j < k + 1 → openB L st[j] = false := fun he j h hj => by
              by_cases e : j = k
              · subst e; exact he
              · exact HOP.out j h (by omega)
            have hbad := fun he : openB L st[k] = true => noneB_open (whole := whole) (may := may) hkl he
            obtain ⟨x, hx⟩ : ∃ x, x = st[k] := ⟨_, rfl⟩
            have cx : wr.cell? ⟨g, o + k, none⟩ = some (.int .i64 x) := by rw [hx]; exact (hC.below hbw hgl) k _ (intsI_at hkl)
            rw [← hx] at hne hbad
            have hopx : openB L x = (decide (siz x = 1) && !hasB L x) := rfl
            have hs := rsize_any x wr
            have hhx := HH.out x wr hbw
            obtain ⟨n, hn⟩ : ∃ n, n = siz x := ⟨_, rfl⟩
            obtain ⟨r2, hr2⟩ : ∃ r, r = hasB L x := ⟨_, rfl⟩
            rw [← hn] at hs hopx
            rw [← hr2] at hhx hopx
            rw [hopx] at hne hbad
            have HS1 := Lib.hid hs; clear hs
            have HHX := Lib.hid hhx; clear hhx
            have HNE := Lib.hid hne; clear hne
            have HBAD := Lib.hid hbad; clear hbad hx hn hr2 hopx hC
            have HBW := Lib.hid hbw; clear hbw
            by_cases h1 : n = 1
            · have h2 : ((n : Int) == 1) = true := by rw [h1]; rfl
              have h3 : ((n : Int) = 1) = True := eq_true (by omega)
              have HN1 := Lib.hid (show decide (n = 1) = true by simp [h1])
              clear h1
              cases r2 with
              | false =>
                have HB := Lib.hid (HBAD.out (by rw [HN1.out]; rfl))
                go_wp2_with (fail)
                refine HS1.out.mono ?_
                rintro e w5 ⟨rfl, h⟩
                have h5 := h.symm; clear h; subst h5
                go_wp2_with (fail)
                refine HHX.out.mono ?_
                rintro e w5 ⟨rfl, h⟩
                have h5 := h.symm; clear h; subst h5
                go_wp2
                go_ret
                exact ⟨by rw [HRES.out, HB.out]; rfl, HBW.out⟩
              | true =>
                have HB := Lib.hid (HNE.out (by simp))
                go_wp2_with (fail)
                refine HS1.out.mono ?_
                rintro e w5 ⟨rfl, h⟩
                have h5 := h.symm; clear h; subst h5
                go_wp2_with (fail)
                refine HHX.out.mono ?_
                rintro e w5 ⟨rfl, h⟩
                have h5 := h.symm; clear h; subst h5
                go_wp2
                go_roundw
                case rel => exact ⟨k + 1, by omega, by go_num, HB.out, HBW.out⟩
                case measure => simp [vInt]; omega
            · have h2 : ((n : Int) == 1) = false := by rw [beq_eq_false_iff_ne]; omega
              have h3 : ((n : Int) = 1) = False := eq_false (by omega)
              have HB := Lib.hid (HNE.out (by simp [h1]))
              clear h1
              go_wp2_with (fail)
              refine HS1.out.mono ?_
              rintro e w5 ⟨rfl, h⟩
              have h5 := h.symm; clear h; subst h5
              go_wp2
              go_roundw
              case rel => exact ⟨k + 1, by omega, by go_num, HB.out, HBW.out⟩
              case measure => simp [vInt]; omega
          · have hkl' : ((k : Int) < st.length) = False := eq_false (by omega)
            have hopall : st.any (openB L) = false := any_false fun j h => HOP.out j h (by omega)
            have HOALL := Lib.hid hopall; clear hopall
            go_wp2
            obtain ⟨wp, rfl⟩ : ∃ wp : World, wp = wr := ⟨_, rfl⟩
            go_loopw [12] (fun v wi => ∃ i : Nat, i ≤ may.length ∧ v = .int .i64 i ∧ (∀ j (h : j < may.length), j < i → growB st L may[j] = false) ∧ Below w.heap.size w wi) (fun v _ => may.length - (vInt v).toNat)
            case atStart => exact ⟨0, Nat.zero_le _, rfl, fun j _ h => by omega, hbw⟩
            case round =>
              obtain ⟨i, hi2, rfl, hgr, hbv⟩ := hrel
              have HGR := Lib.hid hgr; clear hgr hbw
              by_cases hgl2 : i < may.length
              · have hgl' : (i : Int) < may.length := by omega
                obtain ⟨g, o, rfl, _, _, _, hC, hgl⟩ := HL.out.at (by omega)
                have cA := (Lst.cells hC hgl2).below hbv hgl
                have hne : growB st L may[i] = false → ∀ j (h : j < may.length), j < i + 1 → growB st L may[j] = false := fun he j h hj => by
                  by_cases e : j = i
                  · subst e; exact he
                  · exact HGR.out j h (by omega)
                have hbad := fun he : growB st L may[i] = true => noneB_grow (whole := whole) hgl2 he
                obtain ⟨x, hx⟩ : ∃ x, x = may[i] := ⟨_, rfl⟩
                rw [← hx] at hne hbad cA
                have hgx : growB st L x = (hasB st x.w && hasB L x.p && hasB L x.rest && !hasB L x.w) := rfl
                have l1 := HG.out x.w wr hbv
                have l2 := HH.out x.p wr hbv
                have l3 := fun (U : World) (hU : Below wr.heap.size wr U) => HH.out x.rest U (hbv.trans (hU.mono hbv.size))
                have l4 := fun (U : World) (hU : Below wr.heap.size wr U) => HH.out x.w U (hbv.trans (hU.mono hbv.size))
                have hrs := rrest_any x wr
                obtain ⟨R, hR⟩ : ∃ R, R = x.rest := ⟨_, rfl⟩
                rw [← hR] at hrs l3 hgx
                obtain ⟨f1, hf1⟩ : ∃ f, f = hasB st x.w := ⟨_, rfl⟩
                obtain ⟨f2, hf2⟩ : ∃ f, f = hasB L x.p := ⟨_, rfl⟩
                obtain ⟨f3, hf3⟩ : ∃ f, f = hasB L R := ⟨_, rfl⟩
                obtain ⟨f4, hf4⟩ : ∃ f, f = hasB L x.w := ⟨_, rfl⟩
                rw [← hf1, ← hf2, ← hf3, ← hf4] at hgx
                rw [← hf1] at l1
                rw [← hf2] at l2
                rw [← hf3] at l3
                rw [← hf4] at l4
                rw [hgx] at hne hbad
                clear hf1 hf2 hf3 hf4 hgx hR hx hC
                obtain ⟨xw, xp, ⟨na, da, sa, ca⟩, ⟨nb, db, sb, cb⟩, ⟨nc, dc, sc, cc⟩, ⟨nd, dd, sd, cd⟩⟩ := x
                have k0 : wr.cell? ⟨g, o + i * 10, none⟩ = some (.int .i64 xw) := cA 0 _ rfl
                have k1 : wr.cell? ⟨g, o + i * 10 + 1, none⟩ = some (.int .i64 xp) := cA 1 _ rfl
                have k2 : wr.cell? ⟨g, o + i * 10 + 2, none⟩ = some (.bool na) := cA 2 _ rfl
                have k3 : wr.cell? ⟨g, o + i * 10 + 3, none⟩ = some (.slice sa da.length ca) := cA 3 _ rfl
                have k4 : wr.cell? ⟨g, o + i * 10 + 4, none⟩ = some (.bool nb) := cA 4 _ rfl
                have k5 : wr.cell? ⟨g, o + i * 10 + 5, none⟩ = some (.slice sb db.length cb) := cA 5 _ rfl
                have k6 : wr.cell? ⟨g, o + i * 10 + 6, none⟩ = some (.bool nc) := cA 6 _ rfl
                have k7 : wr.cell? ⟨g, o + i * 10 + 7, none⟩ = some (.slice sc dc.length cc) := cA 7 _ rfl
                have k8 : wr.cell? ⟨g, o + i * 10 + 8, none⟩ = some (.bool nd) := cA 8 _ rfl
                have k9 : wr.cell? ⟨g, o + i * 10 + 9, none⟩ = some (.slice sd dd.length cd) := cA 9 _ rfl
                have hrs' : Calls Try.prog 28 #[.agg #[.int .i64 xw, .int .i64 xp, .bool na, .slice sa da.length ca, .bool nb, .slice sb db.length cb, .bool nc, .slice sc dc.length cc, .bool nd, .slice sd dd.length cd]] wr fun e w' => e = .returned (.int .i64 R) ∧ Below wr.heap.size wr w' := hrs
                have l1' : Calls Try.prog 52 #[.slice t st.length cz2, .int .i64 xw] wr fun e w' => e = .returned (.bool f1) ∧ w' = wr := l1
                have l2' : Calls Try.prog 52 #[.slice u L.length cz3, .int .i64 xp] wr fun e w' => e = .returned (.bool f2) ∧ w' = wr := l2
                have l4' : ∀ U, Below wr.heap.size wr U → Calls Try.prog 52 #[.slice u L.length cz3, .int .i64 xw] U fun e w' => e = .returned (.bool f4) ∧ w' = U := l4
                have c0 : ∀ U, Below wr.heap.size wr U → U.cell? ⟨g, o + i * 10, none⟩ = some (.int .i64 xw) := fun U hU => (hU.cell (p := ⟨g, o + i * 10, none⟩) (World.block_lt_of_cell? _ _ k0)).trans k0
                have C0 := Lib.hid c0; clear c0
                have HRS := Lib.hid hrs'; clear hrs hrs'
                have L1 := Lib.hid l1'; clear l1 l1'
                have L2 := Lib.hid l2'; clear l2 l2'
                have L3 := Lib.hid l3; clear l3
                have L4 := Lib.hid l4'; clear l4 l4' cA
                have HNE := Lib.hid hne; clear hne
                have HBAD := Lib.hid hbad; clear hbad
                have HBV := Lib.hid hbv; clear hbv
                cases f1 with
                | false =>
                  have HB := Lib.hid (HNE.out rfl)
                  go_wp2_with (fail)
                  refine L1.out.mono ?_
                  rintro e w5 ⟨rfl, h⟩
                  have h5 := h.symm; clear h; subst h5
                  go_wp2
                  go_roundw
                  case rel => exact ⟨i + 1, by omega, by go_num, HB.out, HBV.out⟩
                  case measure => simp [vInt]; omega
                | true =>
                  cases f2 with
                  | false =>
                    have HB := Lib.hid (HNE.out rfl)
                    go_wp2_with (fail)
                    refine L1.out.mono ?_
                    rintro e w5 ⟨rfl, h⟩
                    have h5 := h.symm; clear h; subst h5
                    go_wp2_with (fail)
                    refine L2.out.mono ?_
                    rintro e w5 ⟨rfl, h⟩
                    have h5 := h.symm; clear h; subst h5
                    go_wp2
                    go_roundw
                    case rel => exact ⟨i + 1, by omega, by go_num, HB.out, HBV.out⟩
                    case measure => simp [vInt]; omega
                  | true =>
                    go_wp2_with (fail)
                    refine L1.out.mono ?_
                    rintro e w5 ⟨rfl, h⟩
                    have h5 := h.symm; clear h; subst h5
                    go_wp2_with (fail)
                    refine L2.out.mono ?_
                    rintro e w5 ⟨rfl, h⟩
                    have h5 := h.symm; clear h; subst h5
                    go_wp2_with (fail)
                    refine HRS.out.mono ?_
                    rintro e w6 ⟨rfl, b6⟩
                    have b6w := HBV.out.trans (b6.mono HBV.out.size)
                    have B6W := Lib.hid b6w; clear b6w
                    have B6 := Lib.hid b6; clear b6 k0 k1 k2 k3 k4 k5 k6 k7 k8 k9
                    go_wp2_with (fail)
                    refine (L3.out w6 B6.out).mono ?_
                    rintro e w7 ⟨rfl, h⟩
                    have h5 := h.symm; clear h; subst h5
                    cases f3 with
                    | false =>
                      have HB := Lib.hid (HNE.out rfl)
                      go_wp2
                      go_roundw
                      case rel => exact ⟨i + 1, by omega, by go_num, HB.out, B6W.out⟩
                      case measure => simp [vInt]; omega
                    | true =>
                      have k0 := C0.out w6 B6.out
                      go_wp2_with (fail)
                      refine (L4.out w6 B6.out).mono ?_
                      rintro e w7 ⟨rfl, h⟩
                      have h5 := h.symm; clear h; subst h5
                      cases f4 with
                      | true =>
                        have HB := Lib.hid (HNE.out rfl)
                        go_wp2
                        go_roundw
                        case rel => exact ⟨i + 1, by omega, by go_num, HB.out, B6W.out⟩
                        case measure => simp [vInt]; omega
                      | false =>
                        have HB := Lib.hid (HBAD.out rfl)
                        go_wp2
                        go_ret
                        exact ⟨by rw [HRES.out, HB.out]; rfl, B6W.out⟩
              · have hgl' : ((i : Int) < may.length) = False := eq_false (by omega)
                have hgall : may.any (growB st L) = false := any_false fun j h => HGR.out j h (by omega)
                have hfin : noneB whole may st L = true := by unfold noneB; rw [HIALL.out, ← HR1.out, HOALL.out, hgall]; rfl
                have HFIN := Lib.hid hfin; clear hfin hgall
                go_wp2
                go_ret
                exact ⟨by rw [HRES.out, HFIN.out]; rfl, hbv⟩
end Go.Proofs.Ytnkinjilnccmfaa

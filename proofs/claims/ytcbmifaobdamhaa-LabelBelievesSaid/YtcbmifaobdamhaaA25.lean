/- label: the program's Why. -/
import Derived.Test.YtcbmifaobdamhaaA24
namespace Go.Label
open Go.RowKit Go.Own Go.Proofs.Ytcbmifaobdamhaa
def rsI (rs : Pm) (f : Int) : Option Int := (rs f).map fun v => (v : Int)
/-- what Why answers, of arguments that fit -/
def WhyP (b : Lg) (m : Nat) (fact : Int) (M : Nat) (out : List Int) (E : Int) : Prop :=
  ∃ j, j < 66 ∧ Quiet b m j ∧ (((rIter b m j).1 fact = none ∧ out = [] ∧ E = 6) ∨
    ((rIter b m j).1 fact ≠ none ∧ E = 0 ∧ ∃ ys : List Int, ys.Perm (needN b (rIter b m j).2 fact M) ∧ ys.Pairwise (lexR (keyW (rIter b m j).1)) ∧ out = ys.filterMap (rsI (rIter b m j).2)))
theorem needN_none {b : Lg} {rs : Pm} {fact : Int} {i : Nat} {f : Int} (h : (needN b rs fact i)[i]? = some f) (hr : rs f = none) : needN b rs fact (i + 1) = needN b rs fact i := by
  conv => lhs; unfold needN
  rw [h]; dsimp only; rw [hr]
theorem needN_some {b : Lg} {rs : Pm} {fact : Int} {i : Nat} {f : Int} {v : Nat} (h : (needN b rs fact i)[i]? = some f) (hr : rs f = some v) (hv : v < b.rules.length) : needN b rs fact (i + 1) = addN (needN b rs fact i) b.rules[v].body b.rules[v].body.length := by
  conv => lhs; unfold needN
  rw [h]; dsimp only; rw [hr]; dsimp only; rw [getD_eq rl0 hv]
theorem sort_lt {l : List Int} (h : l.Nodup) : (l.mergeSort fun x y => decide (x ≤ y)).Pairwise (· < ·) := by
  have hp := List.mergeSort_perm l fun x y => decide (x ≤ y)
  have h1 : (l.mergeSort fun x y => decide (x ≤ y)).Pairwise fun a b => decide (a ≤ b) = true := List.pairwise_mergeSort (fun a b c h1 h2 => by simp only [decide_eq_true_eq] at *; exact Int.le_trans h1 h2) (fun a b => by simp only [Bool.or_eq_true, decide_eq_true_eq]; exact Int.le_total a b) l
  have h2 : (l.mergeSort fun x y => decide (x ≤ y)).Nodup := hp.nodup_iff.2 h
  refine List.Pairwise.imp₂ (fun a b h3 h4 => ?_) h1 h2
  have := of_decide_eq_true h3
  omega
end Go.Label
namespace Go.Proofs.Ytcbmifaobdamhaa
open Go.RowKit Go.Own Go.Theory Go.BigFrame Go.Ib Go.Label Go.Shelf
theorem infoInt : (Try.prog.info? 3).map (fun i => (i.zero, i.size, i.bytes)) = some (some (.int .i64 0), 1, 8) := by kernel_rfl
theorem hTint : Try.prog.underlying 22 = some (.slice 3) := by kernel_rfl
set_option maxRecDepth 100000 in
set_option maxHeartbeats 4000000 in
theorem pwhy_any (b : Lg) (s fact : Int) (M : Nat) (sa sr : Option Addr) (ca cr : Nat) (bs : List Value) (hrg : LgRg b) (w : World) (h : LgAt w b sa sr ca cr bs) (hal : True) (hfit : fitsE b (isB b s) fact = 0) (hM79 : M ≤ 79)
    (hM : ∀ j, j < 66 → Quiet b s.toNat j → (rIter b s.toNat j).1 fact ≠ none → (needN b (rIter b s.toNat j).2 fact M).length ≤ M) :
    Calls Try.prog 24 #[lgV b sa sr ca cr, .int .i64 s, .int .i64 fact] w fun e w' => ∃ so co out E, e = .returned (.tuple #[.slice so out.length co, .int .i64 E]) ∧ Sl w' 1 (.slice so out.length co) out.length (out.map (.int .i64)) ∧ WhyP b s.toNat fact M out E ∧ Below w.heap.size w w' := by
  have hlgV : lgV b sa sr ca cr = .agg #[.int .i64 b.facts, .slice sa b.assume.length ca, .slice sr b.rules.length cr] := rfl
  have hbox := box_new w b sa sr ca cr 25
  obtain ⟨W1, hW1⟩ : ∃ W1, W1 = w.alloc (.cells #[.int .i64 b.facts, .slice sa b.assume.length ca, .slice sr b.rules.length cr] 25) := ⟨_, rfl⟩
  rw [← hW1] at hbox
  have hH := h.below hbox.b1
  have hv := fits_any b s fact sa sr ca cr bs hrg W1 hH hal
  rw [hlgV] at hv ⊢
  rw [hfit] at hv
  obtain ⟨v1, v2, v3, v4⟩ := fits0 hfit
  have HOK := Lib.hid (valE_ok.1 v1)
  obtain ⟨m, rfl, hm⟩ := isB_nat HOK.out v2
  rw [Int.toNat_natCast] at hM ⊢
  have HBOX := Lib.hid hbox; clear hbox
  have HH := Lib.hid hH; clear hH h
  have HW1 := Lib.hid hW1; clear hW1
  have HV := Lib.hid hv; clear hv hrg v1 v2
  have HLV := Lib.hid hlgV; clear hlgV
  have HMM := Lib.hid hM; clear hM
  go_enter Try.func24, Try.ntmps24
  go_wp2_with (fail)
  rw [← HW1.out]
  refine HV.out.mono ?_
  clear HV
  rintro e w2 ⟨rfl, b2⟩
  obtain ⟨c0, c1, c2⟩ := HBOX.out.cell w2 b2
  have hrk := ranks_any b m sa sr ca cr bs HOK.out hm w2 (HH.out.below b2)
  rw [HLV.out] at hrk
  have HRK := Lib.hid hrk; clear hrk
  have HB2 := Lib.hid b2; clear b2
  go_wp2_with (fail)
  refine HRK.out.mono ?_
  clear HRK c0 c1 c2
  rintro e w3 ⟨A, j, hA, rfl, ⟨hj, hq⟩, ha3, hr3, b3⟩
  have b3' : Below W1.heap.size W1 w3 := HB2.out.trans (b3.mono HB2.out.size)
  obtain ⟨W5, hW5⟩ : ∃ W5, W5 = w3.alloc (.cells #[.map (some A)] 75) := ⟨_, rfl⟩
  have b5 : Below W1.heap.size W1 W5 := by rw [hW5]; exact b3'.alloc b3'.size _
  have ha5 : MapF W5 A (rIter b m j).1 := by rw [hW5]; exact ha3.below (alloc_below _ _)
  have hr5 : MapF W5 (A + 1) (rIter b m j).2 := by rw [hW5]; exact hr3.below (alloc_below _ _)
  obtain ⟨C, hC⟩ : ∃ C, C = w3.heap.size := ⟨_, rfl⟩
  have hC5 : Blk W5 C [.map (some A)] 75 := by rw [hW5, hC]; exact Blk.new w3 #[.map (some A)] 75
  have hAC : A + 1 < C := by rw [hC]; exact hr3.lt
  have hrk66 : ∀ f v, (rIter b m j).1 f = some v → v ≤ 66 := fun f v h => by have := rIter_le j f v h; omega
  have hrul : ∀ f v, (rIter b m j).2 f = some v → v < b.rules.length := fun f v h => rIter_rule j f v h
  have hMj := HMM.out j hj hq
  have hfin : ∀ out E, ((((rIter b m j).1 fact = none ∧ out = [] ∧ E = 6) ∨ ((rIter b m j).1 fact ≠ none ∧ E = 0 ∧ ∃ ys : List Int, ys.Perm (needN b (rIter b m j).2 fact M) ∧ ys.Pairwise (lexR (keyW (rIter b m j).1)) ∧ out = ys.filterMap (rsI (rIter b m j).2)))) → WhyP b m fact M out E := fun out E h => ⟨j, hj, hq, h⟩
  have HFIN := Lib.hid hfin; clear hfin hq hj
  obtain ⟨rk, hrk⟩ : ∃ rk, rk = (rIter b m j).1 := ⟨_, rfl⟩
  obtain ⟨rs, hrs⟩ : ∃ rs, rs = (rIter b m j).2 := ⟨_, rfl⟩
  rw [← hrk] at ha5 hrk66 hMj HFIN
  rw [← hrs] at hr5 hrul hMj HFIN
  clear hrk hrs HMM ha3 hr3 b3 b3'
  have HA5 := Lib.hid ha5
  have HR5 := Lib.hid hr5; clear hr5
  have HC5 := Lib.hid hC5
  have HB5 := Lib.hid b5; clear b5
  have HRK66 := Lib.hid hrk66; clear hrk66
  have HRUL := Lib.hid hrul; clear hrul
  have HMJ := Lib.hid hMj; clear hMj
  have hl := look_any ha5 fact
  have hW5' : w3.alloc (.cells #[.map (some A)] 75) = W5 := hW5.symm
  rw [hW5] at hl
  have zC : C < W5.heap.size := hC5.lt
  clear ha5 hC5 hW5
  have HW5 := Lib.hid hW5'; clear hW5'
  have HC := Lib.hid hC; clear hC
  have HBf := Lib.hid (HBOX.out.below HB5.out)
  cases hf : rk fact with
  | none =>
    rw [hf] at hl
    have hres := HFIN.out [] 6 (.inl ⟨hf, rfl, rfl⟩)
    have HRES := Lib.hid hres; clear hres hf
    go_wp2
    refine bodyPost_ret (results_tmp2 rfl _ _ _) rfl ?_
    rw [HW5.out]
    exact ⟨none, 0, [], 6, rfl, Sl.none0 _, HRES.out, HBf.out⟩
  | some r0 =>
    rw [hf] at hl
    have hML := HMJ.out (by rw [hf]; exact Option.some_ne_none _)
    have hFI := fun ys h1 h2 => HFIN.out (ys.filterMap (rsI rs)) 0 (.inr ⟨by rw [hf]; exact Option.some_ne_none _, rfl, ys, h1, h2, rfl⟩)
    have HML := Lib.hid hML; clear hML
    have HFI := Lib.hid hFI; clear hFI hf HFIN HMJ
    obtain ⟨W6, hW6⟩ : ∃ W6, W6 = W5.alloc (.cells #[.int .i64 fact] 3) := ⟨_, rfl⟩
    have b6 : Below W5.heap.size W5 W6 := by rw [hW6]; exact alloc_below _ _
    have ho6 : W6.ownsRow W5.heap.size 3 1 (.slice (some ⟨W5.heap.size, 0, none⟩) 1 1) 1 [.int .i64 fact] := by rw [hW6]; exact own_new W5 #[.int .i64 fact] 3 1 W5.heap.size rfl (by decide) (Nat.le_refl _)
    have HB6 := Lib.hid b6; clear b6
    have HO6 := Lib.hid ho6; clear ho6
    have HW6 := Lib.hid hW6; clear hW6
    have h5s : W5.heap.size = w3.heap.size + 1 := by rw [← HW5.out]; simp
    go_wp2
    rw [HW5.out, ← HW6.out]
    rw [← h5s, ← HC.out]
    clear hl h5s
    go_loopw [13, 14] (fun v13 vi wq => ∃ i : Nat, i ≤ M ∧ vi = .int .i64 i ∧ wq.ownsRow W5.heap.size 3 1 v13 (needN b rs fact i).length ((needN b rs fact i).map (.int .i64)) ∧ Below W5.heap.size W5 wq) (fun _ vi _ => M - (vInt vi).toNat)
    case atStart => exact ⟨0, Nat.zero_le _, rfl, HO6.out, HB6.out⟩
    case round =>
      clear HO6 HB6 HW6
      obtain ⟨i, hi, rfl, how, hbq⟩ := hrel
      obtain ⟨so, co, rfl, _⟩ := own_slice how
      have HOW := Lib.hid how
      have HBQ := Lib.hid hbq
      by_cases h1 : i < (needN b rs fact i).length
      · have hiM := needN_lt HML.out h1
        have h1' : (i : Int) < (needN b rs fact i).length := by omega
        obtain ⟨g, o, rfl, _, _, hC, _⟩ := sl_at (Sl.of_owns how) (by omega)
        obtain ⟨f, hf⟩ : ∃ f, f = (needN b rs fact i)[i] := ⟨_, rfl⟩
        have hfi : (needN b rs fact i)[i]? = some f := by rw [hf]; exact List.getElem?_eq_getElem h1
        have cx : wr.cell? ⟨g, o + i, none⟩ = some (.int .i64 f) := hC i _ (by rw [List.getElem?_map, hfi]; rfl)
        have hl := look_any (HR5.out.below hbq) f
        have hb1 : Below W1.heap.size W1 wr := HB5.out.trans (hbq.mono HB5.out.size)
        obtain ⟨c0, c1, c2⟩ := HBOX.out.cell wr hb1
        have HB1 := Lib.hid hb1; clear hb1
        have hmo := needN_mono b rs fact (i + 1) (M - (i + 1))
        rw [show i + 1 + (M - (i + 1)) = M by omega] at hmo
        have hmo2 : (needN b rs fact (i + 1)).length ≤ 79 := by have := HML.out; omega
        clear hf hC how hbq hmo
        cases hrf : rs f with
        | none =>
          rw [hrf] at hl
          have e := needN_none hfi hrf
          have EE := Lib.hid e; clear e hfi hrf hmo2
          obtain ⟨n, hn⟩ : ∃ n, n = (needN b rs fact i).length := ⟨_, rfl⟩
          have HNL := Lib.hid hn
          rw [← hn] at h1'
          rw [← hn]
          clear hn h1
          go_wp2
          go_roundw
          case rel => exact ⟨i + 1, by omega, by go_num, by rw [EE.out, HNL.out]; exact HNL.out ▸ HOW.out, HBQ.out⟩
          case measure => simp [vInt]; omega
        | some v =>
          rw [hrf] at hl
          have hvr := HRUL.out f v hrf
          have e := needN_some hfi hrf hvr
          obtain ⟨gr, orr, sbb, cbb, rfl, hc, hbd⟩ := HH.out.rule hvr
          obtain ⟨k0, k1⟩ := hc wr HB1.out
          have hb16 := HOK.out.long _ (List.getElem_mem hvr)
          obtain ⟨bl, hbl⟩ : ∃ bl, bl = b.rules[v].body := ⟨_, rfl⟩
          rw [← hbl] at k1 hb16 e hbd
          obtain ⟨L, hL⟩ : ∃ L, L = needN b rs fact i := ⟨_, rfl⟩
          have how := HOW.out
          rw [← hL] at e h1' how
          rw [e] at hmo2
          have hvr' : (v : Int) < b.rules.length := by omega
          obtain ⟨nr, hnr⟩ : ∃ nr, nr = b.rules.length := ⟨_, rfl⟩
          rw [← hnr] at c2 hvr'
          have EE := Lib.hid e
          have HL := Lib.hid hL
          have HBD := Lib.hid hbd
          have HMO := Lib.hid hmo2
          have HO2 := Lib.hid how
          rw [← hL]
          clear e hL hbd hmo2 how hbl hfi hrf hc k0 HOW hnr h1 hvr
          go_wp2
          clear cx hl k1 c0 c1 c2
          go_loopw [13, 71] (fun v13 vk wq => ∃ k : Nat, k ≤ bl.length ∧ vk = .int .i64 k ∧ wq.ownsRow W5.heap.size 3 1 v13 (addN L bl k).length ((addN L bl k).map (.int .i64)) ∧ Below W5.heap.size W5 wq) (fun _ vk _ => bl.length - (vInt vk).toNat)
          case atStart => exact ⟨0, Nat.zero_le _, rfl, HO2.out, HBQ.out⟩
          case round =>
            clear HO2 HBQ HB1
            obtain ⟨k, hk, rfl, how, hbq⟩ := hrel
            obtain ⟨sq, cq, rfl, _⟩ := own_slice how
            have hb1 : Below W1.heap.size W1 wr := HB5.out.trans (hbq.mono HB5.out.size)
            have hlen : (addN L bl k).length ≤ 79 := by
              have h1 := addN_mono L bl k (bl.length - k)
              rw [show k + (bl.length - k) = bl.length by omega] at h1
              have := HMO.out
              omega
            by_cases h2 : k < bl.length
            · have h2' : (k : Int) < bl.length := by omega
              obtain ⟨g2, o2, rfl, _, _, hC2, hlt2⟩ := sl_at (HBD.out (by omega)) (by omega)
              obtain ⟨x, hx⟩ : ∃ x, x = bl[k] := ⟨_, rfl⟩
              have cx : wr.cell? ⟨g2, o2 + k, none⟩ = some (.int .i64 x) := (hC2.below hb1 hlt2) k _ (by simp [h2, hx])
              have hcon := contains_any (addN L bl k) x sq cq wr (Sl.of_owns how) (by omega)
              have hlen2 : (addN L bl (k + 1)).length ≤ 79 := by
                have h1 := addN_mono L bl (k + 1) (bl.length - (k + 1))
                rw [show k + 1 + (bl.length - (k + 1)) = bl.length by omega] at h1
                have := HMO.out
                omega
              have hnext : addN L bl (k + 1) = if (addN L bl k).contains x then addN L bl k else addN L bl k ++ [x] := by
                conv => lhs; unfold addN
                rw [getD_eq 0 h2, ← hx]
              obtain ⟨T, hT⟩ : ∃ T, T = addN L bl k := ⟨_, rfl⟩
              rw [← hT] at hcon hnext how hlen ⊢
              have HNX := Lib.hid hnext; clear hnext hx hC2 hT
              have HOW := Lib.hid how; clear how
              have HBQ := Lib.hid hbq; clear hbq hb1
              cases hct : T.contains x with
              | true =>
                rw [hct] at hcon
                have e : addN L bl (k + 1) = T := by rw [HNX.out, hct, if_pos rfl]
                have EN := Lib.hid e; clear e hct
                have HCON := Lib.hid hcon; clear hcon
                go_wp2_with (fail)
                refine HCON.out.mono ?_
                rintro e w7 ⟨rfl, h7⟩
                have h8 := h7.symm
                clear h7
                subst h8
                go_wp2
                go_roundw
                case rel => exact ⟨k + 1, by omega, by go_num, by rw [EN.out]; exact HOW.out, HBQ.out⟩
                case measure => simp [vInt]; omega
              | false =>
                rw [hct] at hcon
                have e : addN L bl (k + 1) = T ++ [x] := by rw [HNX.out, hct, if_neg Bool.false_ne_true]
                have EN := Lib.hid e; clear e hct
                have HCON := Lib.hid hcon; clear hcon
                go_wp2_with (fail)
                refine HCON.out.mono ?_
                rintro e w7 ⟨rfl, h7⟩
                have h8 := h7.symm
                clear h7
                subst h8
                have HOA := HOW.out.alloc (.cells #[.int .i64 x] 3)
                have hsz := HBQ.out.size
                go_wp2_with (refine wpList_append_sl rfl _ _ 22 rfl W5.heap.size 3 (.int .i64 0) 1 8 hTint infoInt rfl (by decide) _ T.length _ rfl HOA _ 1 [.int .i64 x] rfl (sl_new _ _ _ 1 rfl (by decide)) (by intro u hu; simp at hu; rw [hu]; rfl) (by unfold maxLen; omega) (by omega) (by simp; omega) ?_)
                intro v' w8 g1 g2
                have hb8 : Below W5.heap.size W5 w8 := grown_below (HBQ.out.alloc hsz (.cells #[.int .i64 x] 3)) HOA g2 (by simp; omega)
                have HB8 := Lib.hid hb8; clear hb8
                have HG1 := Lib.hid g1; clear g1 g2 HOA
                go_wp2
                go_roundw
                case rel => exact ⟨k + 1, by omega, by go_num, by rw [EN.out, List.length_append, List.map_append]; exact HG1.out, HB8.out⟩
                case measure => simp [vInt]; omega
            · have h2' : (bl.length : Int) ≤ k := by omega
              obtain rfl : k = bl.length := by omega
              have HOW := Lib.hid how; clear how
              have HBQ := Lib.hid hbq; clear hbq
              go_wp2
              go_roundw
              case rel => exact ⟨i + 1, by omega, by go_num, by rw [EE.out]; exact HOW.out, HBQ.out⟩
              case measure => simp [vInt]; omega
      · have hend := needN_end HML.out hi (by omega)
        have hnd := needN_nodup b rs fact M
        have hpos := needN_pos b rs fact M
        have hle79 : (needN b rs fact M).length ≤ 79 := Nat.le_trans HML.out hM79
        have h1' : ((needN b rs fact i).length : Int) ≤ i := by omega
        rw [hend] at how h1' ⊢
        obtain ⟨N, hN⟩ : ∃ N, N = needN b rs fact M := ⟨_, rfl⟩
        have HFI' := HFI.out
        rw [← hN] at how h1' hnd hpos hle79 HFI' ⊢
        have HFI2 := Lib.hid HFI'; clear HFI' HFI
        have hso : Calls Try.prog 55 #[.slice so N.length co] wr _ := sort_own Try.sortA how (by omega)
        have hasc := sort_lt hnd
        have hpm := List.mergeSort_perm N fun x y => decide (x ≤ y)
        obtain ⟨X, hX⟩ : ∃ X, X = N.mergeSort fun x y => decide (x ≤ y) := ⟨_, rfl⟩
        rw [← hX] at hso hasc hpm
        clear hend hX hN HOW how h1
        have hlX : X.length = N.length := hpm.length_eq
        have HSO := Lib.hid hso; clear hso
        have HBQ := Lib.hid hbq; clear hbq
        go_wp2_with (fail)
        refine HSO.out.mono ?_
        clear HSO
        rintro e w7 ⟨rfl, ho7, hb7⟩
        have b7 : Below W5.heap.size W5 w7 := HBQ.out.trans (hb7 _ HBQ.out.size (Nat.le_refl _))
        clear hb7
        rw [← hlX] at ho7 h1' hpos hle79 ⊢
        clear hlX
        obtain ⟨g, cap, cur, hgv, hg5, hB7, hcap⟩ : ∃ g cap sp, (Value.slice so X.length co) = .slice (some ⟨g, 0, none⟩) X.length cap ∧ W5.heap.size ≤ g ∧ Blk w7 g (X.map (.int .i64) ++ sp) 3 ∧ X.length ≤ cap := by
          obtain ⟨g, cap, sp, h1, h2, h3, _, h5⟩ := own_blk ho7 hpos
          exact ⟨g, cap, sp, h1, h2, h5, h3⟩
        injection hgv with e1 _ e2
        subst e1 e2
        have hE0 : (fun W : World => MapF W A rk ∧ Blk W C [.map (some A)] 75) w7 := ⟨HA5.out.below b7, HC5.out.below b7 HC5.out.lt⟩
        have zA5 := HA5.out.lt
        have hst := stable_any (keyW rk) 57 #[.pointer (some ⟨C, 0, none⟩)] X cur g co (fun W : World => MapF W A rk ∧ Blk W C [.map (some A)] 75)
          (fun W W' h hc => ⟨h.1.chg hc (by simp; omega), h.2.chg hc (by simp; omega)⟩) hasc (by omega) hcap (by kernel_rfl)
          (fun W x y h => wcmp_any rk A C HRK66.out W h.2 h.1 x y) w7 hE0 hB7
        have HST := Lib.hid hst; clear hst hE0
        have HB7 := Lib.hid b7; clear b7 ho7 hB7
        go_wp2_with (fail)
        refine HST.out.mono ?_
        clear HST
        rintro e w8 ⟨rfl, ys, hyp, hyw, hy8, hc8⟩
        have hres := HFI2.out ys (hyp.trans hpm) hyw
        have hyl : ys.length = X.length := hyp.length_eq
        have b8 : Below W5.heap.size W5 w8 := HB7.out.trans (hc8.below HB7.out.size (by simp; exact hg5))
        have hr8 := HR5.out.below b8
        have HRES := Lib.hid hres; clear hres hyp hyw hc8
        have HY8 := Lib.hid hy8; clear hy8
        have HB8 := Lib.hid b8; clear b8
        have HR8 := Lib.hid hr8; clear hr8
        rw [← hyl] at hle79 hpos ⊢
        clear hpm hasc hcap h1' hyl
        have hg8 : g < w8.heap.size := HY8.out.lt
        go_wp2
        go_loopw [19, 91] (fun v19 vi wq => ∃ k : Nat, k ≤ ys.length ∧ vi = .int .i64 k ∧ wq.ownsRow w8.heap.size 3 1 v19 ((ys.take k).filterMap (rsI rs)).length (((ys.take k).filterMap (rsI rs)).map (.int .i64)) ∧ Below w8.heap.size w8 wq) (fun _ vi _ => ys.length - (vInt vi).toNat)
        case atStart => exact ⟨0, Nat.zero_le _, rfl, World.ownsRow_nil _ _ _ _, Below.refl _ _⟩
        case round =>
          obtain ⟨k, hk, rfl, how, hbq⟩ := hrel
          by_cases h2 : k < ys.length
          · have h2' : (k : Int) < ys.length := by omega
            obtain ⟨x, hx⟩ : ∃ x, x = ys[k] := ⟨_, rfl⟩
            have cx : wr.cell? ⟨g, k, none⟩ = some (.int .i64 x) := (HY8.out.below hbq hg8).cell (by rw [List.getElem?_append_left (by simpa using h2), List.getElem?_map, List.getElem?_eq_getElem h2, hx]; rfl)
            have hl := look_any (HR8.out.below hbq) x
            have htk : (ys.take (k + 1)).filterMap (rsI rs) = (ys.take k).filterMap (rsI rs) ++ (rsI rs x).toList := by
              rw [List.take_succ_eq_append_getElem h2, List.filterMap_append, ← hx]
              congr 1
            have hlen : ((ys.take k).filterMap (rsI rs)).length ≤ 79 := by
              have h1 := List.length_filterMap_le (rsI rs) (ys.take k)
              rw [List.length_take] at h1
              omega
            obtain ⟨T, hT⟩ : ∃ T, T = (ys.take k).filterMap (rsI rs) := ⟨_, rfl⟩
            rw [← hT] at how htk hlen
            have HTK := Lib.hid htk; clear htk hx
            have HOW := Lib.hid how; clear how
            have HBQ := Lib.hid hbq; clear hbq
            clear hT
            have hsz := HBQ.out.size
            cases hr : rs x with
            | none =>
              rw [hr] at hl
              have e : (ys.take (k + 1)).filterMap (rsI rs) = T := by rw [HTK.out]; unfold rsI; rw [hr]; simp
              have EE := Lib.hid e; clear e hr
              go_wp2
              go_roundw
              case rel => exact ⟨k + 1, by omega, by go_num, by rw [EE.out]; exact HOW.out, HBQ.out⟩
              case measure => simp [vInt]; omega
            | some v =>
              rw [hr] at hl
              have e : (ys.take (k + 1)).filterMap (rsI rs) = T ++ [(v : Int)] := by rw [HTK.out]; unfold rsI; rw [hr]; simp
              have EE := Lib.hid e; clear e hr
              have HOA := HOW.out.alloc (.cells #[.int .i64 (v : Int)] 3)
              go_wp2_with (refine wpList_append_sl rfl _ _ 22 rfl w8.heap.size 3 (.int .i64 0) 1 8 hTint infoInt rfl (by decide) _ T.length _ rfl HOA _ 1 [.int .i64 (v : Int)] rfl (sl_new _ _ _ 1 rfl (by decide)) (by intro u hu; simp at hu; rw [hu]; rfl) (by unfold maxLen; omega) (by omega) (by simp; omega) ?_)
              intro v' w9 g1 g2
              have hb9 : Below w8.heap.size w8 w9 := grown_below (HBQ.out.alloc hsz (.cells #[.int .i64 (v : Int)] 3)) HOA g2 (by simp; omega)
              have HB9 := Lib.hid hb9; clear hb9
              have HG1 := Lib.hid g1; clear g1 g2 HOA
              go_wp2
              go_roundw
              case rel => exact ⟨k + 1, by omega, by go_num, by rw [EE.out, List.length_append, List.map_append]; exact HG1.out, HB9.out⟩
              case measure => simp [vInt]; omega
          · have h2' : (ys.length : Int) ≤ k := by omega
            obtain rfl : k = ys.length := by omega
            rw [List.take_length] at how
            obtain ⟨sq, cq, rfl, _⟩ := own_slice how
            have hsl := Sl.of_owns how
            have hfb : Below w.heap.size w wr := HBOX.out.below ((HB5.out.trans (HB8.out.mono HB5.out.size)).trans (hbq.mono (Nat.le_trans HB5.out.size HB8.out.size)))
            have HSL := Lib.hid hsl; clear hsl how
            have HFB := Lib.hid hfb; clear hfb hbq
            go_wp2
            refine bodyPost_ret (results_tmp2 rfl _ _ _) rfl ?_
            exact ⟨sq, cq, _, 0, rfl, HSL.out, HRES.out, HFB.out⟩
end Go.Proofs.Ytcbmifaobdamhaa

/- theory: the reference's Bound. -/
import Derived.Test.YtnkglahiagigoaaF14
namespace Go.Theory
open Go.RowKit Go.Own Go.Ib
/-- an index or -1 -/
def encO : Option Nat → Int | none => -1 | some j => j
theorem rrs_none {wl l : List Int} {may u : Nat} (h : pickTo wl l may u l.length = none) : ∀ f, rrs wl l may f u = []
  | 0 => rfl
  | f + 1 => by rw [rrs, h]
theorem rrs_some {wl l : List Int} {may u b r : Nat} (h : pickTo wl l may u l.length = some b) (hr : r < l.length) : rrs wl l may (l.length - r) u = b :: rrs wl l may (l.length - (r + 1)) (u ||| cnf l b) := by
  rw [show l.length - r = (l.length - (r + 1)) + 1 by omega, rrs, h]
end Go.Theory
namespace Go.Proofs.Ytnkglahiagigoaa
open Go.RowKit Go.Own Go.Theory Go.BigFrame Go.Shelf
set_option maxRecDepth 100000 in
theorem rbound_bad (n may : Int) (l wl : List Int) (sa wa : Option Addr) (cap wcap : Nat) (hn : rg n) (hm : rg may) (hv : ¬ (valid n may l ∧ wts n wl)) (w : World) (hl : Sl w 1 (.slice sa l.length cap) l.length (l.map (.int .i64))) (hll : l.length ≤ 1000000) (hr : ∀ z ∈ l, rg z)
    (hwl : Sl w 1 (.slice wa wl.length wcap) wl.length (wl.map (.int .i64))) (hwll : wl.length ≤ 1000000) :
    Calls Try.prog 24 #[.int .i64 n, .int .i64 may, .slice sa l.length cap, .slice wa wl.length wcap] w fun e w' => e = .returned (.tuple #[.int .i64 0, .slice none 0 0, .int .i64 1]) ∧ w' = w := by
  have hV := rvalid_any n may l sa cap hn hm w hl hll hr
  by_cases h1 : valid n may l
  · obtain ⟨n, rfl⟩ : ∃ k : Nat, n = k := ⟨n.toNat, by have := h1.1; omega⟩
    have h2 : ¬ wts n wl := fun h => hv ⟨h1, h⟩
    have hn16 : n ≤ 16 := by have := h1.2.1; omega
    rw [decide_eq_true h1] at hV
    have hW := rweights_any n wl wa wcap (by omega) w hwl (by omega)
    rw [decide_eq_false h2] at hW
    go_enter Try.func24, Try.ntmps24
    go_wp2_with (fail)
    refine hV.mono ?_
    clear hV
    rintro e w2 ⟨rfl, rfl⟩
    go_wp2_with (fail)
    refine hW.mono ?_
    clear hW
    rintro e w3 ⟨rfl, rfl⟩
    go_wp2
    go_ret3
    exact ⟨rfl, rfl⟩
  · rw [decide_eq_false h1] at hV
    go_enter Try.func24, Try.ntmps24
    go_wp2_with (fail)
    refine hV.mono ?_
    clear hV
    rintro e w2 ⟨rfl, rfl⟩
    go_wp2
    go_ret3
    exact ⟨rfl, rfl⟩
set_option maxRecDepth 100000 in
set_option maxHeartbeats 6400000 in
theorem rbound_any (n may : Nat) (l wl : List Int) (sa wa : Option Addr) (cap wcap : Nat) (hv : valid n may l) (hw : wts n wl) (h12 : l.length ≤ 19) (w : World) (hl : Sl w 1 (.slice sa l.length cap) l.length (l.map (.int .i64))) (hr : ∀ z ∈ l, rg z)
    (hwl : Sl w 1 (.slice wa wl.length wcap) wl.length (wl.map (.int .i64))) :
    Calls Try.prog 24 #[.int .i64 n, .int .i64 may, .slice sa l.length cap, .slice wa wl.length wcap] w fun e w' => ∃ v, e = .returned (.tuple #[.int .i64 (bndV wl l may), v, .int .i64 0]) ∧ w'.ownsRow w.heap.size 3 1 v (bndL wl l may).length ((bndL wl l may).map fun (j : Nat) => .int .i64 j) ∧ Below w.heap.size w w' := by
  obtain ⟨hn16, hmayM, hll', hv2⟩ := valid_nat hv
  have hp2 := pow16 hn16
  have hmay : may < 65536 := by omega
  have hll : l.length ≤ 1000000 := by omega
  have HWN : Hid (wl.length = n) := Lib.hid (by have := hw.1; omega)
  have HV2 := Lib.hid hv2; clear hv2
  have hcni : ∀ i (hi : i < l.length), l[i] = (cnf l i : Int) ∧ cnf l i < 65536 ∧ cnf l i ≠ 0 ∧ (∀ j, (cnf l i).testBit j = true → j < wl.length) ∧ l.getD i 0 = (cnf l i : Int) := fun i hi => by
    have h2 := HV2.out _ (List.getElem_mem hi)
    have e : l.getD i 0 = l[i] := by rw [List.getD_eq_getElem?_getD, List.getElem?_eq_getElem hi, Option.getD_some]
    have e2 : l[i] = (cnf l i : Int) := by unfold cnf; rw [e]; omega
    refine ⟨e2, by omega, by omega, fun j hj => ?_, by rw [e]; exact e2⟩
    rw [HWN.out]
    exact bits_of_lt (by omega) hj
  have HCN := Lib.hid hcni; clear hcni
  have hV := rvalid_any n may l sa cap (by unfold rg; omega) (rg_nat hmay) w hl hll hr
  rw [decide_eq_true hv] at hV
  have hWt := rweights_any n wl wa wcap (by omega) w hwl (by have := HWN.out; omega)
  rw [decide_eq_true hw] at hWt
  have hwe := weight_any wl may wa wcap hmay w hwl (by have := HWN.out; omega) hw.2
  have HW16 : Hid (wsum wl may 16 = wsum wl may wl.length) := Lib.hid (wsum16 may (by have := HWN.out; omega))
  have hw0 := wsum_rg hw.2 may wl.length
  have HWL : Hid (wl.length ≤ 16) := Lib.hid (by have := HWN.out; omega)
  obtain ⟨s0, hs0⟩ : ∃ s, s = wsum wl may wl.length := ⟨_, rfl⟩
  rw [← hs0] at HW16 hwe hw0
  clear hs0 hv hr
  have hmk := mk_bools l.length (by omega)
  have HHM := Lib.hid hmayM; clear hmayM hp2
  go_enter Try.func24, Try.ntmps24
  go_wp2_with (fail)
  refine hV.mono ?_
  clear hV
  rintro e w2 ⟨rfl, rfl⟩
  go_wp2_with (fail)
  refine hWt.mono ?_
  clear hWt
  rintro e w3 ⟨rfl, rfl⟩
  go_wp2_with (fail)
  refine hwe.mono ?_
  clear hwe
  rintro e w ⟨rfl, rfl⟩
  go_wp2
  obtain ⟨G, hG0⟩ : ∃ G, G = w.heap.size := ⟨_, rfl⟩
  obtain ⟨W2, hW2⟩ : ∃ W2, w.alloc (.cells (Array.replicate l.length (.bool false)) 4) = W2 := ⟨_, rfl⟩
  have b2 : Below w.heap.size w W2 := by rw [← hW2]; exact alloc_below _ _
  have hG : Blk W2 G (bl l.length fun _ => false) 4 := by rw [← hW2, hG0, ← bl_rep]; exact blk_make _ _ _ _
  rw [hW2, ← hG0]
  have HG0 := Lib.hid hG0; clear hG0
  clear hW2
  go_loopw [11, 12, 14] (fun bv uv c wr => ∃ (r u : Nat) (T : List Nat), r ≤ l.length ∧ c = .int .i64 r ∧ uv = .int .i64 u ∧ u < 65536 ∧ bv = .int .i64 (T.foldl (fun a i => a - wt wl l i) s0) ∧ T.length ≤ r ∧ rrs wl l may l.length 0 = T ++ rrs wl l may (l.length - r) u ∧
    (∀ i ∈ T, cnf l i &&& u ≠ 0) ∧ Blk wr G (bl l.length fun i => decide (i ∈ T)) 4 ∧ Below w.heap.size W2 wr) (fun _ _ c _ => l.length - (vInt c).toNat)
  case atStart => exact ⟨0, 0, [], by omega, rfl, rfl, by omega, rfl, Nat.le_refl _, rfl, fun i h => absurd h (by simp), by simpa using hG, Below.refl _ _⟩
  case round =>
    obtain ⟨r, u, T, hr, rfl, rfl, hu, rfl, hTl, hT, hTu, hG, hbr⟩ := hrel
    have hrb := bnd_rg (l := l) hw.2 T s0
    obtain ⟨bv, hbv⟩ : ∃ b, b = T.foldl (fun a i => a - wt wl l i) s0 := ⟨_, rfl⟩
    rw [← hbv] at hrb ⊢
    have HBT := Lib.hid hbv; clear hbv
    have hGl := hG.lt
    by_cases hrl : r < l.length
    · obtain ⟨wo, hwo⟩ : ∃ wo : World, wo = wr := ⟨_, rfl⟩
      subst hwo
      go_wp2
      go_loopw [15, 16] (fun bv c wr => ∃ i : Nat, i ≤ l.length ∧ c = .int .i64 i ∧ bv = .int .i64 (encO (pickTo wl l may u i)) ∧ Below wo.heap.size wo wr) (fun _ c _ => l.length - (vInt c).toNat)
      case atStart => exact ⟨0, by omega, rfl, rfl, Below.refl _ _⟩
      case round =>
        obtain ⟨i, hi, rfl, hpk, hb3⟩ := hrel
        have hbw : Below w.heap.size w wr := b2.trans (hbr.trans (hb3.mono hbr.size |>.mono (by have := b2.size; omega)))
        have hlr := hl.below hbw
        have hwr := hwl.below hbw
        obtain ⟨lb, lo, rfl, _, _, hCl, hbl⟩ := sl_split hlr (by omega)
        have hGr := hG.below hb3 hGl
        have hsp := pickTo_spec wl l may u i
        by_cases hil : i < l.length
        · obtain ⟨e1, e2, e3, e4, e5⟩ := HCN.out i hil
          have hii : (i : Int) < l.length := by omega
          have cI : wr.cell? ⟨lb, lo + i, none⟩ = some (.int .i64 (cnf l i : Nat)) := hCl i _ (by simp [hil, e1])
          have hTi := hTu i
          obtain ⟨t, ht⟩ : ∃ t, t = decide (i ∈ T) := ⟨_, rfl⟩
          have ct : wr.cell? ⟨G, i, none⟩ = some (.bool t) := hGr.cell (by rw [bl_get _ hil, ht])
          have HTT := Lib.hid ht; clear ht
          have hcd : cand may l u i = (sub (cnf l i : Nat) may && decide (cnf l i &&& u = 0)) := by unfold cand; rw [e5]
          have hwi : wt wl l i = wmin wl (cnf l i) 16 := rfl
          have hwi2 := wmin16 e4 HWL.out
          obtain ⟨c, hc⟩ : ∃ c, c = cnf l i := ⟨_, rfl⟩
          rw [← hc] at cI e2 e3 e4 hcd hTi hwi hwi2
          clear hc e1 e5
          have hin := fun m => in_any (c : Int) may (rg_nat hmay) (wr.drewN m)
          have hli := fun m => least_any wl c wa wcap e2 (wr.drewN m) (hwr.drewN m) (by have := HWL.out; omega) hw.2
          rw [hwi2] at hwi
          obtain ⟨x, hx⟩ : ∃ x, x = wmin wl c wl.length := ⟨_, rfl⟩
          rw [← hx] at hwi
          simp only [← hx] at hli
          clear hx hwi2
          have HWI := Lib.hid hwi; clear hwi
          have HCD := Lib.hid hcd; clear hcd
          have HPK : Hid (_ = _) := Lib.hid hpk
          have hand : bits .and .i64 (c : Int) (u : Int) = ((c &&& u : Nat) : Int) := Go.Ib.b_and c u (by omega) (by omega)
          obtain ⟨pk, hpke⟩ : ∃ pk, pk = pickTo wl l may u i := ⟨_, rfl⟩
          rw [← hpke] at hpk hsp HPK
          have HPE := Lib.hid hpke; clear hpke
          subst hpk
          cases t with
          | true =>
            have hcf : cand may l u i = false := by
              rw [HCD.out]
              have := hTi (of_decide_eq_true HTT.out.symm)
              rw [decide_eq_false this, Bool.and_false]
            have hn : pickTo wl l may u (i + 1) = pickTo wl l may u i := by rw [pickTo_succ]; unfold stepB; rw [if_neg (by simp [hcf])]
            have HN := Lib.hid hn; clear hn
            rw [← HPE.out] at HN
            go_wp2
            refine wp_region_quiet_lit (by kernel_rfl) (by kernel_rfl) ?_
            repeat (go_big_quiet_step (fail))
            refine wpQuiet_nil ?_
            intro _ hw'
            obtain ⟨nq, hw''⟩ := hw'
            subst hw''
            go_wp2
            go_roundw
            case rel => exact ⟨i + 1, by omega, by go_num, by rw [HN.out], below_drewN hb3 nq⟩
            case measure => simp [vInt]; omega
          | false =>
            cases hs : sub c may with
            | false =>
              simp only [hs] at hin
              have hcf : cand may l u i = false := by rw [HCD.out, hs, Bool.false_and]
              have hn : pickTo wl l may u (i + 1) = pickTo wl l may u i := by rw [pickTo_succ]; unfold stepB; rw [if_neg (by simp [hcf])]
              have HN := Lib.hid hn; clear hn
              rw [← HPE.out] at HN
              go_wp2
              refine wp_region_quiet_lit (by kernel_rfl) (by kernel_rfl) ?_
              repeat (go_big_quiet_step (fail))
              go_big_quiet_step (exact Calls.quiet_of_same (hin _))
              repeat (go_big_quiet_step (fail))
              refine wpQuiet_nil ?_
              intro _ hw'
              obtain ⟨nq, hw''⟩ := hw'
              subst hw''
              go_wp2
              go_roundw
              case rel => exact ⟨i + 1, by omega, by go_num, by rw [HN.out], below_drewN hb3 nq⟩
              case measure => simp [vInt]; omega
            | true =>
              simp only [hs] at hin
              by_cases hd : c &&& u = 0
              · rw [hd] at hand
                have hct : cand may l u i = true := by rw [HCD.out, hs, hd]; rfl
                cases pk with
                | none =>
                  have hn : pickTo wl l may u (i + 1) = some i := by rw [pickTo_succ, ← HPE.out]; unfold stepB; rw [hct]; rfl
                  have HN := Lib.hid hn; clear hn
                  have hneg : encO none = -1 := rfl
                  rw [hneg]
                  go_wp2
                  refine wp_region_quiet_lit (by kernel_rfl) (by kernel_rfl) ?_
                  repeat (go_big_quiet_step (fail))
                  go_big_quiet_step (exact Calls.quiet_of_same (hin _))
                  repeat (go_big_quiet_step (fail))
                  refine wpQuiet_nil ?_
                  intro _ hw'
                  obtain ⟨nq, hw''⟩ := hw'
                  subst hw''
                  go_wp2
                  go_roundw
                  case rel => exact ⟨i + 1, by omega, by go_num, by rw [HN.out]; rfl, below_drewN hb3 nq⟩
                  case measure => simp [vInt]; omega
                | some j =>
                  have hej : encO (some j) = (j : Int) := rfl
                  rw [hej]
                  simp only at hsp
                  have hjl : j < l.length := by omega
                  obtain ⟨f1, f2, f3, f4, f5⟩ := HCN.out j hjl
                  have hji : (j : Int) < l.length := by omega
                  have hjd : decide ((j : Int) < 0) = false := decide_eq_false (by omega)
                  have cJ : wr.cell? ⟨lb, lo + j, none⟩ = some (.int .i64 (cnf l j : Nat)) := hCl j _ (by simp [hjl, f1])
                  have hwj : wt wl l j = wmin wl (cnf l j) 16 := rfl
                  have hwj2 := wmin16 f4 HWL.out
                  obtain ⟨d, hdd⟩ : ∃ d, d = cnf l j := ⟨_, rfl⟩
                  rw [← hdd] at cJ f2 f4 hwj hwj2
                  clear hdd f1 f5
                  have hlj := fun m => least_any wl d wa wcap f2 (wr.drewN m) (hwr.drewN m) (by have := HWL.out; omega) hw.2
                  rw [hwj2] at hwj
                  obtain ⟨y, hy⟩ : ∃ y, y = wmin wl d wl.length := ⟨_, rfl⟩
                  rw [← hy] at hwj
                  simp only [← hy] at hlj
                  clear hy hwj2
                  have HWJ := Lib.hid hwj; clear hwj
                  by_cases hlt : y < x
                  · have hn : pickTo wl l may u (i + 1) = some i := by rw [pickTo_succ, ← HPE.out]; unfold stepB; simp only [hct, HWI.out, HWJ.out, hlt, decide_true, Bool.and_self, if_true]
                    have HN := Lib.hid hn; clear hn
                    go_wp2
                    refine wp_region_quiet_lit (by kernel_rfl) (by kernel_rfl) ?_
                    repeat (go_big_quiet_step (fail))
                    go_big_quiet_step (exact Calls.quiet_of_same (hin _))
                    repeat (go_big_quiet_step (fail))
                    go_big_quiet_step (exact Calls.quiet_of_same (hli _))
                    repeat (go_big_quiet_step (fail))
                    go_big_quiet_step (exact Calls.quiet_of_same (hlj _))
                    repeat (go_big_quiet_step (fail))
                    refine wpQuiet_nil ?_
                    intro _ hw'
                    obtain ⟨nq, hw''⟩ := hw'
                    subst hw''
                    go_wp2
                    go_roundw
                    case rel => exact ⟨i + 1, by omega, by go_num, by rw [HN.out]; rfl, below_drewN hb3 nq⟩
                    case measure => simp [vInt]; omega
                  · have hn : pickTo wl l may u (i + 1) = some j := by rw [pickTo_succ, ← HPE.out]; unfold stepB; simp only [hct, HWI.out, HWJ.out, hlt, decide_false, Bool.and_false, Bool.false_eq_true, if_false]
                    have HN := Lib.hid hn; clear hn
                    have hle : x ≤ y := by omega
                    clear hlt
                    go_wp2
                    refine wp_region_quiet_lit (by kernel_rfl) (by kernel_rfl) ?_
                    repeat (go_big_quiet_step (fail))
                    go_big_quiet_step (exact Calls.quiet_of_same (hin _))
                    repeat (go_big_quiet_step (fail))
                    go_big_quiet_step (exact Calls.quiet_of_same (hli _))
                    repeat (go_big_quiet_step (fail))
                    go_big_quiet_step (exact Calls.quiet_of_same (hlj _))
                    repeat (go_big_quiet_step (fail))
                    refine wpQuiet_nil ?_
                    intro _ hw'
                    obtain ⟨nq, hw''⟩ := hw'
                    subst hw''
                    go_wp2
                    go_roundw
                    case rel => exact ⟨i + 1, by omega, by go_num, by rw [HN.out]; rfl, below_drewN hb3 nq⟩
                    case measure => simp [vInt]; omega
              · have hcf : cand may l u i = false := by rw [HCD.out, decide_eq_false hd, Bool.and_false]
                have hd0 : (((c &&& u : Nat) : Int) == 0) = false := beq_eq_false_iff_ne.2 (by omega)
                have hn : pickTo wl l may u (i + 1) = pickTo wl l may u i := by rw [pickTo_succ]; unfold stepB; rw [if_neg (by simp [hcf])]
                have HN := Lib.hid hn; clear hn
                rw [← HPE.out] at HN
                obtain ⟨d, hdd⟩ : ∃ d, d = c &&& u := ⟨_, rfl⟩
                rw [← hdd] at hand hd0
                clear hdd hd
                go_wp2
                refine wp_region_quiet_lit (by kernel_rfl) (by kernel_rfl) ?_
                repeat (go_big_quiet_step (fail))
                go_big_quiet_step (exact Calls.quiet_of_same (hin _))
                repeat (go_big_quiet_step (fail))
                refine wpQuiet_nil ?_
                intro _ hw'
                obtain ⟨nq, hw''⟩ := hw'
                subst hw''
                go_wp2
                go_roundw
                case rel => exact ⟨i + 1, by omega, by go_num, by rw [HN.out], below_drewN hb3 nq⟩
                case measure => simp [vInt]; omega
        · obtain rfl : i = l.length := by omega
          obtain ⟨pk, hpke⟩ : ∃ pk, pk = pickTo wl l may u l.length := ⟨_, rfl⟩
          rw [← hpke] at hpk hsp
          subst hpk
          cases pk with
          | none =>
            have hneg : encO none = -1 := rfl
            rw [hneg]
            have hTE : T = rrs wl l may l.length 0 := by rw [hT, rrs_none hpke.symm]; simp
            have hbr := hbr.trans (hb3.mono hbr.size |>.mono (by have := b2.size; omega))
            have hG := hGr
            clear hT hGr hb3 hpke
            have hTm : ∀ i, decide (i ∈ T) = decide (i ∈ rrs wl l may l.length 0) := fun i => by rw [hTE]
            rw [bl_congr (h := fun i => decide (i ∈ rrs wl l may l.length 0)) (fun i _ => hTm i)] at hG
            have hbv : bv = bndV wl l may := by rw [HBT.out, hTE]; unfold bndV; rw [HW16.out]
            have HBV := Lib.hid hbv; clear hbv hTE hTm
            have hend : Below w.heap.size w wr := b2.trans hbr
            go_wp2
            obtain ⟨wq, hwq⟩ : ∃ wq : World, wq = wr := ⟨_, rfl⟩
            rw [← hwq] at hG hend ⊢
            clear hwq
            go_loopw [17, 18] (fun v c wr => ∃ (k : Nat) (L : List Nat), k ≤ l.length ∧ c = .int .i64 k ∧ L = (List.range k).filter (fun i => decide (i ∈ rrs wl l may l.length 0)) ∧ wr.ownsRow wq.heap.size 3 1 v L.length (L.map fun (j : Nat) => .int .i64 j) ∧ Below wq.heap.size wq wr) (fun _ c _ => l.length - (vInt c).toNat)
            case atStart => exact ⟨0, [], by omega, rfl, rfl, World.ownsRow_nil _ _ _ _, Below.refl _ _⟩
            case round =>
              obtain ⟨k, L, hk, rfl, hL, how, hbr3⟩ := hrel
              have hLl : L.length ≤ k := by
                rw [hL]
                have := List.length_filter_le (fun i => decide (i ∈ rrs wl l may l.length 0)) (List.range k)
                rwa [List.length_range] at this
              by_cases hkl : k < l.length
              · have hkk : (k : Int) < l.length := by omega
                obtain ⟨t, ht⟩ : ∃ t, t = decide (k ∈ rrs wl l may l.length 0) := ⟨_, rfl⟩
                have ct : wr.cell? ⟨G, k, none⟩ = some (.bool t) := (hG.below hbr3 hG.lt).cell (by rw [bl_get _ hkl, ht])
                have hst : (List.range (k + 1)).filter (fun i => decide (i ∈ rrs wl l may l.length 0)) = L ++ (if t = true then [k] else []) := by
                  rw [List.range_succ, List.filter_append, ← hL, List.filter_cons, ht]
                  split <;> rfl
                clear ht
                have HST := Lib.hid hst; clear hst
                have HL := Lib.hid hL; clear hL
                cases t with
                | false =>
                  go_wp2
                  go_roundw
                  case rel => exact ⟨k + 1, L, by omega, by go_num, by rw [HST.out]; simp, how, hbr3⟩
                  case measure => simp [vInt]; omega
                | true =>
                  have hbsz := hbr3.size
                  have HOW := how.alloc (.cells #[.int .i64 k] 3)
                  go_wp2_with (refine wpList_append_sl rfl _ _ 22 rfl wq.heap.size 3 (.int .i64 0) 1 8 hTint infoInt rfl (by decide) _ L.length _ rfl HOW _ 1 [.int .i64 k] rfl (sl_new _ _ _ 1 rfl (by decide)) (by intro u hu; simp at hu; rw [hu]; rfl) (by unfold maxLen; omega) (by omega) (by simp; omega) ?_)
                  intro v' w' h1 h2
                  have hb9 : Below wq.heap.size wq w' := grown_below (hbr3.trans ((alloc_below _ _).mono hbsz)) HOW h2 (by simp; omega)
                  go_wp2
                  go_roundw
                  case rel =>
                    refine ⟨k + 1, L ++ [k], by omega, by go_num, by rw [HST.out]; simp, ?_, hb9⟩
                    rw [List.length_append, List.map_append]; exact h1
                  case measure => simp [vInt]; omega
              · obtain rfl : k = l.length := by omega
                have hL2 : L = bndL wl l may := hL
                rw [hL2] at how
                clear hL hL2
                go_wp2
                go_ret3
                rw [HBV.out]
                exact ⟨_, rfl, own_weaken how hend.size, hend.trans (hbr3.mono hend.size)⟩
          | some b =>
            have hej : encO (some b) = (b : Int) := rfl
            rw [hej]
            simp only at hsp
            have hrr := rrs_some hpke.symm hrl
            clear hpke
            obtain ⟨hbl2, hcb, _⟩ := hsp
            obtain ⟨f1, f2, f3, f4, f5⟩ := HCN.out b hbl2
            have hji : (b : Int) < l.length := by omega
            have hjd : decide ((b : Int) < 0) = false := decide_eq_false (by omega)
            have cJ : wr.cell? ⟨lb, lo + b, none⟩ = some (.int .i64 (cnf l b : Nat)) := hCl b _ (by simp [hbl2, f1])
            have cT := hGr.cellD (.bool false) (i := b) (by rw [bl_len]; exact hbl2)
            have fT : wr.frozen? ⟨G, b, none⟩ = false := hGr.frozen b
            have hwj : wt wl l b = wmin wl (cnf l b) 16 := rfl
            have hwj2 := wmin16 f4 HWL.out
            have hTu2 : ∀ i ∈ T ++ [b], cnf l i &&& (u ||| cnf l b) ≠ 0 := fun i hi => by
              rcases List.mem_append.1 hi with hi | hi
              · exact and_or_ne (hTu i hi)
              · simp at hi; subst hi; exact and_or_self f3
            obtain ⟨d, hdd⟩ : ∃ d, d = cnf l b := ⟨_, rfl⟩
            rw [← hdd] at cJ f2 f4 hwj hwj2 hTu2 hrr
            clear hdd f1 f5
            have hor2 : bits .or .i64 (u : Int) (d : Int) = ((u ||| d : Nat) : Int) := Go.Ib.b_or u d (by omega) (by omega)
            have huc : u ||| d < 65536 := Nat.or_lt_two_pow (n := 16) hu f2
            obtain ⟨u2, hu2⟩ : ∃ x, x = u ||| d := ⟨_, rfl⟩
            rw [← hu2] at hor2 huc hTu2 hrr
            clear hu2
            rw [hwj2] at hwj
            have hmr := wmin_rg hw.2 d wl.length
            have hlj := fun W hW => least_any wl d wa wcap f2 W hW (by have := HWL.out; omega) hw.2
            obtain ⟨y, hy⟩ : ∃ y, y = wmin wl d wl.length := ⟨_, rfl⟩
            rw [← hy] at hwj hmr
            simp only [← hy] at hlj
            clear hy hwj2
            have HWJ := Lib.hid hwj; clear hwj
            have hG2 := hGr.set b (.bool true)
            rw [bl_set hbl2] at hG2
            obtain ⟨w9, hw9⟩ : ∃ w9, wr.setCell ⟨G, b, none⟩ (.bool true) = w9 := ⟨_, rfl⟩
            rw [hw9] at hG2
            have hGw : w.heap.size ≤ G := by rw [HG0.out]; exact Nat.le_refl _
            have hbr9 : Below w.heap.size W2 w9 := by
              rw [← hw9]
              exact below_set (hbr.trans (hb3.mono hbr.size |>.mono (by have := b2.size; omega))) b2.size hGw _ _
            have cJ9 : w9.cell? ⟨lb, lo + b, none⟩ = some (.int .i64 d) := by
              have hl9 := hl.below (b2.trans hbr9)
              obtain ⟨g', o', e, _, _, hCC, _⟩ := sl_split hl9 (by omega)
              injection e with e; injection e with e1 e2 e3
              subst e1 e2
              have := (hCl b _ (by simp [hbl2] : _ = some (Value.int .i64 l[b]))).symm.trans cJ
              injection this with this
              rw [← this]
              exact hCC b _ (by simp [hbl2])
            have hwl9 := hwl.below (b2.trans hbr9)
            go_wp2_with (fail)
            refine (hlj w9 hwl9).mono ?_
            clear hlj
            rintro e w10 ⟨rfl, rfl⟩
            go_wp2
            go_roundw
            case rel =>
              refine ⟨r + 1, u2, T ++ [b], by omega, by go_num, rfl, huc, ?_, by simp; omega, ?_, hTu2, ?_, hbr9⟩
              · rw [List.foldl_append, ← HBT.out]
                simp only [List.foldl_cons, List.foldl_nil]
                rw [HWJ.out]
                exact congrArg _ (Go.IntWalk.wrap64_in _ (by have := HWL.out; omega))
              · rw [hT, hrr]; simp
              · rw [bl_congr (h := fun s => if s = b then true else decide (s ∈ T))]
                · exact hG2
                · intro s _
                  by_cases e : s = b
                  · subst e; simp
                  · rw [if_neg e]; simp [e]
            case measure => simp [vInt]; omega
    · obtain rfl : r = l.length := by omega
      have hTE : T = rrs wl l may l.length 0 := by rw [hT]; simp [rrs]
      have hTm : ∀ i, decide (i ∈ T) = decide (i ∈ rrs wl l may l.length 0) := fun i => by rw [hTE]
      rw [bl_congr (h := fun i => decide (i ∈ rrs wl l may l.length 0)) (fun i _ => hTm i)] at hG
      have hbv : bv = bndV wl l may := by rw [HBT.out, hTE]; unfold bndV; rw [HW16.out]
      have HBV := Lib.hid hbv; clear hbv hTE hTm
      have hend : Below w.heap.size w wr := b2.trans hbr
      go_wp2
      obtain ⟨wq, hwq⟩ : ∃ wq : World, wq = wr := ⟨_, rfl⟩
      rw [← hwq] at hG hend ⊢
      clear hwq
      go_loopw [17, 18] (fun v c wr => ∃ (k : Nat) (L : List Nat), k ≤ l.length ∧ c = .int .i64 k ∧ L = (List.range k).filter (fun i => decide (i ∈ rrs wl l may l.length 0)) ∧ wr.ownsRow wq.heap.size 3 1 v L.length (L.map fun (j : Nat) => .int .i64 j) ∧ Below wq.heap.size wq wr) (fun _ c _ => l.length - (vInt c).toNat)
      case atStart => exact ⟨0, [], by omega, rfl, rfl, World.ownsRow_nil _ _ _ _, Below.refl _ _⟩
      case round =>
        obtain ⟨k, L, hk, rfl, hL, how, hbr3⟩ := hrel
        have hLl : L.length ≤ k := by
          rw [hL]
          have := List.length_filter_le (fun i => decide (i ∈ rrs wl l may l.length 0)) (List.range k)
          rwa [List.length_range] at this
        by_cases hkl : k < l.length
        · have hkk : (k : Int) < l.length := by omega
          obtain ⟨t, ht⟩ : ∃ t, t = decide (k ∈ rrs wl l may l.length 0) := ⟨_, rfl⟩
          have ct : wr.cell? ⟨G, k, none⟩ = some (.bool t) := (hG.below hbr3 hG.lt).cell (by rw [bl_get _ hkl, ht])
          have hst : (List.range (k + 1)).filter (fun i => decide (i ∈ rrs wl l may l.length 0)) = L ++ (if t = true then [k] else []) := by
            rw [List.range_succ, List.filter_append, ← hL, List.filter_cons, ht]
            split <;> rfl
          clear ht
          have HST := Lib.hid hst; clear hst
          have HL := Lib.hid hL; clear hL
          cases t with
          | false =>
            go_wp2
            go_roundw
            case rel => exact ⟨k + 1, L, by omega, by go_num, by rw [HST.out]; simp, how, hbr3⟩
            case measure => simp [vInt]; omega
          | true =>
            have hbsz := hbr3.size
            have HOW := how.alloc (.cells #[.int .i64 k] 3)
            go_wp2_with (refine wpList_append_sl rfl _ _ 22 rfl wq.heap.size 3 (.int .i64 0) 1 8 hTint infoInt rfl (by decide) _ L.length _ rfl HOW _ 1 [.int .i64 k] rfl (sl_new _ _ _ 1 rfl (by decide)) (by intro u hu; simp at hu; rw [hu]; rfl) (by unfold maxLen; omega) (by omega) (by simp; omega) ?_)
            intro v' w' h1 h2
            have hb9 : Below wq.heap.size wq w' := grown_below (hbr3.trans ((alloc_below _ _).mono hbsz)) HOW h2 (by simp; omega)
            go_wp2
            go_roundw
            case rel =>
              refine ⟨k + 1, L ++ [k], by omega, by go_num, by rw [HST.out]; simp, ?_, hb9⟩
              rw [List.length_append, List.map_append]; exact h1
            case measure => simp [vInt]; omega
        · obtain rfl : k = l.length := by omega
          have hL2 : L = bndL wl l may := hL
          rw [hL2] at how
          clear hL hL2
          go_wp2
          go_ret3
          rw [HBV.out]
          exact ⟨_, rfl, own_weaken how hend.size, hend.trans (hbr3.mono hend.size)⟩
end Go.Proofs.Ytnkglahiagigoaa

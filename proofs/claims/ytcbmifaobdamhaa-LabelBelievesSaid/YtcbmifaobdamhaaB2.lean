/- label: the reference's Why. -/
import Derived.Test.YtcbmifaobdamhaaP9
import Derived.Test.YtcbmifaobdamhaaB1
namespace Go.Label
open Go.RowKit Go.Own Go.Proofs.Ytcbmifaobdamhaa
def ndC (F : Nat) (nd : Int → Bool) (k : Nat) : Value := .bool (nd (slF F k))
theorem ndC_set {F j : Nat} (nd : Int → Bool) (h : j < F + 1) : (rm (F + 1) (ndC F nd)).set j (.bool true) = rm (F + 1) (ndC F fun f => if f = slF F j then true else nd f) := by
  rw [rm_set]
  refine rm_congr fun k hk => ?_
  unfold ndC
  by_cases e : k = j
  · subst e; rw [if_pos rfl]; show _ = Value.bool (if slF F k = slF F k then true else _); rw [if_pos rfl]
  · have e2 : slF F k ≠ slF F j := fun h' => e (slF_inj (by omega) (by omega) h')
    rw [if_neg e]; show _ = Value.bool (if slF F k = slF F j then true else _); rw [if_neg e2]
theorem nd_rg {b : Lg} (ok : Ok b) {m : Nat} {F r k : Nat} {fact : Int} {nd : Int → Bool} (hF : b.facts = F) (hf : -1 ≤ fact ∧ fact < b.facts) (h : ND b (rkE b m) (rsE b m) fact F r k nd) (f : Int) (hn : nd f = true) : -1 ≤ f ∧ f < F := by
  have := rch_rg ok (fun f v h => ((riE b m).a f v h).1) hf (h.snd f hn)
  omega
end Go.Label
namespace Go.Proofs.Ytcbmifaobdamhaa
open Go.RowKit Go.Own Go.Theory Go.BigFrame Go.Ib Go.Label Go.Shelf
set_option maxRecDepth 100000 in
set_option maxHeartbeats 8000000 in
theorem rwhy_any (b : Lg) (s fact : Int) (sa sr : Option Addr) (ca cr : Nat) (bs : List Value) (hrg : LgRg b) (w : World) (h : LgAt w b sa sr ca cr bs) (hfit : fitsE b (isB b s) fact = 0) :
    Calls Try.prog 25 #[lgV b sa sr ca cr, .int .i64 s, .int .i64 fact] w fun e w' => ∃ so co out E, e = .returned (.tuple #[.slice so out.length co, .int .i64 E]) ∧ Sl w' 1 (.slice so out.length co) out.length (out.map (.int .i64)) ∧ WhyR b s.toNat fact out E ∧ Below w.heap.size w w' := by
  have hlgV : lgV b sa sr ca cr = .agg #[.int .i64 b.facts, .slice sa b.assume.length ca, .slice sr b.rules.length cr] := rfl
  have hbox := box_new w b sa sr ca cr 25
  obtain ⟨W1, hW1⟩ : ∃ W1, W1 = w.alloc (.cells #[.int .i64 b.facts, .slice sa b.assume.length ca, .slice sr b.rules.length cr] 25) := ⟨_, rfl⟩
  rw [← hW1] at hbox
  have hH := h.below hbox.b1
  have hv := rvalid_any b sa sr ca cr bs hrg W1 hH
  rw [hlgV] at hv ⊢
  obtain ⟨v1, v2, v3, v4⟩ := fits0 hfit
  rw [v1] at hv
  have HOK := Lib.hid (valE_ok.1 v1)
  obtain ⟨m, rfl, hm⟩ := isB_nat HOK.out v2
  rw [Int.toNat_natCast]
  have HBOX := Lib.hid hbox; clear hbox
  have HH := Lib.hid hH; clear hH h
  have HW1 := Lib.hid hW1; clear hW1
  have HV := Lib.hid hv; clear hv hrg v1 hfit
  have HLV := Lib.hid hlgV; clear hlgV
  have HIS := Lib.hid v2; clear v2
  have hf64 := HOK.out.f64
  have hf0 := HOK.out.f0
  have r64 := HOK.out.r64
  obtain ⟨F, hF⟩ : ∃ F : Nat, b.facts = F := ⟨b.facts.toNat, by omega⟩
  have HF := Lib.hid hF
  have v34 : -1 ≤ fact ∧ fact < b.facts := ⟨v3, v4⟩
  have HFR := Lib.hid v34; clear v34
  rw [hF] at v4 hf64
  rw [hF] at HW1
  have hfF : (F : Int) ≤ 64 := hf64
  clear hf0 hf64 hF
  go_enter Try.func25, Try.ntmps25
  go_wp2_with (fail)
  rw [HF.out, ← HW1.out]
  rw [HF.out] at HV HLV
  refine HV.out.mono ?_
  clear HV
  rintro e w2 ⟨rfl, b2⟩
  obtain ⟨c0, c1, c2⟩ := HBOX.out.cell w2 b2
  rw [HF.out] at c0
  have hpis := ris_any b m sa sr ca cr HOK.out.a16 w2
  rw [HLV.out, HIS.out] at hpis
  have HPIS := Lib.hid hpis; clear hpis
  have HB2 := Lib.hid b2; clear b2
  have w3n : (fact < -1) = False := eq_false (by omega)
  have w4n : ((F : Int) ≤ fact) = False := eq_false (by omega)
  go_wp2_with (fail)
  refine HPIS.out.mono ?_
  clear HPIS c0 c1 c2
  rintro e w3 ⟨rfl, b3⟩
  have b3' : Below W1.heap.size W1 w3 := HB2.out.trans (b3.mono HB2.out.size)
  obtain ⟨c0, c1, c2⟩ := HBOX.out.cell w3 b3'
  rw [HF.out] at c0
  have hrk := rranks_any b m F sa sr ca cr bs HOK.out HF.out hm w3 (HH.out.below b3')
  rw [HLV.out] at hrk
  have HRK := Lib.hid hrk; clear hrk
  have HB3 := Lib.hid b3'; clear b3' b3 HB2
  go_wp2_with (fail)
  refine HRK.out.mono ?_
  clear HRK c0 c1 c2 w3n w4n
  rintro e w4 ⟨G, hG, rfl, hR⟩
  have b4' : Below W1.heap.size W1 w4 := HB3.out.trans (hR.b.mono HB3.out.size)
  obtain ⟨c0, c1, c2⟩ := HBOX.out.cell w4 b4'
  rw [HF.out] at c0
  have z0 : W1.heap.size ≤ G := Nat.le_trans HB3.out.size hG
  obtain ⟨rk, hrk⟩ : ∃ rk, rk = rkE b m := ⟨_, rfl⟩
  obtain ⟨rs, hrs⟩ : ∃ rs, rs = rsE b m := ⟨_, rfl⟩
  rw [← hrk, ← hrs] at hR
  have hri := riE b m
  rw [← hrk, ← hrs, show b.facts.toNat = F by have := HF.out; omega] at hri
  have hno : rk fact = none → WhyR b m fact [] 6 := fun h => .inl ⟨hrk ▸ h, rfl, rfl⟩
  have hyes : ∀ R nd, rk fact = some R → (∀ f, nd f = true ↔ Rch b rs fact f) → WhyR b m fact ((outL F nd rk R).filterMap (rsI rs)) 0 := fun R nd h1 h2 => .inr ⟨R, nd, hrk ▸ h1, rfl, by rw [← hrs]; exact h2, by rw [← hrk, ← hrs, show b.facts.toNat = F by have := HF.out; omega]⟩
  have hndr : ∀ r k nd, ND b rk rs fact F r k nd → ∀ f, nd f = true → -1 ≤ f ∧ f < F := fun r k nd h => nd_rg HOK.out HF.out HFR.out (m := m) (by rw [← hrk, ← hrs]; exact h)
  clear hrk hrs
  have HRI := Lib.hid hri; clear hri
  have HNO := Lib.hid hno; clear hno
  have HYES := Lib.hid hyes; clear hyes
  have HNDR := Lib.hid hndr; clear hndr
  have HR := Lib.hid hR; clear hR
  have HB4 := Lib.hid b4'; clear b4' HB3
  have hsl := slT_F (F := F) v3 v4
  obtain ⟨sl, hs⟩ : ∃ sl, sl = slT F fact := ⟨_, rfl⟩
  have hsv : sl = if fact < 0 then F else fact.toNat := hs
  rw [← hs] at hsl
  clear hs
  obtain ⟨N, hN⟩ : ∃ N, N = F + 1 := ⟨_, rfl⟩
  have eN : (F : Int) + 1 = (N : Int) := by omega
  have hN65 : N ≤ 65 := by omega
  rw [← hN]
  have HN := Lib.hid hN; clear hN
  have hsN' : (sl : Int) < N := by have := HN.out; omega
  have cs : w4.cell? ⟨G, sl, none⟩ = some (.int .i64 (opI (rk fact))) := HR.out.a.cell (by rw [rm_get (by omega)]; unfold rkC; rw [hsl.2])
  have HSL := Lib.hid hsl; clear hsl
  have hmk := mk_bools N (by omega)
  by_cases hneg : fact < 0
  · have hsF : sl = F := by rw [hsv, if_pos hneg]
    rw [hsF] at cs hsN' HSL
    clear hsF hsv
    cases hro : rk fact with
    | none =>
      have hc := HNO.out hro
      have HC := Lib.hid hc; clear hc
      have hb := HBOX.out.below HB4.out
      have HB := Lib.hid hb; clear hb
      rw [hro] at cs
      have cs' : w4.cell? ⟨G, F, none⟩ = some (.int .i64 (-1)) := cs
      clear cs hro
      go_wp2
      refine bodyPost_ret (results_tmp2 rfl _ _ _) rfl ?_
      exact ⟨none, 0, [], 6, rfl, Sl.none0 _, HC.out, HB.out⟩
    | some R =>
      have hRle : R ≤ 66 := by have := HRI.out.le _ _ hro; omega
      rw [hro] at cs
      have cs' : w4.cell? ⟨G, F, none⟩ = some (.int .i64 R) := cs
      have hRn : ((R : Int) < 0) = False := eq_false (by omega)
      clear cs
      have HRO := Lib.hid hro; clear hro
      obtain ⟨A, hA⟩ : ∃ A, A = w4.heap.size := ⟨_, rfl⟩
      obtain ⟨W5, hW5⟩ : ∃ W5, W5 = w4.alloc (.cells (Array.replicate N (.bool false)) 4) := ⟨_, rfl⟩
      have hA5 : Blk W5 w4.heap.size (rm (F + 1) (ndC F fun _ => false)) 4 := by
        rw [hW5]
        have := blk_make w4 N (.bool false) 4
        rw [rm_rep, HN.out] at this
        rw [HN.out]
        exact this
      have b5 : Below w4.heap.size w4 W5 := by rw [hW5]; exact alloc_below _ _
      have fz : W5.frozen? ⟨w4.heap.size, F, none⟩ = false := hA5.frozen _
      have cz : W5.cell? ⟨w4.heap.size, F, none⟩ = some (.bool false) := hA5.cell (rm_get (by have := HSL.out; omega))
      obtain ⟨W6, hW6⟩ : ∃ W6, W6 = W5.setCell ⟨w4.heap.size, F, none⟩ (.bool true) := ⟨_, rfl⟩
      have b6 : Below w4.heap.size w4 W6 := by rw [hW6]; exact below_set b5 (Nat.le_refl _) (Nat.le_refl _) F _
      have hset : Blk W6 A (rm (F + 1) (ndC F fun f => decide (f = fact))) 4 := by
        rw [hW6, hA]
        have h1 := hA5.set F (.bool true)
        rw [ndC_set _ (by have := HSL.out; omega), HSL.out.2] at h1
        have e : (fun f => if f = fact then true else false) = fun f => decide (f = fact) := by funext f; by_cases e : f = fact <;> simp [e]
        rw [e] at h1
        exact h1
      have hz4 : W1.heap.size ≤ A := by rw [hA]; exact HB4.out.size
      have hAG : G + 1 < A := by rw [hA]; exact HR.out.r.lt
      have hrx : ∀ U, Below w4.heap.size w4 U → RR w3 U G F rk rs := fun U hU => ⟨HR.out.a.below hU HR.out.a.lt, HR.out.r.below hU HR.out.r.lt, HR.out.b.trans (hU.mono HR.out.b.size)⟩
      have HRX := Lib.hid hrx; clear hrx
      have cs6 : W6.cell? ⟨G, F, none⟩ = some (.int .i64 R) := (b6.cell (p := ⟨G, F, none⟩) (show G < w4.heap.size from HR.out.a.lt)).trans cs'
      have HSET := Lib.hid hset; clear hset
      have HB6 := Lib.hid b6; clear b6
      have hW6' := hW6.symm; clear hW6
      have hW5' := hW5.symm; clear hW5
      clear hA5 b5
      have HA := Lib.hid hA; clear hA
      clear c1 c2
      go_wp2
      rw [← HA.out]
      clear c0 cs' cs6 hmk hW6' hW5' fz cz hRn
      go_loopw [13] (fun vr wq => ∃ (r : Nat) (nd : Int → Bool), r ≤ R ∧ vr = .int .i64 r ∧ ND b rk rs fact F r 0 nd ∧ Blk wq A (rm (F + 1) (ndC F nd)) 4 ∧ Below w4.heap.size w4 wq) (fun vr _ => (vInt vr).toNat)
      case atStart => exact ⟨R, _, Nat.le_refl _, rfl, nd_start HRO.out, HSET.out, HB6.out⟩
      case round =>
        clear HSET HB6
        obtain ⟨r, nd, hr, rfl, hnd, hA5, hbq⟩ := hrel
        have HND := Lib.hid hnd; clear hnd
        have HA5 := Lib.hid hA5; clear hA5
        have HBQ := Lib.hid hbq
        obtain ⟨c0, c1, c2⟩ := HBOX.out.cell wr (HB4.out.trans (hbq.mono HB4.out.size))
        rw [HF.out] at c0
        clear hbq
        by_cases hr0 : 0 < r
        · have hr0' : (0 : Int) < r := by omega
          go_wp2
          clear c0 c1 c2
          go_loopw [14] (fun vk wq => ∃ (k : Nat) (nd : Int → Bool), k ≤ N ∧ vk = .int .i64 k ∧ ND b rk rs fact F r k nd ∧ Blk wq A (rm (F + 1) (ndC F nd)) 4 ∧ Below w4.heap.size w4 wq) (fun vk _ => N + 1 - (vInt vk).toNat)
          case atStart => exact ⟨0, nd, by omega, rfl, HND.out, HA5.out, HBQ.out⟩
          case round =>
            clear HND HA5 HBQ
            obtain ⟨k, nd, hk, rfl, hnd, hA5, hbq⟩ := hrel
            have HRW := Lib.hid (HRX.out wr hbq)
            have hb1 := HB4.out.trans (hbq.mono HB4.out.size)
            obtain ⟨c0, c1, c2⟩ := HBOX.out.cell wr hb1
            rw [HF.out] at c0
            have HB1 := Lib.hid hb1; clear hb1
            by_cases hkN : k < N
            · have hkN' : (k : Int) < N := by omega
              have hkF : (k : Int) ≤ F := by have := HN.out; omega
              have hkF1 : k < F + 1 := by have := HN.out; omega
              have cn : wr.cell? ⟨A, k, none⟩ = some (.bool (nd (slF F k))) := hA5.cell (rm_get hkF1)
              have cr0 : wr.cell? ⟨G, k, none⟩ = some (.int .i64 (opI (rk (slF F k)))) := HRW.out.a.cell (rm_get hkF1)
              have hskip : (nd (slF F k) = true → rk (slF F k) = some r → False) → ND b rk rs fact F r (k + 1) nd := fun h => hnd.skip (by omega) (fun h1 h2 => absurd h2 (fun h2 => h h1 h2)) (HNDR.out r k nd hnd)
              have HSK := Lib.hid hskip; clear hskip
              have HA5 := Lib.hid hA5; clear hA5
              have HBQ := Lib.hid hbq; clear hbq
              obtain ⟨x, hx⟩ : ∃ x, x = nd (slF F k) := ⟨_, rfl⟩
              obtain ⟨y, hy⟩ : ∃ y, y = opI (rk (slF F k)) := ⟨_, rfl⟩
              rw [← hx] at cn
              rw [← hy] at cr0
              have HX := Lib.hid hx; clear hx
              have HY := Lib.hid hy; clear hy
              cases hxx : x with
              | false =>
                rw [hxx] at cn HX
                have hns := HSK.out (fun h => by rw [← HX.out] at h; cases h)
                have HNS := Lib.hid hns; clear hns hxx hnd
                go_wp2
                go_roundw
                case rel => exact ⟨k + 1, nd, by omega, by go_num, HNS.out, HA5.out, HBQ.out⟩
                case measure => simp [vInt]; omega
              | true =>
                rw [hxx] at cn HX
                clear hxx
                by_cases hyr : y = r
                · have hyr1 : (y != (r : Int)) = false := by simp [hyr]
                  have hrkr : rk (slF F k) = some r := by
                    have h1 := HY.out
                    rw [hyr] at h1
                    cases h2 : rk (slF F k) with
                    | none => rw [h2] at h1; have h3 : (r : Int) = -1 := h1; omega
                    | some t => rw [h2] at h1; have h3 : (r : Int) = t := h1; congr 1; omega
                  obtain ⟨v, hv⟩ := HRI.out.c (slF F k) (r - 1) (by rw [hrkr]; congr 1; omega)
                  obtain ⟨hvr, _, t0, ht0, _, _, hbody⟩ := HRI.out.a _ v hv
                  have hbt : ∀ g ∈ (rul b v).body, ∃ t, t < r ∧ rk g = some t := fun g hg => by
                    obtain ⟨t, h1, h2⟩ := hbody g hg
                    rw [hrkr] at ht0; injection ht0 with ht0
                    exact ⟨t, by omega, h2⟩
                  have crs : wr.cell? ⟨G + 1, k, none⟩ = some (.int .i64 v) := HRW.out.r.cell (by rw [rm_get hkF1]; unfold rkC; rw [hv]; rfl)
                  obtain ⟨g, o, sb, cb, rfl, hc, hbd⟩ := HH.out.rule hvr
                  obtain ⟨k0, k1⟩ := hc wr HB1.out
                  have hru : rul b v = b.rules[v] := getD_eq rl0 hvr
                  have hbl := HOK.out.long _ (List.getElem_mem hvr)
                  have hbr : ∀ f ∈ b.rules[v].body, 0 ≤ f ∧ f < (F : Int) := fun f hf => by
                    have h := HOK.out.body _ (List.getElem_mem hvr) f hf
                    rwa [HF.out] at h
                  rw [hru] at hbt
                  have hrch : ∀ f ∈ b.rules[v].body, Rch b rs fact f := fun f hf => Rch.step (slF F k) v f (hnd.snd _ HX.out.symm) hv (by rw [hru]; exact hf)
                  have hskip2 : ∀ nd', ND b rk rs fact F r k nd' → (∀ f ∈ b.rules[v].body, nd' f = true) → ND b rk rs fact F r (k + 1) nd' := fun nd' h1 h2 => h1.skip (by omega) (fun _ _ v' hv' f hf => by
                    rw [hv] at hv'; injection hv' with hv'; subst hv'
                    rw [hru] at hf; exact h2 f hf) (HNDR.out r k nd' h1)
                  obtain ⟨bl, hbe⟩ : ∃ bl, bl = b.rules[v].body := ⟨_, rfl⟩
                  rw [← hbe] at k1 hbd hbl hbr hbt hrch hskip2
                  clear hbe hc k0 hbody ht0 hru
                  have hvr' : (v : Int) < b.rules.length := by omega
                  obtain ⟨nr, hnr⟩ : ∃ nr, nr = b.rules.length := ⟨_, rfl⟩
                  rw [← hnr] at c2 hvr' r64
                  clear hnr hvr hv
                  have HND := Lib.hid hnd; clear hnd
                  have HBD := Lib.hid hbd; clear hbd
                  have HBR := Lib.hid hbr; clear hbr
                  have HBT := Lib.hid hbt; clear hbt
                  have HRCH := Lib.hid hrch; clear hrch
                  have HSK2 := Lib.hid hskip2; clear hskip2
                  have HRR := Lib.hid hrkr; clear hrkr
                  rw [hyr] at cr0
                  clear hyr hyr1 HY HSK
                  obtain ⟨wo, hwo⟩ : ∃ wo : World, wo = wr := ⟨_, rfl⟩
                  subst hwo
                  go_wp2
                  go_quiet (fail)
                  go_wp2
                  clear c0 c1 c2 cn cr0 crs k1
                  go_loopw [16] (fun vc wq => ∃ (c : Nat) (nd : Int → Bool), c ≤ bl.length ∧ vc = .int .i64 c ∧ ND b rk rs fact F r k nd ∧ (∀ f ∈ bl.take c, nd f = true) ∧ Blk wq A (rm (F + 1) (ndC F nd)) 4 ∧ Below w4.heap.size w4 wq) (fun vc _ => bl.length - (vInt vc).toNat)
                  case atStart => exact ⟨0, nd, by omega, rfl, HND.out, fun f h => by simp at h, HA5.out.drewN _, below_drewN HBQ.out _⟩
                  case round =>
                    clear HND HA5 HX
                    obtain ⟨c, nd', hc, rfl, hnd, hall, hA5, hbq⟩ := hrel
                    have HALL := Lib.hid hall; clear hall
                    by_cases h3 : c < bl.length
                    · have h3' : (c : Int) < bl.length := by omega
                      have hb3 := HB4.out.trans (hbq.mono HB4.out.size)
                      obtain ⟨g2, o2, rfl, _, _, hC2, hlt2⟩ := sl_at (HBD.out (by omega)) (by omega)
                      have har := HBR.out _ (List.getElem_mem h3)
                      have hrc := HRCH.out _ (List.getElem_mem h3)
                      obtain ⟨t, ht1, ht2⟩ := HBT.out _ (List.getElem_mem h3)
                      have htk : bl.take (c + 1) = bl.take c ++ [bl[c]] := List.take_succ_eq_append_getElem h3
                      obtain ⟨f, hf⟩ : ∃ f : Nat, bl[c] = f := ⟨bl[c].toNat, by omega⟩
                      have ck : wr.cell? ⟨g2, o2 + c, none⟩ = some (.int .i64 f) := (hC2.below hb3 hlt2) c _ (by simp [h3, hf])
                      rw [hf] at har hrc ht2 htk
                      have hfF1 : f < F + 1 := by omega
                      have hfN' : (f : Int) < N := by have := HN.out; omega
                      have hfl : slF F f = f := by unfold slF; rw [if_neg (by omega)]
                      have fz : wr.frozen? ⟨A, f, none⟩ = false := hA5.frozen _
                      have cz : wr.cell? ⟨A, f, none⟩ = some (.bool (nd' (slF F f))) := hA5.cell (rm_get hfF1)
                      have h1 := hA5.set f (.bool true)
                      rw [ndC_set _ hfF1, hfl] at h1
                      have h2 := hnd.add hrc ht2 ht1
                      have h4 : ∀ x ∈ bl.take (c + 1), (if x = (f : Int) then true else nd' x) = true := fun x hx => by
                        by_cases e : x = (f : Int)
                        · rw [if_pos e]
                        · rw [if_neg e]
                          rw [htk] at hx
                          rcases List.mem_append.1 hx with hx | hx
                          · exact HALL.out x hx
                          · exact absurd (List.mem_singleton.1 hx) e
                      have h5 := below_set hbq (Nat.le_refl _) (Nat.le_of_eq HA.out.symm) f (.bool true)
                      have H1 := Lib.hid h1; clear h1
                      have H2 := Lib.hid h2; clear h2
                      have H4 := Lib.hid h4; clear h4
                      have H5 := Lib.hid h5; clear h5
                      clear hf hfl htk hrc ht2 hC2 hnd hA5 hbq hb3
                      go_wp2
                      go_roundw
                      case rel => exact ⟨c + 1, _, by omega, by go_num, H2.out, H4.out, H1.out, H5.out⟩
                      case measure => simp [vInt]; omega
                    · have h3' : ((c : Int) < bl.length) = False := eq_false (by omega)
                      have hal := HALL.out
                      rw [List.take_of_length_le (by omega)] at hal
                      have hns := HSK2.out nd' hnd hal
                      have HNS := Lib.hid hns; clear hns hnd hal
                      go_wp2
                      go_roundw
                      case rel => exact ⟨k + 1, nd', by omega, by go_num, HNS.out, hA5, hbq⟩
                      case measure => simp [vInt]; omega
                · have hyr1 : (y != (r : Int)) = true := by simpa using hyr
                  have hns := HSK.out (fun _ h => hyr (by rw [HY.out, h]; rfl))
                  have HNS := Lib.hid hns; clear hns hnd
                  have hyr2 : (y = (r : Int)) = False := eq_false hyr
                  clear hyr
                  go_wp2
                  go_roundw
                  case rel => exact ⟨k + 1, nd, by omega, by go_num, HNS.out, HA5.out, HBQ.out⟩
                  case measure => simp [vInt]; omega
            · have hkF : ((k : Int) ≤ F) = False := eq_false (by have := HN.out; omega)
              have hkF1 : k = F + 1 := by have := HN.out; omega
              rw [hkF1] at hnd
              obtain ⟨r1, hr1⟩ : ∃ r1, r1 = r - 1 := ⟨_, rfl⟩
              have er : (r : Int) - 1 = (r1 : Int) := by omega
              have hr1R : r1 ≤ R := by omega
              have hr1r : r1 < r := by omega
              rw [show r = r1 + 1 by omega] at hnd
              have hdn := hnd.down (HNDR.out _ _ _ hnd)
              have HDN := Lib.hid hdn; clear hdn hnd hr1 hkF1
              go_wp2
              go_roundw
              case rel => exact ⟨r1, nd, hr1R, rfl, HDN.out, hA5, hbq⟩
              case measure => simp [vInt]; omega
        · obtain rfl : r = 0 := by omega
          have hr0' : ((0 : Int) < 0) = False := eq_false (by omega)
          have hdn := fun f => HND.out.done HRI.out f
          have HDN := Lib.hid (HYES.out R nd HRO.out hdn)
          have hnone : ∀ k r', nd (slF F k) = true → rk (slF F k) = some (r' + 1) → ∃ v, rs (slF F k) = some v := fun k r' _ h => HRI.out.c _ _ h
          have HNONE := Lib.hid hnone; clear hnone
          clear hdn HND
          have csr : ∀ U, Below w4.heap.size w4 U → U.cell? ⟨G, F, none⟩ = some (.int .i64 R) := fun U hU => by
            have h1 := (HRX.out U hU).a.cell (rm_get (i := F) (by have := HSL.out; omega))
            rw [h1]; unfold rkC; rw [HSL.out.2, HRO.out]; rfl
          have HCS := Lib.hid csr; clear csr
          have hA6 : ∀ U, Below wr.heap.size wr U → Blk U A (rm (F + 1) (ndC F nd)) 4 := fun U hU => HA5.out.below hU HA5.out.lt
          have HA6 := Lib.hid hA6; clear hA6
          have HBP := HBQ
          clear HBQ HA5
          obtain ⟨wp, hwp⟩ : ∃ wp : World, wp = wr := ⟨_, rfl⟩
          subst hwp
          go_wp2
          clear c0 c1 c2
          go_loopw [17, 18] (fun v17 vr wq => ∃ r : Nat, r ≤ R ∧ vr = .int .i64 (r + 1 : Nat) ∧ wq.ownsRow wp.heap.size 3 1 v17 (oK F nd rk rs r 0).length ((oK F nd rk rs r 0).map (.int .i64)) ∧ Below wp.heap.size wp wq) (fun _ vr _ => R + 2 - (vInt vr).toNat)
          case atStart => exact ⟨0, by omega, rfl, by rw [oK_zero]; exact World.ownsRow_nil _ _ _ _, Below.refl _ _⟩
          case round =>
            obtain ⟨r, hr, rfl, how, hbq⟩ := hrel
            obtain ⟨sv, cv, rfl, _⟩ := own_slice how
            have hb4 : Below w4.heap.size w4 wr := HBP.out.trans (hbq.mono HBP.out.size)
            have cs0 := HCS.out wr hb4
            obtain ⟨q, hq⟩ : ∃ q, q = r + 1 := ⟨_, rfl⟩
            have hq66 : q ≤ 67 := by omega
            have HQ := Lib.hid hq
            rw [← hq]
            by_cases hrR : r < R
            · have hqR : (q : Int) ≤ R := by omega
              have HOW := Lib.hid how; clear how
              have HBQ := Lib.hid hbq; clear hbq hb4 hq
              go_wp2
              clear cs0
              go_loopw [17, 19] (fun v17 vk wq => ∃ k : Nat, k ≤ N ∧ vk = .int .i64 k ∧ wq.ownsRow wp.heap.size 3 1 v17 (oK F nd rk rs r k).length ((oK F nd rk rs r k).map (.int .i64)) ∧ Below wp.heap.size wp wq) (fun _ vk _ => N + 1 - (vInt vk).toNat)
              case atStart => exact ⟨0, by omega, rfl, HOW.out, HBQ.out⟩
              case round =>
                clear HOW HBQ
                obtain ⟨k, hk, rfl, how, hbq⟩ := hrel
                obtain ⟨sv, cv, rfl, _⟩ := own_slice how
                have hb4 : Below w4.heap.size w4 wr := HBP.out.trans (hbq.mono HBP.out.size)
                have HRW := Lib.hid (HRX.out wr hb4)
                obtain ⟨c0, c1, c2⟩ := HBOX.out.cell wr (HB4.out.trans (hb4.mono HB4.out.size))
                rw [HF.out] at c0
                have hA7 := HA6.out wr hbq
                by_cases hkN : k < N
                · have hkN' : (k : Int) < N := by omega
                  have hkF : (k : Int) ≤ F := by have := HN.out; omega
                  have hkF1 : k < F + 1 := by have := HN.out; omega
                  have cn : wr.cell? ⟨A, k, none⟩ = some (.bool (nd (slF F k))) := hA7.cell (rm_get hkF1)
                  have cr0 : wr.cell? ⟨G, k, none⟩ = some (.int .i64 (opI (rk (slF F k)))) := HRW.out.a.cell (rm_get hkF1)
                  have hlen := oK_len F (by omega) nd rk rs r k (by omega)
                  have hyes : ∀ v, nd (slF F k) = true → rk (slF F k) = some (r + 1) → rs (slF F k) = some v → oK F nd rk rs r (k + 1) = oK F nd rk rs r k ++ [(v : Int)] := fun v h1 h2 h3 => oK_yes h1 h2 h3
                  have hno : (nd (slF F k) && (rk (slF F k) == some (r + 1))) = false → oK F nd rk rs r (k + 1) = oK F nd rk rs r k := oK_no
                  obtain ⟨T, hT⟩ : ∃ T, T = oK F nd rk rs r k := ⟨_, rfl⟩
                  rw [← hT] at how hlen hyes hno ⊢
                  obtain ⟨x, hx⟩ : ∃ x, x = nd (slF F k) := ⟨_, rfl⟩
                  obtain ⟨y, hy⟩ : ∃ y, y = opI (rk (slF F k)) := ⟨_, rfl⟩
                  rw [← hx] at cn
                  rw [← hy] at cr0
                  have hTl : T.length ≤ 4355 := by omega
                  have HX := Lib.hid hx; clear hx
                  have HY := Lib.hid hy; clear hy
                  have HYS := Lib.hid hyes; clear hyes
                  have HNS := Lib.hid hno; clear hno
                  have HOW := Lib.hid how; clear how
                  have HBQ := Lib.hid hbq; clear hbq hA7 hb4 hlen hT
                  cases hxx : x with
                  | false =>
                    rw [hxx] at cn HX
                    have e := HNS.out (by rw [← HX.out]; rfl)
                    have EE := Lib.hid e; clear e hxx
                    go_wp2
                    go_roundw
                    case rel => exact ⟨k + 1, by omega, by go_num, by rw [EE.out]; exact HOW.out, HBQ.out⟩
                    case measure => simp [vInt]; omega
                  | true =>
                    rw [hxx] at cn HX
                    clear hxx
                    by_cases hyr : y = q
                    · have hrkr : rk (slF F k) = some (r + 1) := by
                        have h1 := HY.out
                        rw [hyr] at h1
                        have h9 := HQ.out
                        cases h2 : rk (slF F k) with
                        | none => rw [h2] at h1; have h3 : (q : Int) = -1 := h1; omega
                        | some t => rw [h2] at h1; have h3 : (q : Int) = t := h1; congr 1; omega
                      obtain ⟨v, hv⟩ := HRI.out.c _ _ hrkr
                      have hvr := (HRI.out.a _ v hv).1
                      have crs : wr.cell? ⟨G + 1, k, none⟩ = some (.int .i64 v) := HRW.out.r.cell (by rw [rm_get hkF1]; unfold rkC; rw [hv]; rfl)
                      have e := HYS.out v HX.out.symm hrkr hv
                      have EE := Lib.hid e; clear e hrkr hv
                      rw [hyr] at cr0
                      clear hyr HY
                      have HOA := HOW.out.alloc (.cells #[.int .i64 (v : Int)] 3)
                      have hsz := HBQ.out.size
                      go_wp2_with (refine wpList_append_sl rfl _ _ 22 rfl wp.heap.size 3 (.int .i64 0) 1 8 hTint infoInt rfl (by decide) _ T.length _ rfl HOA _ 1 [.int .i64 (v : Int)] rfl (sl_new _ _ _ 1 rfl (by decide)) (by intro u hu; simp at hu; rw [hu]; rfl) (by unfold maxLen; omega) (by omega) (by simp; omega) ?_)
                      intro v' w8 g1 g2
                      have hb8 : Below wp.heap.size wp w8 := grown_below (HBQ.out.alloc hsz (.cells #[.int .i64 (v : Int)] 3)) HOA g2 (by simp; omega)
                      have HB8 := Lib.hid hb8; clear hb8
                      have HG1 := Lib.hid g1; clear g1 g2 HOA
                      go_wp2
                      refine ⟨⟨_, _, _, _, _, _, _, _, _, _, _, _, _, _, _, _, _, _, _, _, _, _, _, _, _, _, _, ?rel, rfl⟩, ?measure⟩
                      case rel => exact ⟨k + 1, by omega, (show Value.int .i64 ((k : Int) + 1) = _ by go_num), (show w8.ownsRow _ _ _ v' _ _ by rw [EE.out, List.length_append, List.map_append]; exact HG1.out), HB8.out⟩
                      case measure => simp [vInt]; omega
                    · have e := HNS.out (by
                        cases h2 : rk (slF F k) == some (r + 1) with
                        | false => rw [Bool.and_false]
                        | true =>
                          have h3 := HY.out
                          rw [beq_iff_eq.1 h2] at h3
                          exact absurd (show y = q by rw [h3, HQ.out]; rfl) hyr)
                      have EE := Lib.hid e; clear e
                      have hyr2 : (y == (q : Int)) = false := by simpa using hyr
                      have hyr3 : (y = (q : Int)) = False := eq_false hyr
                      clear hyr
                      go_wp2
                      go_roundw
                      case rel => exact ⟨k + 1, by omega, by go_num, by rw [EE.out]; exact HOW.out, HBQ.out⟩
                      case measure => simp [vInt]; omega
                · have hkF : ((k : Int) ≤ F) = False := eq_false (by have := HN.out; omega)
                  have hkF1 : k = F + 1 := by have := HN.out; omega
                  rw [hkF1, oK_next] at how
                  have HOW := Lib.hid how; clear how
                  have e1 : (oK F nd rk rs r k).length = (oK F nd rk rs (r + 1) 0).length := by rw [hkF1, oK_next]
                  have E1 := Lib.hid e1; clear e1
                  have hqR2 : q ≤ R := by have := HQ.out; omega
                  have HBQ := Lib.hid hbq; clear hbq hkF1 hA7
                  go_wp2
                  go_roundw
                  case rel => exact ⟨q, hqR2, by go_num, by rw [HQ.out, ← E1.out]; exact E1.out ▸ HOW.out, HBQ.out⟩
                  case measure => simp [vInt]; omega
            · have hqR : ((q : Int) ≤ R) = False := eq_false (by omega)
              have hrR2 : r = R := by omega
              rw [hrR2, oK_all] at how
              have hlen2 : (oK F nd rk rs r 0).length = ((outL F nd rk R).filterMap (rsI rs)).length := by rw [hrR2, oK_all]
              rw [hlen2]
              have hsl := Sl.of_owns how
              have hfb := HBOX.out.below (HB4.out.trans (hb4.mono HB4.out.size))
              have HSLL := Lib.hid hsl; clear hsl how hbq hb4
              have HFB := Lib.hid hfb; clear hfb hrR2 hlen2 hq
              obtain ⟨L, hL⟩ : ∃ L, L = (outL F nd rk R).filterMap (rsI rs) := ⟨_, rfl⟩
              rw [← hL] at HSLL HDN ⊢
              clear hL
              go_wp2
              refine bodyPost_ret (results_tmp2 rfl _ _ _) rfl ?_
              exact ⟨sv, cv, L, 0, rfl, HSLL.out, HDN.out, HFB.out⟩
  · obtain rfl : fact = (sl : Int) := by rw [if_neg hneg] at hsv; omega
    have hneg' : ((sl : Int) < 0) = False := eq_false hneg
    clear hneg hsv
    cases hro : rk (sl : Int) with
    | none =>
      have hc := HNO.out hro
      have HC := Lib.hid hc; clear hc
      have hb := HBOX.out.below HB4.out
      have HB := Lib.hid hb; clear hb
      rw [hro] at cs
      have cs' : w4.cell? ⟨G, sl, none⟩ = some (.int .i64 (-1)) := cs
      clear cs hro
      go_wp2
      refine bodyPost_ret (results_tmp2 rfl _ _ _) rfl ?_
      exact ⟨none, 0, [], 6, rfl, Sl.none0 _, HC.out, HB.out⟩
    | some R =>
      have hRle : R ≤ 66 := by have := HRI.out.le _ _ hro; omega
      rw [hro] at cs
      have cs' : w4.cell? ⟨G, sl, none⟩ = some (.int .i64 R) := cs
      have hRn : ((R : Int) < 0) = False := eq_false (by omega)
      clear cs
      have HRO := Lib.hid hro; clear hro
      obtain ⟨A, hA⟩ : ∃ A, A = w4.heap.size := ⟨_, rfl⟩
      obtain ⟨W5, hW5⟩ : ∃ W5, W5 = w4.alloc (.cells (Array.replicate N (.bool false)) 4) := ⟨_, rfl⟩
      have hA5 : Blk W5 w4.heap.size (rm (F + 1) (ndC F fun _ => false)) 4 := by
        rw [hW5]
        have := blk_make w4 N (.bool false) 4
        rw [rm_rep, HN.out] at this
        rw [HN.out]
        exact this
      have b5 : Below w4.heap.size w4 W5 := by rw [hW5]; exact alloc_below _ _
      have fz : W5.frozen? ⟨w4.heap.size, sl, none⟩ = false := hA5.frozen _
      have cz : W5.cell? ⟨w4.heap.size, sl, none⟩ = some (.bool false) := hA5.cell (rm_get (by have := HSL.out; omega))
      obtain ⟨W6, hW6⟩ : ∃ W6, W6 = W5.setCell ⟨w4.heap.size, sl, none⟩ (.bool true) := ⟨_, rfl⟩
      have b6 : Below w4.heap.size w4 W6 := by rw [hW6]; exact below_set b5 (Nat.le_refl _) (Nat.le_refl _) sl _
      have hset : Blk W6 A (rm (F + 1) (ndC F fun f => decide (f = (sl : Int)))) 4 := by
        rw [hW6, hA]
        have h1 := hA5.set sl (.bool true)
        rw [ndC_set _ (by have := HSL.out; omega), HSL.out.2] at h1
        have e : (fun f => if f = (sl : Int) then true else false) = fun f => decide (f = (sl : Int)) := by funext f; by_cases e : f = (sl : Int) <;> simp [e]
        rw [e] at h1
        exact h1
      have hz4 : W1.heap.size ≤ A := by rw [hA]; exact HB4.out.size
      have hAG : G + 1 < A := by rw [hA]; exact HR.out.r.lt
      have hrx : ∀ U, Below w4.heap.size w4 U → RR w3 U G F rk rs := fun U hU => ⟨HR.out.a.below hU HR.out.a.lt, HR.out.r.below hU HR.out.r.lt, HR.out.b.trans (hU.mono HR.out.b.size)⟩
      have HRX := Lib.hid hrx; clear hrx
      have cs6 : W6.cell? ⟨G, sl, none⟩ = some (.int .i64 R) := (b6.cell (p := ⟨G, sl, none⟩) (show G < w4.heap.size from HR.out.a.lt)).trans cs'
      have HSET := Lib.hid hset; clear hset
      have HB6 := Lib.hid b6; clear b6
      have hW6' := hW6.symm; clear hW6
      have hW5' := hW5.symm; clear hW5
      clear hA5 b5
      have HA := Lib.hid hA; clear hA
      clear c1 c2
      go_wp2
      rw [← HA.out]
      clear c0 cs' cs6 hmk hW6' hW5' fz cz hRn
      go_loopw [13] (fun vr wq => ∃ (r : Nat) (nd : Int → Bool), r ≤ R ∧ vr = .int .i64 r ∧ ND b rk rs (sl : Int) F r 0 nd ∧ Blk wq A (rm (F + 1) (ndC F nd)) 4 ∧ Below w4.heap.size w4 wq) (fun vr _ => (vInt vr).toNat)
      case atStart => exact ⟨R, _, Nat.le_refl _, rfl, nd_start HRO.out, HSET.out, HB6.out⟩
      case round =>
        clear HSET HB6
        obtain ⟨r, nd, hr, rfl, hnd, hA5, hbq⟩ := hrel
        have HND := Lib.hid hnd; clear hnd
        have HA5 := Lib.hid hA5; clear hA5
        have HBQ := Lib.hid hbq
        obtain ⟨c0, c1, c2⟩ := HBOX.out.cell wr (HB4.out.trans (hbq.mono HB4.out.size))
        rw [HF.out] at c0
        clear hbq
        by_cases hr0 : 0 < r
        · have hr0' : (0 : Int) < r := by omega
          go_wp2
          clear c0 c1 c2
          go_loopw [14] (fun vk wq => ∃ (k : Nat) (nd : Int → Bool), k ≤ N ∧ vk = .int .i64 k ∧ ND b rk rs (sl : Int) F r k nd ∧ Blk wq A (rm (F + 1) (ndC F nd)) 4 ∧ Below w4.heap.size w4 wq) (fun vk _ => N + 1 - (vInt vk).toNat)
          case atStart => exact ⟨0, nd, by omega, rfl, HND.out, HA5.out, HBQ.out⟩
          case round =>
            clear HND HA5 HBQ
            obtain ⟨k, nd, hk, rfl, hnd, hA5, hbq⟩ := hrel
            have HRW := Lib.hid (HRX.out wr hbq)
            have hb1 := HB4.out.trans (hbq.mono HB4.out.size)
            obtain ⟨c0, c1, c2⟩ := HBOX.out.cell wr hb1
            rw [HF.out] at c0
            have HB1 := Lib.hid hb1; clear hb1
            by_cases hkN : k < N
            · have hkN' : (k : Int) < N := by omega
              have hkF : (k : Int) ≤ F := by have := HN.out; omega
              have hkF1 : k < F + 1 := by have := HN.out; omega
              have cn : wr.cell? ⟨A, k, none⟩ = some (.bool (nd (slF F k))) := hA5.cell (rm_get hkF1)
              have cr0 : wr.cell? ⟨G, k, none⟩ = some (.int .i64 (opI (rk (slF F k)))) := HRW.out.a.cell (rm_get hkF1)
              have hskip : (nd (slF F k) = true → rk (slF F k) = some r → False) → ND b rk rs (sl : Int) F r (k + 1) nd := fun h => hnd.skip (by omega) (fun h1 h2 => absurd h2 (fun h2 => h h1 h2)) (HNDR.out r k nd hnd)
              have HSK := Lib.hid hskip; clear hskip
              have HA5 := Lib.hid hA5; clear hA5
              have HBQ := Lib.hid hbq; clear hbq
              obtain ⟨x, hx⟩ : ∃ x, x = nd (slF F k) := ⟨_, rfl⟩
              obtain ⟨y, hy⟩ : ∃ y, y = opI (rk (slF F k)) := ⟨_, rfl⟩
              rw [← hx] at cn
              rw [← hy] at cr0
              have HX := Lib.hid hx; clear hx
              have HY := Lib.hid hy; clear hy
              cases hxx : x with
              | false =>
                rw [hxx] at cn HX
                have hns := HSK.out (fun h => by rw [← HX.out] at h; cases h)
                have HNS := Lib.hid hns; clear hns hxx hnd
                go_wp2
                go_roundw
                case rel => exact ⟨k + 1, nd, by omega, by go_num, HNS.out, HA5.out, HBQ.out⟩
                case measure => simp [vInt]; omega
              | true =>
                rw [hxx] at cn HX
                clear hxx
                by_cases hyr : y = r
                · have hyr1 : (y != (r : Int)) = false := by simp [hyr]
                  have hrkr : rk (slF F k) = some r := by
                    have h1 := HY.out
                    rw [hyr] at h1
                    cases h2 : rk (slF F k) with
                    | none => rw [h2] at h1; have h3 : (r : Int) = -1 := h1; omega
                    | some t => rw [h2] at h1; have h3 : (r : Int) = t := h1; congr 1; omega
                  obtain ⟨v, hv⟩ := HRI.out.c (slF F k) (r - 1) (by rw [hrkr]; congr 1; omega)
                  obtain ⟨hvr, _, t0, ht0, _, _, hbody⟩ := HRI.out.a _ v hv
                  have hbt : ∀ g ∈ (rul b v).body, ∃ t, t < r ∧ rk g = some t := fun g hg => by
                    obtain ⟨t, h1, h2⟩ := hbody g hg
                    rw [hrkr] at ht0; injection ht0 with ht0
                    exact ⟨t, by omega, h2⟩
                  have crs : wr.cell? ⟨G + 1, k, none⟩ = some (.int .i64 v) := HRW.out.r.cell (by rw [rm_get hkF1]; unfold rkC; rw [hv]; rfl)
                  obtain ⟨g, o, sb, cb, rfl, hc, hbd⟩ := HH.out.rule hvr
                  obtain ⟨k0, k1⟩ := hc wr HB1.out
                  have hru : rul b v = b.rules[v] := getD_eq rl0 hvr
                  have hbl := HOK.out.long _ (List.getElem_mem hvr)
                  have hbr : ∀ f ∈ b.rules[v].body, 0 ≤ f ∧ f < (F : Int) := fun f hf => by
                    have h := HOK.out.body _ (List.getElem_mem hvr) f hf
                    rwa [HF.out] at h
                  rw [hru] at hbt
                  have hrch : ∀ f ∈ b.rules[v].body, Rch b rs (sl : Int) f := fun f hf => Rch.step (slF F k) v f (hnd.snd _ HX.out.symm) hv (by rw [hru]; exact hf)
                  have hskip2 : ∀ nd', ND b rk rs (sl : Int) F r k nd' → (∀ f ∈ b.rules[v].body, nd' f = true) → ND b rk rs (sl : Int) F r (k + 1) nd' := fun nd' h1 h2 => h1.skip (by omega) (fun _ _ v' hv' f hf => by
                    rw [hv] at hv'; injection hv' with hv'; subst hv'
                    rw [hru] at hf; exact h2 f hf) (HNDR.out r k nd' h1)
                  obtain ⟨bl, hbe⟩ : ∃ bl, bl = b.rules[v].body := ⟨_, rfl⟩
                  rw [← hbe] at k1 hbd hbl hbr hbt hrch hskip2
                  clear hbe hc k0 hbody ht0 hru
                  have hvr' : (v : Int) < b.rules.length := by omega
                  obtain ⟨nr, hnr⟩ : ∃ nr, nr = b.rules.length := ⟨_, rfl⟩
                  rw [← hnr] at c2 hvr' r64
                  clear hnr hvr hv
                  have HND := Lib.hid hnd; clear hnd
                  have HBD := Lib.hid hbd; clear hbd
                  have HBR := Lib.hid hbr; clear hbr
                  have HBT := Lib.hid hbt; clear hbt
                  have HRCH := Lib.hid hrch; clear hrch
                  have HSK2 := Lib.hid hskip2; clear hskip2
                  have HRR := Lib.hid hrkr; clear hrkr
                  rw [hyr] at cr0
                  clear hyr hyr1 HY HSK
                  obtain ⟨wo, hwo⟩ : ∃ wo : World, wo = wr := ⟨_, rfl⟩
                  subst hwo
                  go_wp2
                  go_quiet (fail)
                  go_wp2
                  clear c0 c1 c2 cn cr0 crs k1
                  go_loopw [16] (fun vc wq => ∃ (c : Nat) (nd : Int → Bool), c ≤ bl.length ∧ vc = .int .i64 c ∧ ND b rk rs (sl : Int) F r k nd ∧ (∀ f ∈ bl.take c, nd f = true) ∧ Blk wq A (rm (F + 1) (ndC F nd)) 4 ∧ Below w4.heap.size w4 wq) (fun vc _ => bl.length - (vInt vc).toNat)
                  case atStart => exact ⟨0, nd, by omega, rfl, HND.out, fun f h => by simp at h, HA5.out.drewN _, below_drewN HBQ.out _⟩
                  case round =>
                    clear HND HA5 HX
                    obtain ⟨c, nd', hc, rfl, hnd, hall, hA5, hbq⟩ := hrel
                    have HALL := Lib.hid hall; clear hall
                    by_cases h3 : c < bl.length
                    · have h3' : (c : Int) < bl.length := by omega
                      have hb3 := HB4.out.trans (hbq.mono HB4.out.size)
                      obtain ⟨g2, o2, rfl, _, _, hC2, hlt2⟩ := sl_at (HBD.out (by omega)) (by omega)
                      have har := HBR.out _ (List.getElem_mem h3)
                      have hrc := HRCH.out _ (List.getElem_mem h3)
                      obtain ⟨t, ht1, ht2⟩ := HBT.out _ (List.getElem_mem h3)
                      have htk : bl.take (c + 1) = bl.take c ++ [bl[c]] := List.take_succ_eq_append_getElem h3
                      obtain ⟨f, hf⟩ : ∃ f : Nat, bl[c] = f := ⟨bl[c].toNat, by omega⟩
                      have ck : wr.cell? ⟨g2, o2 + c, none⟩ = some (.int .i64 f) := (hC2.below hb3 hlt2) c _ (by simp [h3, hf])
                      rw [hf] at har hrc ht2 htk
                      have hfF1 : f < F + 1 := by omega
                      have hfN' : (f : Int) < N := by have := HN.out; omega
                      have hfl : slF F f = f := by unfold slF; rw [if_neg (by omega)]
                      have fz : wr.frozen? ⟨A, f, none⟩ = false := hA5.frozen _
                      have cz : wr.cell? ⟨A, f, none⟩ = some (.bool (nd' (slF F f))) := hA5.cell (rm_get hfF1)
                      have h1 := hA5.set f (.bool true)
                      rw [ndC_set _ hfF1, hfl] at h1
                      have h2 := hnd.add hrc ht2 ht1
                      have h4 : ∀ x ∈ bl.take (c + 1), (if x = (f : Int) then true else nd' x) = true := fun x hx => by
                        by_cases e : x = (f : Int)
                        · rw [if_pos e]
                        · rw [if_neg e]
                          rw [htk] at hx
                          rcases List.mem_append.1 hx with hx | hx
                          · exact HALL.out x hx
                          · exact absurd (List.mem_singleton.1 hx) e
                      have h5 := below_set hbq (Nat.le_refl _) (Nat.le_of_eq HA.out.symm) f (.bool true)
                      have H1 := Lib.hid h1; clear h1
                      have H2 := Lib.hid h2; clear h2
                      have H4 := Lib.hid h4; clear h4
                      have H5 := Lib.hid h5; clear h5
                      clear hf hfl htk hrc ht2 hC2 hnd hA5 hbq hb3
                      go_wp2
                      go_roundw
                      case rel => exact ⟨c + 1, _, by omega, by go_num, H2.out, H4.out, H1.out, H5.out⟩
                      case measure => simp [vInt]; omega
                    · have h3' : ((c : Int) < bl.length) = False := eq_false (by omega)
                      have hal := HALL.out
                      rw [List.take_of_length_le (by omega)] at hal
                      have hns := HSK2.out nd' hnd hal
                      have HNS := Lib.hid hns; clear hns hnd hal
                      go_wp2
                      go_roundw
                      case rel => exact ⟨k + 1, nd', by omega, by go_num, HNS.out, hA5, hbq⟩
                      case measure => simp [vInt]; omega
                · have hyr1 : (y != (r : Int)) = true := by simpa using hyr
                  have hns := HSK.out (fun _ h => hyr (by rw [HY.out, h]; rfl))
                  have HNS := Lib.hid hns; clear hns hnd
                  have hyr2 : (y = (r : Int)) = False := eq_false hyr
                  clear hyr
                  go_wp2
                  go_roundw
                  case rel => exact ⟨k + 1, nd, by omega, by go_num, HNS.out, HA5.out, HBQ.out⟩
                  case measure => simp [vInt]; omega
            · have hkF : ((k : Int) ≤ F) = False := eq_false (by have := HN.out; omega)
              have hkF1 : k = F + 1 := by have := HN.out; omega
              rw [hkF1] at hnd
              obtain ⟨r1, hr1⟩ : ∃ r1, r1 = r - 1 := ⟨_, rfl⟩
              have er : (r : Int) - 1 = (r1 : Int) := by omega
              have hr1R : r1 ≤ R := by omega
              have hr1r : r1 < r := by omega
              rw [show r = r1 + 1 by omega] at hnd
              have hdn := hnd.down (HNDR.out _ _ _ hnd)
              have HDN := Lib.hid hdn; clear hdn hnd hr1 hkF1
              go_wp2
              go_roundw
              case rel => exact ⟨r1, nd, hr1R, rfl, HDN.out, hA5, hbq⟩
              case measure => simp [vInt]; omega
        · obtain rfl : r = 0 := by omega
          have hr0' : ((0 : Int) < 0) = False := eq_false (by omega)
          have hdn := fun f => HND.out.done HRI.out f
          have HDN := Lib.hid (HYES.out R nd HRO.out hdn)
          have hnone : ∀ k r', nd (slF F k) = true → rk (slF F k) = some (r' + 1) → ∃ v, rs (slF F k) = some v := fun k r' _ h => HRI.out.c _ _ h
          have HNONE := Lib.hid hnone; clear hnone
          clear hdn HND
          have csr : ∀ U, Below w4.heap.size w4 U → U.cell? ⟨G, sl, none⟩ = some (.int .i64 R) := fun U hU => by
            have h1 := (HRX.out U hU).a.cell (rm_get (i := sl) (by have := HSL.out; omega))
            rw [h1]; unfold rkC; rw [HSL.out.2, HRO.out]; rfl
          have HCS := Lib.hid csr; clear csr
          have hA6 : ∀ U, Below wr.heap.size wr U → Blk U A (rm (F + 1) (ndC F nd)) 4 := fun U hU => HA5.out.below hU HA5.out.lt
          have HA6 := Lib.hid hA6; clear hA6
          have HBP := HBQ
          clear HBQ HA5
          obtain ⟨wp, hwp⟩ : ∃ wp : World, wp = wr := ⟨_, rfl⟩
          subst hwp
          go_wp2
          clear c0 c1 c2
          go_loopw [17, 18] (fun v17 vr wq => ∃ r : Nat, r ≤ R ∧ vr = .int .i64 (r + 1 : Nat) ∧ wq.ownsRow wp.heap.size 3 1 v17 (oK F nd rk rs r 0).length ((oK F nd rk rs r 0).map (.int .i64)) ∧ Below wp.heap.size wp wq) (fun _ vr _ => R + 2 - (vInt vr).toNat)
          case atStart => exact ⟨0, by omega, rfl, by rw [oK_zero]; exact World.ownsRow_nil _ _ _ _, Below.refl _ _⟩
          case round =>
            obtain ⟨r, hr, rfl, how, hbq⟩ := hrel
            obtain ⟨sv, cv, rfl, _⟩ := own_slice how
            have hb4 : Below w4.heap.size w4 wr := HBP.out.trans (hbq.mono HBP.out.size)
            have cs0 := HCS.out wr hb4
            obtain ⟨q, hq⟩ : ∃ q, q = r + 1 := ⟨_, rfl⟩
            have hq66 : q ≤ 67 := by omega
            have HQ := Lib.hid hq
            rw [← hq]
            by_cases hrR : r < R
            · have hqR : (q : Int) ≤ R := by omega
              have HOW := Lib.hid how; clear how
              have HBQ := Lib.hid hbq; clear hbq hb4 hq
              go_wp2
              clear cs0
              go_loopw [17, 19] (fun v17 vk wq => ∃ k : Nat, k ≤ N ∧ vk = .int .i64 k ∧ wq.ownsRow wp.heap.size 3 1 v17 (oK F nd rk rs r k).length ((oK F nd rk rs r k).map (.int .i64)) ∧ Below wp.heap.size wp wq) (fun _ vk _ => N + 1 - (vInt vk).toNat)
              case atStart => exact ⟨0, by omega, rfl, HOW.out, HBQ.out⟩
              case round =>
                clear HOW HBQ
                obtain ⟨k, hk, rfl, how, hbq⟩ := hrel
                obtain ⟨sv, cv, rfl, _⟩ := own_slice how
                have hb4 : Below w4.heap.size w4 wr := HBP.out.trans (hbq.mono HBP.out.size)
                have HRW := Lib.hid (HRX.out wr hb4)
                obtain ⟨c0, c1, c2⟩ := HBOX.out.cell wr (HB4.out.trans (hb4.mono HB4.out.size))
                rw [HF.out] at c0
                have hA7 := HA6.out wr hbq
                by_cases hkN : k < N
                · have hkN' : (k : Int) < N := by omega
                  have hkF : (k : Int) ≤ F := by have := HN.out; omega
                  have hkF1 : k < F + 1 := by have := HN.out; omega
                  have cn : wr.cell? ⟨A, k, none⟩ = some (.bool (nd (slF F k))) := hA7.cell (rm_get hkF1)
                  have cr0 : wr.cell? ⟨G, k, none⟩ = some (.int .i64 (opI (rk (slF F k)))) := HRW.out.a.cell (rm_get hkF1)
                  have hlen := oK_len F (by omega) nd rk rs r k (by omega)
                  have hyes : ∀ v, nd (slF F k) = true → rk (slF F k) = some (r + 1) → rs (slF F k) = some v → oK F nd rk rs r (k + 1) = oK F nd rk rs r k ++ [(v : Int)] := fun v h1 h2 h3 => oK_yes h1 h2 h3
                  have hno : (nd (slF F k) && (rk (slF F k) == some (r + 1))) = false → oK F nd rk rs r (k + 1) = oK F nd rk rs r k := oK_no
                  obtain ⟨T, hT⟩ : ∃ T, T = oK F nd rk rs r k := ⟨_, rfl⟩
                  rw [← hT] at how hlen hyes hno ⊢
                  obtain ⟨x, hx⟩ : ∃ x, x = nd (slF F k) := ⟨_, rfl⟩
                  obtain ⟨y, hy⟩ : ∃ y, y = opI (rk (slF F k)) := ⟨_, rfl⟩
                  rw [← hx] at cn
                  rw [← hy] at cr0
                  have hTl : T.length ≤ 4355 := by omega
                  have HX := Lib.hid hx; clear hx
                  have HY := Lib.hid hy; clear hy
                  have HYS := Lib.hid hyes; clear hyes
                  have HNS := Lib.hid hno; clear hno
                  have HOW := Lib.hid how; clear how
                  have HBQ := Lib.hid hbq; clear hbq hA7 hb4 hlen hT
                  cases hxx : x with
                  | false =>
                    rw [hxx] at cn HX
                    have e := HNS.out (by rw [← HX.out]; rfl)
                    have EE := Lib.hid e; clear e hxx
                    go_wp2
                    go_roundw
                    case rel => exact ⟨k + 1, by omega, by go_num, by rw [EE.out]; exact HOW.out, HBQ.out⟩
                    case measure => simp [vInt]; omega
                  | true =>
                    rw [hxx] at cn HX
                    clear hxx
                    by_cases hyr : y = q
                    · have hrkr : rk (slF F k) = some (r + 1) := by
                        have h1 := HY.out
                        rw [hyr] at h1
                        have h9 := HQ.out
                        cases h2 : rk (slF F k) with
                        | none => rw [h2] at h1; have h3 : (q : Int) = -1 := h1; omega
                        | some t => rw [h2] at h1; have h3 : (q : Int) = t := h1; congr 1; omega
                      obtain ⟨v, hv⟩ := HRI.out.c _ _ hrkr
                      have hvr := (HRI.out.a _ v hv).1
                      have crs : wr.cell? ⟨G + 1, k, none⟩ = some (.int .i64 v) := HRW.out.r.cell (by rw [rm_get hkF1]; unfold rkC; rw [hv]; rfl)
                      have e := HYS.out v HX.out.symm hrkr hv
                      have EE := Lib.hid e; clear e hrkr hv
                      rw [hyr] at cr0
                      clear hyr HY
                      have HOA := HOW.out.alloc (.cells #[.int .i64 (v : Int)] 3)
                      have hsz := HBQ.out.size
                      go_wp2_with (refine wpList_append_sl rfl _ _ 22 rfl wp.heap.size 3 (.int .i64 0) 1 8 hTint infoInt rfl (by decide) _ T.length _ rfl HOA _ 1 [.int .i64 (v : Int)] rfl (sl_new _ _ _ 1 rfl (by decide)) (by intro u hu; simp at hu; rw [hu]; rfl) (by unfold maxLen; omega) (by omega) (by simp; omega) ?_)
                      intro v' w8 g1 g2
                      have hb8 : Below wp.heap.size wp w8 := grown_below (HBQ.out.alloc hsz (.cells #[.int .i64 (v : Int)] 3)) HOA g2 (by simp; omega)
                      have HB8 := Lib.hid hb8; clear hb8
                      have HG1 := Lib.hid g1; clear g1 g2 HOA
                      go_wp2
                      refine ⟨⟨_, _, _, _, _, _, _, _, _, _, _, _, _, _, _, _, _, _, _, _, _, _, _, _, _, _, _, ?rel, rfl⟩, ?measure⟩
                      case rel => exact ⟨k + 1, by omega, (show Value.int .i64 ((k : Int) + 1) = _ by go_num), (show w8.ownsRow _ _ _ v' _ _ by rw [EE.out, List.length_append, List.map_append]; exact HG1.out), HB8.out⟩
                      case measure => simp [vInt]; omega
                    · have e := HNS.out (by
                        cases h2 : rk (slF F k) == some (r + 1) with
                        | false => rw [Bool.and_false]
                        | true =>
                          have h3 := HY.out
                          rw [beq_iff_eq.1 h2] at h3
                          exact absurd (show y = q by rw [h3, HQ.out]; rfl) hyr)
                      have EE := Lib.hid e; clear e
                      have hyr2 : (y == (q : Int)) = false := by simpa using hyr
                      have hyr3 : (y = (q : Int)) = False := eq_false hyr
                      clear hyr
                      go_wp2
                      go_roundw
                      case rel => exact ⟨k + 1, by omega, by go_num, by rw [EE.out]; exact HOW.out, HBQ.out⟩
                      case measure => simp [vInt]; omega
                · have hkF : ((k : Int) ≤ F) = False := eq_false (by have := HN.out; omega)
                  have hkF1 : k = F + 1 := by have := HN.out; omega
                  rw [hkF1, oK_next] at how
                  have HOW := Lib.hid how; clear how
                  have e1 : (oK F nd rk rs r k).length = (oK F nd rk rs (r + 1) 0).length := by rw [hkF1, oK_next]
                  have E1 := Lib.hid e1; clear e1
                  have hqR2 : q ≤ R := by have := HQ.out; omega
                  have HBQ := Lib.hid hbq; clear hbq hkF1 hA7
                  go_wp2
                  go_roundw
                  case rel => exact ⟨q, hqR2, by go_num, by rw [HQ.out, ← E1.out]; exact E1.out ▸ HOW.out, HBQ.out⟩
                  case measure => simp [vInt]; omega
            · have hqR : ((q : Int) ≤ R) = False := eq_false (by omega)
              have hrR2 : r = R := by omega
              rw [hrR2, oK_all] at how
              have hlen2 : (oK F nd rk rs r 0).length = ((outL F nd rk R).filterMap (rsI rs)).length := by rw [hrR2, oK_all]
              rw [hlen2]
              have hsl := Sl.of_owns how
              have hfb := HBOX.out.below (HB4.out.trans (hb4.mono HB4.out.size))
              have HSLL := Lib.hid hsl; clear hsl how hbq hb4
              have HFB := Lib.hid hfb; clear hfb hrR2 hlen2 hq
              obtain ⟨L, hL⟩ : ∃ L, L = (outL F nd rk R).filterMap (rsI rs) := ⟨_, rfl⟩
              rw [← hL] at HSLL HDN ⊢
              clear hL
              go_wp2
              refine bodyPost_ret (results_tmp2 rfl _ _ _) rfl ?_
              exact ⟨sv, cv, L, 0, rfl, HSLL.out, HDN.out, HFB.out⟩
end Go.Proofs.Ytcbmifaobdamhaa

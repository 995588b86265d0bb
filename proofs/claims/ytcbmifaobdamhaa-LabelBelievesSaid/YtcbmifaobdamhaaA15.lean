/- label: the reference's Follow. -/
import Derived.Test.YtcbmifaobdamhaaA13
import Derived.Test.YtcbmifaobdamhaaSqC
import Derived.Deep.LoopGhost
namespace Go.Label
open Go.RowKit Go.Own Go.Proofs.Ytcbmifaobdamhaa
/-- a cell that says whether a fact is known -/
def kb (K : Nat) (j : Nat) : Value := .bool (K.testBit j)
theorem giv_new {b : Lg} (ok : Ok b) (s : Nat) {k : Nat} (hk : k < b.assume.length) : (givN b s k).testBit (b.assume.getD k 0).toNat = false := by
  cases h : (givN b s k).testBit (b.assume.getD k 0).toNat with
  | false => rfl
  | true =>
    obtain ⟨j, hj, _, e⟩ := (giv_bit b s _ k).1 h
    have up : ∀ d, j + d < b.assume.length → 0 < d → b.assume.getD j 0 < b.assume.getD (j + d) 0 := fun d hd h0 => by
      induction d with
      | zero => omega
      | succ d ih =>
        have h1 := ok.up (j + d) (by omega)
        rw [getD_eq 0 (show j + (d + 1) < b.assume.length by omega)]
        by_cases e : d = 0
        · subst e
          rw [getD_eq 0 (show j < b.assume.length by omega)]
          exact h1
        · have h2 := ih (by omega) (by omega)
          rw [getD_eq 0 (show j + d < b.assume.length by omega)] at h2
          exact Int.lt_trans h2 h1
    have h3 := up (k - j) (by omega) (by omega)
    rw [show j + (k - j) = k by omega] at h3
    have h1 := ok.asm _ (getD_mem (l := b.assume) (i := j) (d := 0) (by omega))
    have h2 := ok.asm _ (getD_mem (l := b.assume) (i := k) (d := 0) hk)
    omega
theorem or_same {K n : Nat} (h : K.testBit n = true) : K ||| 2 ^ n = K := by
  apply Nat.eq_of_testBit_eq
  intro f
  rw [Bool.eq_iff_iff, or_bit]
  exact ⟨fun h1 => h1.elim id fun e => e ▸ h, fun h1 => .inl h1⟩
theorem or_more {K n : Nat} (h : K.testBit n = false) : K ||| 2 ^ n ≠ K := fun e => by
  have h1 := (or_bit K n n).2 (.inr rfl)
  rw [e, h] at h1
  cases h1
theorem kb_set {n K a : Nat} (v : Bool) (h : v = true ∨ K.testBit a = false) : (rm n (kb K)).set a (.bool v) = rm n (kb (if v then K ||| 2 ^ a else K)) := by
  rw [rm_set]
  refine rm_congr fun j _ => ?_
  unfold kb
  by_cases e : j = a
  · subst e
    rw [if_pos rfl]
    cases v with
    | true => rw [if_pos rfl, (or_bit K j j).2 (.inr rfl)]
    | false =>
      rw [if_neg Bool.false_ne_true]
      rcases h with h | h
      · cases h
      · rw [h]
  · rw [if_neg e]
    cases v with
    | true =>
      rw [if_pos rfl]
      congr 1
      rw [Bool.eq_iff_iff, or_bit]
      exact ⟨.inl, fun h => h.elim id fun h => absurd h e⟩
    | false => rw [if_neg Bool.false_ne_true]
end Go.Label
namespace Go.Proofs.Ytcbmifaobdamhaa
open Go.RowKit Go.Own Go.Theory Go.BigFrame Go.Ib Go.Label Go.Shelf
set_option maxRecDepth 100000 in
theorem holds_any (bl : List Int) (K N : Nat) (sb : Option Addr) (cb G cn : Nat) (w : World) (hl : Sz w (.slice sb bl.length cb) bl.length (bl.map (.int .i64))) (hll : bl.length ≤ 1000) (hG : Blk w G (rm N (kb K)) 4) (hr : ∀ f ∈ bl, 0 ≤ f ∧ f < (N : Int)) :
    Calls Try.prog 61 #[.slice sb bl.length cb, .slice (some ⟨G, 0, none⟩) N cn] w fun e w' => e = .returned (.bool (bdy bl K)) ∧ w' = w := by
  have HG := Lib.hid hG; clear hG
  have HL := Lib.hid hl; clear hl
  have HR := Lib.hid hr; clear hr
  go_enter Try.func61, Try.ntmps61
  go_wp2
  go_loopw [5] (fun vi wq => ∃ i : Nat, i ≤ bl.length ∧ vi = .int .i64 i ∧ (∀ j (hj : j < bl.length), j < i → K.testBit bl[j].toNat = true) ∧ wq = w) (fun vi _ => bl.length - (vInt vi).toNat)
  case atStart => exact ⟨0, by omega, rfl, fun j _ h => absurd h (by omega), rfl⟩
  case round =>
    obtain ⟨i, hi, rfl, ha, rfl⟩ := hrel
    have HA := Lib.hid ha; clear ha
    by_cases h1 : i < bl.length
    · have h1' : (i : Int) < bl.length := by omega
      obtain ⟨g, o, rfl, _, _, hC, hlt⟩ := sl_at (HL.out (by omega)) (by omega)
      have hx := HR.out _ (List.getElem_mem h1)
      obtain ⟨f, hf⟩ : ∃ f : Nat, bl[i] = f := ⟨bl[i].toNat, by omega⟩
      have cx : wr.cell? ⟨g, o + i, none⟩ = some (.int .i64 f) := hC i _ (by simp [h1, hf])
      have hfN : f < N := by omega
      have hfN' : (f : Int) < N := by omega
      have ck : wr.cell? ⟨G, f, none⟩ = some (.bool (K.testBit f)) := HG.out.cell (by rw [rm_get hfN]; rfl)
      have HF := Lib.hid hf; clear hf hx hC
      cases htb : K.testBit f with
      | true =>
        rw [htb] at ck
        have HT := Lib.hid htb; clear htb
        go_wp2
        go_roundw
        case rel =>
          refine ⟨i + 1, by omega, by go_num, fun j hj hji => ?_, trivial⟩
          by_cases e : j = i
          · subst e; rw [HF.out]; exact HT.out
          · exact HA.out j hj (by omega)
        case measure => simp [vInt]; omega
      | false =>
        rw [htb] at ck
        have hb : bdy bl K = false := by
          cases hq : bdy bl K with
          | false => rfl
          | true =>
            unfold bdy at hq
            have := List.all_eq_true.1 hq _ (List.getElem_mem h1)
            rw [HF.out, Int.toNat_natCast, htb] at this
            cases this
        have HB := Lib.hid hb; clear hb htb
        go_wp2
        go_ret
        exact ⟨by rw [HB.out]; rfl, rfl⟩
    · have h1' : (bl.length : Int) ≤ i := by omega
      have hb : bdy bl K = true := by
        unfold bdy
        rw [List.all_eq_true]
        intro x hx
        obtain ⟨j, hj, rfl⟩ := List.getElem_of_mem hx
        exact HA.out j hj (by omega)
      have HB := Lib.hid hb; clear hb
      go_wp2
      go_ret
      exact ⟨by rw [HB.out]; rfl, rfl⟩
attribute [local irreducible] SqC.SqW
set_option maxRecDepth 100000 in
set_option maxHeartbeats 4000000 in
theorem rfollow_any (b : Lg) (m : Nat) (F : Nat) (sa sr : Option Addr) (ca cr : Nat) (bs : List Value) (ok : Ok b) (hF : b.facts = F) (hm : m < 65536) (w : World) (h : LgAt w b sa sr ca cr bs) :
    Calls Try.prog 38 #[lgV b sa sr ca cr, .int .i64 m] w fun e w' => ∃ G, w.heap.size ≤ G ∧ e = .returned (.tuple #[.slice (some ⟨G, 0, none⟩) F F, .bool (badS b m)]) ∧ Blk w' G (rm F (kb (fol b m))) 4 ∧ Below w.heap.size w w' := by
  unfold lgV
  have hbox := box_new w b sa sr ca cr 25
  obtain ⟨W1, hW1⟩ : ∃ W1, W1 = w.alloc (.cells #[.int .i64 b.facts, .slice sa b.assume.length ca, .slice sr b.rules.length cr] 25) := ⟨_, rfl⟩
  rw [← hW1] at hbox
  have hH := h.below hbox.b1
  have HBOX := Lib.hid hbox
  have z0 := hbox.z1
  have zs := hbox.sz
  clear hbox h
  have HH := Lib.hid hH; clear hH
  have HOK := Lib.hid ok
  have hf64 := ok.f64
  have a16 := ok.a16
  have r64 := ok.r64
  clear ok
  rw [hF] at hW1 hf64 ⊢
  have HF := Lib.hid hF; clear hF
  have HW1 := Lib.hid hW1; clear hW1
  have hmk := mk_bools F (by omega)
  obtain ⟨W2, hW2⟩ : ∃ W2, W2 = W1.alloc (.cells (Array.replicate F (.bool false)) 4) := ⟨_, rfl⟩
  have b2 : Below W1.heap.size W1 W2 := by rw [hW2]; exact alloc_below _ _
  have hg : Blk W2 (w.heap.size + 1) (rm F (kb (givN b m 0))) 4 := by
    rw [hW2, ← zs]
    have := blk_make W1 F (.bool false) 4
    rw [rm_rep] at this
    rw [show kb (givN b m 0) = fun _ => Value.bool false from funext fun j => by unfold kb givN; rw [Nat.zero_testBit]]
    exact this
  have HB2 := Lib.hid b2; clear b2
  have HG := Lib.hid hg; clear hg
  have HW2 := Lib.hid hW2; clear hW2
  obtain ⟨Bd, hBd⟩ : ∃ Bd, Bd = badS b m := ⟨_, rfl⟩
  rw [← hBd]
  have HBd := Lib.hid hBd; clear hBd
  go_enter Try.func38, Try.ntmps38
  go_wp2
  rw [← HW1.out, ← HW2.out]
  clear hmk
  go_loopw [7] (fun vi wq => ∃ k : Nat, k ≤ b.assume.length ∧ vi = .int .i64 k ∧ Blk wq (w.heap.size + 1) (rm F (kb (givN b m k))) 4 ∧ Below W1.heap.size W1 wq) (fun vi _ => b.assume.length - (vInt vi).toNat)
  case atStart => exact ⟨0, by omega, rfl, HG.out, HB2.out⟩
  case round =>
    clear HG HB2 HW2
    obtain ⟨k, hk, rfl, hg, hbq⟩ := hrel
    obtain ⟨c0, c1, c2⟩ := HBOX.out.cell wr hbq
    have HG := Lib.hid hg; clear hg
    have HBQ := Lib.hid hbq; clear hbq
    by_cases h1 : k < b.assume.length
    · have h1' : (k : Int) < b.assume.length := by omega
      obtain ⟨g, o, rfl, _, _, hC, hlt⟩ := sl_at (HH.out.asm (by omega)) (by omega)
      have har := HOK.out.asm _ (List.getElem_mem h1)
      obtain ⟨f, hf⟩ : ∃ f : Nat, b.assume[k] = f := ⟨b.assume[k].toNat, by omega⟩
      rw [hf, HF.out] at har
      have hfF : f < F := by omega
      have ck : wr.cell? ⟨g, o + k, none⟩ = some (.int .i64 f) := (hC.below HBQ.out hlt) k _ (by simp [h1, hf])
      have hnew := giv_new HOK.out m h1
      rw [getD_eq 0 h1, hf, Int.toNat_natCast] at hnew
      have hnext : givN b m (k + 1) = if m.testBit k then givN b m k ||| 2 ^ f else givN b m k := by
        conv => lhs; unfold givN
        rw [getD_eq 0 h1, hf]; rfl
      have HN := Lib.hid hnew; clear hnew
      have HX := Lib.hid hnext; clear hnext hf hC har
      have hf64' : (f : Int) < F := by omega
      obtain ⟨n, hn⟩ : ∃ n, n = b.assume.length := ⟨_, rfl⟩
      have HNN := Lib.hid hn
      rw [← hn] at c1 h1 h1'
      clear hn
      go_wp2
      have hext : (fun W : World => W.cell? ⟨w.heap.size, 1, none⟩ = some (.slice (some ⟨g, o, none⟩) n ca) ∧ W.cell? ⟨g, o + k, none⟩ = some (.int .i64 f)) wr.drew := ⟨c1, ck⟩
      haveI : Nonempty (SqC.Come fun W : World => W.cell? ⟨w.heap.size, 1, none⟩ = some (.slice (some ⟨g, o, none⟩) n ca) ∧ W.cell? ⟨g, o + k, none⟩ = some (.int .i64 f)) := ⟨⟨_, hext⟩⟩
      refine SqC.wp_region_sqc 11 [8, 10] (fun W : World => W.cell? ⟨w.heap.size, 1, none⟩ = some (.slice (some ⟨g, o, none⟩) n ca) ∧ W.cell? ⟨g, o + k, none⟩ = some (.int .i64 f)) (by kernel_rfl) (by kernel_rfl) (by kernel_rfl) hext ?_
      obtain ⟨wd, hwd⟩ : ∃ wd : World, wd = wr.drew := ⟨_, rfl⟩
      have hbd : Below W1.heap.size W1 wd := by rw [hwd]; exact HBQ.out.drew
      have hgd : Blk wd (w.heap.size + 1) (rm F (kb (givN b m k))) 4 := by rw [hwd]; exact HG.out.drew
      rw [← hwd] at hext ⊢
      clear hwd c0 c1 c2 ck
      have HBD := Lib.hid hbd; clear hbd
      have HGD := Lib.hid hgd; clear hgd
      iterate 2 (refine SqC.quiet rfl rfl ?_; go_big_quiet_step (fail); refine wpQuiet_nil ?_)
      refine SqC.value (.slice (some ⟨g, o, none⟩) n ca) rfl rfl (by intro W hW; have cx := hW.1; go_simp) ?_
      simp only [Act.put, List.setIfInBounds_toArray, List.set_cons_zero, List.set_cons_succ]
      iterate 2 (refine SqC.quiet rfl rfl ?_; go_big_quiet_step (fail); refine wpQuiet_nil ?_)
      refine SqC.value (.int .i64 f) rfl rfl (by intro W hW; have cx := hW.2; go_simp) ?_
      simp only [Act.put, List.setIfInBounds_toArray, List.set_cons_zero, List.set_cons_succ]
      iterate 2 (refine SqC.quiet rfl rfl ?_; go_big_quiet_step (fail); refine wpQuiet_nil ?_)
      refine SqC.effect rfl rfl ?_
      refine yields_call rfl (by kernel_rfl) rfl rfl ((has_any m k (by omega) (by omega) wd).mono ?_)
      rintro e w5 ⟨rfl, rfl⟩
      refine ⟨_, rfl, fun _ => hext, ?_⟩
      simp only [Act.put, List.setIfInBounds_toArray, List.set_cons_zero, List.set_cons_succ]
      refine SqC.quiet rfl rfl ?_; go_big_quiet_step (fail); refine wpQuiet_nil ?_
      have hfr : w5.frozen? ⟨w.heap.size + 1, f, none⟩ = false := HGD.out.frozen f
      have cq : w5.cell? ⟨w.heap.size + 1, f, none⟩ = some (.bool ((givN b m k).testBit f)) := HGD.out.cell (by rw [rm_get hfF]; rfl)
      have hset := HGD.out.set f (.bool (m.testBit k))
      rw [kb_set (m.testBit k) (.inr HN.out), ← HX.out] at hset
      have hbs := below_set HBD.out (Nat.le_refl _) (show W1.heap.size ≤ w.heap.size + 1 by omega) f (.bool (m.testBit k))
      have HSET := Lib.hid hset; clear hset
      have HBS := Lib.hid hbs; clear hbs
      obtain ⟨tb, htb⟩ : ∃ tb, tb = m.testBit k := ⟨_, rfl⟩
      rw [← htb] at HSET HBS ⊢
      have HTB := Lib.hid htb; clear htb
      refine SqC.effectW rfl rfl ?_
      go_wp2
      refine SqC.here rfl (by intro h; first | exact h.elim | exact absurd rfl h) (SqC.nil ?_)
      go_wp2
      go_roundw
      case rel => exact ⟨k + 1, by have := HNN.out; omega, by go_num, HSET.out, HBS.out⟩
      case measure => simp [vInt]; have := HNN.out; omega
    · have h1' : (b.assume.length : Int) ≤ k := by omega
      obtain rfl : k = b.assume.length := by omega
      have hlt0 := givN_lt HOK.out m b.assume.length (Nat.le_refl _)
      go_wp2
      clear c0 c1 c2
      go_loopg [8, 9] 18446744073709551617 (fun gg v8 v9 wq => ∃ (K : Nat) (bad more : Bool), v8 = .bool bad ∧ v9 = .bool more ∧ Blk wq (w.heap.size + 1) (rm F (kb K)) 4 ∧ K < 18446744073709551616 ∧ Snd b m K ∧ (∀ f, (giv b m).testBit f = true → K.testBit f = true) ∧ (bad = true → badS b m = true) ∧ (more = false → rnd b K = K ∧ (badK b K = true → bad = true)) ∧ (more = true → 18446744073709551616 - K < gg) ∧ Below W1.heap.size W1 wq)
      case atStart => exact ⟨giv b m, false, true, rfl, rfl, HG.out, hlt0, giv_snd b m, fun _ h => h, (fun h => absurd h Bool.false_ne_true), (fun h => absurd h.symm Bool.false_ne_true), (fun _ => by omega), HBQ.out⟩
      case round =>
        clear HG HBQ hlt0
        obtain ⟨K, bad, more, rfl, rfl, hg, hK, hs, hgv, hb, ho, hm2, hbq⟩ := hrel
        have HG := Lib.hid hg; clear hg
        have HS := Lib.hid hs; clear hs
        have HGV := Lib.hid hgv; clear hgv
        have HB := Lib.hid hb; clear hb
        have HO := Lib.hid ho; clear ho
        have HM2 := Lib.hid hm2; clear hm2
        have HBQ := Lib.hid hbq
        obtain ⟨c0, c1, c2⟩ := HBOX.out.cell wr hbq
        clear hbq
        cases more with
        | false =>
          have e1 : K = fol b m := fol_eq HOK.out HS.out HGV.out (HO.out rfl).1
          have e2 : bad = Bd := by
            rw [HBd.out, Bool.eq_iff_iff]
            exact ⟨HB.out, fun h => (HO.out rfl).2 (by unfold badS at h; rw [← e1] at h; exact h)⟩
          rw [e2]
          have E1 := Lib.hid e1
          clear e1 e2
          go_wp2
          refine bodyPost_ret (results_tmp2 rfl _ _ _) rfl ?_
          exact ⟨w.heap.size + 1, by omega, rfl, by rw [← E1.out]; exact HG.out, HBOX.out.below HBQ.out⟩
        | true =>
          obtain ⟨n, hn⟩ : ∃ n, n = b.rules.length := ⟨_, rfl⟩
          have HN := Lib.hid hn
          rw [← hn] at r64
          rw [← hn] at c2
          clear hn
          have hgk := HM2.out rfl
          have HGK := Lib.hid hgk; clear hgk
          go_wp2
          go_loopw [8, 9, 10] (fun v8 v9 vi wq => ∃ (i : Nat) (bad more : Bool), i ≤ n ∧ vi = .int .i64 i ∧ v8 = .bool bad ∧ v9 = .bool more ∧ Blk wq (w.heap.size + 1) (rm F (kb (rndN b K i))) 4 ∧ (bad = true → badS b m = true) ∧ (more = true → rndN b K i ≠ K) ∧ (more = false → rndN b K i = K) ∧ (rndN b K i = K → ∀ j (hj : j < b.rules.length), j < i → bdy b.rules[j].body K = true → b.rules[j].head < 0 → bad = true) ∧ Below W1.heap.size W1 wq)
            (fun _ _ vi _ => n - (vInt vi).toNat)
          case atStart => exact ⟨0, bad, false, by omega, rfl, rfl, rfl, HG.out, HB.out, (fun h => absurd h Bool.false_ne_true), (fun _ => rfl), (fun _ j hj h => absurd h (by omega)), HBQ.out⟩
          case round =>
            clear HG HB HBQ HO HM2
            obtain ⟨i, bad, more, hi, rfl, rfl, rfl, hg, hb, hmt, hmf, hc, hbq⟩ := hrel
            obtain ⟨c0, c1, c2⟩ := HBOX.out.cell wr hbq
            rw [← HN.out] at c2
            have HG := Lib.hid hg; clear hg
            have HB := Lib.hid hb; clear hb
            have HMT := Lib.hid hmt; clear hmt
            have HMF := Lib.hid hmf; clear hmf
            have HC := Lib.hid hc; clear hc
            have HBQ := Lib.hid hbq; clear hbq
            by_cases h1 : i < n
            · have h1' : (i : Int) < n := by omega
              have h1n : i < b.rules.length := by have := HN.out; omega
              obtain ⟨g, o, sb, cb, rfl, hc, hbd⟩ := HH.out.rule h1n
              obtain ⟨k0, k1⟩ := hc wr HBQ.out
              have hbdw := hbd.below (Below.mono HBQ.out (Nat.le_refl _))
              clear hbd hc
              have hbr : ∀ f ∈ b.rules[i].body, 0 ≤ f ∧ f < (F : Int) := fun f hf => by
                have h := HOK.out.body _ (List.getElem_mem h1n) f hf
                rwa [HF.out] at h
              have hbl := HOK.out.long _ (List.getElem_mem h1n)
              have hhr := HOK.out.head _ (List.getElem_mem h1n)
              rw [HF.out] at hhr
              have hKi := rndN_lt HOK.out hK i (by omega)
              have hKs := rndN_snd HS.out i (by omega)
              have hstp : rndN b K (i + 1) = stp b.rules[i] (rndN b K i) := by
                conv => lhs; unfold rndN
                rw [getD_eq rl0 h1n]
              have hdown : rndN b K (i + 1) = K → rndN b K i = K := fix_down
              obtain ⟨Ki, hKe⟩ : ∃ Ki, Ki = rndN b K i := ⟨_, rfl⟩
              have hgw := HG.out
              rw [← hKe] at hKi hKs hstp hdown hgw
              have hho := holds_any b.rules[i].body Ki F sb cb (w.heap.size + 1) F wr hbdw (by omega) hgw hbr
              obtain ⟨hd, hhd⟩ : ∃ hd, hd = b.rules[i].head := ⟨_, rfl⟩
              obtain ⟨bl, hbe⟩ : ∃ bl, bl = b.rules[i].body := ⟨_, rfl⟩
              rw [← hhd] at k0 hhr
              rw [← hbe] at k1 hho
              have HHD := Lib.hid hhd; clear hhd
              have HBE := Lib.hid hbe; clear hbe
              have HKe := Lib.hid hKe; clear hKe
              have HST := Lib.hid hstp; clear hstp
              have HKS := Lib.hid hKs; clear hKs
              have HDN := Lib.hid hdown; clear hdown
              have HHO := Lib.hid hho; clear hho
              have HGW := Lib.hid hgw; clear hgw hbdw hbr hbl
              go_wp2_with (fail)
              refine HHO.out.mono ?_
              clear HHO
              rintro e w5 ⟨rfl, h5⟩
              have h6 := h5.symm
              clear h5
              subst h6
              cases hbt : bdy bl Ki with
              | false =>
                have hbf : ¬ bdy b.rules[i].body Ki = true := by rw [← HBE.out, hbt]; exact Bool.false_ne_true
                have HBF := Lib.hid hbf; clear hbf hbt
                have e : rndN b K (i + 1) = Ki := by
                  rw [HST.out]; unfold stp; rw [if_neg]; intro h; rw [Bool.and_eq_true] at h; exact HBF.out h.1
                have EE := Lib.hid e; clear e
                go_wp2
                go_roundw
                case rel =>
                  refine ⟨i + 1, bad, more, by omega, by go_num, rfl, rfl, by rw [EE.out]; exact HGW.out, HB.out, (fun h => by rw [EE.out, HKe.out]; exact HMT.out h), (fun h => by rw [EE.out, HKe.out]; exact HMF.out h), (fun h j hj hji hbj hhj => ?_), HBQ.out⟩
                  by_cases ej : j = i
                  · subst ej
                    have := HDN.out h
                    rw [this] at HBF
                    exact absurd hbj HBF.out
                  · exact HC.out (by rw [← HKe.out]; exact HDN.out h) j hj (by omega) hbj hhj
                case measure => simp [vInt]; omega
              | true =>
                have hbt' : bdy b.rules[i].body Ki = true := by rw [← HBE.out]; exact hbt
                have HBT := Lib.hid hbt'; clear hbt' hbt
                by_cases hh : hd < 0
                · have e : rndN b K (i + 1) = Ki := by
                    rw [HST.out]; unfold stp; rw [← HHD.out, decide_eq_false (by omega), Bool.and_false]; rfl
                  have EE := Lib.hid e; clear e
                  go_wp2
                  go_roundw
                  case rel =>
                    refine ⟨i + 1, true, more, by omega, by go_num, rfl, rfl, by rw [EE.out]; exact HGW.out, (fun _ => bad_snd HOK.out HKS.out h1n HBT.out (by rw [← HHD.out]; exact hh)), (fun h => by rw [EE.out, HKe.out]; exact HMT.out h), (fun h => by rw [EE.out, HKe.out]; exact HMF.out h), (fun _ _ _ _ _ _ => rfl), HBQ.out⟩
                  case measure => simp [vInt]; omega
                · obtain ⟨q, rfl⟩ : ∃ q : Nat, hd = q := ⟨hd.toNat, by omega⟩
                  have hqF : q < F := by omega
                  have hqF' : (q : Int) < F := by omega
                  have hneg : ((q : Int) < 0) = False := eq_false (by omega)
                  have e : rndN b K (i + 1) = Ki ||| 2 ^ q := by
                    rw [HST.out]; unfold stp; rw [← HHD.out, decide_eq_true (by omega), HBT.out]; rfl
                  have hle := rndN_le b K 0 i (by omega)
                  rw [show rndN b K 0 = K from rfl, ← HKe.out] at hle
                  have ck : wr.cell? ⟨w.heap.size + 1, q, none⟩ = some (.bool (Ki.testBit q)) := HGW.out.cell (by rw [rm_get hqF]; rfl)
                  have cf : wr.frozen? ⟨w.heap.size + 1, q, none⟩ = false := HGW.out.frozen q
                  cases htb : Ki.testBit q with
                  | true =>
                    rw [htb] at ck
                    rw [or_same htb] at e
                    have EE := Lib.hid e; clear e htb
                    go_wp2
                    go_roundw
                    case rel =>
                      refine ⟨i + 1, bad, more, by omega, by go_num, rfl, rfl, by rw [EE.out]; exact HGW.out, HB.out, (fun h => by rw [EE.out, HKe.out]; exact HMT.out h), (fun h => by rw [EE.out, HKe.out]; exact HMF.out h), (fun h j hj hji hbj hhj => ?_), HBQ.out⟩
                      by_cases ej : j = i
                      · subst ej; rw [← HHD.out] at hhj; omega
                      · exact HC.out (by rw [← HKe.out]; exact HDN.out h) j hj (by omega) hbj hhj
                    case measure => simp [vInt]; omega
                  | false =>
                    rw [htb] at ck
                    have hne := or_more htb
                    have hle2 := le_or Ki (2 ^ q)
                    have hset := HGW.out.set q (.bool true)
                    rw [kb_set true (.inl rfl), if_pos rfl, ← e] at hset
                    have hbs := below_set HBQ.out (Nat.le_refl _) (show W1.heap.size ≤ w.heap.size + 1 by omega) q (.bool true)
                    rw [← e] at hne hle2
                    have hneK : rndN b K (i + 1) ≠ K := by omega
                    have HSET := Lib.hid hset; clear hset
                    have HBS := Lib.hid hbs; clear hbs
                    have HNK := Lib.hid hneK; clear hneK hne hle2 hle htb e
                    go_wp2
                    go_roundw
                    case rel => exact ⟨i + 1, bad, true, by omega, by go_num, rfl, rfl, HSET.out, HB.out, (fun _ => HNK.out), (fun h => absurd h.symm Bool.false_ne_true), (fun h => absurd h HNK.out), HBS.out⟩
                    case measure => simp [vInt]; omega
            · have h1' : (n : Int) ≤ i := by omega
              obtain rfl : i = n := by omega
              have er : rndN b K i = rnd b K := by unfold rnd; rw [← HN.out]
              have hKr := rndN_lt HOK.out hK i (by have := HN.out; omega)
              have hsr := rndN_snd HS.out i (by have := HN.out; omega)
              have hle := rndN_le b K 0 i (by omega)
              rw [show rndN b K 0 = K from rfl] at hle
              have HER := Lib.hid er; clear er
              have HSR := Lib.hid hsr; clear hsr
              have HLE := Lib.hid hle; clear hle
              have HKR := Lib.hid hKr; clear hKr
              go_wp2
              go_roundg (18446744073709551616 - K)
              case measure => exact HGK.out
              case rel =>
                refine ⟨rndN b K i, bad, more, rfl, rfl, HG.out, HKR.out, HSR.out, (fun f h => rndN_bits (HGV.out f h) i), HB.out, (fun h => ?_), (fun h => ?_), HBQ.out⟩
                · have h' := HMF.out h
                  rw [h']
                  refine ⟨by rw [← HER.out]; exact h', fun hb => ?_⟩
                  unfold badK at hb
                  obtain ⟨r, hr, hb2⟩ := List.any_eq_true.1 hb
                  obtain ⟨j, hj, rfl⟩ := List.getElem_of_mem hr
                  rw [Bool.and_eq_true, decide_eq_true_eq] at hb2
                  exact HC.out h' j hj (by have := HN.out; omega) hb2.1 hb2.2
                · have h' := HMT.out h
                  have := HLE.out
                  have := HKR.out
                  omega
end Go.Proofs.Ytcbmifaobdamhaa
/- label: the reference's Follows. -/
namespace Go.Proofs.Ytcbmifaobdamhaa
open Go.RowKit Go.Own Go.Theory Go.BigFrame Go.Ib Go.Label Go.Shelf
theorem kb_sl {w : World} {G F K : Nat} {t : TypeId} (h : Blk w G (rm F (kb K)) t) (hF : F ≤ 1000000) : Sl w 1 (.slice (some ⟨G, 0, none⟩) F F) F (((List.range F).map fun f => K.testBit f).map .bool) := by
  rw [List.map_map]
  exact ⟨by simp, .inr ⟨G, 0, _, rfl, Nat.le_refl _, by unfold maxLen; omega, h.cells0, h.lt⟩⟩
set_option maxRecDepth 100000 in
set_option maxHeartbeats 4000000 in
theorem rfollows_any (b : Lg) (s : Int) (sa sr : Option Addr) (ca cr : Nat) (bs : List Value) (hrg : LgRg b) (w : World) (h : LgAt w b sa sr ca cr bs) :
    Calls Try.prog 11 #[lgV b sa sr ca cr, .int .i64 s] w fun e w' => ∃ so co, e = .returned (.tuple #[.slice so (folsL b s).length co, .bool (folsB b s)]) ∧ Sl w' 1 (.slice so (folsL b s).length co) (folsL b s).length ((folsL b s).map .bool) ∧ Below w.heap.size w w' := by
  have hlgV : lgV b sa sr ca cr = .agg #[.int .i64 b.facts, .slice sa b.assume.length ca, .slice sr b.rules.length cr] := rfl
  have hbox := box_new w b sa sr ca cr 25
  obtain ⟨W1, hW1⟩ : ∃ W1, W1 = w.alloc (.cells #[.int .i64 b.facts, .slice sa b.assume.length ca, .slice sr b.rules.length cr] 25) := ⟨_, rfl⟩
  rw [← hW1] at hbox
  have hH := h.below hbox.b1
  have hv := rvalid_any b sa sr ca cr bs hrg W1 hH
  rw [hlgV] at hv ⊢
  have HBOX := Lib.hid hbox; clear hbox
  have HH := Lib.hid hH; clear hH h
  have HW1 := Lib.hid hW1; clear hW1
  have HV := Lib.hid hv; clear hv hrg
  have HLV := Lib.hid hlgV; clear hlgV
  go_enter Try.func11, Try.ntmps11
  go_wp2_with (fail)
  rw [← HW1.out]
  refine HV.out.mono ?_
  rintro e w2 ⟨rfl, b2⟩
  by_cases hval : valE b = 0
  · have HOK := Lib.hid (valE_ok.1 hval)
    have HVAL := Lib.hid hval
    rw [hval]
    clear hval
    obtain ⟨c0, c1, c2⟩ := HBOX.out.cell w2 b2
    have HB2 := Lib.hid b2; clear b2
    have hpis := ris_any b s sa sr ca cr HOK.out.a16 w2
    rw [HLV.out] at hpis
    have HPIS := Lib.hid hpis; clear hpis
    go_wp2_with (fail)
    refine HPIS.out.mono ?_
    rintro e w3 ⟨rfl, b3⟩
    have b3' : Below W1.heap.size W1 w3 := HB2.out.trans (b3.mono HB2.out.size)
    have HB3 := Lib.hid b3'; clear b3 b3' c0 c1 c2
    cases his : isB b s with
    | false =>
      have e1 := folsL_bad (b := b) (s := s) (.inr his)
      have e2 := folsB_bad (b := b) (s := s) (.inr his)
      have E1 := Lib.hid e1
      have E2 := Lib.hid e2
      clear e1 e2 his
      go_wp2
      refine bodyPost_ret (results_tmp2 rfl _ _ _) rfl ?_
      rw [E1.out, E2.out]
      exact ⟨none, 0, rfl, Sl.none0 _, HBOX.out.below HB3.out⟩
    | true =>
      have hv0 := HVAL.out
      have e1 : folsL b s = (List.range b.facts.toNat).map fun f => (fol b s.toNat).testBit f := by unfold folsL; rw [if_pos ⟨hv0, his⟩]
      have e2 : folsB b s = badS b s.toNat := by unfold folsB; rw [decide_eq_true hv0, his]; rfl
      obtain ⟨m, rfl, hm⟩ := isB_nat HOK.out his
      rw [Int.toNat_natCast] at e1 e2
      have hf64 := HOK.out.f64
      have hf0 := HOK.out.f0
      obtain ⟨F, hF⟩ : ∃ F : Nat, b.facts = F := ⟨b.facts.toNat, by omega⟩
      rw [hF, Int.toNat_natCast] at e1
      have E1 := Lib.hid e1
      have E2 := Lib.hid e2
      clear e1 e2 hv0
      have hfo := rfollow_any b m F sa sr ca cr bs HOK.out hF hm w3 (HH.out.below HB3.out)
      rw [HLV.out] at hfo
      obtain ⟨c0, c1, c2⟩ := HBOX.out.cell w3 HB3.out
      have HFO := Lib.hid hfo; clear hfo
      have HF := Lib.hid hF
      clear hF his
      go_wp2_with (fail)
      refine HFO.out.mono ?_
      clear HFO c0 c1 c2
      rintro e w4 ⟨G, hG, rfl, hg, b4⟩
      have hb := HBOX.out.below (HB3.out.trans (b4.mono HB3.out.size))
      have hsl := kb_sl hg (by have := HF.out; omega)
      rw [← E1.out] at hsl
      have eN : (folsL b (m : Int)).length = F := by rw [E1.out]; simp
      obtain ⟨BD, hBD⟩ : ∃ BD, BD = badS b m := ⟨_, rfl⟩
      rw [← hBD]
      have HBD := Lib.hid hBD; clear hBD
      have HSL := Lib.hid hsl; clear hsl
      have EN := Lib.hid eN; clear eN
      have HB := Lib.hid hb; clear hb b4 hg
      go_wp2
      refine bodyPost_ret (results_tmp2 rfl _ _ _) rfl ?_
      refine ⟨some ⟨G, 0, none⟩, F, ?_, ?_, HB.out⟩
      · rw [EN.out, E2.out, ← HBD.out]; rfl
      · rw [EN.out]; exact HSL.out
  · have e1 := folsL_bad (b := b) (s := s) (.inl hval)
    have e2 := folsB_bad (b := b) (s := s) (.inl hval)
    have E1 := Lib.hid e1
    have E2 := Lib.hid e2
    have hb := HBOX.out.below b2
    have HB := Lib.hid hb; clear hb b2 e1 e2
    have hv2 : (valE b != 0) = true := by simpa using hval
    have hv3 : (valE b = 0) = False := eq_false hval
    clear hval
    go_wp2
    refine bodyPost_ret (results_tmp2 rfl _ _ _) rfl ?_
    rw [E1.out, E2.out]
    exact ⟨none, 0, rfl, Sl.none0 _, HB.out⟩
end Go.Proofs.Ytcbmifaobdamhaa

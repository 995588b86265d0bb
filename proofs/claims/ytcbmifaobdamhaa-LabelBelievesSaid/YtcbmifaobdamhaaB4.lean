/- label: the reference's Proves and Check. -/
import Derived.Test.YtcbmifaobdamhaaB1
import Derived.Test.YtcbmifaobdamhaaA20
import Derived.Test.YtcbmifaobdamhaaB2
namespace Go.Label
open Go.RowKit Go.Own Go.Proofs.Ytcbmifaobdamhaa
/-- facts and the contradiction as bits -/
def encB (F : Nat) (st : Nat × Bool) : Nat := if st.2 then st.1 ||| 2 ^ F else st.1
def provesB (b : Lg) (s : Nat) (fact : Int) (p : List Int) : Bool := match chkN b s p p.length with
  | none => false
  | some st => provB fact st
theorem encB_bit {F : Nat} {st : Nat × Bool} {f : Nat} (h : f < F) : (encB F st).testBit f = st.1.testBit f := by
  unfold encB
  split
  · rw [Bool.eq_iff_iff, or_bit]
    exact ⟨fun h1 => h1.elim id fun e => by omega, .inl⟩
  · rfl
theorem encB_top {F : Nat} {st : Nat × Bool} (h : st.1.testBit F = false) : (encB F st).testBit F = st.2 := by
  unfold encB
  cases hb : st.2 with
  | true => rw [if_pos rfl, (or_bit _ _ _).2 (.inr rfl)]
  | false => rw [if_neg Bool.false_ne_true, h]
theorem bdy_enc {F : Nat} {st : Nat × Bool} {l : List Int} (h : ∀ f ∈ l, 0 ≤ f ∧ f < (F : Int)) : bdy l (encB F st) = bdy l st.1 := by
  unfold bdy
  rw [Bool.eq_iff_iff, List.all_eq_true, List.all_eq_true]
  exact ⟨fun h1 f hf => by have := h1 f hf; rwa [encB_bit (by have := h f hf; omega)] at this, fun h1 f hf => by rw [encB_bit (by have := h f hf; omega)]; exact h1 f hf⟩
theorem or_swap (a x y : Nat) : a ||| x ||| y = a ||| y ||| x := by rw [Nat.or_assoc, Nat.or_comm x y, ← Nat.or_assoc]
theorem enc_head {F : Nat} {st : Nat × Bool} {hd : Int} (h : -1 ≤ hd ∧ hd < F) : encB F (if hd < 0 then (st.1, true) else (st.1 ||| 2 ^ hd.toNat, st.2)) = encB F st ||| 2 ^ slT F hd := by
  unfold encB slT
  by_cases h0 : hd < 0
  · rw [if_pos h0, if_pos h0]
    dsimp only
    rw [if_pos rfl]
    split
    · rw [Nat.or_assoc, Nat.or_self]
    · rfl
  · rw [if_neg h0, if_neg h0]
    dsimp only
    split
    · exact or_swap _ _ _
    · rfl
theorem chkN_bits {b : Lg} (ok : Ok b) {s F : Nat} (hF : b.facts = F) {p : List Int} : ∀ j st, chkN b s p j = some st → ∀ f, F ≤ f → st.1.testBit f = false
  | 0, st, h, f, hf => by
    injection h with h
    subst h
    cases hb : (giv b s).testBit f with
    | false => rfl
    | true =>
      obtain ⟨k, hk, _, e⟩ := (giv_bit b s f _).1 hb
      have := ok.asm _ (getD_mem (l := b.assume) (i := k) (d := 0) hk)
      omega
  | j + 1, st, h, f, hf => by
    unfold chkN at h
    cases h1 : chkN b s p j with
    | none => rw [h1] at h; cases h
    | some st0 =>
      rw [h1] at h
      have ih := chkN_bits ok hF j st0 h1 f hf
      have h2 : chkStep b st0 (p.getD j 0) = some st := h
      unfold chkStep at h2
      split at h2
      · cases h2
      · rename_i hr
        split at h2
        · injection h2 with h2
          subst h2
          split
          · exact ih
          · rename_i hh
            have h5 := ok.head _ (getD_mem (l := b.rules) (i := (p.getD j 0).toNat) (d := rl0) (by omega))
            cases hb : (st0.1 ||| 2 ^ (b.rules.getD (p.getD j 0).toNat rl0).head.toNat).testBit f with
            | false => rfl
            | true =>
              rcases (or_bit _ _ _).1 hb with h6 | h6
              · rw [ih] at h6; cases h6
              · omega
        · cases h2
theorem proves_end {b : Lg} (ok : Ok b) {s F : Nat} (hF : b.facts = F) {p : List Int} {st : Nat × Bool} (h : chkN b s p p.length = some st) {fact : Int} (hf : -1 ≤ fact ∧ fact < F) : (encB F st).testBit (slT F fact) = provesB b s fact p := by
  unfold provesB provB slT
  rw [h]
  dsimp only
  by_cases h0 : fact < 0
  · rw [if_pos h0, if_pos h0, encB_top (chkN_bits ok hF _ _ h _ (Nat.le_refl _))]
  · rw [if_neg h0, if_neg h0, encB_bit (by omega)]
theorem proves_none {b : Lg} {s j : Nat} {p : List Int} {fact : Int} (h : chkN b s p (j + 1) = none) (hj : j < p.length) : provesB b s fact p = false := by
  have h1 := chkN_none h (p.length - (j + 1))
  rw [show j + 1 + (p.length - (j + 1)) = p.length by omega] at h1
  unfold provesB
  rw [h1]
theorem check_proves (b : Lg) (isb : Bool) (s : Nat) (fact : Int) (p : List Int) : checkE b isb s fact p = if fitsE b isb fact ≠ 0 then fitsE b isb fact else if provesB b s fact p then 0 else 22 := by
  unfold checkE provesB
  cases chkN b s p p.length <;> rfl
end Go.Label
namespace Go.Proofs.Ytcbmifaobdamhaa
open Go.RowKit Go.Own Go.Theory Go.BigFrame Go.Ib Go.Label Go.Shelf
attribute [local irreducible] SqC.SqW
set_option maxRecDepth 100000 in
set_option maxHeartbeats 8000000 in
theorem rproves_any (b : Lg) (m F : Nat) (fact : Int) (p : List Int) (sa sr sp : Option Addr) (ca cr cp : Nat) (bs : List Value) (ok : Ok b) (hF : b.facts = F) (hm : m < 65536) (hf : -1 ≤ fact ∧ fact < F) (w : World) (h : LgAt w b sa sr ca cr bs) (hp : Sl w 1 (.slice sp p.length cp) p.length (p.map (.int .i64))) (hpl : p.length ≤ 1000000) :
    Calls Try.prog 59 #[lgV b sa sr ca cr, .int .i64 m, .int .i64 fact, .slice sp p.length cp] w fun e w' => e = .returned (.bool (provesB b m fact p)) ∧ Below w.heap.size w w' := by
  unfold lgV
  have hbox := box_new w b sa sr ca cr 25
  obtain ⟨W1, hW1⟩ : ∃ W1, W1 = w.alloc (.cells #[.int .i64 b.facts, .slice sa b.assume.length ca, .slice sr b.rules.length cr] 25) := ⟨_, rfl⟩
  rw [← hW1] at hbox
  have hH := h.below hbox.b1
  have hP1 := hp.below hbox.b1
  have HPS := Lib.hid hP1; clear hP1 hp
  have HBOX := Lib.hid hbox
  have z0 := hbox.z1
  have zs := hbox.sz
  clear hbox h
  have HH := Lib.hid hH; clear hH
  have HOK := Lib.hid ok
  have hf64 := ok.f64
  have a16 := ok.a16
  have r64 := ok.r64
  have hend : ∀ st, chkN b m p p.length = some st → (encB F st).testBit (slT F fact) = provesB b m fact p := fun st h => proves_end ok hF h hf
  have hnone : ∀ j, j < p.length → chkN b m p (j + 1) = none → provesB b m fact p = false := fun j h1 h2 => proves_none h2 h1
  have HEND := Lib.hid hend; clear hend
  have HNONE := Lib.hid hnone; clear hnone
  clear ok
  rw [hF] at hW1 hf64 ⊢
  obtain ⟨R, hR⟩ : ∃ R, R = provesB b m fact p := ⟨_, rfl⟩
  rw [← hR] at HEND HNONE ⊢
  clear hR
  have hfF : (F : Int) ≤ 64 := hf64
  obtain ⟨hf1, hf2⟩ := hf
  obtain ⟨N, hN⟩ : ∃ N, N = F + 1 := ⟨_, rfl⟩
  have eN : (F : Int) + 1 = (N : Int) := by omega
  have hN65 : N ≤ 65 := by omega
  have HF := Lib.hid hF; clear hF
  have HW1 := Lib.hid hW1; clear hW1
  have hmk := mk_bools N (by omega)
  obtain ⟨W2, hW2⟩ : ∃ W2, W2 = W1.alloc (.cells (Array.replicate N (.bool false)) 4) := ⟨_, rfl⟩
  have b2 : Below W1.heap.size W1 W2 := by rw [hW2]; exact alloc_below _ _
  obtain ⟨G, hG⟩ : ∃ G, G = w.heap.size + 1 := ⟨_, rfl⟩
  have hGz : W1.heap.size = G := by omega
  have hg : Blk W2 G (rm N (kb (givN b m 0))) 4 := by
    rw [hW2, ← hGz]
    have := blk_make W1 N (.bool false) 4
    rw [rm_rep] at this
    rw [show kb (givN b m 0) = fun _ => Value.bool false from funext fun j => by unfold kb givN; rw [Nat.zero_testBit]]
    exact this
  have HB2 := Lib.hid b2; clear b2
  have HGG := Lib.hid hg; clear hg
  have HW2 := Lib.hid hW2; clear hW2
  have HN := Lib.hid hN; clear hN
  have hG1 : W1.heap.size ≤ G := by omega
  clear hf64
  have HGE := Lib.hid hG; clear hG
  have HGZ := Lib.hid hGz; clear hGz zs
  go_enter Try.func59, Try.ntmps59
  go_wp2
  rw [← HW1.out]
  go_wp2
  rw [← HGE.out, ← HW2.out]
  clear hmk HW2
  go_loopw [10] (fun vi wq => ∃ k : Nat, k ≤ b.assume.length ∧ vi = .int .i64 k ∧ Blk wq G (rm N (kb (givN b m k))) 4 ∧ Below W1.heap.size W1 wq) (fun vi _ => b.assume.length - (vInt vi).toNat)
  case atStart => exact ⟨0, by omega, rfl, HGG.out, HB2.out⟩
  case round =>
    clear HGG HB2
    obtain ⟨k, hk, rfl, hg, hbq⟩ := hrel
    obtain ⟨c0, c1, c2⟩ := HBOX.out.cell wr hbq
    rw [HF.out] at c0
    have HG := Lib.hid hg; clear hg
    have HBQ := Lib.hid hbq; clear hbq
    by_cases h1 : k < b.assume.length
    · have h1' : (k : Int) < b.assume.length := by omega
      obtain ⟨g, o, rfl, _, _, hC, hlt⟩ := sl_at (HH.out.asm (by omega)) (by omega)
      have har := HOK.out.asm _ (List.getElem_mem h1)
      obtain ⟨f, hf⟩ : ∃ f : Nat, b.assume[k] = f := ⟨b.assume[k].toNat, by omega⟩
      rw [hf, HF.out] at har
      have hfF : f < N := by have := HN.out; omega
      have ck : wr.cell? ⟨g, o + k, none⟩ = some (.int .i64 f) := (hC.below HBQ.out hlt) k _ (by simp [h1, hf])
      have hnew := giv_new HOK.out m h1
      rw [getD_eq 0 h1, hf, Int.toNat_natCast] at hnew
      have hnext : givN b m (k + 1) = if m.testBit k then givN b m k ||| 2 ^ f else givN b m k := by
        conv => lhs; unfold givN
        rw [getD_eq 0 h1, hf]; rfl
      have HNW := Lib.hid hnew; clear hnew
      have HX := Lib.hid hnext; clear hnext hf hC har
      have hf64' : (f : Int) < N := by omega
      obtain ⟨n, hn⟩ : ∃ n, n = b.assume.length := ⟨_, rfl⟩
      have HNN := Lib.hid hn
      rw [← hn] at c1 h1 h1'
      clear hn
      go_wp2
      have hext : (fun W : World => W.cell? ⟨w.heap.size, 1, none⟩ = some (.slice (some ⟨g, o, none⟩) n ca) ∧ W.cell? ⟨g, o + k, none⟩ = some (.int .i64 f)) wr.drew := ⟨c1, ck⟩
      haveI : Nonempty (SqC.Come fun W : World => W.cell? ⟨w.heap.size, 1, none⟩ = some (.slice (some ⟨g, o, none⟩) n ca) ∧ W.cell? ⟨g, o + k, none⟩ = some (.int .i64 f)) := ⟨⟨_, hext⟩⟩
      refine SqC.wp_region_sqc 11 [8, 10] (fun W : World => W.cell? ⟨w.heap.size, 1, none⟩ = some (.slice (some ⟨g, o, none⟩) n ca) ∧ W.cell? ⟨g, o + k, none⟩ = some (.int .i64 f)) (by kernel_rfl) (by kernel_rfl) (by kernel_rfl) hext ?_
      obtain ⟨wd, hwd⟩ : ∃ wd : World, wd = wr.drew := ⟨_, rfl⟩
      have hbd : Below W1.heap.size W1 wd := by rw [hwd]; exact HBQ.out.drew
      have hgd : Blk wd G (rm N (kb (givN b m k))) 4 := by rw [hwd]; exact HG.out.drew
      rw [← hwd] at hext ⊢
      clear hwd c0 c1 c2 ck
      have HBD := Lib.hid hbd; clear hbd
      have HGD := Lib.hid hgd; clear hgd
      iterate 2 (refine SqC.quiet rfl rfl ?_; go_big_quiet_step (fail); refine wpQuiet_nil ?_)
      refine SqC.value (.slice (some ⟨g, o, none⟩) n ca) rfl rfl (by intro W hW; have cx := hW.1; go_simp) ?_
      simp only [Act.put, List.setIfInBounds_toArray, List.set_cons_zero, List.set_cons_succ]
      iterate 2 (refine SqC.quiet rfl rfl ?_; go_big_quiet_step (fail); refine wpQuiet_nil ?_)
      refine SqC.value (.int .i64 f) rfl rfl (by intro W hW; have cx := hW.2; go_simp) ?_
      simp only [Act.put, List.setIfInBounds_toArray, List.set_cons_zero, List.set_cons_succ]
      iterate 2 (refine SqC.quiet rfl rfl ?_; go_big_quiet_step (fail); refine wpQuiet_nil ?_)
      refine SqC.effect rfl rfl ?_
      refine yields_call rfl (by kernel_rfl) rfl rfl ((has_any m k (by omega) (by omega) wd).mono ?_)
      rintro e w5 ⟨rfl, rfl⟩
      refine ⟨_, rfl, fun _ => hext, ?_⟩
      simp only [Act.put, List.setIfInBounds_toArray, List.set_cons_zero, List.set_cons_succ]
      refine SqC.quiet rfl rfl ?_; go_big_quiet_step (fail); refine wpQuiet_nil ?_
      have hfr : w5.frozen? ⟨G, f, none⟩ = false := HGD.out.frozen f
      have cq : w5.cell? ⟨G, f, none⟩ = some (.bool ((givN b m k).testBit f)) := HGD.out.cell (by rw [rm_get hfF]; rfl)
      have hset := HGD.out.set f (.bool (m.testBit k))
      rw [kb_set (m.testBit k) (.inr HNW.out), ← HX.out] at hset
      have hbs := below_set HBD.out (Nat.le_refl _) hG1 f (.bool (m.testBit k))
      have HSET := Lib.hid hset; clear hset
      have HBS := Lib.hid hbs; clear hbs
      obtain ⟨tb, htb⟩ : ∃ tb, tb = m.testBit k := ⟨_, rfl⟩
      rw [← htb] at HSET HBS ⊢
      have HTB := Lib.hid htb; clear htb
      refine SqC.effectW rfl rfl ?_
      go_wp2
      refine SqC.here rfl (by intro h; first | exact h.elim | exact absurd rfl h) (SqC.nil ?_)
      go_wp2
      go_roundw
      case rel => exact ⟨k + 1, by have := HNN.out; omega, by go_num, HSET.out, HBS.out⟩
      case measure => simp [vInt]; have := HNN.out; omega
    · have h1' : (b.assume.length : Int) ≤ k := by omega
      obtain rfl : k = b.assume.length := by omega
      have hst : chkN b m p 0 = some (giv b m, false) := rfl
      have hg0 : Blk wr G (rm N (kb (encB F (giv b m, false)))) 4 := HG.out
      have HG0 := Lib.hid hg0; clear hg0 HG
      have HST := Lib.hid hst; clear hst
      go_wp2
      clear c0 c1 c2
      go_loopw [11] (fun vi wq => ∃ (i : Nat) (st : Nat × Bool), i ≤ p.length ∧ vi = .int .i64 i ∧ chkN b m p i = some st ∧ Blk wq G (rm N (kb (encB F st))) 4 ∧ Below W1.heap.size W1 wq) (fun vi _ => p.length - (vInt vi).toNat)
      case atStart => exact ⟨0, _, Nat.zero_le _, rfl, HST.out, HG0.out, HBQ.out⟩
      case round =>
        clear HST HG0 HBQ
        obtain ⟨i, st, hi, rfl, hst, hg, hbq⟩ := hrel
        obtain ⟨c0, c1, c2⟩ := HBOX.out.cell wr hbq
        rw [HF.out] at c0
        have HST := Lib.hid hst; clear hst
        have HG := Lib.hid hg; clear hg
        have HBQ := Lib.hid hbq
        by_cases h1 : i < p.length
        · have h1' : (i : Int) < p.length := by omega
          obtain ⟨gp, op, rfl, _, _, hCp, hltp⟩ := sl_at HPS.out (by omega)
          obtain ⟨x, hx⟩ : ∃ x, x = p[i] := ⟨_, rfl⟩
          have hcx : ∀ U, Below wr.heap.size wr U → U.cell? ⟨gp, op + i, none⟩ = some (.int .i64 x) := fun U hU => (hCp.below (hbq.trans (hU.mono hbq.size)) hltp) i _ (by simp [h1, hx])
          have hc2 : ∀ U, Below wr.heap.size wr U → U.cell? ⟨w.heap.size, 2, none⟩ = some (.slice sr b.rules.length cr) := fun U hU => (HBOX.out.cell U (hbq.trans (hU.mono hbq.size))).2.2
          have hnext : chkN b m p (i + 1) = chkStep b st x := by
            show (chkN b m p i).bind _ = _
            rw [HST.out, hx]
            simp [h1]
          have hno := HNONE.out i h1
          rw [hnext] at hno
          have cx0 := hcx wr (Below.refl _ _)
          have HCX := Lib.hid hcx; clear hcx
          have HC2 := Lib.hid hc2; clear hc2
          have HNX := Lib.hid hnext; clear hnext
          have HNO := Lib.hid hno; clear hno hx hCp
          have eX : Below wr.heap.size wr wr.drew := (Below.refl _ _).drew
          haveI : Nonempty (SqC.Come fun U : World => Below wr.heap.size wr U) := ⟨⟨_, eX⟩⟩
          obtain ⟨nr, hnr⟩ : ∃ nr, nr = b.rules.length := ⟨_, rfl⟩
          rw [← hnr] at HC2 c2 r64
          have HNR := Lib.hid hnr; clear hnr
          clear hbq
          by_cases hx0 : x < 0
          · have hR : R = false := HNO.out (by unfold chkStep; rw [if_pos (.inl hx0)])
            have HR := Lib.hid hR; clear hR
            go_wp2
            refine SqC.wp_region_sqc 29 [26] (fun U : World => Below wr.heap.size wr U) (by kernel_rfl) (by kernel_rfl) (by kernel_rfl) eX ?_
            obtain ⟨wd, hwd⟩ : ∃ wd : World, wd = wr.drew := ⟨_, rfl⟩
            rw [← hwd] at eX ⊢
            clear c0 c1 c2 cx0
            iterate 3 (refine SqC.quiet rfl rfl ?_; go_big_quiet_step (fail); refine wpQuiet_nil ?_)
            refine SqC.value (.int .i64 x) rfl rfl (by intro U hU; have cx := HCX.out U hU; go_simp) ?_
            simp only [Act.put, List.setIfInBounds_toArray, List.set_cons_zero, List.set_cons_succ]
            refine SqC.value (.bool true) rfl rfl (by intro U hU; go_simp) ?_
            simp only [Act.put, List.setIfInBounds_toArray, List.set_cons_zero, List.set_cons_succ]
            iterate 1 (refine SqC.quiet rfl rfl ?_; go_big_quiet_step (fail); refine wpQuiet_nil ?_)
            iterate 8 (refine SqC.skip rfl ?_; simp only [Act.put, List.setIfInBounds_toArray, List.set_cons_zero, List.set_cons_succ])
            iterate 2 (refine SqC.quiet rfl rfl ?_; go_big_quiet_step (fail); refine wpQuiet_nil ?_)
            iterate 12 (refine SqC.skip rfl ?_; simp only [Act.put, List.setIfInBounds_toArray, List.set_cons_zero, List.set_cons_succ])
            iterate 1 (refine SqC.quiet rfl rfl ?_; go_big_quiet_step (fail); refine wpQuiet_nil ?_)
            refine SqC.nil ?_
            subst hwd
            clear eX
            go_wp2
            go_ret
            exact ⟨by rw [HR.out]; rfl, HBOX.out.below HBQ.out.drew⟩
          · by_cases hxn : (nr : Int) ≤ x
            · have hR : R = false := HNO.out (by unfold chkStep; rw [if_pos (.inr (by rw [← HNR.out]; exact hxn))])
              have HR := Lib.hid hR; clear hR
              have hx0' : (x < 0) = False := eq_false hx0
              clear hx0
              go_wp2
              refine SqC.wp_region_sqc 29 [26] (fun U : World => Below wr.heap.size wr U) (by kernel_rfl) (by kernel_rfl) (by kernel_rfl) eX ?_
              obtain ⟨wd, hwd⟩ : ∃ wd : World, wd = wr.drew := ⟨_, rfl⟩
              rw [← hwd] at eX ⊢
              clear c0 c1 c2 cx0
              iterate 3 (refine SqC.quiet rfl rfl ?_; go_big_quiet_step (fail); refine wpQuiet_nil ?_)
              refine SqC.value (.int .i64 x) rfl rfl (by intro U hU; have cx := HCX.out U hU; go_simp) ?_
              simp only [Act.put, List.setIfInBounds_toArray, List.set_cons_zero, List.set_cons_succ]
              refine SqC.value (.bool false) rfl rfl (by intro U hU; go_simp) ?_
              simp only [Act.put, List.setIfInBounds_toArray, List.set_cons_zero, List.set_cons_succ]
              iterate 1 (refine SqC.quiet rfl rfl ?_; go_big_quiet_step (fail); refine wpQuiet_nil ?_)
              iterate 3 (refine SqC.quiet rfl rfl ?_; go_big_quiet_step (fail); refine wpQuiet_nil ?_)
              refine SqC.value (.int .i64 x) rfl rfl (by intro U hU; have cx := HCX.out U hU; go_simp) ?_
              simp only [Act.put, List.setIfInBounds_toArray, List.set_cons_zero, List.set_cons_succ]
              refine SqC.value (.pointer (some ⟨w.heap.size, 2, none⟩)) rfl rfl (by intro U hU; go_simp) ?_
              simp only [Act.put, List.setIfInBounds_toArray, List.set_cons_zero, List.set_cons_succ]
              refine SqC.value (.slice sr nr cr) rfl rfl (by intro U hU; have cx := HC2.out U hU; go_simp) ?_
              simp only [Act.put, List.setIfInBounds_toArray, List.set_cons_zero, List.set_cons_succ]
              iterate 1 (refine SqC.quiet rfl rfl ?_; go_big_quiet_step (fail); refine wpQuiet_nil ?_)
              refine SqC.value (.bool true) rfl rfl (by intro U hU; go_simp) ?_
              simp only [Act.put, List.setIfInBounds_toArray, List.set_cons_zero, List.set_cons_succ]
              iterate 2 (refine SqC.quiet rfl rfl ?_; go_big_quiet_step (fail); refine wpQuiet_nil ?_)
              iterate 12 (refine SqC.skip rfl ?_; simp only [Act.put, List.setIfInBounds_toArray, List.set_cons_zero, List.set_cons_succ])
              iterate 1 (refine SqC.quiet rfl rfl ?_; go_big_quiet_step (fail); refine wpQuiet_nil ?_)
              refine SqC.nil ?_
              subst hwd
              clear eX
              go_wp2
              go_ret
              exact ⟨by rw [HR.out]; rfl, HBOX.out.below HBQ.out.drew⟩
            · obtain ⟨v, rfl⟩ : ∃ v : Nat, x = v := ⟨x.toNat, by omega⟩
              have hvn : (v : Int) < nr := by omega
              have hvr : v < b.rules.length := by have := HNR.out; omega
              have hx0' : ((v : Int) < 0) = False := eq_false hx0
              have hxn' : ((nr : Int) ≤ v) = False := eq_false hxn
              clear hx0 hxn
              obtain ⟨g, o, sb, cb, rfl, hc, hbd⟩ := HH.out.rule hvr
              have hbr : ∀ f ∈ b.rules[v].body, 0 ≤ f ∧ f < (F : Int) := fun f hf => by
                have h := HOK.out.body _ (List.getElem_mem hvr) f hf
                rwa [HF.out] at h
              have hbl := HOK.out.long _ (List.getElem_mem hvr)
              have hhr := HOK.out.head _ (List.getElem_mem hvr)
              rw [HF.out] at hhr
              have hgd : b.rules.getD (v : Int).toNat rl0 = b.rules[v] := by rw [Int.toNat_natCast]; exact getD_eq rl0 hvr
              have hstep : chkStep b st v = if bdy b.rules[v].body st.1 then some (if b.rules[v].head < 0 then (st.1, true) else (st.1 ||| 2 ^ b.rules[v].head.toNat, st.2)) else none := by
                unfold chkStep
                rw [if_neg (by rw [← HNR.out]; omega), hgd]
              have henc : bdy b.rules[v].body (encB F st) = bdy b.rules[v].body st.1 := bdy_enc hbr
              rw [← henc] at hstep
              have hehd := enc_head (st := st) hhr
              obtain ⟨bl, hbe⟩ : ∃ bl, bl = b.rules[v].body := ⟨_, rfl⟩
              obtain ⟨hd, hhd⟩ : ∃ hd, hd = b.rules[v].head := ⟨_, rfl⟩
              rw [← hbe, ← hhd] at hc
              rw [← hbe] at hbd hbr hbl hstep
              rw [← hhd] at hstep hhr hehd
              clear hbe hhd hgd henc
              obtain ⟨st2, hst2⟩ : ∃ st2, st2 = (if hd < 0 then (st.1, true) else (st.1 ||| 2 ^ hd.toNat, st.2)) := ⟨_, rfl⟩
              rw [← hst2] at hstep hehd
              clear hst2
              have hk1 : ∀ U, Below wr.heap.size wr U → U.cell? ⟨g, o + v * 2, none⟩ = some (.int .i64 hd) ∧ U.cell? ⟨g, o + v * 2 + 1, none⟩ = some (.slice sb bl.length cb) := fun U hU => hc U (HBQ.out.trans (hU.mono HBQ.out.size))
              have hho : ∀ U, Below wr.heap.size wr U → Calls Try.prog 61 #[.slice sb bl.length cb, .slice (some ⟨G, 0, none⟩) N N] U fun e w' => e = .returned (.bool (bdy bl (encB F st))) ∧ w' = U := fun U hU =>
                holds_any bl (encB F st) N sb cb G N U (hbd.below (HBQ.out.trans (hU.mono HBQ.out.size))) (by omega) (HG.out.below hU HG.out.lt) (fun f hf => by have := hbr f hf; have := HN.out; omega)
              have HK1 := Lib.hid hk1; clear hk1 hc
              have HHO := Lib.hid hho; clear hho hbd hbr hbl
              have HSTP := Lib.hid hstep; clear hstep
              have HEH := Lib.hid hehd; clear hehd
              have hsl := slT_F (F := F) hhr.1 hhr.2
              obtain ⟨s, hs⟩ : ∃ s, s = slT F hd := ⟨_, rfl⟩
              have hsv : s = if hd < 0 then F else hd.toNat := hs
              rw [← hs] at hsl HEH
              clear hs
              obtain ⟨hsl, _⟩ := hsl
              cases hbb : bdy bl (encB F st) with
              | false =>
                have hR : R = false := HNO.out (by rw [HSTP.out, hbb, if_neg Bool.false_ne_true])
                have HR := Lib.hid hR; clear hR
                rw [hbb] at HHO
                clear hbb
                go_wp2
                refine SqC.wp_region_sqc 29 [26] (fun U : World => Below wr.heap.size wr U) (by kernel_rfl) (by kernel_rfl) (by kernel_rfl) eX ?_
                obtain ⟨wd, hwd⟩ : ∃ wd : World, wd = wr.drew := ⟨_, rfl⟩
                rw [← hwd] at eX ⊢
                clear c0 c1 c2 cx0
                iterate 3 (refine SqC.quiet rfl rfl ?_; go_big_quiet_step (fail); refine wpQuiet_nil ?_)
                refine SqC.value (.int .i64 v) rfl rfl (by intro U hU; have cx := HCX.out U hU; go_simp) ?_
                simp only [Act.put, List.setIfInBounds_toArray, List.set_cons_zero, List.set_cons_succ]
                refine SqC.value (.bool false) rfl rfl (by intro U hU; go_simp) ?_
                simp only [Act.put, List.setIfInBounds_toArray, List.set_cons_zero, List.set_cons_succ]
                iterate 1 (refine SqC.quiet rfl rfl ?_; go_big_quiet_step (fail); refine wpQuiet_nil ?_)
                iterate 3 (refine SqC.quiet rfl rfl ?_; go_big_quiet_step (fail); refine wpQuiet_nil ?_)
                refine SqC.value (.int .i64 v) rfl rfl (by intro U hU; have cx := HCX.out U hU; go_simp) ?_
                simp only [Act.put, List.setIfInBounds_toArray, List.set_cons_zero, List.set_cons_succ]
                refine SqC.value (.pointer (some ⟨w.heap.size, 2, none⟩)) rfl rfl (by intro U hU; go_simp) ?_
                simp only [Act.put, List.setIfInBounds_toArray, List.set_cons_zero, List.set_cons_succ]
                refine SqC.value (.slice (some ⟨g, o, none⟩) nr cr) rfl rfl (by intro U hU; have cx := HC2.out U hU; go_simp) ?_
                simp only [Act.put, List.setIfInBounds_toArray, List.set_cons_zero, List.set_cons_succ]
                iterate 1 (refine SqC.quiet rfl rfl ?_; go_big_quiet_step (fail); refine wpQuiet_nil ?_)
                refine SqC.value (.bool false) rfl rfl (by intro U hU; go_simp) ?_
                simp only [Act.put, List.setIfInBounds_toArray, List.set_cons_zero, List.set_cons_succ]
                iterate 2 (refine SqC.quiet rfl rfl ?_; go_big_quiet_step (fail); refine wpQuiet_nil ?_)
                refine SqC.value (.pointer (some ⟨w.heap.size, 2, none⟩)) rfl rfl (by intro U hU; go_simp) ?_
                simp only [Act.put, List.setIfInBounds_toArray, List.set_cons_zero, List.set_cons_succ]
                refine SqC.value (.slice (some ⟨g, o, none⟩) nr cr) rfl rfl (by intro U hU; have cx := HC2.out U hU; go_simp) ?_
                simp only [Act.put, List.setIfInBounds_toArray, List.set_cons_zero, List.set_cons_succ]
                iterate 3 (refine SqC.quiet rfl rfl ?_; go_big_quiet_step (fail); refine wpQuiet_nil ?_)
                refine SqC.value (.int .i64 v) rfl rfl (by intro U hU; have cx := HCX.out U hU; go_simp) ?_
                simp only [Act.put, List.setIfInBounds_toArray, List.set_cons_zero, List.set_cons_succ]
                iterate 2 (refine SqC.quiet rfl rfl ?_; go_big_quiet_step (fail); refine wpQuiet_nil ?_)
                refine SqC.value (.slice sb bl.length cb) rfl rfl (by intro U hU; have cx := (HK1.out U hU).2; go_simp) ?_
                simp only [Act.put, List.setIfInBounds_toArray, List.set_cons_zero, List.set_cons_succ]
                iterate 1 (refine SqC.quiet rfl rfl ?_; go_big_quiet_step (fail); refine wpQuiet_nil ?_)
                refine SqC.effect rfl rfl ?_
                refine yields_call rfl (by kernel_rfl) rfl rfl ((HHO.out wd eX).mono ?_)
                rintro e w5 ⟨rfl, h5⟩
                have h6 := h5.symm
                clear h5
                subst h6
                refine ⟨_, rfl, fun _ => eX, ?_⟩
                simp only [Act.put, List.setIfInBounds_toArray, List.set_cons_zero, List.set_cons_succ]
                iterate 2 (refine SqC.quiet rfl rfl ?_; go_big_quiet_step (fail); refine wpQuiet_nil ?_)
                refine SqC.nil ?_
                clear eX
                subst hwd
                go_wp2
                go_ret
                exact ⟨by rw [HR.out]; rfl, HBOX.out.below HBQ.out.drew⟩
              | true =>
                have hst3 : chkN b m p (i + 1) = some st2 := by rw [HNX.out, HSTP.out, hbb, if_pos rfl]
                have HS3 := Lib.hid hst3; clear hst3
                rw [hbb] at HHO
                clear hbb
                go_wp2
                refine SqC.wp_region_sqc 29 [26] (fun U : World => Below wr.heap.size wr U) (by kernel_rfl) (by kernel_rfl) (by kernel_rfl) eX ?_
                obtain ⟨wd, hwd⟩ : ∃ wd : World, wd = wr.drew := ⟨_, rfl⟩
                rw [← hwd] at eX ⊢
                clear c0 c1 c2 cx0
                iterate 3 (refine SqC.quiet rfl rfl ?_; go_big_quiet_step (fail); refine wpQuiet_nil ?_)
                refine SqC.value (.int .i64 v) rfl rfl (by intro U hU; have cx := HCX.out U hU; go_simp) ?_
                simp only [Act.put, List.setIfInBounds_toArray, List.set_cons_zero, List.set_cons_succ]
                refine SqC.value (.bool false) rfl rfl (by intro U hU; go_simp) ?_
                simp only [Act.put, List.setIfInBounds_toArray, List.set_cons_zero, List.set_cons_succ]
                iterate 1 (refine SqC.quiet rfl rfl ?_; go_big_quiet_step (fail); refine wpQuiet_nil ?_)
                iterate 3 (refine SqC.quiet rfl rfl ?_; go_big_quiet_step (fail); refine wpQuiet_nil ?_)
                refine SqC.value (.int .i64 v) rfl rfl (by intro U hU; have cx := HCX.out U hU; go_simp) ?_
                simp only [Act.put, List.setIfInBounds_toArray, List.set_cons_zero, List.set_cons_succ]
                refine SqC.value (.pointer (some ⟨w.heap.size, 2, none⟩)) rfl rfl (by intro U hU; go_simp) ?_
                simp only [Act.put, List.setIfInBounds_toArray, List.set_cons_zero, List.set_cons_succ]
                refine SqC.value (.slice (some ⟨g, o, none⟩) nr cr) rfl rfl (by intro U hU; have cx := HC2.out U hU; go_simp) ?_
                simp only [Act.put, List.setIfInBounds_toArray, List.set_cons_zero, List.set_cons_succ]
                iterate 1 (refine SqC.quiet rfl rfl ?_; go_big_quiet_step (fail); refine wpQuiet_nil ?_)
                refine SqC.value (.bool false) rfl rfl (by intro U hU; go_simp) ?_
                simp only [Act.put, List.setIfInBounds_toArray, List.set_cons_zero, List.set_cons_succ]
                iterate 2 (refine SqC.quiet rfl rfl ?_; go_big_quiet_step (fail); refine wpQuiet_nil ?_)
                refine SqC.value (.pointer (some ⟨w.heap.size, 2, none⟩)) rfl rfl (by intro U hU; go_simp) ?_
                simp only [Act.put, List.setIfInBounds_toArray, List.set_cons_zero, List.set_cons_succ]
                refine SqC.value (.slice (some ⟨g, o, none⟩) nr cr) rfl rfl (by intro U hU; have cx := HC2.out U hU; go_simp) ?_
                simp only [Act.put, List.setIfInBounds_toArray, List.set_cons_zero, List.set_cons_succ]
                iterate 3 (refine SqC.quiet rfl rfl ?_; go_big_quiet_step (fail); refine wpQuiet_nil ?_)
                refine SqC.value (.int .i64 v) rfl rfl (by intro U hU; have cx := HCX.out U hU; go_simp) ?_
                simp only [Act.put, List.setIfInBounds_toArray, List.set_cons_zero, List.set_cons_succ]
                iterate 2 (refine SqC.quiet rfl rfl ?_; go_big_quiet_step (fail); refine wpQuiet_nil ?_)
                refine SqC.value (.slice sb bl.length cb) rfl rfl (by intro U hU; have cx := (HK1.out U hU).2; go_simp) ?_
                simp only [Act.put, List.setIfInBounds_toArray, List.set_cons_zero, List.set_cons_succ]
                iterate 1 (refine SqC.quiet rfl rfl ?_; go_big_quiet_step (fail); refine wpQuiet_nil ?_)
                refine SqC.effect rfl rfl ?_
                refine yields_call rfl (by kernel_rfl) rfl rfl ((HHO.out wd eX).mono ?_)
                rintro e w5 ⟨rfl, h5⟩
                have h6 := h5.symm
                clear h5
                subst h6
                refine ⟨_, rfl, fun _ => eX, ?_⟩
                simp only [Act.put, List.setIfInBounds_toArray, List.set_cons_zero, List.set_cons_succ]
                iterate 2 (refine SqC.quiet rfl rfl ?_; go_big_quiet_step (fail); refine wpQuiet_nil ?_)
                refine SqC.nil ?_
                clear eX
                have hbqd : Below W1.heap.size W1 wd := by rw [hwd]; exact HBQ.out.drew
                have hgd : Blk wd G (rm N (kb (encB F st))) 4 := by rw [hwd]; exact HG.out.drew
                have hset := hgd.set s (.bool true)
                rw [kb_set true (.inl rfl), if_pos rfl, ← HEH.out] at hset
                have hbs := below_set hbqd (Nat.le_refl _) hG1 s (.bool true)
                obtain ⟨c0, c1, c2⟩ := HBOX.out.cell wd hbqd
                rw [HF.out] at c0
                rw [← HNR.out] at c2
                have e8 : Below wr.heap.size wr wd := by rw [hwd]; exact (Below.refl _ _).drew
                have cx0 := HCX.out wd e8
                obtain ⟨k0, k1⟩ := HK1.out wd e8
                have hsN : s < N := by have := HN.out; omega
                have fz : wd.frozen? ⟨G, s, none⟩ = false := hgd.frozen _
                have cz : wd.cell? ⟨G, s, none⟩ = some (kb (encB F st) s) := hgd.cell (rm_get hsN)
                have hsN' : (s : Int) < N := by omega
                have hset2 : ∀ n, Blk ((wd.drewN n).setCell ⟨G, s, none⟩ (.bool true)) G (rm N (kb (encB F st2))) 4 := fun n => by
                  have h9 := (hgd.drewN n).set s (.bool true)
                  rw [kb_set true (.inl rfl), if_pos rfl, ← HEH.out] at h9
                  exact h9
                have hbs2 : ∀ n, Below W1.heap.size W1 ((wd.drewN n).setCell ⟨G, s, none⟩ (.bool true)) := fun n => below_set (below_drewN hbqd n) (Nat.le_refl _) hG1 s (.bool true)
                have HSET := Lib.hid hset2; clear hset hset2
                have HBS := Lib.hid hbs2; clear hbs hbs2
                clear hgd hbqd e8 HEH
                clear hwd
                by_cases hneg : hd < 0
                · have hsF : s = F := by rw [hsv, if_pos hneg]
                  rw [hsF] at HSET HBS fz cz hsN'
                  clear hsF hsv hsl hsN
                  go_wp2
                  go_quiet (fail)
                  go_wp2
                  go_roundw
                  case rel => exact ⟨i + 1, st2, by omega, by go_num, HS3.out, HSET.out _, HBS.out _⟩
                  case measure => simp [vInt]; omega
                · obtain rfl : hd = (s : Int) := by rw [if_neg hneg] at hsv; omega
                  have hneg' : ((s : Int) < 0) = False := eq_false hneg
                  clear hneg hsv
                  go_wp2
                  go_quiet (fail)
                  go_wp2
                  go_roundw
                  case rel => exact ⟨i + 1, st2, by omega, by go_num, HS3.out, HSET.out _, HBS.out _⟩
                  case measure => simp [vInt]; omega
        · have h1' : (p.length : Int) ≤ i := by omega
          have hil : i = p.length := by omega
          have hst := HST.out
          rw [hil] at hst
          have hen := HEND.out st hst
          have hsl := slT_F (F := F) hf1 hf2
          obtain ⟨s, hs⟩ : ∃ s, s = slT F fact := ⟨_, rfl⟩
          have hsv : s = if fact < 0 then F else fact.toNat := hs
          rw [← hs] at hsl hen
          clear hs hil hst
          have hsN : s < N := by have := HN.out; omega
          have hsN' : (s : Int) < N := by omega
          have cz : wr.cell? ⟨G, s, none⟩ = some (.bool R) := by
            have h9 := HG.out.cell (rm_get (f := kb (encB F st)) hsN)
            rw [h9, ← hen]; rfl
          have HB := Lib.hid (HBOX.out.below hbq); clear hbq hen
          by_cases hneg : fact < 0
          · have hsF : s = F := by rw [hsv, if_pos hneg]
            rw [hsF] at cz hsN'
            clear hsF hsv hsl hsN
            go_wp2
            go_ret
            exact ⟨rfl, HB.out⟩
          · obtain rfl : fact = (s : Int) := by rw [if_neg hneg] at hsv; omega
            have hneg' : ((s : Int) < 0) = False := eq_false hneg
            clear hneg hsv
            go_wp2
            go_ret
            exact ⟨rfl, HB.out⟩

end Go.Proofs.Ytcbmifaobdamhaa
/- label: Why and Check, both sides, at any base. -/
namespace Go.Label
open Go.RowKit Go.Own Go.Proofs.Ytcbmifaobdamhaa
def WhyPQ (b : Lg) (s fact : Int) (out : List Int) (E : Int) : Prop := (fitsE b (isB b s) fact ≠ 0 ∧ out = [] ∧ E = fitsE b (isB b s) fact) ∨ (fitsE b (isB b s) fact = 0 ∧ WhyP b s.toNat fact 79 out E)
def WhyRQ (b : Lg) (s fact : Int) (out : List Int) (E : Int) : Prop := (fitsE b (isB b s) fact ≠ 0 ∧ out = [] ∧ E = fitsE b (isB b s) fact) ∨ (fitsE b (isB b s) fact = 0 ∧ WhyR b s.toNat fact out E)
theorem why_all {b : Lg} {s fact : Int} {out out' : List Int} {E E' : Int} (h : WhyPQ b s fact out E) (h' : WhyRQ b s fact out' E') : out = out' ∧ E = E' := by
  rcases h with ⟨h1, h2, h3⟩ | ⟨h1, h2⟩
  · rcases h' with ⟨_, g2, g3⟩ | ⟨g1, _⟩
    · exact ⟨by rw [h2, g2], by rw [h3, g3]⟩
    · exact absurd g1 h1
  · rcases h' with ⟨g1, _⟩ | ⟨_, g2⟩
    · exact absurd h1 g1
    · obtain ⟨v1, v2, v3, v4⟩ := fits0 h1
      exact why_same (valE_ok.1 v1) ⟨v3, v4⟩ h2 g2
theorem fits_val {b : Lg} {isb : Bool} {fact : Int} (h : valE b ≠ 0) : fitsE b isb fact = valE b := by unfold fitsE; rw [if_pos h]
theorem fits_bad {b : Lg} {isb : Bool} {fact : Int} (h : valE b = 0) (h2 : isb = false ∨ fact < -1 ∨ b.facts ≤ fact) : fitsE b isb fact = 1 := by unfold fitsE; rw [if_neg (by simpa using h), if_pos h2]
theorem fits_good {b : Lg} {isb : Bool} {fact : Int} (h : valE b = 0) (h2 : isb = true) (h3 : -1 ≤ fact) (h4 : fact < b.facts) : fitsE b isb fact = 0 := by
  unfold fitsE; rw [if_neg (by simpa using h), if_neg (by rintro (h | h | h); · rw [h2] at h; cases h
                                                          · omega
                                                          · omega)]
theorem whyP_bound {b : Lg} (ok : Ok b) {m : Nat} {fact : Int} (hf : -1 ≤ fact ∧ fact < b.facts) : ∀ j, j < 66 → Quiet b m j → (rIter b m j).1 fact ≠ none → (needN b (rIter b m j).2 fact 79).length ≤ 79 := fun j _ _ _ =>
  Nat.le_trans (need_len ok (fun f v h => ((rIter_ri b m j).a f v h).1) hf 79) (by omega)
end Go.Label
namespace Go.Proofs.Ytcbmifaobdamhaa
open Go.RowKit Go.Own Go.Theory Go.BigFrame Go.Ib Go.Label Go.Shelf
set_option maxRecDepth 100000 in
theorem pwhy_all (b : Lg) (s fact : Int) (sa sr : Option Addr) (ca cr : Nat) (bs : List Value) (hrg : LgRg b) (w : World) (h : LgAt w b sa sr ca cr bs) :
    Calls Try.prog 24 #[lgV b sa sr ca cr, .int .i64 s, .int .i64 fact] w fun e w' => ∃ so co out E, e = .returned (.tuple #[.slice so out.length co, .int .i64 E]) ∧ Sl w' 1 (.slice so out.length co) out.length (out.map (.int .i64)) ∧ WhyPQ b s fact out E ∧ Below w.heap.size w w' := by
  by_cases hfit : fitsE b (isB b s) fact = 0
  · obtain ⟨v1, v2, v3, v4⟩ := fits0 hfit
    refine (pwhy_any b s fact 79 sa sr ca cr bs hrg w h trivial hfit (Nat.le_refl _) (whyP_bound (valE_ok.1 v1) ⟨v3, v4⟩)).mono ?_
    rintro e w' ⟨so, co, out, E, h1, h2, h3, h4⟩
    exact ⟨so, co, out, E, h1, h2, .inr ⟨hfit, h3⟩, h4⟩
  · have hlgV : lgV b sa sr ca cr = .agg #[.int .i64 b.facts, .slice sa b.assume.length ca, .slice sr b.rules.length cr] := rfl
    have hbox := box_new w b sa sr ca cr 25
    obtain ⟨W1, hW1⟩ : ∃ W1, W1 = w.alloc (.cells #[.int .i64 b.facts, .slice sa b.assume.length ca, .slice sr b.rules.length cr] 25) := ⟨_, rfl⟩
    rw [← hW1] at hbox
    have hH := h.below hbox.b1
    have hv := fits_any b s fact sa sr ca cr bs hrg W1 hH trivial
    have hres : WhyPQ b s fact [] (fitsE b (isB b s) fact) := .inl ⟨hfit, rfl, rfl⟩
    rw [hlgV] at hv ⊢
    obtain ⟨E, hE⟩ : ∃ E, E = fitsE b (isB b s) fact := ⟨_, rfl⟩
    rw [← hE] at hv hres hfit
    clear hE
    have HBOX := Lib.hid hbox; clear hbox
    have HH := Lib.hid hH; clear hH h
    have HW1 := Lib.hid hW1; clear hW1
    have HV := Lib.hid hv; clear hv hrg hlgV
    have HRES := Lib.hid hres; clear hres
    have hE1 : (E != 0) = true := by simpa using hfit
    have hE2 : (E = 0) = False := eq_false hfit
    clear hfit
    go_enter Try.func24, Try.ntmps24
    go_wp2_with (fail)
    rw [← HW1.out]
    refine HV.out.mono ?_
    rintro e w2 ⟨rfl, b2⟩
    have HB := Lib.hid (HBOX.out.below b2); clear b2
    go_wp2
    refine bodyPost_ret (results_tmp2 rfl _ _ _) rfl ?_
    exact ⟨none, 0, [], E, rfl, Sl.none0 _, HRES.out, HB.out⟩
set_option maxRecDepth 100000 in
set_option maxHeartbeats 4000000 in
theorem rcheck_any (b : Lg) (s fact : Int) (p : List Int) (sa sr sp : Option Addr) (ca cr cp : Nat) (bs : List Value) (hrg : LgRg b) (w : World) (h : LgAt w b sa sr ca cr bs) (hp : Sl w 1 (.slice sp p.length cp) p.length (p.map (.int .i64))) (hpl : p.length ≤ 1000000) :
    Calls Try.prog 28 #[lgV b sa sr ca cr, .int .i64 s, .int .i64 fact, .slice sp p.length cp] w fun e w' => e = .returned (.int .i64 (checkE b (isB b s) s.toNat fact p)) ∧ Below w.heap.size w w' := by
  have hlgV : lgV b sa sr ca cr = .agg #[.int .i64 b.facts, .slice sa b.assume.length ca, .slice sr b.rules.length cr] := rfl
  have HPS := Lib.hid hp; clear hp
  have hbox := box_new w b sa sr ca cr 25
  obtain ⟨W1, hW1⟩ : ∃ W1, W1 = w.alloc (.cells #[.int .i64 b.facts, .slice sa b.assume.length ca, .slice sr b.rules.length cr] 25) := ⟨_, rfl⟩
  rw [← hW1] at hbox
  have hH := h.below hbox.b1
  have hv := rvalid_any b sa sr ca cr bs hrg W1 hH
  rw [hlgV] at hv ⊢
  have HBOX := Lib.hid hbox; clear hbox
  have HH := Lib.hid hH; clear hH h
  have HW1 := Lib.hid hW1; clear hW1
  have HV := Lib.hid hv; clear hv hrg
  have HLV := Lib.hid hlgV; clear hlgV
  go_enter Try.func28, Try.ntmps28
  go_wp2_with (fail)
  rw [← HW1.out]
  refine HV.out.mono ?_
  clear HV
  rintro e w2 ⟨rfl, b2⟩
  by_cases hval : valE b = 0
  · have HOK := Lib.hid (valE_ok.1 hval)
    have HVAL := Lib.hid hval
    rw [hval]
    clear hval
    obtain ⟨c0, c1, c2⟩ := HBOX.out.cell w2 b2
    have HB2 := Lib.hid b2; clear b2
    have hpis := ris_any b s sa sr ca cr HOK.out.a16 w2
    rw [HLV.out] at hpis
    obtain ⟨isb, hisb⟩ : ∃ isb, isb = isB b s := ⟨_, rfl⟩
    rw [← hisb] at hpis
    have HIS := Lib.hid hisb; clear hisb
    have HPIS := Lib.hid hpis; clear hpis
    go_wp2_with (fail)
    refine HPIS.out.mono ?_
    clear HPIS
    rintro e w3 ⟨rfl, b3⟩
    have b3' : Below W1.heap.size W1 w3 := HB2.out.trans (b3.mono HB2.out.size)
    obtain ⟨c0, c1, c2⟩ := HBOX.out.cell w3 b3'
    have HB3 := Lib.hid b3'; clear b3 b3' HB2
    have hbad : (isb = false ∨ fact < -1 ∨ b.facts ≤ fact) → fitsE b (isB b s) fact = 1 := fun h => by rw [← HIS.out]; exact fits_bad HVAL.out h
    have HBAD := Lib.hid hbad; clear hbad
    have HFB := Lib.hid (HBOX.out.below HB3.out)
    cases isb with
    | false =>
      have h1 := HBAD.out (.inl rfl)
      have H1 := Lib.hid h1; clear h1
      go_wp2
      go_ret
      exact ⟨by rw [check_proves, H1.out]; rfl, HFB.out⟩
    | true =>
      by_cases f1 : fact < -1
      · have h1 := HBAD.out (.inr (.inl f1))
        have H1 := Lib.hid h1; clear h1
        go_wp2
        go_ret
        exact ⟨by rw [check_proves, H1.out]; rfl, HFB.out⟩
      · by_cases f2 : b.facts ≤ fact
        · have h1 := HBAD.out (.inr (.inr f2))
          have H1 := Lib.hid h1; clear h1
          have f1' : (fact < -1) = False := eq_false f1
          clear f1
          go_wp2
          go_ret
          exact ⟨by rw [check_proves, H1.out]; rfl, HFB.out⟩
        · have h1 : fitsE b (isB b s) fact = 0 := by rw [← HIS.out]; exact fits_good HVAL.out rfl (by omega) (by omega)
          have H1 := Lib.hid h1; clear h1
          obtain ⟨m, rfl, hm⟩ := isB_nat HOK.out HIS.out.symm
          have hf0 := HOK.out.f0
          obtain ⟨F, hF⟩ : ∃ F : Nat, b.facts = F := ⟨b.facts.toNat, by omega⟩
          have hpr := rproves_any b m F fact p sa sr sp ca cr cp bs HOK.out hF hm ⟨by omega, by omega⟩ w3 (HH.out.below HB3.out) (HPS.out.below ((HBOX.out.below HB3.out).mono (Nat.le_refl _))) hpl
          rw [HLV.out] at hpr
          have f1' : (fact < -1) = False := eq_false f1
          have f2' : (b.facts ≤ fact) = False := eq_false f2
          clear f1 f2 hf0 hF
          obtain ⟨R, hR⟩ : ∃ R, R = provesB b m fact p := ⟨_, rfl⟩
          rw [← hR] at hpr
          have HR := Lib.hid hR; clear hR
          have HPR := Lib.hid hpr; clear hpr
          go_wp2_with (fail)
          refine HPR.out.mono ?_
          rintro e w4 ⟨rfl, b4⟩
          have HF4 := Lib.hid (HBOX.out.below (HB3.out.trans (b4.mono HB3.out.size))); clear b4 c0 c1 c2
          have hfin : checkE b (isB b (m : Int)) (m : Int).toNat fact p = if R then 0 else 22 := by rw [check_proves, H1.out, Int.toNat_natCast, ← HR.out]; rfl
          have HFIN := Lib.hid hfin; clear hfin
          cases R with
          | false =>
            go_wp2
            go_ret
            exact ⟨by rw [HFIN.out]; rfl, HF4.out⟩
          | true =>
            go_wp2
            go_ret
            exact ⟨by rw [HFIN.out]; rfl, HF4.out⟩
  · have hb := HBOX.out.below b2
    have HFB := Lib.hid hb; clear hb b2
    have h1 : fitsE b (isB b s) fact = valE b := fits_val hval
    have H1 := Lib.hid h1; clear h1
    have hv2 : (valE b != 0) = true := by simpa using hval
    have hv3 : (valE b = 0) = False := eq_false hval
    have HNV := Lib.hid hval; clear hval
    go_wp2
    go_ret
    exact ⟨by rw [check_proves, H1.out, if_pos HNV.out]; rfl, HFB.out⟩
set_option maxRecDepth 100000 in
set_option maxHeartbeats 4000000 in
theorem rwhy_bad (b : Lg) (s fact : Int) (sa sr : Option Addr) (ca cr : Nat) (bs : List Value) (hrg : LgRg b) (w : World) (h : LgAt w b sa sr ca cr bs) (hfit : fitsE b (isB b s) fact ≠ 0) :
    Calls Try.prog 25 #[lgV b sa sr ca cr, .int .i64 s, .int .i64 fact] w fun e w' => e = .returned (.tuple #[.slice none 0 0, .int .i64 (fitsE b (isB b s) fact)]) ∧ Below w.heap.size w w' := by
  have hlgV : lgV b sa sr ca cr = .agg #[.int .i64 b.facts, .slice sa b.assume.length ca, .slice sr b.rules.length cr] := rfl
  have HFT := Lib.hid hfit; clear hfit
  have hbox := box_new w b sa sr ca cr 25
  obtain ⟨W1, hW1⟩ : ∃ W1, W1 = w.alloc (.cells #[.int .i64 b.facts, .slice sa b.assume.length ca, .slice sr b.rules.length cr] 25) := ⟨_, rfl⟩
  rw [← hW1] at hbox
  have hH := h.below hbox.b1
  have hv := rvalid_any b sa sr ca cr bs hrg W1 hH
  rw [hlgV] at hv ⊢
  have HBOX := Lib.hid hbox; clear hbox
  have HH := Lib.hid hH; clear hH h
  have HW1 := Lib.hid hW1; clear hW1
  have HV := Lib.hid hv; clear hv hrg
  have HLV := Lib.hid hlgV; clear hlgV
  go_enter Try.func25, Try.ntmps25
  go_wp2_with (fail)
  rw [← HW1.out]
  refine HV.out.mono ?_
  clear HV
  rintro e w2 ⟨rfl, b2⟩
  by_cases hval : valE b = 0
  · have HOK := Lib.hid (valE_ok.1 hval)
    have HVAL := Lib.hid hval
    rw [hval]
    clear hval
    obtain ⟨c0, c1, c2⟩ := HBOX.out.cell w2 b2
    have HB2 := Lib.hid b2; clear b2
    have hpis := ris_any b s sa sr ca cr HOK.out.a16 w2
    rw [HLV.out] at hpis
    obtain ⟨isb, hisb⟩ : ∃ isb, isb = isB b s := ⟨_, rfl⟩
    rw [← hisb] at hpis
    have HIS := Lib.hid hisb; clear hisb
    have HPIS := Lib.hid hpis; clear hpis
    go_wp2_with (fail)
    refine HPIS.out.mono ?_
    clear HPIS
    rintro e w3 ⟨rfl, b3⟩
    have b3' : Below W1.heap.size W1 w3 := HB2.out.trans (b3.mono HB2.out.size)
    obtain ⟨c0, c1, c2⟩ := HBOX.out.cell w3 b3'
    have HB3 := Lib.hid b3'; clear b3 b3' HB2
    have hbad : (isb = false ∨ fact < -1 ∨ b.facts ≤ fact) → fitsE b (isB b s) fact = 1 := fun h => by rw [← HIS.out]; exact fits_bad HVAL.out h
    have HBAD := Lib.hid hbad; clear hbad
    have HFB := Lib.hid (HBOX.out.below HB3.out)
    cases isb with
    | false =>
      have h1 := HBAD.out (.inl rfl)
      have H1 := Lib.hid h1; clear h1
      go_wp2
      refine bodyPost_ret (results_tmp2 rfl _ _ _) rfl ?_
      exact ⟨by rw [H1.out]; rfl, HFB.out⟩
    | true =>
      by_cases f1 : fact < -1
      · have h1 := HBAD.out (.inr (.inl f1))
        have H1 := Lib.hid h1; clear h1
        go_wp2
        refine bodyPost_ret (results_tmp2 rfl _ _ _) rfl ?_
        exact ⟨by rw [H1.out]; rfl, HFB.out⟩
      · by_cases f2 : b.facts ≤ fact
        · have h1 := HBAD.out (.inr (.inr f2))
          have H1 := Lib.hid h1; clear h1
          have f1' : (fact < -1) = False := eq_false f1
          clear f1
          go_wp2
          refine bodyPost_ret (results_tmp2 rfl _ _ _) rfl ?_
          exact ⟨by rw [H1.out]; rfl, HFB.out⟩
        · have h1 : fitsE b (isB b s) fact = 0 := by rw [← HIS.out]; exact fits_good HVAL.out rfl (by omega) (by omega)
          exact absurd h1 HFT.out
  · have hb := HBOX.out.below b2
    have HFB := Lib.hid hb; clear hb b2
    have h1 : fitsE b (isB b s) fact = valE b := fits_val hval
    have H1 := Lib.hid h1; clear h1
    have hv2 : (valE b != 0) = true := by simpa using hval
    have hv3 : (valE b = 0) = False := eq_false hval
    have HNV := Lib.hid hval; clear hval
    go_wp2
    refine bodyPost_ret (results_tmp2 rfl _ _ _) rfl ?_
    exact ⟨by rw [H1.out]; rfl, HFB.out⟩
theorem rwhy_all (b : Lg) (s fact : Int) (sa sr : Option Addr) (ca cr : Nat) (bs : List Value) (hrg : LgRg b) (w : World) (h : LgAt w b sa sr ca cr bs) :
    Calls Try.prog 25 #[lgV b sa sr ca cr, .int .i64 s, .int .i64 fact] w fun e w' => ∃ so co out E, e = .returned (.tuple #[.slice so out.length co, .int .i64 E]) ∧ Sl w' 1 (.slice so out.length co) out.length (out.map (.int .i64)) ∧ WhyRQ b s fact out E ∧ Below w.heap.size w w' := by
  by_cases hfit : fitsE b (isB b s) fact = 0
  · refine (rwhy_any b s fact sa sr ca cr bs hrg w h hfit).mono ?_
    rintro e w' ⟨so, co, out, E, h1, h2, h3, h4⟩
    exact ⟨so, co, out, E, h1, h2, .inr ⟨hfit, h3⟩, h4⟩
  · refine (rwhy_bad b s fact sa sr ca cr bs hrg w h hfit).mono ?_
    rintro e w' ⟨h1, h2⟩
    exact ⟨none, 0, [], _, h1, Sl.none0 _, .inl ⟨hfit, rfl, rfl⟩, h2⟩
end Go.Proofs.Ytcbmifaobdamhaa

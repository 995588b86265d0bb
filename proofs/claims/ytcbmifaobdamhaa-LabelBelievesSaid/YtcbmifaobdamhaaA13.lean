/- label: the program's Follows. -/
import Derived.Test.YtcbmifaobdamhaaA12
import Derived.Test.YtcbmifaobdamhaaSqa
namespace Go.Label
open Go.RowKit Go.Own Go.Proofs.Ytcbmifaobdamhaa
/-- what Follows answers -/
def folsL (b : Lg) (s : Int) : List Bool := if valE b = 0 ∧ isB b s = true then (List.range b.facts.toNat).map fun f => (fol b s.toNat).testBit f else []
def folsB (b : Lg) (s : Int) : Bool := decide (valE b = 0) && isB b s && badS b s.toNat
def bF (K i : Nat) (j : Nat) : Value := .bool (if j < i then K.testBit j else false)
theorem isB_nat {b : Lg} (ok : Ok b) {s : Int} (h : isB b s = true) : ∃ m : Nat, s = m ∧ m < 65536 := by
  unfold isB at h
  rw [Bool.and_eq_true, decide_eq_true_eq, decide_eq_true_eq] at h
  have hp := Theory.pow16 ok.a16
  exact ⟨s.toNat, by omega, by omega⟩
theorem Sl.none0 (w : World) : Sl w 1 (.slice none 0 0) 0 [] := ⟨rfl, .inl ⟨rfl, rfl⟩⟩
theorem folsL_bad {b : Lg} {s : Int} (h : valE b ≠ 0 ∨ isB b s = false) : folsL b s = [] := by
  unfold folsL
  rw [if_neg]
  rintro ⟨h1, h2⟩
  rcases h with h | h
  · exact h h1
  · rw [h] at h2; cases h2
theorem folsB_bad {b : Lg} {s : Int} (h : valE b ≠ 0 ∨ isB b s = false) : folsB b s = false := by
  unfold folsB
  rcases h with h | h
  · rw [decide_eq_false h]; rfl
  · rw [h, Bool.and_false]; rfl
end Go.Label
namespace Go.Proofs.Ytcbmifaobdamhaa
open Go.RowKit Go.Own Go.Theory Go.BigFrame Go.Ib Go.Label Go.Shelf
theorem mk_bools (n : Nat) (hn : n ≤ 1000000) (u : World) : (Instr.makeSlice 27 (.int .i64 n) (.int .i64 n)).run Try.prog u = .ok (.slice (some ⟨u.heap.size, 0, none⟩) n n) (u.alloc (.cells (Array.replicate n (.bool false)) 4)) :=
  run_make_one (.bool false) 1 (by kernel_rfl) (by kernel_rfl) rfl n (by omega) (by unfold maxLen; omega) u
theorem aggB : (match Try.prog.underlying 25 with | some (.struct _) | some (.array _ _) => true | _ => false) = true := by kernel_rfl
theorem infoB : (Try.prog.info? 25).map (·.size) = some 3 := by kernel_rfl
theorem sqw_nil {P : Program} {l : List Oper} {ps : List Nat} {Ext : World → World → Prop} {w0 : World} {Post : Nat → Value → World → Prop} {Fin : Act → Prop} {k : Nat} {a : Act} (h : Fin a) : SqW P l ps Ext w0 Post Fin k [] a := h
attribute [local irreducible] SqW
set_option maxRecDepth 100000 in
set_option maxHeartbeats 4000000 in
theorem pfollows_any (b : Lg) (s : Int) (sa sr : Option Addr) (ca cr : Nat) (bs : List Value) (hrg : LgRg b) (w : World) (h : LgAt w b sa sr ca cr bs) (hal : True) :
    Calls Try.prog 10 #[lgV b sa sr ca cr, .int .i64 s] w fun e w' => ∃ so co, e = .returned (.tuple #[.slice so (folsL b s).length co, .bool (folsB b s)]) ∧ Sl w' 1 (.slice so (folsL b s).length co) (folsL b s).length ((folsL b s).map .bool) ∧ Below w.heap.size w w' := by
  have hlgV : lgV b sa sr ca cr = .agg #[.int .i64 b.facts, .slice sa b.assume.length ca, .slice sr b.rules.length cr] := rfl
  have hbox := box_new w b sa sr ca cr 25
  obtain ⟨W1, hW1⟩ : ∃ W1, W1 = w.alloc (.cells #[.int .i64 b.facts, .slice sa b.assume.length ca, .slice sr b.rules.length cr] 25) := ⟨_, rfl⟩
  have hblk : Blk W1 w.heap.size [.int .i64 b.facts, .slice sa b.assume.length ca, .slice sr b.rules.length cr] 25 := by rw [hW1]; exact Blk.new w #[.int .i64 b.facts, .slice sa b.assume.length ca, .slice sr b.rules.length cr] 25
  rw [← hW1] at hbox
  have hH := h.below hbox.b1
  have hv := pvalid_any b sa sr ca cr bs hrg W1 hH hal
  rw [hlgV] at hv ⊢
  have HBLK := Lib.hid hblk; clear hblk
  have HBOX := Lib.hid hbox; clear hbox
  have HH := Lib.hid hH; clear hH h
  have HW1 := Lib.hid hW1; clear hW1
  have HV := Lib.hid hv; clear hv hrg
  have HLV := Lib.hid hlgV; clear hlgV
  go_enter Try.func10, Try.ntmps10
  go_wp2_with (fail)
  rw [← HW1.out]
  refine HV.out.mono ?_
  rintro e w2 ⟨rfl, b2⟩
  by_cases hval : valE b = 0
  · have HOK := Lib.hid (valE_ok.1 hval)
    have HVAL := Lib.hid hval
    rw [hval]
    clear hval
    obtain ⟨c0, c1, c2⟩ := HBOX.out.cell w2 b2
    have HB2 := Lib.hid b2; clear b2
    have hpis := pis_any b s sa sr ca cr HOK.out.a16 w2
    rw [HLV.out] at hpis
    have HPIS := Lib.hid hpis; clear hpis
    go_wp2_with (fail)
    refine HPIS.out.mono ?_
    rintro e w3 ⟨rfl, b3⟩
    have b3' : Below W1.heap.size W1 w3 := HB2.out.trans (b3.mono HB2.out.size)
    have HB3 := Lib.hid b3'; clear b3 b3' c0 c1 c2
    cases his : isB b s with
    | false =>
      have e1 := folsL_bad (b := b) (s := s) (.inr his)
      have e2 := folsB_bad (b := b) (s := s) (.inr his)
      have E1 := Lib.hid e1
      have E2 := Lib.hid e2
      clear e1 e2 his
      go_wp2
      refine bodyPost_ret (results_tmp2 rfl _ _ _) rfl ?_
      rw [E1.out, E2.out]
      exact ⟨none, 0, rfl, Sl.none0 _, HBOX.out.below HB3.out⟩
    | true =>
      have hv0 := HVAL.out
      have e1 : folsL b s = (List.range b.facts.toNat).map fun f => (fol b s.toNat).testBit f := by unfold folsL; rw [if_pos ⟨hv0, his⟩]
      have e2 : folsB b s = badS b s.toNat := by unfold folsB; rw [decide_eq_true hv0, his]; rfl
      obtain ⟨m, rfl, hm⟩ := isB_nat HOK.out his
      rw [Int.toNat_natCast] at e1 e2
      have E1 := Lib.hid e1
      have E2 := Lib.hid e2
      clear e1 e2 hv0
      have HIS := Lib.hid his; clear his
      have hf64 := HOK.out.f64
      have hf0 := HOK.out.f0
      obtain ⟨F, hF⟩ : ∃ F : Nat, b.facts = F := ⟨b.facts.toNat, by omega⟩
      have hmk := mk_bools F (by omega)
      have HMK := Lib.hid hmk; clear hmk
      have hlt1 : w.heap.size < W1.heap.size := HBOX.out.z1
      go_wp2
      refine wp_region_sqA 12 [0, 1, 2, 3, 5, 6] (fun i v W => match i with
        | 0 => v = .agg #[.int .i64 b.facts, .slice sa b.assume.length ca, .slice sr b.rules.length cr]
        | 1 => v = .agg #[.int .i64 b.facts, .slice sa b.assume.length ca, .slice sr b.rules.length cr]
        | 2 => ∃ G, v = .slice (some ⟨G, 0, none⟩) b.rules.length b.rules.length ∧ Sl W 1 (.slice (some ⟨G, 0, none⟩) b.rules.length b.rules.length) b.rules.length (b.rules.map fun r => .int .u64 (msk r.body : Nat))
        | 3 => v = .agg #[.int .i64 b.facts, .slice sa b.assume.length ca, .slice sr b.rules.length cr]
        | 5 => v = .int .u64 (giv b m : Nat)
        | 6 => v = .tuple #[.int .u64 (fol b m : Nat), .bool (badS b m)]
        | _ => True) (by kernel_rfl) (by kernel_rfl) (by kernel_rfl) ?stable ?main
      case stable =>
        intro i v W W' h hb
        match i, h with
        | 0, h => exact h
        | 1, h => exact h
        | 2, h => obtain ⟨G, h1, h2⟩ := h; exact ⟨G, h1, h2.below hb⟩
        | 3, h => exact h
        | 4, h => exact h
        | 5, h => exact h
        | 6, h => exact h
        | _ + 7, _ => exact trivial
      have hld : ∀ U, ExtB w3.drew U → (loadVar 25 ⟨w.heap.size, 0, none⟩).run Try.prog U = .ok (.agg #[.int .i64 b.facts, .slice sa b.assume.length ca, .slice sr b.rules.length cr]) U := fun U hU =>
        run_load_agg (P := Try.prog) (ty := 25) (HBLK.out.below (HB3.out.trans ((ExtB.undrew hU).mono HB3.out.size)) HBLK.out.lt).cells0 aggB infoB
      have hHU : ∀ U, ExtB w3.drew U → LgAt U b sa sr ca cr bs := fun U hU => HH.out.below (HB3.out.trans ((ExtB.undrew hU).mono HB3.out.size))
      refine sqw_postY rfl rfl rfl ?_ ?_
      · intro U hb hf
        exact yields_value (load_agg_exec rfl rfl (hld U hb)) ⟨rfl, ExtB.refl _⟩
      intro v Wj hv
      obtain rfl : v = .agg #[.int .i64 b.facts, .slice sa b.assume.length ca, .slice sr b.rules.length cr] := hv
      simp only [Act.put, List.setIfInBounds_toArray, List.set_cons_zero, List.set_cons_succ]
      refine sqw_postY rfl rfl rfl ?_ ?_
      · intro U hb hf
        exact yields_value (load_agg_exec rfl rfl (hld U hb)) ⟨rfl, ExtB.refl _⟩
      intro v Wj hv
      obtain rfl : v = .agg #[.int .i64 b.facts, .slice sa b.assume.length ca, .slice sr b.rules.length cr] := hv
      simp only [Act.put, List.setIfInBounds_toArray, List.set_cons_zero, List.set_cons_succ]
      refine sqw_postY rfl rfl rfl ?_ ?_
      · intro U hb hf
        have hc := masks_any b sa sr ca cr bs HOK.out U (hHU U hb)
        rw [HLV.out] at hc
        refine yields_call rfl (by kernel_rfl) rfl rfl (hc.mono ?_)
        rintro e w6 ⟨G, hG, rfl, hB, b6⟩
        refine ⟨_, rfl, ⟨G, rfl, ?_⟩, b6⟩
        have h64 := HOK.out.r64
        exact ⟨by simp, .inr ⟨G, 0, _, rfl, Nat.le_refl _, by unfold maxLen; omega, hB.cells0, hB.lt⟩⟩
      intro v Wj hv
      obtain ⟨G, rfl, _⟩ := hv
      simp only [Act.put, List.setIfInBounds_toArray, List.set_cons_zero, List.set_cons_succ]
      refine sqw_postY rfl rfl rfl ?_ ?_
      · intro U hb hf
        exact yields_value (load_agg_exec rfl rfl (hld U hb)) ⟨rfl, ExtB.refl _⟩
      intro v Wj hv
      obtain rfl : v = .agg #[.int .i64 b.facts, .slice sa b.assume.length ca, .slice sr b.rules.length cr] := hv
      simp only [Act.put, List.setIfInBounds_toArray, List.set_cons_zero, List.set_cons_succ]
      refine sqw_quiet rfl rfl (ExtB.refl _) ?_; go_big_quiet_step (fail); refine wpQuiet_nil ?_
      refine sqw_postY rfl rfl rfl ?_ ?_
      · intro U hb hf
        have hc := given_any b m sa sr ca cr bs HOK.out hm U (hHU U hb)
        rw [HLV.out] at hc
        refine yields_call rfl (by kernel_rfl) rfl rfl (hc.mono ?_)
        rintro e w6 ⟨rfl, b6⟩
        exact ⟨_, rfl, rfl, b6⟩
      intro v Wj hv
      obtain rfl : v = .int .u64 (giv b m : Nat) := hv
      simp only [Act.put, List.setIfInBounds_toArray, List.set_cons_zero, List.set_cons_succ]
      refine sqw_postY rfl rfl rfl ?_ ?_
      · intro U hb hf
        obtain ⟨G', hG', hsl⟩ := hf 2 22 (by kernel_rfl) rfl rfl (fun o h => by obtain rfl := Option.some.inj h; rfl)
        have hG2 : Value.slice (some ⟨G, 0, none⟩) b.rules.length b.rules.length = .slice (some ⟨G', 0, none⟩) b.rules.length b.rules.length := hG'
        injection hG2 with h1
        rw [← h1] at hsl
        have hc := closed_any b m sa sr (some ⟨G, 0, none⟩) ca cr b.rules.length bs HOK.out U (hHU U hb) hsl
        rw [HLV.out] at hc
        refine yields_call rfl (by kernel_rfl) rfl rfl (hc.mono ?_)
        rintro e w6 ⟨rfl, b6⟩
        exact ⟨_, rfl, rfl, b6⟩
      intro v Wj hv
      obtain rfl : v = .tuple #[.int .u64 (fol b m : Nat), .bool (badS b m)] := hv
      simp only [Act.put, List.setIfInBounds_toArray, List.set_cons_zero, List.set_cons_succ]
      iterate 5 (refine sqw_quiet rfl rfl (ExtB.refl _) ?_; go_big_quiet_step (fail); refine wpQuiet_nil ?_)
      refine sqw_nil ?_
      intro w6 hb6 _
      have hb6' : Below W1.heap.size W1 w6 := HB3.out.trans ((ExtB.undrew hb6).mono HB3.out.size)
      clear hld hHU hb6
      obtain ⟨c0, c1, c2⟩ := HBOX.out.cell w6 hb6'
      rw [hF] at c0
      have HB6 := Lib.hid hb6'; clear hb6'
      obtain ⟨K, hK⟩ : ∃ K, K = fol b m := ⟨_, rfl⟩
      have hK64 := (fol_spec HOK.out m).1
      rw [← hK] at hK64 ⊢
      have HK := Lib.hid hK; clear hK
      obtain ⟨BD, hBD⟩ : ∃ BD, BD = badS b m := ⟨_, rfl⟩
      rw [← hBD]
      have HBD := Lib.hid hBD; clear hBD
      have hF64 : F ≤ 64 := by omega
      have HF := Lib.hid hF; clear hF
      have hmk := HMK.out
      obtain ⟨W7, hW7⟩ : ∃ W7, W7 = w6.alloc (.cells (Array.replicate F (.bool false)) 4) := ⟨_, rfl⟩
      have b7 : Below W1.heap.size W1 W7 := by rw [hW7]; exact HB6.out.alloc HB6.out.size _
      have hg7 : Blk W7 w6.heap.size (rm F (bF K 0)) 4 := by
        rw [hW7]
        have := blk_make w6 F (.bool false) 4
        rw [rm_rep] at this
        rw [show bF K 0 = fun _ => Value.bool false from funext fun j => by unfold bF; simp]
        exact this
      have hW7' : w6.alloc (.cells (Array.replicate F (.bool false)) 4) = W7 := hW7.symm
      have HW7 := Lib.hid hW7'; clear hW7' hW7
      have HB7 := Lib.hid b7; clear b7
      have HG7 := Lib.hid hg7; clear hg7
      have z6 := HB6.out.size
      clear hf64 hf0
      go_wp2
      rw [HW7.out]
      clear hmk c0 c1 c2
      go_loopw [34] (fun vi wq => ∃ i : Nat, i ≤ F ∧ vi = .int .i64 i ∧ Blk wq w6.heap.size (rm F (bF K i)) 4 ∧ Below W1.heap.size W1 wq) (fun vi _ => F - (vInt vi).toNat)
      case atStart => exact ⟨0, by omega, rfl, HG7.out, HB7.out⟩
      case round =>
        obtain ⟨i, hi, rfl, hg, hbq⟩ := hrel
        by_cases h1 : i < F
        · have h1' : (i : Int) < F := by omega
          have hand := bu_and1 (K := K) (k := i) hK64
          have cF : wr.frozen? ⟨w6.heap.size, i, none⟩ = false := hg.frozen i
          have cO : wr.cell? ⟨w6.heap.size, i, none⟩ = some (bF K i i) := hg.cell (by rw [rm_get h1])
          have hset := hg.set i (.bool (K.testBit i))
          have e : (fun j => if j = i then Value.bool (K.testBit i) else bF K i j) = bF K (i + 1) := by
            funext j
            unfold bF
            by_cases e1 : j = i
            · subst e1; rw [if_pos rfl, if_pos (by omega)]
            · rw [if_neg e1]
              by_cases e2 : j < i
              · rw [if_pos e2, if_pos (by omega)]
              · rw [if_neg e2, if_neg (by omega)]
          rw [rm_set, e] at hset
          clear e hg
          have HSET := Lib.hid hset; clear hset
          have HBQ := Lib.hid hbq; clear hbq
          cases htb : K.testBit i with
          | true =>
            rw [htb, if_pos rfl] at hand
            rw [htb] at HSET
            have HTB := Lib.hid htb; clear htb
            go_wp2
            go_roundw
            case rel => exact ⟨i + 1, by omega, by go_num, HSET.out, below_set HBQ.out (Nat.le_refl _) z6 _ _⟩
            case measure => simp [vInt]; omega
          | false =>
            rw [htb, if_neg Bool.false_ne_true] at hand
            rw [htb] at HSET
            have HTB := Lib.hid htb; clear htb
            go_wp2
            go_roundw
            case rel => exact ⟨i + 1, by omega, by go_num, HSET.out, below_set HBQ.out (Nat.le_refl _) z6 _ _⟩
            case measure => simp [vInt]; omega
        · have h1' : (F : Int) ≤ i := by omega
          obtain rfl : i = F := by omega
          have HG := Lib.hid hg; clear hg
          have HBQ := Lib.hid hbq; clear hbq
          go_wp2
          refine bodyPost_ret (results_tmp2 rfl _ _ _) rfl ?_
          have eL : folsL b (m : Int) = (List.range i).map fun f => K.testBit f := by
            rw [E1.out, HF.out, ← HK.out]; rfl
          have eN : (folsL b (m : Int)).length = i := by rw [eL]; simp
          have hb := HBOX.out.below HBQ.out
          refine ⟨some ⟨w6.heap.size, 0, none⟩, i, ?_, ?_, hb⟩
          · rw [eN, E2.out, HBD.out]; rfl
          · rw [eN, eL, List.map_map]
            refine ⟨by simp, .inr ⟨w6.heap.size, 0, _, rfl, Nat.le_refl _, by unfold maxLen; omega, ?_, HG.out.lt⟩⟩
            have h := HG.out.cells0
            rw [rm_congr (g := fun j => Value.bool (K.testBit j)) (fun j hj => by unfold bF; rw [if_pos hj])] at h
            exact h
  · have e1 := folsL_bad (b := b) (s := s) (.inl hval)
    have e2 := folsB_bad (b := b) (s := s) (.inl hval)
    have E1 := Lib.hid e1
    have E2 := Lib.hid e2
    have hb := HBOX.out.below b2
    have HB := Lib.hid hb; clear hb b2 e1 e2
    have hv2 : (valE b != 0) = true := by simpa using hval
    have hv3 : (valE b = 0) = False := eq_false hval
    clear hval
    go_wp2
    refine bodyPost_ret (results_tmp2 rfl _ _ _) rfl ?_
    rw [E1.out, E2.out]
    exact ⟨none, 0, rfl, Sl.none0 _, HB.out⟩
end Go.Proofs.Ytcbmifaobdamhaa

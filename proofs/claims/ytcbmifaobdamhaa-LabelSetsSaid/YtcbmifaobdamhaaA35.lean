/- label: the walk over the reference's Labels. -/
import Derived.Test.YtcbmifaobdamhaaA34
import Derived.Test.YtcbmifaobdamhaaA37
namespace Go.Proofs.Ytcbmifaobdamhaa
open Go.RowKit Go.Own Go.Theory Go.BigFrame Go.Ib Go.Label Go.Shelf
attribute [local irreducible] SqC.SqW
set_option maxRecDepth 100000 in
set_option maxHeartbeats 4000000 in
theorem rlabels_any (b : Lg) (F : Nat) (sa sr : Option Addr) (ca cr : Nat) (bs : List Value) (hrg : LgRg b) (w : World) (h : LgAt w b sa sr ca cr bs) (ok : Ok b) (hF : b.facts = F) (h8 : b.assume.length ≤ 8) :
    Calls Try.prog 18 #[lgV b sa sr ca cr] w fun e w' => ∃ P vs sb cb, e = .returned (.tuple #[.slice (some ⟨P, 0, none⟩) F F, .slice sb (labs b).bad.length cb, .int .i64 0]) ∧ LabR 37 w' P F vs (.slice sb (labs b).bad.length cb) (labs b) ∧ Below w.heap.size w w' := by
  have hlgV : lgV b sa sr ca cr = .agg #[.int .i64 F, .slice sa b.assume.length ca, .slice sr b.rules.length cr] := by unfold lgV; rw [hF]
  have hbox := box_new w b sa sr ca cr 25
  rw [hF] at hbox
  obtain ⟨W1, hW1⟩ : ∃ W1, W1 = w.alloc (.cells #[.int .i64 F, .slice sa b.assume.length ca, .slice sr b.rules.length cr] 25) := ⟨_, rfl⟩
  have hblk : Blk W1 w.heap.size [.int .i64 F, .slice sa b.assume.length ca, .slice sr b.rules.length cr] 25 := by rw [hW1]; exact Blk.new w #[.int .i64 F, .slice sa b.assume.length ca, .slice sr b.rules.length cr] 25
  rw [← hW1] at hbox
  have hH := h.below hbox.b1
  have hv := rvalid_any b sa sr ca cr bs hrg W1 hH
  rw [hlgV] at hv ⊢
  rw [valE_ok.2 ok] at hv
  have hboxc : ∀ U, Below W1.heap.size W1 U → U.cell? ⟨w.heap.size, 0, none⟩ = some (.int .i64 F) := fun U hU => by
    have := (hbox.cell U hU).1
    rwa [hF] at this
  have HC := Lib.hid hboxc; clear hboxc
  have HBLK := Lib.hid hblk; clear hblk
  have HBOX := Lib.hid hbox; clear hbox
  have HH := Lib.hid hH; clear hH h
  have HW1 := Lib.hid hW1; clear hW1
  have HV := Lib.hid hv; clear hv hrg
  have HLV := Lib.hid hlgV; clear hlgV
  have HOK := Lib.hid ok
  have hf64 := ok.f64
  rw [hF] at hf64
  clear ok
  have HFe := Lib.hid hF
  have hF64 : F ≤ 64 := by omega
  clear hF
  obtain ⟨n, hn⟩ : ∃ n, n = b.assume.length := ⟨_, rfl⟩
  go_enter Try.func18, Try.ntmps18
  go_wp2_with (fail)
  rw [← HW1.out]
  refine HV.out.mono ?_
  clear HV
  rintro e w2 ⟨rfl, b2⟩
  obtain ⟨c0, c1, c2⟩ := HBOX.out.cell w2 b2
  rw [HFe.out] at c0
  obtain ⟨P, hP⟩ : ∃ P, P = w2.heap.size := ⟨_, rfl⟩
  have z1 := HBOX.out.z1
  have zP : W1.heap.size ≤ P := by rw [hP]; exact b2.size
  have hmk := mk_sets F (by omega)
  obtain ⟨W3, hW3⟩ : ∃ W3, W3 = w2.alloc (.cells (Array.replicate F (.slice none 0 0)) 37) := ⟨_, rfl⟩
  have b3 : Below W1.heap.size W1 W3 := by rw [hW3]; exact b2.alloc b2.size _
  have sz3 : W3.heap.size = P + 1 := by rw [hW3]; simp [hP]
  have k1 : Blk W3 P (rm F fun _ => .slice none 0 0) 37 := by
    have := blk_make w2 F (.slice none 0 0) 37
    rw [rm_rep, ← hP] at this
    rw [hW3]
    exact this
  have hord := ordered_any n (by omega) W3
  obtain ⟨d0, d1, d2⟩ := HBOX.out.cell W3 b3
  rw [← hn] at c1 d1 h8
  have HN := Lib.hid hn
  rw [← hn]
  have HB3 := Lib.hid b3; clear b3 b2
  have K1 := Lib.hid k1; clear k1
  have HW3 := Lib.hid hW3; clear hW3
  have HP := Lib.hid hP; clear hP
  have HORD := Lib.hid hord; clear hord
  have hz1 : w.heap.size < w2.heap.size := by have := HP.out; omega
  clear d0 d1 d2 hn
  go_wp2_with (fail)
  rw [← HW3.out]
  refine HORD.out.mono ?_
  clear HORD c0 c1 c2 hmk hz1
  rintro e w4 ⟨vo, rfl, ho4, b4⟩
  simp only [← HP.out]
  have b4' : Below W1.heap.size W1 w4 := HB3.out.trans (b4.mono HB3.out.size)
  have hNl : (ordL n).length ≤ 2304 := ordL_len h8
  have hNp : 0 < (ordL n).length := List.length_pos_of_mem (ordL_mem.2 (Nat.pow_pos (by omega) : 0 < 2 ^ n))
  have hmem : ∀ t ∈ ordL n, t < 256 := fun t ht => ordL_lt h8 ht
  have hpre : ∀ i, Inv b ((ordL n).take i) (lfold b ((ordL n).take i)) := fun i => pre_inv HOK.out n i
  have hlabs : labs b = lfold b (ordL n) := by unfold labs; rw [← HN.out]
  obtain ⟨O, hO⟩ : ∃ O, O = ordL n := ⟨_, rfl⟩
  rw [← hO] at ho4 hNl hNp hmem hlabs
  simp only [← hO] at hpre
  clear hO
  obtain ⟨g, cg, sp, rfl, hg3, _, _, hbg⟩ := own_blk ho4 hNp
  have hP4 : Blk w4 P (rm F fun _ => .slice none 0 0) 37 := K1.out.below (b4.mono (Nat.le_refl _)) (by omega)
  have zP4 : P < w4.heap.size := hP4.lt
  have hgP : g ≠ P := by omega
  have oL : LabN 37 26 w4 w4 P F (fun _ => []) [] (fun _ => .slice none 0 0) (.slice none 0 0) :=
    ⟨zP4, hP4, fun f hf => World.ownsRow_nil _ _ _ _, World.ownsRow_nil _ _ _ _, (fun _ _ k _ _ _ h => by cases h), (fun _ k _ h => by cases h), Chg.refl _ _⟩
  have OB := Lib.hid b4'; clear b4' b4
  have OL := Lib.hid oL; clear oL hP4
  have HG := Lib.hid hbg; clear hbg ho4
  have HMEM := Lib.hid hmem; clear hmem
  have HPRE := Lib.hid hpre; clear hpre
  have HLABS := Lib.hid hlabs; clear hlabs
  clear K1 HB3 HW3
  go_wp2
  go_loopw [7, 9] (fun v7 vi wq => ∃ i : Nat, i ≤ O.length ∧ vi = .int .i64 i ∧ ∃ vs, LabN 37 26 w4 wq P F (lfold b (O.take i)).lab (lfold b (O.take i)).bad vs v7) (fun _ vi _ => O.length - (vInt vi).toNat)
  case atStart => exact ⟨0, by omega, rfl, _, OL.out⟩
  case round =>
    obtain ⟨i, hi, rfl, vs, hL⟩ := hrel
    obtain ⟨sb, cb, rfl, _⟩ := own_slice hL.ownb
    have zr := hL.size
    have hbase : Below W1.heap.size W1 wr := hL.low OB.out zP
    by_cases hiO : i < O.length
    · have hiO' : (i : Int) < O.length := by omega
      obtain ⟨s, hs⟩ : ∃ s, s = O[i] := ⟨_, rfl⟩
      have hs6 : s < 256 := by rw [hs]; exact HMEM.out _ (List.getElem_mem hiO)
      have htk : O.take (i + 1) = O.take i ++ [s] := by rw [List.take_succ_eq_append_getElem hiO, hs]
      have hst : lfold b (O.take (i + 1)) = lstep b (lfold b (O.take i)) s := by rw [htk, lfold_snoc]
      have hinv := HPRE.out i
      have hlen := lfold_len b (O.take i)
      have hmm := lfold_mem b (O.take i)
      have htl : (O.take i).length ≤ 2304 := by rw [List.length_take]; omega
      have htm : ∀ t ∈ O.take i, t < 65536 := fun t ht => by have := HMEM.out t (List.mem_of_mem_take ht); omega
      obtain ⟨S, hS⟩ : ∃ S, S = lfold b (O.take i) := ⟨_, rfl⟩
      rw [← hS] at hL hst hinv hlen hmm ⊢
      have hbl : S.bad.length ≤ 2304 := by omega
      have hll : ∀ f, (S.lab f).length ≤ 2304 := fun f => by have := hlen.1 f; omega
      have hbm : ∀ t ∈ S.bad, t < 65536 := fun t ht => htm t (hmm.2 t ht)
      have hlm : ∀ f, ∀ t ∈ S.lab f, t < 65536 := fun f t ht => htm t (hmm.1 f t ht)
      have hab : (S.bad.any fun x => prt x s) = true → badS b s = true := fun h => by
        obtain ⟨t, ht, hts⟩ := List.any_eq_true.1 h
        exact badS_mono HOK.out (prt_iff.1 hts) (hinv.i1 t ht).2
      have cg0 : ∀ U, Below wr.heap.size wr U → U.cell? ⟨g, i, none⟩ = some (.int .i64 (s : Nat)) := fun U hU =>
        ((hL.blk HG.out hgP).below hU (hL.blk HG.out hgP).lt).cell (by rw [List.getElem?_append_left (by rw [ints_len]; exact hiO), ints_at hiO, hs])
      have hld : ∀ U, Below wr.heap.size wr U → Blk U w.heap.size [.int .i64 F, .slice sa n ca, .slice sr b.rules.length cr] 25 := fun U hU => by
        have h := HBLK.out.below (hbase.trans (hU.mono hbase.size)) HBLK.out.lt
        rwa [← HN.out] at h
      have hfo : ∀ U, Below wr.heap.size wr U → _ := fun U hU => rfollow_any b s F sa sr ca cr bs HOK.out HFe.out (by omega) U (HH.out.below (hbase.trans (hU.mono hbase.size)))
      rw [HLV.out, ← HN.out] at hfo
      have HST := Lib.hid hst; clear hst htk
      have HLL := Lib.hid hll; clear hll
      have HBM := Lib.hid hbm; clear hbm
      have HLM := Lib.hid hlm; clear hlm
      have HAB := Lib.hid hab; clear hab
      have HCG := Lib.hid cg0; clear cg0
      have HLD := Lib.hid hld; clear hld
      have HFO := Lib.hid hfo; clear hfo
      have HS := Lib.hid hs; clear hs
      have HSS := Lib.hid hS; clear hS hinv hlen hmm htl htm
      have HL := Lib.hid hL; clear hL hbase
      go_wp2
      have eX : Below wr.heap.size wr wr.drew := (Below.refl _ _).drew
      haveI : Nonempty (SqC.Come fun U : World => Below wr.heap.size wr U) := ⟨⟨_, eX⟩⟩
      refine SqC.wp_region_sqc 11 [5] (fun U => Below wr.heap.size wr U) (by kernel_rfl) (by kernel_rfl) (by kernel_rfl) eX ?_
      obtain ⟨wd, hwd⟩ : ∃ wd : World, wd = wr.drew := ⟨_, rfl⟩
      rw [← hwd] at eX ⊢
      clear hwd
      refine SqC.value (.agg #[.int .i64 F, .slice sa n ca, .slice sr b.rules.length cr]) rfl rfl (by intro U hU; exact load_agg_exec rfl rfl (run_load_agg (P := Try.prog) (ty := 25) (HLD.out U hU).cells0 aggB infoB)) ?_
      simp only [Act.put, List.setIfInBounds_toArray, List.set_cons_zero, List.set_cons_succ]
      iterate 3 (refine SqC.quiet rfl rfl ?_; go_big_quiet_step (fail); refine wpQuiet_nil ?_)
      refine SqC.value (.int .i64 (s : Nat)) rfl rfl (by intro U hU; have cx := HCG.out U hU; go_simp) ?_
      simp only [Act.put, List.setIfInBounds_toArray, List.set_cons_zero, List.set_cons_succ]
      refine SqC.effect rfl rfl ?_
      refine yields_call rfl (by kernel_rfl) rfl rfl ((HFO.out wd eX).mono ?_)
      rintro e w5 ⟨G, hG, rfl, hbk, b5⟩
      have e5 : Below wr.heap.size wr w5 := eX.trans (b5.mono eX.size)
      have zG : wr.heap.size ≤ G := Nat.le_trans eX.size hG
      refine ⟨_, rfl, fun _ => e5, ?_⟩
      simp only [Act.put, List.setIfInBounds_toArray, List.set_cons_zero, List.set_cons_succ]
      iterate 5 (refine SqC.quiet rfl rfl ?_; go_big_quiet_step (fail); refine wpQuiet_nil ?_)
      refine SqC.nil ?_
      have hL5 := HL.out.below e5
      have hcg5 := HCG.out w5 e5
      have hdG : ∀ f k, f < F → (vs f).ownBlock = some k → k ≠ G := fun f k hf hk e => by
        have := (own_lt (HL.out.own f hf) hk).2
        omega
      have HDG := Lib.hid hdG; clear hdG
      have HL5 := Lib.hid hL5; clear hL5
      have HBK := Lib.hid hbk; clear hbk b5 eX
      have HE5 := Lib.hid e5; clear e5
      clear HFO HLD
      obtain ⟨K, hK⟩ : ∃ K, K = fol b s := ⟨_, rfl⟩
      rw [← hK] at HBK
      have HKK := Lib.hid hK; clear hK
      cases hbad : badS b s with
      | true =>
        cases hany : S.bad.any (fun x => prt x s) with
        | true =>
          have e1 : lstep b S s = S := by unfold lstep; rw [if_pos hany]
          have E1 := Lib.hid e1; clear e1
          have hcp := rpart_any S.bad s sb cb w5 (Sl.of_owns HL5.out.ownb) (by omega) HBM.out (by omega)
          rw [hany] at hcp
          have HCP := Lib.hid hcp; clear hcp hany hbad
          go_wp2_with (fail)
          refine HCP.out.mono ?_
          rintro e w6 ⟨rfl, b6⟩
          have HL6 := Lib.hid (HL5.out.below b6)
          clear b6
          have c0 := HC.out _ (HL6.out.low OB.out zP)
          go_wp2
          clear c0
          obtain ⟨w6', hw6'⟩ : ∃ w6', w6' = w6 := ⟨_, rfl⟩
          go_loopw [12] (fun vf wq => vf = .int .i64 0 ∧ wq = w6) (fun _ _ => 0)
          case atStart => exact ⟨rfl, rfl⟩
          case round =>
            obtain ⟨rfl, rfl⟩ := hrel
            clear hw6'
            have c0 := HC.out _ (HL6.out.low OB.out zP)
            by_cases hF0 : 0 < F
            · have hF0' : ((0 : Int) < F) = True := eq_true (by omega)
              go_wp2
              go_roundw
              case rel => exact ⟨i + 1, by omega, by go_num, vs, by rw [HST.out, E1.out]; exact HL6.out⟩
              case measure => simp [vInt]; omega
            · have hF0' : ((0 : Int) < F) = False := eq_false (by omega)
              go_wp2
              go_roundw
              case rel => exact ⟨i + 1, by omega, by go_num, vs, by rw [HST.out, E1.out]; exact HL6.out⟩
              case measure => simp [vInt]; omega
        | false =>
          have e1 : lstep b S s = { S with bad := S.bad ++ [s] } := by unfold lstep; rw [if_neg (by rw [hany]; exact Bool.false_ne_true), if_pos hbad]
          have E1 := Lib.hid e1; clear e1
          have hcp := rpart_any S.bad s sb cb w5 (Sl.of_owns HL5.out.ownb) (by omega) HBM.out (by omega)
          rw [hany] at hcp
          have HCP := Lib.hid hcp; clear hcp hany hbad
          go_wp2_with (fail)
          refine HCP.out.mono ?_
          rintro e w6 ⟨rfl, b6⟩
          have HL6 := Lib.hid (HL5.out.below b6)
          have hcg6 := HCG.out w6 (HE5.out.trans (b6.mono HE5.out.size))
          clear b6 hcg5
          have HOW := HL6.out.ownb.alloc (.cells #[.int .i64 (s : Int)] 26)
          have zs6 := HL6.out.size
          obtain ⟨i0, hi1, hi2, hi3, hi4⟩ := info_parts infoSet
          go_wp2_with (refine wpList_append_lies _ rfl _ _ 37 rfl w4.heap.size 26 i0 (.int .i64 0) 1 8 hTset hi1 hi2 hi3 hi4 rfl (by decide) _ S.bad.length _ rfl HOW ⟨w6.heap.size, 0, none⟩ 1 1 [.int .i64 s] rfl rfl (World.news_of_block (Blk.new w6 #[.int .i64 (s : Int)] 26)) (by intro u hu; simp at hu; rw [hu]; rfl) (by decide) (by unfold maxLen; omega) (by omega) (by simp; omega) _ rfl ?_)
          intro gg cap w7 g1 g2 g3 g4
          have hL7 := (HL6.out.alloc (.cells #[.int .i64 (s : Int)] 26)).putb g2 g1 (by rw [World.size_alloc]; exact g3)
          have HL7 := Lib.hid hL7; clear hL7 g1 g2 g3 g4
          clear hcg6
          obtain ⟨w6, hw6⟩ : ∃ w6, w6 = w7 := ⟨_, rfl⟩
          rw [← hw6] at HL7 ⊢
          clear hw6
          have c0 := HC.out _ (HL7.out.low OB.out zP)
          go_wp2
          clear c0
          obtain ⟨w6', hw6'⟩ : ∃ w6', w6' = w6 := ⟨_, rfl⟩
          go_loopw [12] (fun vf wq => vf = .int .i64 0 ∧ wq = w6) (fun _ _ => 0)
          case atStart => exact ⟨rfl, rfl⟩
          case round =>
            obtain ⟨rfl, rfl⟩ := hrel
            clear hw6'
            have c0 := HC.out _ (HL7.out.low OB.out zP)
            by_cases hF0 : 0 < F
            · have hF0' : ((0 : Int) < F) = True := eq_true (by omega)
              go_wp2
              go_roundw
              case rel => exact ⟨i + 1, by omega, by go_num, vs, by rw [HST.out, E1.out]; exact HL7.out⟩
              case measure => simp [vInt]; omega
            · have hF0' : ((0 : Int) < F) = False := eq_false (by omega)
              go_wp2
              go_roundw
              case rel => exact ⟨i + 1, by omega, by go_num, vs, by rw [HST.out, E1.out]; exact HL7.out⟩
              case measure => simp [vInt]; omega
      | false =>
        have hany : (S.bad.any fun x => prt x s) = false := by
          cases h : S.bad.any (fun x => prt x s) with
          | false => rfl
          | true => have := HAB.out h; rw [hbad] at this; cases this
        have e1 : lstep b S s = { S with lab := fun f => upd K s f (S.lab f) } := by
          unfold lstep
          rw [if_neg (by rw [hany]; exact Bool.false_ne_true), if_neg (by rw [hbad]; exact Bool.false_ne_true), ← HKK.out]
        have E1 := Lib.hid e1; clear e1 hbad hany
        go_wp2
        go_loopw [12] (fun vf wq => ∃ f : Nat, f ≤ F ∧ vf = .int .i64 f ∧ ∃ vs', LabN 37 26 w4 wq P F (labF K s S.lab f) S.bad vs' (.slice sb S.bad.length cb) ∧ (∀ j k, j < F → (vs' j).ownBlock = some k → k ≠ G) ∧ Blk wq G (rm F (kb K)) 4)
          (fun vf _ => F - (vInt vf).toNat)
        case atStart => exact ⟨0, by omega, rfl, vs, by rw [show labF K s S.lab 0 = S.lab from funext fun j => by unfold labF; rw [if_neg (by omega)]]; exact HL5.out, HDG.out, HBK.out⟩
        case round =>
          clear hcg5 HL5 HBK HDG
          obtain ⟨f, hf, rfl, vs', hL, hd, hbk⟩ := hrel
          have c0 := HC.out _ (hL.low OB.out zP)
          have HL' := Lib.hid hL
          have HD := Lib.hid hd; clear hd
          have HBK := Lib.hid hbk
          by_cases h1 : f < F
          · have h1' : (f : Int) < F := by omega
            have hown := hL.own f h1
            rw [labF_at] at hown
            have cg1 : wr.cell? ⟨g, i, none⟩ = some (.int .i64 (s : Nat)) := (hL.blk HG.out hgP).cell (by rw [List.getElem?_append_left (by rw [ints_len]; exact hiO), ints_at hiO, HS.out])
            have clb : wr.cell? ⟨P, f, none⟩ = some (vs' f) := hL.lb.cell (rm_get h1)
            have ck : wr.cell? ⟨G, f, none⟩ = some (.bool (K.testBit f)) := hbk.cell (rm_get h1)
            obtain ⟨sv, cv, hvf, _⟩ := own_slice hown
            rw [hvf] at clb hown
            have hll := HLL.out f
            have HVF := Lib.hid hvf; clear hvf
            have HOWN := Lib.hid hown; clear hown hL hbk
            obtain ⟨kv, hkv⟩ : ∃ kv, kv = K.testBit f := ⟨_, rfl⟩
            rw [← hkv] at ck
            have HKV := Lib.hid hkv; clear hkv
            have eX : (fun U : World => U.cell? ⟨G, f, none⟩ = some (.bool kv) ∧ U.cell? ⟨P, f, none⟩ = some (.slice sv (S.lab f).length cv) ∧ U.cell? ⟨g, i, none⟩ = some (.int .i64 (s : Nat))) wr.drew := ⟨ck, clb, cg1⟩
            haveI : Nonempty (SqC.Come fun U : World => U.cell? ⟨G, f, none⟩ = some (.bool kv) ∧ U.cell? ⟨P, f, none⟩ = some (.slice sv (S.lab f).length cv) ∧ U.cell? ⟨g, i, none⟩ = some (.int .i64 (s : Nat))) := ⟨⟨_, eX⟩⟩
            clear ck clb cg1
            go_wp2
            refine SqC.wp_region_sqc 16 [13] (fun U : World => U.cell? ⟨G, f, none⟩ = some (.bool kv) ∧ U.cell? ⟨P, f, none⟩ = some (.slice sv (S.lab f).length cv) ∧ U.cell? ⟨g, i, none⟩ = some (.int .i64 (s : Nat))) (by kernel_rfl) (by kernel_rfl) (by kernel_rfl) eX ?_
            obtain ⟨wd, hwd⟩ : ∃ wd : World, wd = wr.drew := ⟨_, rfl⟩
            have hLd0 : LabN 37 26 w4 wd P F (labF K s S.lab f) S.bad vs' (.slice sb S.bad.length cb) := by rw [hwd]; exact HL'.out.drewN 1
            have hLd := Lib.hid hLd0; clear hLd0
            have hBd0 : Blk wd G (rm F (kb K)) 4 := by rw [hwd]; exact HBK.out.drew
            have hBd := Lib.hid hBd0; clear hBd0
            rw [← hwd] at eX ⊢
            clear hwd HL' HBK HOWN c0
            iterate 3 (refine SqC.quiet rfl rfl ?_; go_big_quiet_step (fail); refine wpQuiet_nil ?_)
            refine SqC.value (.bool kv) rfl rfl (by intro U hU; have cx := hU.1; go_simp) ?_
            simp only [Act.put, List.setIfInBounds_toArray, List.set_cons_zero, List.set_cons_succ]
            cases kv with
            | false =>
              have hu : upd K s f (S.lab f) = S.lab f := by unfold upd; rw [← HKV.out]; rfl
              have HU := Lib.hid (labF_same hu); clear hu
              iterate 1 (refine SqC.quiet rfl rfl ?_; go_big_quiet_step (fail); refine wpQuiet_nil ?_)
              iterate 10 (refine SqC.skip rfl ?_; simp only [Act.put, List.setIfInBounds_toArray, List.set_cons_zero, List.set_cons_succ])
              iterate 1 (refine SqC.quiet rfl rfl ?_; go_big_quiet_step (fail); refine wpQuiet_nil ?_)
              refine SqC.nil ?_
              clear eX
              go_wp2
              go_roundw
              case rel => exact ⟨f + 1, by omega, by go_num, vs', by rw [HU.out]; exact hLd.out, HD.out, hBd.out⟩
              case measure => simp [vInt]; omega
            | true =>
              iterate 4 (refine SqC.quiet rfl rfl ?_; go_big_quiet_step (fail); refine wpQuiet_nil ?_)
              refine SqC.value (.slice sv (S.lab f).length cv) rfl rfl (by intro U hU; have cx := hU.2.1; go_simp) ?_
              simp only [Act.put, List.setIfInBounds_toArray, List.set_cons_zero, List.set_cons_succ]
              iterate 3 (refine SqC.quiet rfl rfl ?_; go_big_quiet_step (fail); refine wpQuiet_nil ?_)
              refine SqC.value (.int .i64 (s : Nat)) rfl rfl (by intro U hU; have cx := hU.2.2; go_simp) ?_
              simp only [Act.put, List.setIfInBounds_toArray, List.set_cons_zero, List.set_cons_succ]
              refine SqC.effect rfl rfl ?_
              have hownd := hLd.out.own f h1
              rw [labF_at, HVF.out] at hownd
              have hcp := rpart_any (S.lab f) s sv cv wd (Sl.of_owns hownd) (by omega) (HLM.out f) (by omega)
              obtain ⟨an, han⟩ : ∃ an, an = (S.lab f).any fun x => prt x s := ⟨_, rfl⟩
              rw [← han] at hcp
              refine yields_call rfl (by kernel_rfl) rfl rfl (hcp.mono ?_)
              rintro e w8 ⟨rfl, b8⟩
              have e8 : w8.cell? ⟨G, f, none⟩ = some (.bool true) ∧ w8.cell? ⟨P, f, none⟩ = some (.slice sv (S.lab f).length cv) ∧ w8.cell? ⟨g, i, none⟩ = some (.int .i64 (s : Nat)) :=
                ⟨(b8.cell (p := ⟨G, f, none⟩) hBd.out.lt).trans eX.1, (b8.cell (p := ⟨P, f, none⟩) hLd.out.lb.lt).trans eX.2.1, (b8.cell (p := ⟨g, i, none⟩) (hLd.out.blk HG.out hgP).lt).trans eX.2.2⟩
              have hL8 := Lib.hid (hLd.out.below b8)
              have hB8 := Lib.hid (hBd.out.below b8 hBd.out.lt)
              clear hLd hBd b8 hcp hownd eX
              refine ⟨_, rfl, fun _ => e8, ?_⟩
              simp only [Act.put, List.setIfInBounds_toArray, List.set_cons_zero, List.set_cons_succ]
              cases an with
              | true =>
                have hu : upd K s f (S.lab f) = S.lab f := by unfold upd; rw [← HKV.out, ← han]; rfl
                have HU := Lib.hid (labF_same hu); clear hu han
                iterate 2 (refine SqC.quiet rfl rfl ?_; go_big_quiet_step (fail); refine wpQuiet_nil ?_)
                refine SqC.nil ?_
                clear e8
                go_wp2
                go_roundw
                case rel => exact ⟨f + 1, by omega, by go_num, vs', by rw [HU.out]; exact hL8.out, HD.out, hB8.out⟩
                case measure => simp [vInt]; omega
              | false =>
                have hu : upd K s f (S.lab f) = S.lab f ++ [s] := by unfold upd; rw [← HKV.out, ← han]; rfl
                have HU := Lib.hid (labF_more hu); clear hu han
                iterate 2 (refine SqC.quiet rfl rfl ?_; go_big_quiet_step (fail); refine wpQuiet_nil ?_)
                refine SqC.nil ?_
                go_wp2
                have e9 : (fun U : World => U.cell? ⟨P, f, none⟩ = some (.slice sv (S.lab f).length cv) ∧ U.cell? ⟨g, i, none⟩ = some (.int .i64 (s : Nat))) w8.drew := e8.2
                clear e8
                haveI : Nonempty (SqC.Come fun U : World => U.cell? ⟨P, f, none⟩ = some (.slice sv (S.lab f).length cv) ∧ U.cell? ⟨g, i, none⟩ = some (.int .i64 (s : Nat))) := ⟨⟨_, e9⟩⟩
                refine SqC.wp_region_sqc 14 [10, 11, 13] (fun U : World => U.cell? ⟨P, f, none⟩ = some (.slice sv (S.lab f).length cv) ∧ U.cell? ⟨g, i, none⟩ = some (.int .i64 (s : Nat))) (by kernel_rfl) (by kernel_rfl) (by kernel_rfl) e9 ?_
                obtain ⟨wd, hwd⟩ : ∃ wd : World, wd = w8.drew := ⟨_, rfl⟩
                have hL2 : LabN 37 26 w4 wd P F (labF K s S.lab f) S.bad vs' (.slice sb S.bad.length cb) := by rw [hwd]; exact hL8.out.drewN 1
                have hn2 : Blk wd G (rm F (kb K)) 4 := by rw [hwd]; exact hB8.out.drew
                rw [← hwd] at e9 ⊢
                clear hwd hL8 hB8
                have HL2 := Lib.hid hL2
                have HN2 := Lib.hid hn2
                clear hL2 hn2
                iterate 5 (refine SqC.quiet rfl rfl ?_; go_big_quiet_step (fail); refine wpQuiet_nil ?_)
                refine SqC.value (.slice sv (S.lab f).length cv) rfl rfl (by intro U hU; have cx := hU.1; go_simp) ?_
                simp only [Act.put, List.setIfInBounds_toArray, List.set_cons_zero, List.set_cons_succ]
                iterate 3 (refine SqC.quiet rfl rfl ?_; go_big_quiet_step (fail); refine wpQuiet_nil ?_)
                refine SqC.value (.int .i64 (s : Nat)) rfl rfl (by intro U hU; have cx := hU.2; go_simp) ?_
                simp only [Act.put, List.setIfInBounds_toArray, List.set_cons_zero, List.set_cons_succ]
                obtain ⟨wb, hwb⟩ : ∃ wb, wb = wd.alloc (.cells #[.int .i64 (s : Int)] 26) := ⟨_, rfl⟩
                have hL3 : LabN 37 26 w4 wb P F (labF K s S.lab f) S.bad vs' (.slice sb S.bad.length cb) := by rw [hwb]; exact HL2.out.alloc _
                have hn3 : Blk wb G (rm F (kb K)) 4 := by rw [hwb]; exact HN2.out.alloc _
                have hnew : Blk wb wd.heap.size [.int .i64 (s : Int)] 26 := by rw [hwb]; exact Blk.new wd #[.int .i64 (s : Int)] 26
                have zb : wb.heap.size = wd.heap.size + 1 := by rw [hwb]; simp
                have ex3 : wb.cell? ⟨P, f, none⟩ = some (.slice sv (S.lab f).length cv) ∧ wb.cell? ⟨g, i, none⟩ = some (.int .i64 (s : Nat)) := ⟨(hL3.lb.cell (rm_get h1)).trans (by rw [HVF.out]), (hL3.blk HG.out hgP).cell (by rw [List.getElem?_append_left (by rw [ints_len]; exact hiO), ints_at hiO, HS.out])⟩
                have zG3 : G < wd.heap.size := HN2.out.lt
                have HWB := Lib.hid hwb; clear hwb
                refine SqC.effectW rfl rfl ?_
                go_wp2
                rw [← HWB.out]
                refine SqC.here rfl (fun _ => ex3) ?_
                have hown3 := hL3.own f h1
                rw [labF_at, HVF.out] at hown3
                have HOW := hown3
                obtain ⟨i0, hi1, hi2, hi3, hi4⟩ := info_parts infoSet
                have hsz3 := hL3.size
                refine SqC.effectW rfl rfl ?_
                refine wpList_append_lies _ rfl _ _ 37 rfl w4.heap.size 26 i0 (.int .i64 0) 1 8 hTset hi1 hi2 hi3 hi4 rfl (by decide) _ (S.lab f).length _ rfl HOW ⟨wd.heap.size, 0, none⟩ 1 1 [.int .i64 s] rfl rfl (World.news_of_block hnew) (by intro u hu; simp at hu; rw [hu]; rfl) (by decide) (by unfold maxLen; omega) (by omega) hsz3 _ rfl ?_
                intro gg cap w9 g1 g2 g3 g4
                have hvf3 : (vs' f).ownBlock = (Value.slice sv (S.lab f).length cv).ownBlock := by rw [HVF.out]
                have hPo : ∀ k, (Value.slice sv (S.lab f).length cv).ownBlock = some k → w4.heap.size ≤ k ∧ k ≠ G := fun k hk =>
                  ⟨(own_lt hown3 hk).1, HD.out f k h1 (by rw [hvf3]; exact hk)⟩
                have hL4 := hL3.put (f := f) (s := s) (g := gg) (cap := cap) (W' := w9) h1 (by rw [hvf3]; exact g2) (by rw [labF_at]; exact g1) (by rw [hvf3]; exact g3)
                have t9 := hL3.lb.grown g2 (fun e => by have := (hPo P e.symm).1; omega)
                have n9 := hn3.grown g2 (fun e => (hPo G e.symm).2 rfl)
                have u9 := (hL3.blk HG.out hgP).grown g2 (fun e => by have := (hPo g e.symm).1; have := HG.out.lt; omega)
                have cx9 : w9.cell? ⟨P, f, none⟩ = some (.slice sv (S.lab f).length cv) := (t9.cell (rm_get h1)).trans (by rw [HVF.out])
                have cg9 : w9.cell? ⟨g, i, none⟩ = some (.int .i64 (s : Nat)) := u9.cell (by rw [List.getElem?_append_left (by rw [ints_len]; exact hiO), ints_at hiO, HS.out])
                have f9 : w9.frozen? ⟨P, f, none⟩ = false := t9.frozen f
                have hGP : G ≠ P := by
                  have := HE5.out.size
                  omega
                have n10 : Blk (w9.setCell ⟨P, f, none⟩ (.slice (some ⟨gg, 0, none⟩) ((S.lab f).length + 1) cap)) G (rm F (kb K)) 4 := n9.set_ne _ (by simp; omega)
                have hu4 := HU.out
                rw [labF_at] at hu4 hL4
                rw [← hu4] at hL4
                have hd4 : ∀ j k, j < F → (if j = f then Value.slice (some ⟨gg, 0, none⟩) ((S.lab f).length + 1) cap else vs' j).ownBlock = some k → k ≠ G := fun j k hj hk => by
                  by_cases e : j = f
                  · rw [if_pos e] at hk
                    have e1 : some gg = some k := hk
                    injection e1 with e1
                    subst e1
                    rcases g3 with g3 | g3
                    · exact (hPo gg g3).2
                    · omega
                  · rw [if_neg e] at hk
                    exact HD.out j k hj hk
                have HL4 := Lib.hid hL4; clear hL4 hu4
                have HD4 := Lib.hid hd4; clear hd4
                have HN10 := Lib.hid n10; clear n10
                refine SqC.here rfl (fun _ => ⟨cx9, cg9⟩) ?_
                simp only [Act.put, List.setIfInBounds_toArray, List.set_cons_zero, List.set_cons_succ]
                refine SqC.quiet rfl rfl ?_; go_big_quiet_step (fail); refine wpQuiet_nil ?_
                clear t9 n9 u9 g1 g2 g3 g4 hPo hL3 hn3 hnew hown3
                refine SqC.effectW rfl rfl ?_
                go_wp2
                refine SqC.here rfl (by intro h; first | exact h.elim | exact absurd rfl h) (SqC.nil ?_)
                go_wp2
                go_roundw
                case rel => exact ⟨f + 1, by omega, by go_num, _, HL4.out, HD4.out, HN10.out⟩
                case measure => simp [vInt]; omega
          · have h1' : ((f : Int) < F) = False := eq_false (by omega)
            have hfe : f = F := by omega
            have HFX := Lib.hid hfe
            clear hL hbk hfe
            go_wp2
            go_roundw
            case rel => exact ⟨i + 1, by omega, by go_num, vs', by rw [HST.out, E1.out]; exact HL'.out.congr fun j hj => by unfold labF; rw [if_pos (by have := HFX.out; omega)]⟩
            case measure => simp [vInt]; omega
    · have hiO' : ((i : Int) < O.length) = False := eq_false (by omega)
      have e : lfold b (O.take i) = labs b := by rw [List.take_of_length_le (by omega), HLABS.out]
      rw [e] at hL ⊢
      have HL := Lib.hid hL
      clear e hL
      go_wp2
      refine bodyPost_ret (results_tmp3 rfl _ _ _) rfl ?_
      exact ⟨P, vs, sb, cb, rfl, ⟨HL.out.lb, fun f hf => Sl.of_owns (HL.out.own f hf), Sl.of_owns HL.out.ownb⟩, HBOX.out.below hbase⟩
theorem rlabels_bad (b : Lg) (sa sr : Option Addr) (ca cr : Nat) (bs : List Value) (hrg : LgRg b) (w : World) (h : LgAt w b sa sr ca cr bs) (hv : valE b ≠ 0) :
    Calls Try.prog 18 #[lgV b sa sr ca cr] w fun e w' => e = .returned (.tuple #[.slice none 0 0, .slice none 0 0, .int .i64 (valE b)]) ∧ Below w.heap.size w w' := by
  have hlgV : lgV b sa sr ca cr = .agg #[.int .i64 b.facts, .slice sa b.assume.length ca, .slice sr b.rules.length cr] := rfl
  have hbox := box_new w b sa sr ca cr 25
  obtain ⟨W1, hW1⟩ : ∃ W1, W1 = w.alloc (.cells #[.int .i64 b.facts, .slice sa b.assume.length ca, .slice sr b.rules.length cr] 25) := ⟨_, rfl⟩
  rw [← hW1] at hbox
  have hc := rvalid_any b sa sr ca cr bs hrg W1 (h.below hbox.b1)
  rw [hlgV] at hc ⊢
  have HBOX := Lib.hid hbox; clear hbox
  have HW1 := Lib.hid hW1; clear hW1 h
  have HC := Lib.hid hc; clear hc hrg
  obtain ⟨E, hE⟩ : ∃ E, E = valE b := ⟨_, rfl⟩
  rw [← hE] at hv HC ⊢
  clear hE
  have hv2 : (E != 0) = true := by simpa using hv
  have hv3 : (E = 0) = False := eq_false hv
  go_enter Try.func18, Try.ntmps18
  go_wp2_with (fail)
  rw [← HW1.out]
  refine HC.out.mono ?_
  rintro e w2 ⟨rfl, b2⟩
  have HB := Lib.hid (HBOX.out.below b2); clear b2 hv
  go_wp2
  refine bodyPost_ret (results_tmp3 rfl _ _ _) rfl ?_
  exact ⟨rfl, HB.out⟩
theorem rlab_any (b : Lg) (sa sr : Option Addr) (ca cr : Nat) (bs : List Value) (hrg : LgRg b) (w : World) (h : LgAt w b sa sr ca cr bs) (hc : valE b = 0 → b.assume.length ≤ 8) :
    Calls Try.prog 18 #[lgV b sa sr ca cr] w fun e w' => ∃ so co vs sb cb, e = .returned (.tuple #[.slice so (resF b) co, .slice sb (resL b).bad.length cb, .int .i64 (valE b)]) ∧ LabS w' so co (resF b) vs sb cb (resL b) ∧ Below w.heap.size w w' := by
  by_cases hv : valE b = 0
  · have ok := valE_ok.1 hv
    have hF : b.facts = (b.facts.toNat : Nat) := by have := ok.f0; omega
    rw [(res_ok hv).1, (res_ok hv).2, hv]
    refine (rlabels_any b b.facts.toNat sa sr ca cr bs hrg w h ok hF (hc hv)).mono ?_
    rintro e w' ⟨P, vs, sb, cb, rfl, h1, h2⟩
    exact ⟨_, _, vs, sb, cb, rfl, h1.labS (by have := ok.f64; omega), h2⟩
  · rw [(res_no hv).1, (res_no hv).2]
    refine (rlabels_bad b sa sr ca cr bs hrg w h hv).mono ?_
    rintro e w' ⟨rfl, h2⟩
    exact ⟨none, 0, fun _ => undef, none, 0, rfl, noS w' _, h2⟩
end Go.Proofs.Ytcbmifaobdamhaa

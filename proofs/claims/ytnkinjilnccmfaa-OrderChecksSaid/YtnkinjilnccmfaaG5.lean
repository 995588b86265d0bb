/- order: the law OrderChecks. -/
import Derived.Test.YtnkinjilnccmfaaG4
import Derived.Test.YtnkinjilnccmfaaQ14
namespace Go.Order
open Go.RowKit Go.Own Go.Proofs.Ytnkinjilnccmfaa Go.Theory
/-- a list of splits that is short enough, somewhere -/
def ListAt (w : World) (v : Value) : Prop := ∃ (q : List Spl) (s : Option Addr) (c : Nat), v = .slice s q.length c ∧ Lst w (.slice s q.length c) q ∧ q.length < 1000000
theorem ListAt.below {w w' : World} {v : Value} (h : ListAt w v) (hb : Below w.heap.size w w') : ListAt w' v := by
  obtain ⟨q, s, c, h1, h2, h3⟩ := h
  exact ⟨q, s, c, h1, h2.below hb, h3⟩
def SetsAt (w : World) (v : Value) : Prop := ∃ (q : List Int) (s : Option Addr) (c : Nat), v = .slice s q.length c ∧ Sz w (.slice s q.length c) q.length (intsI q) ∧ q.length < 1000000
theorem SetsAt.below {w w' : World} {v : Value} (h : SetsAt w v) (hb : Below w.heap.size w w') : SetsAt w' v := by
  obtain ⟨q, s, c, h1, h2, h3⟩ := h
  exact ⟨q, s, c, h1, h2.below hb, h3⟩
theorem sz_nil (w : World) : Sz w (.slice none 0 0) 0 [] := fun h => absurd h (Nat.lt_irrefl 0)
theorem intsI_one (l : List Int) : ∀ u ∈ intsI l, u.oneCell' = true := by intro u hu; unfold intsI at hu; rw [List.mem_map] at hu; obtain ⟨x, _, rfl⟩ := hu; rfl
theorem sl_of_sz {w : World} {s : Option Addr} {n c : Nat} {vs : List Value} (h : Sz w (.slice s n c) n vs) (hv : vs.length = n) (h0 : n = 0 → s = none ∧ c = 0) : Sl w 1 (.slice s n c) n vs := by
  rcases Nat.eq_zero_or_pos n with e | e
  · obtain ⟨rfl, rfl⟩ := h0 e
    subst e
    exact ⟨by omega, .inl ⟨rfl, rfl⟩⟩
  · exact h e
end Go.Order
namespace Go.Proofs.Ytnkinjilnccmfaa
open Go.RowKit Go.Own Go.BigFrame Go.Big Go.Order
attribute [local irreducible] SqC.SqW
set_option maxRecDepth 100000 in
set_option maxHeartbeats 12800000 in
theorem orderChecks_any (whole how : Int) (may : List Spl) (st : List Int) (l : List Spl) (L : List Int) (s t u v : Option Addr) (ca cb cc cd : Nat) (w : World) (hl : Lst w (.slice s may.length ca) may) (hm : Sz w (.slice t st.length cb) st.length (intsI st))
    (hL : Lst w (.slice u l.length cc) l) (hM : Sz w (.slice v L.length cd) L.length (intsI L)) (hn : may.length < 4611686018427387904) (hnl : l.length < 4611686018427387904) (hh : -9223372036854775808 ≤ how ∧ how < 9223372036854775808) :
    Calls Try.prog 4 #[.int .i64 whole, .slice s may.length ca, .slice t st.length cb, .slice u l.length cc, .slice v L.length cd, .int .i64 how] w fun e w' => e = .returned (.bool true) ∧ Below w.heap.size w w' := by
  have hfew := few_any s t u may.length st.length l.length ca cb cc w
  have hfl : fewV may.length st.length l.length = true → l.length ≤ 40 := by unfold fewV; simp; omega
  obtain ⟨fb, hfb⟩ : ∃ fb, fb = fewV may.length st.length l.length := ⟨_, rfl⟩
  rw [← hfb] at hfew hfl
  clear hfb
  have hp1 := fun (U : World) (hU : Below w.heap.size w U) => plain_any may s ca U (hl.below hU) hn
  have hp2 := fun (U : World) (hU : Below w.heap.size w U) => plain_any l u cc U (hL.below hU) hnl
  have hf1 := fun (U : World) (hU : Below w.heap.size w U) => rfind_any whole may st s t ca cb U (hl.below hU) (hm.below hU)
  have hc1 := fun (U : World) (x : Option Addr) (cx : Nat) (T : List Spl) (hT : T.length < 1000000) (hU : Below w.heap.size w U) (hx : Lst U (.slice x T.length cx) T) => check_at whole may T st s t x ca cb cx U (hl.below hU) (hm.below hU) hx hT
  have hc2 := fun (U : World) (x : Option Addr) (cx : Nat) (T : List Spl) (hT : T.length < 1000000) (hU : Below w.heap.size w U) (hx : Lst U (.slice x T.length cx) T) => rcheck_at whole may T st s t x ca cb cx U (hl.below hU) (hm.below hU) hx hT
  have hn1 := fun (U : World) (x : Option Addr) (cx : Nat) (T : List Int) (hT : T.length < 1000000) (hU : Below w.heap.size w U) (hx : Sz U (.slice x T.length cx) T.length (intsI T)) => checkNone_any whole may st T s t x ca cb cx U (hl.below hU) (hm.below hU) hx (by omega)
  have hn2 := fun (U : World) (x : Option Addr) (cx : Nat) (T : List Int) (hT : T.length < 1000000) (hU : Below w.heap.size w U) (hx : Sz U (.slice x T.length cx) T.length (intsI T)) => rcheckNone_any whole may st T s t x ca cb cx U (hl.below hU) (hm.below hU) hx (by omega)
  have hlen := findV_l16 whole may st
  have hlen2 := findV_s16 whole may st
  obtain ⟨T, hT⟩ : ∃ T, T = (findV whole may st).l := ⟨_, rfl⟩
  obtain ⟨C, hC⟩ : ∃ C, C = (findV whole may st).s := ⟨_, rfl⟩
  rw [← hT] at hlen
  rw [← hC] at hlen2
  have hf2 : ∀ (U : World), Below w.heap.size w U → Calls Try.prog 13 #[.int .i64 whole, .slice s may.length ca, .slice t st.length cb] U fun e w' => ∃ sa ca ss cs x y, e = .returned (.tuple #[.slice sa T.length ca, .int .i64 x, .slice ss C.length cs, .int .i64 y]) ∧ Lst w' (.slice sa T.length ca) T ∧ Sz w' (.slice ss C.length cs) C.length (nts C) ∧ Below U.heap.size U w' := fun U hU => by
    refine (hf1 U hU).mono ?_
    rintro e w' ⟨sa, ca, ss, cs, rfl, a, b, c⟩
    rw [hT, hC]
    exact ⟨sa, ca, ss, cs, _, _, rfl, a, b, c⟩
  have HF := Lib.hid hf2; clear hf2 hf1 hT hC
  have HP1 := Lib.hid hp1; clear hp1
  have HP2 := Lib.hid hp2; clear hp2
  have HC1 := Lib.hid hc1; clear hc1
  have HC2 := Lib.hid hc2; clear hc2
  have HN1 := Lib.hid hn1; clear hn1
  have HN2 := Lib.hid hn2; clear hn2
  have HLEN := Lib.hid hlen; clear hlen
  have HLEN2 := Lib.hid hlen2; clear hlen2
  have HL := Lib.hid hL; clear hL
  have HM := Lib.hid hM; clear hM
  have HFEW := Lib.hid hfew; clear hfew
  have HFL := Lib.hid hfl; clear hfl
  have HH := Lib.hid hh; clear hh
  clear hl hm hn hnl
  obtain ⟨nl, hnl⟩ : ∃ nl, nl = may.length := ⟨_, rfl⟩
  obtain ⟨ns, hns⟩ : ∃ ns, ns = st.length := ⟨_, rfl⟩
  obtain ⟨nt, hnt⟩ : ∃ nt, nt = l.length := ⟨_, rfl⟩
  obtain ⟨nu, hnu⟩ : ∃ nu, nu = L.length := ⟨_, rfl⟩
  rw [← hnl] at HFEW HP1 HF HC1 HC2 HN1 HN2 ⊢
  rw [← hns] at HFEW HF HC1 HC2 HN1 HN2 ⊢
  rw [← hnt] at HFEW HP2 HL HFL ⊢
  rw [← hnu] at HM ⊢
  have HNT := Lib.hid hnt
  have HNU := Lib.hid hnu
  clear hnl hns hnt hnu
  go_enter Try.func4, Try.ntmps4
  go_wp2_with (fail)
  refine HFEW.out.mono ?_
  rintro e w1 ⟨rfl, b1⟩
  have B1 := Lib.hid b1; clear b1 HFEW
  cases fb with
  | false =>
    go_wp2_with (fail)
    refine (lives_any w1).mono ?_
    rintro e w2 ⟨rfl, bz⟩
    go_wp2
    go_ret
    exact ⟨rfl, B1.out.trans (bz.mono B1.out.size)⟩
  | true =>
  by_cases h4 : nu ≤ 40
  case neg =>
    have g4 : (40 < (nu : Int)) = True := eq_true (by omega)
    clear h4
    go_wp2_with (fail)
    refine (lives_any w1).mono ?_
    rintro e w2 ⟨rfl, bz⟩
    go_wp2
    go_ret
    exact ⟨rfl, B1.out.trans (bz.mono B1.out.size)⟩
  have g4 : (40 < (nu : Int)) = False := eq_false (by omega)
  have H4 := Lib.hid h4; clear h4
  go_wp2_with (fail)
  refine (HP1.out w1 B1.out).mono ?_
  rintro e w2 ⟨pb, rfl, b2⟩
  have B2 := Lib.hid (B1.out.trans (b2.mono B1.out.size)); clear b2 B1 HP1
  cases pb with
  | false =>
    go_wp2_with (fail)
    refine (lives_any w2).mono ?_
    rintro e w3 ⟨rfl, bz⟩
    go_wp2
    go_ret
    exact ⟨rfl, B2.out.trans (bz.mono B2.out.size)⟩
  | true =>
  go_wp2_with (fail)
  refine (HP2.out w2 B2.out).mono ?_
  rintro e w3 ⟨pb, rfl, b3⟩
  have B3 := Lib.hid (B2.out.trans (b3.mono B2.out.size)); clear b3 B2 HP2
  cases pb with
  | false =>
    go_wp2_with (fail)
    refine (lives_any w3).mono ?_
    rintro e w4 ⟨rfl, bz⟩
    go_wp2
    go_ret
    exact ⟨rfl, B3.out.trans (bz.mono B3.out.size)⟩
  | true =>
  clear g4
  go_wp2_with (fail)
  refine (HF.out w3 B3.out).mono ?_
  rintro e w4 ⟨sa, fa, ss, fs, X1, X2, rfl, hLa, hSa, b4⟩
  have B4 := Lib.hid (B3.out.trans (b4.mono B3.out.size)); clear b4 B3 HF
  have hch := changed_any T how HH.out sa fa w4 hLa (by have := HLEN.out; omega)
  obtain ⟨nT, hnT⟩ : ∃ nT, nT = T.length := ⟨_, rfl⟩
  obtain ⟨nC, hnC⟩ : ∃ nC, nC = C.length := ⟨_, rfl⟩
  rw [← hnT] at hLa hch ⊢
  rw [← hnC] at hSa ⊢
  have LA := Lib.hid hLa; clear hLa
  have SA := Lib.hid hSa; clear hSa
  have HCH := Lib.hid hch; clear hch
  have HNT2 := Lib.hid hnT; clear hnT
  have HNC := Lib.hid hnC; clear hnC
  go_wp2_with (fail)
  refine HCH.out.mono ?_
  rintro e w5 ⟨l3, s3, c3, rfl, hL3, hn3, b5⟩
  have B5 := Lib.hid (B4.out.trans (b5.mono B4.out.size))
  obtain ⟨n3, hnl3⟩ : ∃ n3, n3 = l3.length := ⟨_, rfl⟩
  rw [← hnl3] at hL3 hn3 ⊢
  have L3 : ListAt w5 (.slice s3 n3 c3) := ⟨l3, s3, c3, by rw [hnl3], by rw [← hnl3]; exact hL3, by rw [← hnl3]; have := HLEN.out; omega⟩
  have L2 : ListAt w5 (.slice sa nT fa) := ⟨T, sa, fa, by rw [HNT2.out], by rw [← HNT2.out]; exact LA.out.below b5, by have := HLEN.out; omega⟩
  have L1 : ListAt w5 (.slice u nt cc) := ⟨l, u, cc, by rw [HNT.out], by rw [← HNT.out]; exact HL.out.below B5.out, by have := HFL.out trivial; rw [← HNT.out]; omega⟩
  have S5 := Lib.hid (SA.out.below b5)
  clear hL3 hn3 hnl3 b5 B4 HCH
  obtain ⟨W, hW⟩ : ∃ W : World, W = w5.alloc (.cells #[.slice u nt cc, .slice sa nT fa, .slice s3 n3 c3, .slice none 0 0] 23) := ⟨_, rfl⟩
  have bW : Below w5.heap.size w5 W := by rw [hW]; exact alloc_below _ _
  have kW : Blk W w5.heap.size [.slice u nt cc, .slice sa nT fa, .slice s3 n3 c3, .slice none 0 0] 23 := by rw [hW]; exact Blk.new w5 #[.slice u nt cc, .slice sa nT fa, .slice s3 n3 c3, .slice none 0 0] 23
  have hat : ∀ i, i < 4 → ∃ x, ListAt W x ∧ ∀ U, Below W.heap.size W U → U.cell? ⟨w5.heap.size, i, none⟩ = some x := fun i hi => by
    have hi' : i = 0 ∨ i = 1 ∨ i = 2 ∨ i = 3 := by omega
    rcases hi' with rfl | rfl | rfl | rfl
    · exact ⟨_, L1.below bW, fun U hU => (kW.below hU kW.lt).cell rfl⟩
    · exact ⟨_, L2.below bW, fun U hU => (kW.below hU kW.lt).cell rfl⟩
    · exact ⟨_, L3.below bW, fun U hU => (kW.below hU kW.lt).cell rfl⟩
    · exact ⟨_, ⟨[], none, 0, rfl, lst_nil _, by decide⟩, fun U hU => (kW.below hU kW.lt).cell rfl⟩
  have HAT := Lib.hid hat; clear hat L1 L2 L3 kW
  have BW := Lib.hid (B5.out.trans (bW.mono B5.out.size))
  have SW := Lib.hid (S5.out.below bW)
  obtain ⟨g, hg⟩ : ∃ g, g = w5.heap.size := ⟨_, rfl⟩
  rw [← hg] at HAT
  have HG := Lib.hid hg; clear hg
  have HW := Lib.hid hW; clear hW bW S5 LA SA
  go_wp2_with (fail)
  rw [← HW.out, ← HG.out]
  go_loopw [18, 19, 20, 21, 22] (fun v _ _ _ _ wr => ∃ i : Nat, i ≤ 4 ∧ v = .int .i64 i ∧ Below W.heap.size W wr) (fun v _ _ _ _ _ => 4 - (vInt v).toNat)
  case atStart => exact ⟨0, Nat.zero_le _, rfl, Below.refl _ _⟩
  case round =>
    obtain ⟨i, hi, rfl, hbr⟩ := hrel
    by_cases h1 : i < 4
    · have h1' : (i : Int) < 4 := by omega
      obtain ⟨x, ⟨q, sq, cq, rfl, hq, hqn⟩, hcx⟩ := HAT.out i h1
      have hcr := hcx wr hbr
      have hb0 : Below w.heap.size w wr := BW.out.trans (hbr.mono BW.out.size)
      have h8 := HC1.out wr sq cq q hqn hb0 (hq.below hbr)
      have h9 := fun (U : World) (hU : Below wr.heap.size wr U) => HC2.out U sq cq q hqn (hb0.trans (hU.mono hb0.size)) ((hq.below hbr).below hU)
      have hcr2 := fun (U : World) (hU : Below wr.heap.size wr U) => hcx U (hbr.trans (hU.mono hbr.size))
      obtain ⟨nq, hnq⟩ : ∃ nq, nq = q.length := ⟨_, rfl⟩
      obtain ⟨e1, he1⟩ : ∃ e1, e1 = (chkV whole may st q).1 := ⟨_, rfl⟩
      obtain ⟨e2, he2⟩ : ∃ e2, e2 = (chkV whole may st q).2 := ⟨_, rfl⟩
      rw [← hnq, ← he1, ← he2] at h8 h9
      rw [← hnq] at hcr hcr2
      have H8 := Lib.hid h8; clear h8
      have H9 := Lib.hid h9; clear h9
      have HCR := Lib.hid hcr2; clear hcr2
      have HBR := Lib.hid hbr
      clear hq hqn hcx hb0 hnq he1 he2 h1 hbr
      go_wp2_with (fail)
      refine H8.out.mono ?_
      rintro e w6 ⟨rfl, b6⟩
      have hcr6 := HCR.out w6 b6
      have H96 := Lib.hid (H9.out w6 b6)
      have B6 := Lib.hid b6; clear b6 H9 HCR hcr H8
      go_wp2_with (fail)
      refine H96.out.mono ?_
      rintro e w7 ⟨rfl, b7⟩
      have B7 := Lib.hid (HBR.out.trans ((B6.out.trans (b7.mono B6.out.size)).mono HBR.out.size)); clear b7 hcr6 H96 B6
      go_wp2
      go_roundw
      case rel => exact ⟨i + 1, by omega, by go_num, B7.out⟩
      case measure => simp [vInt]; omega
    · obtain rfl : i = 4 := by omega
      have B6 := Lib.hid (BW.out.trans (hbr.mono BW.out.size))
      have S6 := Lib.hid (SW.out.below hbr)
      clear hbr h1 hi HAT HC1 HC2
      obtain ⟨k, hk, hkl⟩ := around_rg how (n := nC + 1) (by omega)
      have har := around_any how ((nC : Int) + 1) HH.out (by have := HLEN2.out; have := HNC.out; omega) wr
      rw [show ((nC + 1 : Nat) : Int) = (nC : Int) + 1 by omega] at hk
      rw [hk] at har
      have HAR := Lib.hid har; clear har hk
      have hwr : wrap64 ((nC : Int) + 1) = (nC : Int) + 1 := Go.IntWalk.wrap64_in _ (by have := HLEN2.out; have := HNC.out; omega)
      have hncl : (nC : Int) < 1000000 := by have := HLEN2.out; have := HNC.out; omega
      go_wp2_with (fail)
      refine HAR.out.mono ?_
      rintro e wk ⟨rfl, rfl⟩
      have hcs : k ≤ fs := by
        have hk' : k ≤ nC := by omega
        rcases Nat.eq_zero_or_pos nC with h | h
        · omega
        · obtain ⟨_, ⟨h2, h3⟩ | ⟨b, off, cap, h2, h3, _, _, _⟩⟩ := S6.out h
          · omega
          · injection h2 with _ _ h2
            omega
      have hsl1 := fun U => sl_to1 ss nC fs k hcs U
      have hkc : k ≤ nC := by omega
      -- none[:k], any world
      have hpre : ∀ U, Below wk.heap.size wk U → Sz U (.slice ss k fs) k (intsI ((C.map fun j : Nat => (j : Int)).take k)) := fun U hU h0 => by
        have hs := (S6.out (by omega)).below hU
        have := sl_take hs hkc h0
        rw [← nts_map] at this
        unfold intsI at this ⊢
        rw [List.map_take]; exact this
      have hpl : ((C.map fun j : Nat => (j : Int)).take k).length = k := by rw [List.length_take, List.length_map, ← HNC.out]; omega
      obtain ⟨pre, hpre2⟩ : ∃ pre, pre = (C.map fun j : Nat => (j : Int)).take k := ⟨_, rfl⟩
      rw [← hpre2] at hpre hpl
      have hSL : ∀ U, Below w.heap.size w U → Sz U (.slice v nu cd) nu (intsI L) := fun U hU => by rw [HNU.out]; rw [HNU.out] at HM; exact HM.out.below hU
      have HSL1 := Lib.hid hsl1; clear hsl1
      have HPRE := Lib.hid hpre; clear hpre
      have HPL := Lib.hid hpl; clear hpl
      have HSL := Lib.hid hSL; clear hSL
      have HKC := Lib.hid hkc; clear hkc
      clear hpre2 hcs hkl hwr hncl
      have bk : Below w.heap.size w wk.drew := B6.out.drew
      go_wp2_with (fail)
      have eX : Below wk.heap.size wk wk.drew := (Below.refl _ _).drew
      haveI : Nonempty (SqC.Come fun U : World => Below wk.heap.size wk U) := ⟨⟨_, eX⟩⟩
      refine SqC.wp_region_sqc 14 [5, 9, 11, 12] (fun U : World => Below wk.heap.size wk U) (by kernel_rfl) (by kernel_rfl) (by kernel_rfl) eX ?_
      obtain ⟨wd, hwd⟩ : ∃ wd : World, wd = wk.drew := ⟨_, rfl⟩
      rw [← hwd] at eX bk ⊢
      have sd : wd.heap.size = wk.heap.size := by rw [hwd]; rfl
      clear hwd
      refine SqC.quiet rfl rfl ?_; go_big_quiet_step (fail); refine wpQuiet_nil ?_
      refine SqC.quiet rfl rfl ?_; go_big_quiet_step (fail); refine wpQuiet_nil ?_
      refine SqC.quiet rfl rfl ?_; go_big_quiet_step (fail); refine wpQuiet_nil ?_
      refine SqC.quiet rfl rfl ?_; go_big_quiet_step (fail); refine wpQuiet_nil ?_
      refine SqC.value (.slice ss k fs) rfl rfl (by intro U hU; have cx := HSL1.out U; go_simp) ?_
      simp only [Act.put, List.setIfInBounds_toArray, List.set_cons_zero, List.set_cons_succ]
      refine SqC.effectW rfl rfl ?_
      go_wp2
      obtain ⟨we, hwe⟩ : ∃ we : World, we = wd.alloc (.cells #[] 22) := ⟨_, rfl⟩
      have be : Below wk.heap.size wk we := by rw [hwe]; exact eX.alloc (by rw [sd]; exact Nat.le_refl _) _
      have se : we.heap.size = wk.heap.size + 1 := by rw [hwe, alloc_size, sd]
      have hO : we.ownsRow wk.heap.size 22 1 (.slice (some ⟨wk.heap.size, 0, none⟩) 0 0) 0 [] := by
        have := World.ownsRow_made (e := 22) (size := 1) wd #[] 0 (Nat.le_refl _) (by decide) (by simp)
        rw [hwe]; rw [sd] at this; exact this
      rw [← hwe]
      refine SqC.here rfl (fun _ => be) ?_
      refine SqC.quiet rfl rfl ?_; go_big_quiet_step (fail); refine wpQuiet_nil ?_
      refine SqC.quiet rfl rfl ?_; go_big_quiet_step (fail); refine wpQuiet_nil ?_
      refine SqC.value (.slice ss k fs) rfl rfl (by intro U hU; have cx := HSL1.out U; go_simp) ?_
      simp only [Act.put, List.setIfInBounds_toArray, List.set_cons_zero, List.set_cons_succ]
      refine SqC.effectW rfl rfl ?_
      refine wpList_append_sz rfl _ _ 24 rfl wk.heap.size 22 (.int .i64 0) 8 hTsets infoSet8 rfl _ 0 [] rfl hO ss k fs (intsI pre) rfl (HPRE.out we be) (by rw [intsI_len]; exact HPL.out) (intsI_one pre) (by have := HKC.out; have := HLEN2.out; have := HNC.out; unfold maxLen; omega) (by have := HKC.out; have := HLEN2.out; have := HNC.out; omega) (by rw [se]; omega) ?_
      intro v1 wf r1 gr1
      have bf : Below wk.heap.size wk wf := be.grown gr1 (by rw [se]; omega) (fun b hb => by cases hb; exact Nat.le_refl _)
      have r1' : wf.ownsRow wk.heap.size 22 1 v1 k (intsI pre) := by simpa using r1
      refine wpList_nil (SqC.here rfl (fun _ => bf) ?_)
      simp only [Act.put, List.setIfInBounds_toArray, List.set_cons_zero, List.set_cons_succ]
      refine SqC.quiet rfl rfl ?_; go_big_quiet_step (fail); refine wpQuiet_nil ?_
      refine SqC.effectW rfl rfl ?_
      refine wpList_append_sz rfl _ _ 24 rfl wk.heap.size 22 (.int .i64 0) 8 hTsets infoSet8 rfl _ k (intsI pre) rfl r1' v nu cd (intsI L) rfl (HSL.out wf (B6.out.trans (bf.mono B6.out.size))) (by rw [intsI_len]; exact HNU.out.symm) (intsI_one L) (by have := HKC.out; have := HLEN2.out; have := HNC.out; have := H4.out; unfold maxLen; omega) (by have := HKC.out; have := HLEN2.out; have := HNC.out; have := H4.out; omega) bf.size ?_
      intro v2 wg r2 gr2
      have bg : Below wk.heap.size wk wg := bf.grown gr2 bf.size (fun b hb => by obtain ⟨_, _, _, hge⟩ := own_slice r1'; exact hge b hb)
      refine wpList_nil (SqC.here rfl (fun _ => bg) ?_)
      simp only [Act.put, List.setIfInBounds_toArray, List.set_cons_zero, List.set_cons_succ]
      obtain ⟨s2, c2, rfl, _⟩ := own_slice r2
      refine SqC.effectW rfl rfl ?_
      go_wp2
      obtain ⟨W2, hW2⟩ : ∃ W2 : World, W2 = wg.alloc (.cells #[.slice v nu cd, .slice ss nC fs, .slice ss k fs, .slice s2 (k + nu) c2, .slice none 0 0] 24) := ⟨_, rfl⟩
      have bW2 : Below wg.heap.size wg W2 := by rw [hW2]; exact alloc_below _ _
      have kW : Blk W2 wg.heap.size [.slice v nu cd, .slice ss nC fs, .slice ss k fs, .slice s2 (k + nu) c2, .slice none 0 0] 24 := by rw [hW2]; exact Blk.new wg #[.slice v nu cd, .slice ss nC fs, .slice ss k fs, .slice s2 (k + nu) c2, .slice none 0 0] 24
      have b2 : Below wk.heap.size wk W2 := bg.trans (bW2.mono bg.size)
      have B7 := B6.out.trans (b2.mono B6.out.size)
      rw [← hW2]
      refine SqC.here rfl (fun _ => b2) ?_
      refine SqC.quiet rfl rfl ?_; go_big_quiet_step (fail); refine wpQuiet_nil ?_
      refine SqC.nil ?_
      have hat : ∀ i, i < 5 → ∃ x, SetsAt W2 x ∧ ∀ U, Below W2.heap.size W2 U → U.cell? ⟨wg.heap.size, i, none⟩ = some x := fun i hi => by
        have hi' : i = 0 ∨ i = 1 ∨ i = 2 ∨ i = 3 ∨ i = 4 := by omega
        rcases hi' with rfl | rfl | rfl | rfl | rfl
        · exact ⟨_, ⟨L, v, cd, by rw [HNU.out], by rw [← HNU.out]; exact HSL.out W2 B7, by rw [← HNU.out]; have := H4.out; omega⟩, fun U hU => (kW.below hU kW.lt).cell rfl⟩
        · exact ⟨_, ⟨C.map fun j : Nat => (j : Int), ss, fs, by rw [List.length_map, HNC.out], by rw [List.length_map, nts_map, ← HNC.out]; exact S6.out.below b2, by rw [List.length_map]; exact Nat.lt_trans HLEN2.out (by decide)⟩, fun U hU => (kW.below hU kW.lt).cell rfl⟩
        · exact ⟨_, ⟨pre, ss, fs, by rw [HPL.out], by rw [HPL.out]; exact HPRE.out W2 b2, by rw [HPL.out]; have := HKC.out; have := HLEN2.out; have := HNC.out; omega⟩, fun U hU => (kW.below hU kW.lt).cell rfl⟩
        · have e : (pre ++ L).length = k + nu := by rw [List.length_append, HPL.out, HNU.out]
          exact ⟨_, ⟨pre ++ L, s2, c2, by rw [e], by rw [e]; exact Sz.of (by unfold intsI; rw [List.map_append]; exact (Sl.of_owns r2).below bW2), by rw [e]; have := HKC.out; have := HLEN2.out; have := HNC.out; have := H4.out; omega⟩, fun U hU => (kW.below hU kW.lt).cell rfl⟩
        · exact ⟨_, ⟨[], none, 0, rfl, sz_nil _, by decide⟩, fun U hU => (kW.below hU kW.lt).cell rfl⟩
      have HAT := Lib.hid hat; clear hat kW
      have BW2 := Lib.hid B7; clear B7 b2 bg bf be eX bk r1 r2 r1' gr1 gr2 hO hwe se sd hW2 bW2
      obtain ⟨g2, hg2⟩ : ∃ g2, g2 = wg.heap.size := ⟨_, rfl⟩
      rw [← hg2] at HAT ⊢
      clear hg2
      clear HPRE HPL HSL HSL1 HKC B6 S6 BW SW HAR
      go_wp2
      go_loopw [25] (fun v wr => ∃ i : Nat, i ≤ 5 ∧ v = .int .i64 i ∧ Below W2.heap.size W2 wr) (fun v _ => 5 - (vInt v).toNat)
      case atStart => exact ⟨0, Nat.zero_le _, rfl, Below.refl _ _⟩
      case round =>
        obtain ⟨i, hi, rfl, hbr⟩ := hrel
        by_cases h1 : i < 5
        · have h1' : (i : Int) < 5 := by omega
          obtain ⟨x, ⟨q, sq, cq, rfl, hq, hqn⟩, hcx⟩ := HAT.out i h1
          have hb0 : Below w.heap.size w wr := BW2.out.trans (hbr.mono BW2.out.size)
          have h8 := fun (U : World) (hU : Below wr.heap.size wr U) => HN1.out U sq cq q hqn (hb0.trans (hU.mono hb0.size)) ((hq.below hbr).below hU)
          have h9 := fun (U : World) (hU : Below wr.heap.size wr U) => HN2.out U sq cq q hqn (hb0.trans (hU.mono hb0.size)) ((hq.below hbr).below hU)
          have hcr2 := fun (U : World) (hU : Below wr.heap.size wr U) => hcx U (hbr.trans (hU.mono hbr.size))
          obtain ⟨nq, hnq⟩ : ∃ nq, nq = q.length := ⟨_, rfl⟩
          obtain ⟨e1, he1⟩ : ∃ e1, e1 = noneV whole may st q := ⟨_, rfl⟩
          rw [← hnq, ← he1] at h8 h9
          rw [← hnq] at hcr2
          have H8 := Lib.hid h8; clear h8
          have H9 := Lib.hid h9; clear h9
          have HCR := Lib.hid hcr2; clear hcr2
          have HBR := Lib.hid hbr
          clear hq hqn hcx hb0 hnq he1 h1 hbr
          go_wp2_with (fail)
          have eX : Below wr.heap.size wr wr.drew := (Below.refl _ _).drew
          haveI : Nonempty (SqC.Come fun U : World => Below wr.heap.size wr U) := ⟨⟨_, eX⟩⟩
          refine SqC.wp_region_sqc 18 [8, 16] (fun U : World => Below wr.heap.size wr U) (by kernel_rfl) (by kernel_rfl) (by kernel_rfl) eX ?_
          obtain ⟨wd, hwd⟩ : ∃ wd : World, wd = wr.drew := ⟨_, rfl⟩
          rw [← hwd] at eX ⊢
          clear hwd
          refine SqC.quiet rfl rfl ?_; go_big_quiet_step (fail); refine wpQuiet_nil ?_
          refine SqC.quiet rfl rfl ?_; go_big_quiet_step (fail); refine wpQuiet_nil ?_
          refine SqC.quiet rfl rfl ?_; go_big_quiet_step (fail); refine wpQuiet_nil ?_
          refine SqC.quiet rfl rfl ?_; go_big_quiet_step (fail); refine wpQuiet_nil ?_
          refine SqC.quiet rfl rfl ?_; go_big_quiet_step (fail); refine wpQuiet_nil ?_
          refine SqC.quiet rfl rfl ?_; go_big_quiet_step (fail); refine wpQuiet_nil ?_
          refine SqC.value (.slice sq nq cq) rfl rfl (by intro U hU; have cx := HCR.out U hU; go_simp) ?_
          simp only [Act.put, List.setIfInBounds_toArray, List.set_cons_zero, List.set_cons_succ]
          refine SqC.quiet rfl rfl ?_; go_big_quiet_step (fail); refine wpQuiet_nil ?_
          refine SqC.effect rfl rfl ?_
          refine yields_call rfl (by kernel_rfl) rfl rfl ((H8.out wd eX).mono ?_)
          rintro e w6 ⟨rfl, b6⟩
          have e6 : Below wr.heap.size wr w6 := eX.trans (b6.mono eX.size)
          refine ⟨_, rfl, fun _ => e6, ?_⟩
          simp only [Act.put, List.setIfInBounds_toArray, List.set_cons_zero, List.set_cons_succ]
          refine SqC.quiet rfl rfl ?_; go_big_quiet_step (fail); refine wpQuiet_nil ?_
          refine SqC.quiet rfl rfl ?_; go_big_quiet_step (fail); refine wpQuiet_nil ?_
          refine SqC.quiet rfl rfl ?_; go_big_quiet_step (fail); refine wpQuiet_nil ?_
          refine SqC.quiet rfl rfl ?_; go_big_quiet_step (fail); refine wpQuiet_nil ?_
          refine SqC.quiet rfl rfl ?_; go_big_quiet_step (fail); refine wpQuiet_nil ?_
          refine SqC.quiet rfl rfl ?_; go_big_quiet_step (fail); refine wpQuiet_nil ?_
          refine SqC.value (.slice sq nq cq) rfl rfl (by intro U hU; have cx := HCR.out U hU; go_simp) ?_
          simp only [Act.put, List.setIfInBounds_toArray, List.set_cons_zero, List.set_cons_succ]
          refine SqC.effect rfl rfl ?_
          refine yields_call rfl (by kernel_rfl) rfl rfl ((H9.out w6 e6).mono ?_)
          rintro e w7 ⟨rfl, b7⟩
          have e7 : Below wr.heap.size wr w7 := e6.trans (b7.mono e6.size)
          refine ⟨_, rfl, fun _ => e7, ?_⟩
          simp only [Act.put, List.setIfInBounds_toArray, List.set_cons_zero, List.set_cons_succ]
          refine SqC.quiet rfl rfl ?_; go_big_quiet_step (fail); refine wpQuiet_nil ?_
          refine SqC.nil ?_
          have E7 := Lib.hid (HBR.out.trans (e7.mono HBR.out.size))
          clear e6 e7 eX b6 b7 H8 H9 HCR this
          go_wp2
          go_roundw
          case rel => exact ⟨i + 1, by omega, by go_num, E7.out⟩
          case measure => simp [vInt]; omega
        · obtain rfl : i = 5 := by omega
          have B9 := Lib.hid (BW2.out.trans (hbr.mono BW2.out.size))
          clear hbr h1 hi HAT HN1 HN2 BW2
          go_wp2_with (fail)
          refine (lives_any wr).mono ?_
          rintro e w9 ⟨rfl, b9⟩
          go_wp2
          go_ret
          exact ⟨rfl, B9.out.trans (b9.mono B9.out.size)⟩
end Go.Proofs.Ytnkinjilnccmfaa

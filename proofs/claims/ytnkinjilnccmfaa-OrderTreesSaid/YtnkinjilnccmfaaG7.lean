/- order: the law OrderTrees. -/
import Derived.Test.YtnkinjilnccmfaaG6
import Derived.Test.YtnkinjilnccmfaaL5
namespace Go.Order
open Go.RowKit Go.Own Go.Proofs.Ytnkinjilnccmfaa Go.Theory
theorem lst_take {w : World} {a : Option Addr} {cap : Nat} {l : List Spl} (h : Lst w (.slice a l.length cap) l) {n : Nat} (hn : n ≤ l.length) : Lst w (.slice a n cap) (l.take n) := by
  refine ⟨?_, fun x hx => h.at' x (List.mem_of_mem_take hx)⟩
  have hlt : (l.take n).length = n := by rw [List.length_take, Nat.min_eq_left hn]
  obtain ⟨h1, ⟨h2, h3⟩ | ⟨b, off, cap', h2, h3, h4, h5, h6⟩⟩ := h.sl
  · have h0 : n = 0 := by omega
    subst h0
    injection h2 with h2 h2' h2''
    subst h2 h2''
    rw [hlt]
    exact ⟨by rw [flat_len, hlt], .inl ⟨rfl, rfl⟩⟩
  · injection h2 with h2 _ h2''
    subst h2 h2''
    refine ⟨by rw [flat_len], .inr ⟨b, off, cap, by rw [hlt], by rw [hlt]; omega, h4, fun i u hi => h5 i u ?_, h6⟩⟩
    have e : flat l = flat (l.take n) ++ flat (l.drop n) := by rw [← flat_app, List.take_append_drop]
    rw [e, List.getElem?_append_left (List.getElem?_eq_some_iff.1 hi).1]
    exact hi
theorem lst_mid {w : World} {a : Option Addr} {cap : Nat} {l : List Spl} (h : Lst w (.slice a l.length cap) l) {k n : Nat} (hk : k + n ≤ l.length) : Lst w (.slice (dropA a cap k) n (cap - k)) ((l.drop k).take n) := lst_take (lst_drop h (by omega)) (by rw [List.length_drop]; omega)
end Go.Order
namespace Go.Proofs.Ytnkinjilnccmfaa
open Go.RowKit Go.Own Go.BigFrame Go.Big Go.Order
theorem sl_midL (a : Option Addr) (len cap k h : Nat) (hk : k ≤ h) (hh : h ≤ cap) (w : World) : (Instr.sliceAt 23 (.slice a len cap) (some (.int .i64 (k : Int))) (some (.int .i64 (h : Int))) none).run Try.prog w = .ok (.slice (dropA a cap k) (h - k) (cap - k)) w := by
  rw [run_sliceAt_slice w _ _ _ _ _ hTspl, run_slice_lh w _ a len cap hTspl .i64 .i64 (k : Int) (h : Int) (by omega) (by omega) (by omega), sizeSpl]
  simp only [Result.andThen, sliced, Int.toNat_natCast]
  rfl
set_option maxRecDepth 100000 in
set_option maxHeartbeats 12800000 in
theorem orderTrees_any (whole : Int) (may : List Spl) (st : List Int) (s t : Option Addr) (ca cb : Nat) (w : World) (hl : Lst w (.slice s may.length ca) may) (hm : Sz w (.slice t st.length cb) st.length (intsI st)) (hn : may.length < 4611686018427387904) :
    Calls Try.prog 7 #[.int .i64 whole, .slice s may.length ca, .slice t st.length cb] w fun e w' => e = .returned (.bool true) ∧ Below w.heap.size w w' := by
  by_cases h1 : may.length ≤ 60
  case neg =>
    have g1 : (60 < (may.length : Int)) = True := eq_true (by omega)
    clear hl hm hn h1
    go_enter Try.func7, Try.ntmps7
    go_wp2_with (fail)
    refine (lives_any w).mono ?_
    rintro e w2 ⟨rfl, b2⟩
    go_wp2
    go_ret
    exact ⟨rfl, b2⟩
  have g1 : (60 < (may.length : Int)) = False := eq_false (by omega)
  by_cases h2 : st.length ≤ 60
  case neg =>
    have g2 : (60 < (st.length : Int)) = True := eq_true (by omega)
    clear hl hm hn h1 h2
    go_enter Try.func7, Try.ntmps7
    go_wp2_with (fail)
    refine (lives_any w).mono ?_
    rintro e w2 ⟨rfl, b2⟩
    go_wp2
    go_ret
    exact ⟨rfl, b2⟩
  have g2 : (60 < (st.length : Int)) = False := eq_false (by omega)
  have hp1 := plain_any may s ca w hl hn
  have her := fun (U : World) (hU : Below w.heap.size w U) => rerror_any whole may st s t ca cb U (hl.below hU) (hm.below hU)
  have hf1 := fun (U : World) (x : Int) (hU : Below w.heap.size w U) => find_any x may st s t ca cb U (hl.below hU) (hm.below hU)
  have hbh := fun (U : World) (x : Option Addr) (cx : Nat) (T : List Spl) (hU : Below w.heap.size w U) (hx : Lst U (.slice x T.length cx) T) (hT : T.length < 1000000) (hB : Beh T st) => behind_any T st x t cx cb U hx (hm.below hU) hT (by omega) hB
  have hev := errV_cases whole may st
  have HOK := Lib.hid (fun h : errV whole may st = 0 => errV_ok h)
  clear hl hm hn
  have HLN := Lib.hid h1; clear h1
  have HLN2 := Lib.hid h2; clear h2
  have HER := Lib.hid her; clear her
  have HF1 := Lib.hid hf1; clear hf1
  have HBH := Lib.hid hbh; clear hbh
  have HP1 := Lib.hid hp1; clear hp1
  obtain ⟨nl, hnl⟩ : ∃ nl, nl = may.length := ⟨_, rfl⟩
  obtain ⟨ns, hns⟩ : ∃ ns, ns = st.length := ⟨_, rfl⟩
  rw [← hnl] at g1 HP1 HER HF1 ⊢
  rw [← hns] at g2 HER HF1 HBH ⊢
  clear hnl hns
  go_enter Try.func7, Try.ntmps7
  go_wp2_with (fail)
  refine HP1.out.mono ?_
  rintro e w2 ⟨pb, rfl, b2⟩
  have B2 := Lib.hid b2; clear b2 HP1
  cases pb with
  | false =>
    go_wp2_with (fail)
    refine (lives_any w2).mono ?_
    rintro e w3 ⟨rfl, bz⟩
    go_wp2
    go_ret
    exact ⟨rfl, B2.out.trans (bz.mono B2.out.size)⟩
  | true =>
  go_wp2_with (fail)
  refine (HER.out w2 B2.out).mono ?_
  rintro e w4 ⟨rfl, b4⟩
  have B4 := Lib.hid (B2.out.trans (b4.mono B2.out.size)); clear b4 B2 HER
  by_cases h0 : errV whole may st = 0
  case neg =>
    have h0' : (errV whole may st != 0) = true := by simpa using h0
    obtain ⟨E, hE⟩ : ∃ E, E = errV whole may st := ⟨_, rfl⟩
    rw [← hE] at h0' ⊢
    clear hE h0 hev HOK HF1 HBH
    go_wp2_with (fail)
    refine (lives_any w4).mono ?_
    rintro e w5 ⟨rfl, bz⟩
    go_wp2
    go_ret
    exact ⟨rfl, B4.out.trans (bz.mono B4.out.size)⟩
  obtain ⟨_, _, hwb, hstb, hmok⟩ := HOK.out h0
  obtain ⟨m, rfl, hm1, hm2⟩ := isB_nat hwb
  rw [h0]
  have hee : ∀ x : Nat, 1 ≤ x → x < 65536 → errV (x : Int) may st = 0 := fun x hx1 hx2 => errV_zero (by have := HLN.out; omega) (by have := HLN2.out; omega) (by unfold isB; simp; omega) hstb hmok
  by_cases hb : 0 ≤ (bb may st m).2
  case neg =>
    have hfv := findV_no h0 (by rw [Int.toNat_natCast]; exact hb)
    have hf := HF1.out w4 m B4.out
    have HFV := Lib.hid hfv
    have HF := Lib.hid hf
    clear hf hfv hb h0 hev hee HOK HF1 HBH hwb hstb hmok hm1 hm2
    go_wp2_with (fail)
    refine HF.out.mono ?_
    rintro e w5 ⟨sa, fa, ss, fs, rfl, hLa, hSa, b5⟩
    rw [HFV.out]
    dsimp only
    obtain ⟨W5, hW5⟩ : ∃ W5, W5 = w5.alloc (.cells #[.slice ss (canL may st).length fs] 29) := ⟨_, rfl⟩
    have b6 : Below w5.heap.size w5 W5 := by rw [hW5]; exact alloc_below _ _
    have B5 := Lib.hid (B4.out.trans ((b5.trans (b6.mono b5.size)).mono B4.out.size))
    have HW5 := Lib.hid hW5
    clear b5 b6 hW5 B4 HF hLa hSa
    go_wp2_with (fail)
    rw [← HW5.out]
    refine (lives_any W5).mono ?_
    rintro e w6 ⟨rfl, bz⟩
    go_wp2
    go_ret
    exact ⟨rfl, B5.out.trans (bz.mono B5.out.size)⟩
  have hfv := findV_yes h0 (by rw [Int.toNat_natCast]; exact hb)
  rw [Int.toNat_natCast] at hfv
  have hcnt := tre_count hmok m hm2 hb
  have hat := tre_at hmok m hm2 hb
  have hcnt2 := fun (x : Nat) (h1 : x < 65536) (h2 : 0 ≤ (bb may st x).2) => tre_count hmok x h1 h2
  have hfv2 := fun (x : Nat) (h1 : 1 ≤ x) (h2 : x < 65536) (h3 : 0 ≤ (bb may st x).2) => findV_yes (hee x h1 h2) (by rw [Int.toNat_natCast]; exact h3)
  have hbe := tre_beh hmok hm2 hb
  have hsz : (siz (m : Int) : Int) = (((tre may st 65536 m).length + 1 : Nat) : Int) := by rw [siz_nat m hm2, hcnt]
  have hlen := Theory.pop_le16 m
  obtain ⟨T, hT⟩ : ∃ T, T = tre may st 65536 m := ⟨_, rfl⟩
  obtain ⟨n, hn⟩ : ∃ n, n = (bb may st m).2 := ⟨_, rfl⟩
  rw [← hT] at hfv hat hbe hsz hcnt
  rw [← hn] at hfv
  have hT16 : T.length ≤ 16 := by omega
  have HFV := Lib.hid hfv
  have HAT := Lib.hid hat
  have HCNT := Lib.hid hcnt2
  have HFV2 := Lib.hid hfv2
  have HBE := Lib.hid hbe
  have HSZ := Lib.hid hsz
  have HT16 := Lib.hid hT16
  have hf := HF1.out w4 m B4.out
  have HF := Lib.hid hf
  clear hf hfv hat hcnt hcnt2 hfv2 hbe hsz hT16 hlen hT hn hb h0 hev hee HOK hwb hstb hmok hm1 hm2
  go_wp2_with (fail)
  refine HF.out.mono ?_
  rintro e w5 ⟨sa, fa, ss, fs, rfl, hLa, hSa, b5⟩
  rw [HFV.out] at hLa ⊢
  dsimp only at hLa ⊢
  obtain ⟨W, hW⟩ : ∃ W, W = w5.alloc (.cells #[.slice ss 0 fs] 29) := ⟨_, rfl⟩
  have b6 : Below w5.heap.size w5 W := by rw [hW]; exact alloc_below _ _
  have B5 := Lib.hid (B4.out.trans ((b5.trans (b6.mono b5.size)).mono B4.out.size))
  have LA := Lib.hid (hLa.below b6)
  have HW5 := Lib.hid hW
  clear b5 b6 hW B4 HF hLa hSa
  have hsz0 := fun U => rsize_any (m : Int) U
  rw [HSZ.out] at hsz0
  have HS0 := Lib.hid hsz0; clear hsz0
  obtain ⟨nT, hnT⟩ : ∃ nT, nT = T.length := ⟨_, rfl⟩
  rw [← hnT] at HS0 HT16 ⊢
  have HNT := Lib.hid hnT; clear hnT
  go_wp2_with (fail)
  rw [← HW5.out]
  refine (HS0.out W).mono ?_
  rintro e w6 ⟨rfl, h6⟩
  subst h6
  have hT16 := HT16.out
  have hwr : wrap64 (((nT + 1 : Nat) : Int) - 1) = (nT : Int) := by rw [Go.IntWalk.wrap64_in _ (by omega)]; omega
  have hwr2 : ((nT : Int) != nT) = false := by simp
  go_wp2
  have hTs := LA.out
  have HGL := HNT
  go_loopw [11, 12, 13, 14, 15, 16, 17, 18, 19, 20, 21] (fun v _ _ _ _ _ _ _ _ _ _ wr => ∃ i : Nat, i ≤ nT ∧ v = .int .i64 i ∧ Below w6.heap.size w6 wr) (fun v _ _ _ _ _ _ _ _ _ _ _ => nT - (vInt v).toNat)
  case atStart => exact ⟨0, Nat.zero_le _, rfl, Below.refl _ _⟩
  case round =>
    obtain ⟨i, hi, rfl, hbr⟩ := hrel
    by_cases h1 : i < nT
    · have h1' : (i : Int) < nT := by omega
      have hil : i < T.length := by rw [← HGL.out]; exact h1
      obtain ⟨p, r, e1, e2, hp, hr, p1, r1, h5, h6, z, hz⟩ := HAT.out i hil
      have hfp := HFV2.out p p1 hp h5
      have hfr := HFV2.out r r1 hr h6
      have hcp := HCNT.out p hp h5
      have hcr := HCNT.out r hr h6
      have sp : (siz (p : Int) : Int) = (((tre may st 65536 p).length + 1 : Nat) : Int) := by rw [siz_nat p hp, hcp]
      have sr : (siz (r : Int) : Int) = (((tre may st 65536 r).length + 1 : Nat) : Int) := by rw [siz_nat r hr, hcr]
      rw [Int.toNat_natCast] at hfp hfr
      obtain ⟨x, hx⟩ : ∃ x, x = T[i] := ⟨_, rfl⟩
      rw [← hx] at e1 e2
      obtain ⟨Tp, hTp⟩ : ∃ Tp, Tp = tre may st 65536 p := ⟨_, rfl⟩
      obtain ⟨Tr, hTr⟩ : ∃ Tr, Tr = tre may st 65536 r := ⟨_, rfl⟩
      obtain ⟨np, hnp⟩ : ∃ np, np = (bb may st p).2 := ⟨_, rfl⟩
      obtain ⟨nr, hnr⟩ : ∃ nr, nr = (bb may st r).2 := ⟨_, rfl⟩
      rw [← hTp, ← hnp] at hfp
      rw [← hTr, ← hnr] at hfr
      rw [← hTp] at hz sp
      rw [← hTr] at hz sr
      have hlen : T.length = i + 1 + (Tp.length + (Tr.length + z.length)) := by
        have := congrArg List.length hz
        simp only [List.length_drop, List.length_append] at this
        omega
      have hta : (T.drop (i + 1)).take Tp.length = Tp := by rw [hz, List.take_left]
      have htb : (T.drop (i + 1 + Tp.length)).take Tr.length = Tr := by
        rw [← List.drop_drop, hz, List.drop_left, List.take_left]
      have hL := hTs
      obtain ⟨gl, o, rfl, _, _, _, hC, hgl⟩ := hL.at (by omega)
      have hcap : T.length ≤ fa := by
        obtain ⟨_, ⟨h2, h3⟩ | ⟨b, off, cap', h2, h3b, _, _, _⟩⟩ := hL.sl
        · omega
        · injection h2 with _ _ h2''
      have hcell : ∀ U, Below w6.heap.size w6 U → (∀ j v, T[i].cells[j]? = some v → U.cell? ⟨gl, o + i * 10 + j, none⟩ = some v) := fun U hU j v hj =>
        (hU.cell (p := ⟨gl, o + i * 10 + j, none⟩) hgl).trans (hC i j v hil hj)
      have hld : ∀ U, Below w6.heap.size w6 U → Cells U gl (o + i * 10) x.cells := fun U hU j v hj => by
        rw [hx] at hj
        exact hcell U hU j v hj
      have hpc : ∀ U, Below w6.heap.size w6 U → U.cell? ⟨gl, o + i * 10 + 1, none⟩ = some (.int .i64 p) := fun U hU => by
        have := hcell U hU 1 (.int .i64 p) (by rw [← hx, ← e1]; rfl)
        simpa using this
      have hrs := fun U => rrest_any x U
      rw [e2] at hrs
      have hsp := fun U => rsize_any (p : Int) U
      rw [sp] at hsp
      have hsr := fun U => rsize_any (r : Int) U
      rw [sr] at hsr
      have hma : ∀ U, Below w6.heap.size w6 U → Lst U (.slice (dropA (some ⟨gl, o, none⟩) fa (i + 1)) Tp.length (fa - (i + 1))) Tp := fun U hU => by
        have := lst_mid (hL.below hU) (k := i + 1) (n := Tp.length) (by omega)
        rwa [hta] at this
      have hmb : ∀ U, Below w6.heap.size w6 U → Lst U (.slice (dropA (some ⟨gl, o, none⟩) fa (i + 1 + Tp.length)) Tr.length (fa - (i + 1 + Tp.length))) Tr := fun U hU => by
        have := lst_mid (hL.below hU) (k := i + 1 + Tp.length) (n := Tr.length) (by omega)
        rwa [htb] at this
      have hrs' : ∀ U, Calls Try.prog 28 #[.agg x.cells.toArray] U fun e w' => e = .returned (.int .i64 (r : Int)) ∧ Below U.heap.size U w' := hrs
      have hinf : (Try.prog.info? 58).map (·.size) = some x.cells.length := infoS' x
      obtain ⟨cs, hxv⟩ : ∃ cs, cs = x.cells := ⟨_, rfl⟩
      rw [← hxv] at hld hrs' hinf
      obtain ⟨a, ha⟩ : ∃ a, a = Tp.length := ⟨_, rfl⟩
      obtain ⟨b, hb⟩ : ∃ b, b = Tr.length := ⟨_, rfl⟩
      rw [← ha] at hsp hlen hma hmb
      rw [← hb] at hsr hlen hmb
      rw [← HGL.out] at hlen hcap
      have hab : i + 1 + a + b ≤ nT := by omega
      have HLD := Lib.hid hld
      have HPC := Lib.hid hpc
      have HRS := Lib.hid hrs'
      have HINF := Lib.hid hinf
      have HSP := Lib.hid hsp
      have HSR := Lib.hid hsr
      have HMA := Lib.hid hma
      have HMB := Lib.hid hmb
      have HFP := Lib.hid hfp
      have HFR := Lib.hid hfr
      have HA := Lib.hid ha
      have HBB := Lib.hid hb
      have HAB := Lib.hid hab
      have HCAP := Lib.hid hcap
      have HP := Lib.hid (show 1 ≤ p ∧ p < 65536 ∧ 1 ≤ r ∧ r < 65536 from ⟨p1, hp, r1, hr⟩)
      have hwa : wrap64 (((a + 1 : Nat) : Int) - 1) = (a : Int) := by rw [Go.IntWalk.wrap64_in _ (by omega)]; omega
      have hwb : wrap64 (((b + 1 : Nat) : Int) - 1) = (b : Int) := by rw [Go.IntWalk.wrap64_in _ (by omega)]; omega
      clear hld hpc hrs hrs' hinf hsp hsr hma hmb hfp hfr ha hb hxv hx hlen hta htb hL hC hcell hcp hcr sp sr hTp hTr hnp hnr hz e1 e2 h5 h6 p1 r1 hp hr hil hcap hgl
      have hpc1 := HPC.out wr hbr
      go_wp2_with (fail)
      refine (HSP.out wr).mono ?_
      rintro e w7 ⟨rfl, h7⟩
      subst h7
      have hld1 := HLD.out w7 hbr
      have HBR := Lib.hid hbr
      clear hpc1 hbr
      go_wp2_with (refine wpList_load_agg cs hld1 rfl rfl rfl aggS HINF.out ?_)
      refine (HRS.out w7).mono ?_
      rintro e w8 ⟨rfl, b8⟩
      have B8 := Lib.hid (HBR.out.trans (b8.mono HBR.out.size)); clear b8 hld1
      go_wp2_with (fail)
      refine (HSR.out w8).mono ?_
      rintro e w9 ⟨rfl, h9⟩
      subst h9
      have hpc2 := HPC.out w9 B8.out
      have hf := HF1.out w9 p (B5.out.trans (B8.out.mono B5.out.size))
      have HF := Lib.hid hf; clear hf
      have hla : (a : Int) < 1000 := by have := HAB.out; have := HT16.out; omega
      have hlb : (b : Int) < 1000 := by have := HAB.out; have := HT16.out; omega
      have hli : (i : Int) < 1000 := by have := HAB.out; have := HT16.out; omega
      have ha0 : ((a : Int) < 0) = False := eq_false (by omega)
      have hb0 : ((b : Int) < 0) = False := eq_false (by omega)
      have hs0 : ((nT : Int) < (i : Int) + 1 + a + b) = False := eq_false (by have := HAB.out; omega)
      have hsum : (i : Int) + 1 + a + b ≤ nT := by have := HAB.out; omega
      clear HBR
      go_wp2_with (fail)
      refine HF.out.mono ?_
      rintro e wa ⟨sx, fx, sy, fy, rfl, hLx, hSx, ba⟩
      rw [HFP.out] at hLx ⊢
      dsimp only at hLx ⊢
      rw [← HA.out] at hLx ⊢
      obtain ⟨Wa, hWa⟩ : ∃ Wa, Wa = wa.alloc (.cells #[.slice sy 0 fy] 29) := ⟨_, rfl⟩
      have ba2 : Below wa.heap.size wa Wa := by rw [hWa]; exact alloc_below _ _
      have Ba := Lib.hid (B8.out.trans ((ba.trans (ba2.mono ba.size)).mono B8.out.size))
      have LX := Lib.hid (hLx.below ba2)
      have hld2 := HLD.out Wa Ba.out
      have HWA := Lib.hid hWa
      clear ba ba2 hWa hLx hSx HF B8 hpc2
      rw [HWA.out] at hld2
      go_wp2_with (refine wpList_load_agg cs hld2 rfl rfl rfl aggS HINF.out ?_)
      rw [← HWA.out]
      refine (HRS.out Wa).mono ?_
      rintro e wb ⟨rfl, bb1⟩
      have LXb := Lib.hid (LX.out.below bb1)
      have Bb := Lib.hid (Ba.out.trans (bb1.mono Ba.out.size))
      have hf := HF1.out wb r (B5.out.trans (Bb.out.mono B5.out.size))
      have HF := Lib.hid hf
      clear hf bb1 hld2 HWA LX Ba
      go_wp2_with (fail)
      refine HF.out.mono ?_
      rintro e wc ⟨su, fu, sv, fv, rfl, hLu, hSu, bc⟩
      rw [HFR.out] at hLu ⊢
      dsimp only at hLu ⊢
      rw [← HBB.out] at hLu ⊢
      obtain ⟨Wc, hWc⟩ : ∃ Wc, Wc = wc.alloc (.cells #[.slice sv 0 fv] 29) := ⟨_, rfl⟩
      have bc2 : Below wc.heap.size wc Wc := by rw [hWc]; exact alloc_below _ _
      have bbc := bc.trans (bc2.mono bc.size)
      have Bc := Lib.hid (Bb.out.trans (bbc.mono Bb.out.size))
      have LU := Lib.hid (hLu.below bc2)
      have LX := Lib.hid (LXb.out.below bbc)
      have HWC := Lib.hid hWc
      have es1 : (((i + 1 : Nat) : Int)) = (i : Int) + 1 := by omega
      have es2 : (((i + 1 + a : Nat) : Int)) = (i : Int) + 1 + a := by omega
      have es3 : (((i + 1 + a + b : Nat) : Int)) = (i : Int) + 1 + a + b := by omega
      have hs1 := fun U => sl_midL (some ⟨gl, o, none⟩) nT fa (i + 1) (i + 1 + a) (by omega) (by have := HAB.out; have := HCAP.out; omega) U
      have hs2 := fun U => sl_midL (some ⟨gl, o, none⟩) nT fa (i + 1 + a) (i + 1 + a + b) (by omega) (by have := HAB.out; have := HCAP.out; omega) U
      rw [es1, es2, show i + 1 + a - (i + 1) = a by omega] at hs1
      rw [es2, es3, show i + 1 + a + b - (i + 1 + a) = b by omega] at hs2
      have sm1 := sameAll_any Tp Tp sx (dropA (some ⟨gl, o, none⟩) fa (i + 1)) fx (fa - (i + 1)) Wc (by rw [← HA.out]; exact LX.out) (by rw [← HA.out]; exact HMA.out Wc Bc.out) (by rw [← HA.out]; omega)
      have sm2 := fun (U : World) (hU : Below Wc.heap.size Wc U) => sameAll_any Tr Tr su (dropA (some ⟨gl, o, none⟩) fa (i + 1 + a)) fu (fa - (i + 1 + a)) U (by rw [← HBB.out]; exact LU.out.below hU) (by rw [← HBB.out]; exact HMB.out U (Bc.out.trans (hU.mono Bc.out.size))) (by rw [← HBB.out]; omega)
      rw [eqvL_self, ← HA.out] at sm1
      rw [eqvL_self, ← HBB.out] at sm2
      have SM1 := Lib.hid sm1
      have SM2 := Lib.hid sm2
      clear bc bc2 bbc hWc hLu hSu HF Bb LXb sm1 sm2 es1 es2 es3
      go_wp2_with (fail)
      rw [← HWC.out]
      refine SM1.out.mono ?_
      rintro e wd ⟨rfl, bd⟩
      have SM2d := Lib.hid (SM2.out wd bd)
      have Bd := Lib.hid (Bc.out.trans (bd.mono Bc.out.size))
      clear bd SM1 SM2
      go_wp2_with (fail)
      refine SM2d.out.mono ?_
      rintro e we ⟨rfl, be⟩
      have Be := Lib.hid (Bd.out.trans (be.mono Bd.out.size))
      clear be SM2d hs1 hs2 HWC
      go_wp2
      go_roundw
      case rel => exact ⟨i + 1, by omega, by go_num, Be.out⟩
      case measure => simp [vInt]; omega
    · obtain rfl : nT = i := by omega
      have Bz := Lib.hid (B5.out.trans (hbr.mono B5.out.size))
      have hL := hTs.below hbr
      have hsq := sequence_any T sa fa wr hL (by have := HT16.out; have := HGL.out; omega)
      have hLa := hL.at'
      rw [← HGL.out] at hsq
      have HSQ := Lib.hid hsq
      have HLA := Lib.hid hLa
      clear hsq hbr h1 hi hL hLa
      go_wp2_with (fail)
      refine HSQ.out.mono ?_
      rintro e wa ⟨v, rfl, hv, ba⟩
      obtain ⟨s1, c1, rfl, _⟩ := own_slice hv
      have hrl : T.reverse.length = nT := by rw [List.length_reverse]; exact HGL.out.symm
      have hbh := HBH.out wa s1 c1 T.reverse (Bz.out.trans (ba.mono Bz.out.size)) ⟨by rw [hrl]; exact Sl.of_owns hv, fun x hx => ((HLA.out x (List.mem_reverse.1 hx)).below ba)⟩ (by rw [hrl]; have := HT16.out; omega) HBE.out
      rw [hrl] at hbh
      have HBHH := Lib.hid hbh
      have Ba := Lib.hid (Bz.out.trans (ba.mono Bz.out.size))
      clear hbh hrl hv ba HSQ
      go_wp2_with (fail)
      refine HBHH.out.mono ?_
      rintro e wb ⟨rfl, bb1⟩
      have Bb := Lib.hid (Ba.out.trans (bb1.mono Ba.out.size))
      clear bb1 HBHH
      go_wp2_with (fail)
      refine (lives_any wb).mono ?_
      rintro e wc ⟨rfl, bz⟩
      go_wp2
      go_ret
      exact ⟨rfl, Bb.out.trans (bz.mono Bb.out.size)⟩
end Go.Proofs.Ytnkinjilnccmfaa

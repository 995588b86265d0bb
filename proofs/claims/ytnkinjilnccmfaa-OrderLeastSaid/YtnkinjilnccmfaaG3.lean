/- order: the law OrderLeast. -/
import Derived.Test.YtnkinjilnccmfaaN3
import Derived.Test.YtnkinjilnccmfaaG0
namespace Go.Order
open Go.RowKit Go.Own Go.Proofs.Ytnkinjilnccmfaa Go.Theory
theorem nts_map2 (L : List Nat) : nts L = intsI (L.map fun d : Nat => (d : Int)) := by unfold intsI nts; rw [List.map_map]; rfl
end Go.Order
namespace Go.Proofs.Ytnkinjilnccmfaa
open Go.RowKit Go.Own Go.BigFrame Go.Big Go.Order
set_option maxRecDepth 100000 in
set_option maxHeartbeats 6400000 in
theorem orderLeast_any (whole : Int) (may : List Spl) (st : List Int) (l : List Spl) (L : List Int) (s t u v : Option Addr) (ca cb cc cd : Nat) (w : World) (hl : Lst w (.slice s may.length ca) may) (hm : Sz w (.slice t st.length cb) st.length (intsI st))
    (hL : Lst w (.slice u l.length cc) l) (hM : Sz w (.slice v L.length cd) L.length (intsI L)) (hn : may.length < 4611686018427387904) (hnl : l.length < 4611686018427387904) :
    Calls Try.prog 5 #[.int .i64 whole, .slice s may.length ca, .slice t st.length cb, .slice u l.length cc, .slice v L.length cd] w fun e w' => e = .returned (.bool true) ∧ Below w.heap.size w w' := by
  by_cases h1 : may.length ≤ 60
  case neg =>
    have g1 : (60 < (may.length : Int)) = True := eq_true (by omega)
    clear hl hm hL hM hn hnl h1
    go_enter Try.func5, Try.ntmps5
    go_wp2_with (fail)
    refine (lives_any w).mono ?_
    rintro e w2 ⟨rfl, b2⟩
    go_wp2
    go_ret
    exact ⟨rfl, b2⟩
  have g1 : (60 < (may.length : Int)) = False := eq_false (by omega)
  by_cases h2 : st.length ≤ 60
  case neg =>
    have g2 : (60 < (st.length : Int)) = True := eq_true (by omega)
    clear hl hm hL hM hn hnl h1 h2
    go_enter Try.func5, Try.ntmps5
    go_wp2_with (fail)
    refine (lives_any w).mono ?_
    rintro e w2 ⟨rfl, b2⟩
    go_wp2
    go_ret
    exact ⟨rfl, b2⟩
  have g2 : (60 < (st.length : Int)) = False := eq_false (by omega)
  by_cases h3 : l.length ≤ 40
  case neg =>
    have g3 : (40 < (l.length : Int)) = True := eq_true (by omega)
    clear hl hm hL hM hn hnl h1 h2 h3
    go_enter Try.func5, Try.ntmps5
    go_wp2_with (fail)
    refine (lives_any w).mono ?_
    rintro e w2 ⟨rfl, b2⟩
    go_wp2
    go_ret
    exact ⟨rfl, b2⟩
  have g3 : (40 < (l.length : Int)) = False := eq_false (by omega)
  by_cases h4 : L.length ≤ 40
  case neg =>
    have g4 : (40 < (L.length : Int)) = True := eq_true (by omega)
    clear hl hm hL hM hn hnl h1 h2 h3 h4
    go_enter Try.func5, Try.ntmps5
    go_wp2_with (fail)
    refine (lives_any w).mono ?_
    rintro e w2 ⟨rfl, b2⟩
    go_wp2
    go_ret
    exact ⟨rfl, b2⟩
  have g4 : (40 < (L.length : Int)) = False := eq_false (by omega)
  have hp1 := plain_any may s ca w hl hn
  have hp2 := fun (U : World) (hU : Below w.heap.size w U) => plain_any l u cc U (hL.below hU) hnl
  have her := fun (U : World) (hU : Below w.heap.size w U) => rerror_any whole may st s t ca cb U (hl.below hU) (hm.below hU)
  have hf1 := fun (U : World) (hU : Below w.heap.size w U) => find_any whole may st s t ca cb U (hl.below hU) (hm.below hU)
  have hc1 := fun (U : World) (hU : Below w.heap.size w U) => check_any whole may l st s t u ca cb cc U (hl.below hU) (hm.below hU) (hL.below hU) (by omega) (by omega) (by omega)
  have hc2 := fun (U : World) (x : Option Addr) (cx : Nat) (T : List Spl) (hT : T.length < 1000000) (hU : Below w.heap.size w U) (hx : Lst U (.slice x T.length cx) T) => check_any whole may T st s t x ca cb cx U (hl.below hU) (hm.below hU) hx (by omega) (by omega) hT
  have hn1 := fun (U : World) (hU : Below w.heap.size w U) => checkNone_any whole may st L s t v ca cb cd U (hl.below hU) (hm.below hU) (hM.below hU) (by omega)
  have hn2 := fun (U : World) (x : Option Addr) (cx : Nat) (T : List Int) (hT : T.length < 1000000) (hU : Below w.heap.size w U) (hx : Sz U (.slice x T.length cx) T.length (intsI T)) => checkNone_any whole may st T s t x ca cb cx U (hl.below hU) (hm.below hU) hx (by omega)
  have hev := errV_cases whole may st
  have HOK := Lib.hid (fun h : errV whole may st = 0 => errV_ok h)
  have hlen := findV_l whole may st
  have hlen2 := findV_s whole may st
  clear hl hm hL hM hn hnl h1 h2 h3 h4
  have HP2 := Lib.hid hp2; clear hp2
  have HER := Lib.hid her; clear her
  have HF1 := Lib.hid hf1; clear hf1
  have HC1 := Lib.hid hc1; clear hc1
  have HC2 := Lib.hid hc2; clear hc2
  have HN1 := Lib.hid hn1; clear hn1
  have HN2 := Lib.hid hn2; clear hn2
  have HP1 := Lib.hid hp1; clear hp1
  have HLEN := Lib.hid hlen; clear hlen
  have HLEN2 := Lib.hid hlen2; clear hlen2
  obtain ⟨nl, hnl⟩ : ∃ nl, nl = may.length := ⟨_, rfl⟩
  obtain ⟨ns, hns⟩ : ∃ ns, ns = st.length := ⟨_, rfl⟩
  obtain ⟨nt, hnt⟩ : ∃ nt, nt = l.length := ⟨_, rfl⟩
  obtain ⟨nu, hnu⟩ : ∃ nu, nu = L.length := ⟨_, rfl⟩
  rw [← hnl] at g1 HP1 HER HF1 HC1 HC2 HN1 HN2 ⊢
  rw [← hns] at g2 HER HF1 HC1 HC2 HN1 HN2 ⊢
  rw [← hnt] at g3 HP2 HC1 ⊢
  rw [← hnu] at g4 HN1 ⊢
  have HNT := Lib.hid hnt
  clear hnl hns hnt hnu
  go_enter Try.func5, Try.ntmps5
  go_wp2_with (fail)
  refine HP1.out.mono ?_
  rintro e w2 ⟨pb, rfl, b2⟩
  have B2 := Lib.hid b2; clear b2 HP1
  cases pb with
  | false =>
    go_wp2_with (fail)
    refine (lives_any w2).mono ?_
    rintro e w3 ⟨rfl, b3⟩
    go_wp2
    go_ret
    exact ⟨rfl, B2.out.trans (b3.mono B2.out.size)⟩
  | true =>
    go_wp2_with (fail)
    refine (HP2.out w2 B2.out).mono ?_
    rintro e w3 ⟨pb, rfl, b3⟩
    have B3 := Lib.hid (B2.out.trans (b3.mono B2.out.size)); clear b3 B2 HP2
    cases pb with
    | false =>
      go_wp2_with (fail)
      refine (lives_any w3).mono ?_
      rintro e w4 ⟨rfl, b4⟩
      go_wp2
      go_ret
      exact ⟨rfl, B3.out.trans (b4.mono B3.out.size)⟩
    | true =>
      go_wp2_with (fail)
      refine (HER.out w3 B3.out).mono ?_
      rintro e w4 ⟨rfl, b4⟩
      have B4 := Lib.hid (B3.out.trans (b4.mono B3.out.size)); clear b4 B3 HER
      by_cases h0 : errV whole may st = 0
      case neg =>
        have h0' : (errV whole may st != 0) = true := by simpa using h0
        obtain ⟨E, hE⟩ : ∃ E, E = errV whole may st := ⟨_, rfl⟩
        rw [← hE] at h0' ⊢
        clear hE h0 hev HOK HF1 HC1 HC2 HN1 HN2
        go_wp2_with (fail)
        refine (lives_any w4).mono ?_
        rintro e w5 ⟨rfl, b5⟩
        go_wp2
        go_ret
        exact ⟨rfl, B4.out.trans (b5.mono B4.out.size)⟩
      obtain ⟨_, _, hwb, hstb, hmok⟩ := HOK.out h0
      obtain ⟨m, rfl, hm1, hm2⟩ := isB_nat hwb
      rw [h0]
      have hcv : ∀ T, chkV (m : Int) may st T = if tak may st 65536 (m : Int) T = some T.length then (((costL T : Nat) : Int), 0) else (0, 22) := fun T => by unfold chkV; rw [if_pos h0]
      have hnv : ∀ T, noneV (m : Int) may st T = if noneB (m : Int) may st T then 0 else 22 := fun T => by unfold noneV; rw [if_pos h0]
      have HCV := Lib.hid hcv; clear hcv
      have HNV := Lib.hid hnv; clear hnv
      by_cases hb : 0 ≤ (bb may st m).2
      · have hfv := findV_yes h0 (by rw [Int.toNat_natCast]; exact hb)
        rw [Int.toNat_natCast] at hfv
        have HLT : (tre may st 65536 m).length < 1000000 := by have := HLEN.out; rw [hfv] at this; exact this
        have hck := HCV.out (tre may st 65536 m)
        rw [if_pos (by have := tak_tre hmok m 65536 hm2 hm2 hb []; rw [List.append_nil] at this; exact this), tre_cost hmok m hm2 hb] at hck
        have hcl := HCV.out l
        have hgl := HNV.out L
        have hng : noneB (m : Int) may st L = false := by
          cases hx : noneB (m : Int) may st L with
          | false => rfl
          | true => exact absurd hb (none_sound hmok hx hm2)
        rw [hng, if_neg Bool.false_ne_true] at hgl
        have hcl2 : ∃ x y : Int, chkV (m : Int) may st l = (x, y) ∧ (y ≠ 0 ∨ (y = 0 ∧ (bb may st m).2 ≤ x)) := by
          by_cases hx : tak may st 65536 (m : Int) l = some l.length
          · rw [if_pos hx] at hcl
            have := (tak_least hmok 65536 m l l.length hm2 hx).2
            rw [List.take_length] at this
            exact ⟨_, _, hcl, .inr ⟨rfl, this⟩⟩
          · rw [if_neg hx] at hcl
            exact ⟨_, _, hcl, .inl (by decide)⟩
        obtain ⟨x, y, hxy, hxy2⟩ := hcl2
        obtain ⟨T, hT⟩ : ∃ T, T = tre may st 65536 m := ⟨_, rfl⟩
        obtain ⟨n, hn⟩ : ∃ n, n = (bb may st m).2 := ⟨_, rfl⟩
        rw [← hT] at hfv hck HLT
        rw [← hn] at hfv hck hxy2
        have HFV := Lib.hid hfv
        have HCK := Lib.hid hck
        have HXY := Lib.hid hxy
        have HGL := Lib.hid hgl
        have HXY2 := Lib.hid hxy2
        have HLT' := Lib.hid HLT
        clear hfv hck hxy hgl hxy2 HLT hcl hT hn hb hng h0 hev HCV HNV HOK hwb hstb hmok hm1 hm2 HLEN HLEN2
        have hf := HF1.out w4 B4.out
        have HF := Lib.hid hf; clear hf
        go_wp2_with (fail)
        refine HF.out.mono ?_
        rintro e w5 ⟨sa, fa, ss, fs, rfl, hLa, hSa, b5⟩
        rw [HFV.out] at hLa hSa ⊢
        dsimp only at hLa hSa ⊢
        have B5 := Lib.hid (B4.out.trans (b5.mono B4.out.size)); clear b5 B4 HF hSa
        obtain ⟨nT, hnT⟩ : ∃ nT, nT = T.length := ⟨_, rfl⟩
        rw [← hnT] at hLa ⊢
        have LA := Lib.hid hLa; clear hLa
        have HNTT := Lib.hid hnT; clear hnT
        obtain ⟨W5, hW5⟩ : ∃ W5, W5 = w5.alloc (.cells #[.slice ss 0 fs] 29) := ⟨_, rfl⟩
        have b5 : Below w5.heap.size w5 W5 := by rw [hW5]; exact alloc_below _ _
        have hc := HC1.out W5 (B5.out.trans (b5.mono B5.out.size))
        rw [HXY.out] at hc
        have HC := Lib.hid hc; clear hc
        have B6 := Lib.hid (B5.out.trans (b5.mono B5.out.size)); clear B5
        have LA2 := Lib.hid (LA.out.below b5); clear LA b5
        have HW5 := Lib.hid hW5; clear hW5
        go_wp2_with (fail)
        rw [← HW5.out]
        refine HC.out.mono ?_
        rintro e w6 ⟨rfl, b6⟩
        have B7 := Lib.hid (B6.out.trans (b6.mono B6.out.size))
        have LA3 := Lib.hid (LA2.out.below b6); clear b6 LA2 B6 HC HW5
        have hg := HN1.out w6 B7.out
        rw [HGL.out] at hg
        have HG := Lib.hid hg; clear hg
        go_wp2_with (fail)
        refine HG.out.mono ?_
        rintro e w7 ⟨rfl, b7⟩
        have B8 := Lib.hid (B7.out.trans (b7.mono B7.out.size))
        have LA4 := Lib.hid (LA3.out.below b7); clear b7 LA3 B7 HG
        have hc := HC2.out w7 sa fa T HLT'.out B8.out (by rw [← HNTT.out]; exact LA4.out)
        rw [HCK.out, ← HNTT.out] at hc
        have HC := Lib.hid hc; clear hc
        go_wp2_with (fail)
        refine HC.out.mono ?_
        rintro e w8 ⟨rfl, b8⟩
        have B9 := Lib.hid (B8.out.trans (b8.mono B8.out.size)); clear b8 LA4 B8 HC
        dsimp only
        have hnn : (n == n) = true := by simp
        rcases HXY2.out with hy | ⟨hy, hx⟩
        · have hy' : (y != 0) = true := by simpa using hy
          clear hy
          go_wp2_with (fail)
          refine (lives_any w8).mono ?_
          rintro e w9 ⟨rfl, b9⟩
          go_wp2
          go_ret
          exact ⟨rfl, B9.out.trans (b9.mono B9.out.size)⟩
        · subst hy
          have hx' : (n ≤ x) = True := eq_true hx
          go_wp2_with (fail)
          refine (lives_any w8).mono ?_
          rintro e w9 ⟨rfl, b9⟩
          go_wp2
          go_ret
          exact ⟨rfl, B9.out.trans (b9.mono B9.out.size)⟩
      · have hfv := findV_no h0 (by rw [Int.toNat_natCast]; exact hb)
        have HLT : (canL may st).length < 1000000 := by have := HLEN2.out; rw [hfv] at this; exact this
        have hcl := HCV.out l
        rw [if_neg (fun hx => hb (tak_least hmok 65536 m l l.length hm2 hx).1)] at hcl
        have hgl := HNV.out ((canL may st).map fun j : Nat => (j : Int))
        rw [none_can hmok hm2 hstb hb, if_pos rfl] at hgl
        obtain ⟨C, hC⟩ : ∃ C, C = canL may st := ⟨_, rfl⟩
        rw [← hC] at hfv hgl HLT
        have HFV := Lib.hid hfv
        have HCL := Lib.hid hcl
        have HGL := Lib.hid hgl
        have HLT' := Lib.hid HLT
        obtain ⟨G, hG⟩ : ∃ G, G = noneV (m : Int) may st L := ⟨_, rfl⟩
        have HG := Lib.hid hG
        clear hG hfv hcl hgl HLT hC hb h0 hev HCV HNV HOK hwb hstb hmok hm1 hm2 HLEN HLEN2
        have hf := HF1.out w4 B4.out
        have HF := Lib.hid hf; clear hf
        go_wp2_with (fail)
        refine HF.out.mono ?_
        rintro e w5 ⟨sa, fa, ss, fs, rfl, hLa, hSa, b5⟩
        rw [HFV.out] at hSa ⊢
        dsimp only at hSa ⊢
        have B5 := Lib.hid (B4.out.trans (b5.mono B4.out.size)); clear b5 B4 HF hLa
        obtain ⟨nC, hnC⟩ : ∃ nC, nC = C.length := ⟨_, rfl⟩
        rw [← hnC] at hSa ⊢
        have SA := Lib.hid hSa; clear hSa
        have HNC := Lib.hid hnC; clear hnC
        obtain ⟨W5, hW5⟩ : ∃ W5, W5 = w5.alloc (.cells #[.slice ss nC fs] 29) := ⟨_, rfl⟩
        have b5 : Below w5.heap.size w5 W5 := by rw [hW5]; exact alloc_below _ _
        have kb : Blk W5 w5.heap.size [.slice ss nC fs] 29 := by rw [hW5]; exact Blk.new w5 #[.slice ss nC fs] 29
        have KB := Lib.hid kb; clear kb
        have hc := HC1.out W5 (B5.out.trans (b5.mono B5.out.size))
        rw [HCL.out] at hc
        have HC := Lib.hid hc; clear hc
        have B6 := Lib.hid (B5.out.trans (b5.mono B5.out.size)); clear B5
        have SA2 := Lib.hid (SA.out.below b5); clear SA b5
        have HW5 := Lib.hid hW5; clear hW5
        go_wp2_with (fail)
        rw [← HW5.out]
        refine HC.out.mono ?_
        rintro e w6 ⟨rfl, b6⟩
        have B7 := Lib.hid (B6.out.trans (b6.mono B6.out.size))
        have KB2 := Lib.hid (KB.out.below b6 KB.out.lt)
        have SA3 := Lib.hid (SA2.out.below b6); clear b6 SA2 B6 HC HW5 KB
        have hg := HN1.out w6 B7.out
        rw [← HG.out] at hg
        have HGG := Lib.hid hg; clear hg
        go_wp2_with (fail)
        refine HGG.out.mono ?_
        rintro e w7 ⟨rfl, b7⟩
        have B8 := Lib.hid (B7.out.trans (b7.mono B7.out.size))
        have KB3 := Lib.hid (KB2.out.below b7 KB2.out.lt)
        have SA4 := Lib.hid (SA3.out.below b7); clear b7 SA3 B7 HGG KB2
        have hcell : w7.cell? ⟨w5.heap.size, 0, none⟩ = some (.slice ss nC fs) := KB3.out.cell rfl
        have hms : (C.map fun j : Nat => (j : Int)).length = nC := by rw [List.length_map]; exact HNC.out.symm
        have hc := HN2.out w7 ss fs (C.map fun j : Nat => (j : Int)) (by rw [List.length_map]; exact HLT'.out) B8.out (by rw [hms, ← nts_map2]; exact SA4.out)
        rw [HGL.out, hms] at hc
        have HC := Lib.hid hc; clear hc hms
        go_wp2_with (fail)
        refine HC.out.mono ?_
        rintro e w8 ⟨rfl, b8⟩
        have B9 := Lib.hid (B8.out.trans (b8.mono B8.out.size)); clear b8 SA4 B8 HC hcell
        go_wp2_with (fail)
        refine (lives_any w8).mono ?_
        rintro e w9 ⟨rfl, b9⟩
        go_wp2
        go_ret
        exact ⟨rfl, B9.out.trans (b9.mono B9.out.size)⟩
end Go.Proofs.Ytnkinjilnccmfaa

/- label: the walk over LabelOrder. -/
import Derived.Test.YtcbmifaobdamhaaA39
import Derived.Test.YtcbmifaobdamhaaA37
namespace Go.Proofs.Ytcbmifaobdamhaa
open Go.RowKit Go.Own Go.Theory Go.BigFrame Go.Ib Go.Label Go.Shelf
attribute [local irreducible] SqC.SqW
theorem ok_rg {b : Lg} (ok : Ok b) : LgRg b := by
  have h1 := ok.f0
  have h2 := ok.f64
  refine ⟨by unfold rg; omega, fun z hz => ?_, fun r hr => ?_, fun r hr z hz => ?_⟩
  · have := ok.asm z hz; unfold rg; omega
  · have := ok.head r hr; unfold rg; omega
  · have := ok.body r hr z hz; unfold rg; omega
theorem turn_res {b : Lg} (hv : valE b = 0) {a c : Nat} (ha : 0 < b.rules.length → a < b.rules.length) (hc : 0 < b.rules.length → c < b.rules.length) : valE (turnLg b a c) = 0 ∧ resF (turnLg b a c) = resF b ∧ resL (turnLg b a c) = resL b := by
  have ok := valE_ok.1 hv
  have h1 := valE_ok.2 (turn_ok ok (a := a) hc)
  refine ⟨h1, ?_, ?_⟩
  · rw [(res_ok h1).1, (res_ok hv).1]; rfl
  · rw [(res_ok h1).2, (res_ok hv).2]; exact turn_labs ok ha hc
set_option maxRecDepth 100000 in
set_option maxHeartbeats 4000000 in
theorem law_order (b : Lg) (z : Int) (sa sr : Option Addr) (ca cr : Nat) (bs : List Value) (hrg : LgRg b) (w : World) (h : LgAt w b sa sr ca cr bs) (hz : rg z) :
    Calls Try.prog 8 #[lgV b sa sr ca cr, .int .i64 z] w fun e w' => e = .returned (.bool true) ∧ Below w.heap.size w w' := by
  have hlgV : lgV b sa sr ca cr = .agg #[.int .i64 b.facts, .slice sa b.assume.length ca, .slice sr b.rules.length cr] := rfl
  have hbox := box_new w b sa sr ca cr 25
  obtain ⟨W1, hW1⟩ : ∃ W1, W1 = w.alloc (.cells #[.int .i64 b.facts, .slice sa b.assume.length ca, .slice sr b.rules.length cr] 25) := ⟨_, rfl⟩
  rw [← hW1] at hbox
  have hH := h.below hbox.b1
  have h1 := small_any b sa sr ca cr bs hrg W1 hH
  rw [hlgV] at h1 ⊢
  have HBOX := Lib.hid hbox; clear hbox
  have HH := Lib.hid hH; clear hH h
  have HW1 := Lib.hid hW1; clear hW1
  have H1 := Lib.hid h1; clear h1
  have HRG := Lib.hid hrg; clear hrg
  have HLV := Lib.hid hlgV; clear hlgV
  go_enter Try.func8, Try.ntmps8
  go_wp2_with (fail)
  rw [← HW1.out]
  refine H1.out.mono ?_
  clear H1
  rintro e w2 ⟨rfl, b2⟩
  obtain ⟨c0, c1, c2⟩ := HBOX.out.cell w2 b2
  have HB2 := Lib.hid b2; clear b2
  cases hsm : smallB b with
  | false =>
    clear hsm
    go_wp2_with (fail)
    refine (lives_any _).mono ?_
    rintro e w3 ⟨rfl, b3⟩
    go_wp2
    go_ret
    exact ⟨rfl, HBOX.out.below (HB2.out.trans (b3.mono HB2.out.size))⟩
  | true =>
    have hsm2 : valE b = 0 ∧ b.assume.length ≤ 8 := by
      unfold smallB at hsm
      rw [Bool.and_eq_true, decide_eq_true_eq, decide_eq_true_eq] at hsm
      exact hsm
    clear hsm
    have HSM := Lib.hid hsm2; clear hsm2
    have hpl := plab_any b sa sr ca cr bs HRG.out w2 (HH.out.below HB2.out) (fun _ => HSM.out.2)
    obtain ⟨F, hF⟩ : ∃ F, F = resF b := ⟨_, rfl⟩
    obtain ⟨L, hL⟩ : ∃ L, L = resL b := ⟨_, rfl⟩
    have hF64 : F ≤ 64 := by rw [hF]; exact res_f
    have hlen : (∀ f, (L.lab f).length ≤ 2304) ∧ L.bad.length ≤ 2304 := by rw [hL]; exact res_len fun _ => HSM.out.2
    rw [HLV.out, HSM.out.1, ← hF, ← hL] at hpl
    have HPL := Lib.hid hpl; clear hpl
    have HLEN := Lib.hid hlen; clear hlen
    have HFE := Lib.hid hF; clear hF
    have HLE := Lib.hid hL; clear hL
    go_wp2_with (fail)
    refine HPL.out.mono ?_
    clear HPL
    rintro e w4 ⟨so, co, vs, sb, cb, rfl, hA, b4⟩
    have hb4 : Below W1.heap.size W1 w4 := HB2.out.trans (b4.mono HB2.out.size)
    clear c0 c1 c2 b4
    obtain ⟨c0, c1, c2⟩ := HBOX.out.cell w4 hb4
    have htu := turned_any b z sa sr ca cr bs hz w4 (HH.out.below hb4) (valE_ok.1 HSM.out.1)
    rw [HLV.out] at htu
    have HTU := Lib.hid htu; clear htu
    have HA := Lib.hid hA; clear hA
    have HB4 := Lib.hid hb4; clear hb4
    go_wp2_with (fail)
    refine HTU.out.mono ?_
    clear HTU
    rintro e w5 ⟨a, c, sr', cr', bs', ha, hc, rfl, hLg, b5⟩
    have hb5 : Below W1.heap.size W1 w5 := HB4.out.trans (b5.mono HB4.out.size)
    have hres := turn_res HSM.out.1 ha hc
    have hp2 := plab_any (turnLg b a c) sa sr' ca cr' bs' (ok_rg (valE_ok.1 hres.1)) w5 hLg (fun _ => HSM.out.2)
    rw [hres.1, hres.2.1, hres.2.2, ← HFE.out, ← HLE.out] at hp2
    obtain ⟨V, hV⟩ : ∃ V, V = lgV (turnLg b a c) sa sr' ca cr' := ⟨_, rfl⟩
    rw [← hV] at hp2 ⊢
    have HP2 := Lib.hid hp2; clear hp2
    have HS5 := Lib.hid (HA.out.below b5)
    have HB5 := Lib.hid hb5; clear hb5
    clear b5 hLg ha hc hV hres c0 c1 c2 HA
    go_wp2_with (fail)
    refine HP2.out.mono ?_
    clear HP2
    rintro e w6 ⟨so2, co2, vs2, sb2, cb2, rfl, hB, b6⟩
    have HT := Lib.hid hB; clear hB
    have HS := Lib.hid (HS5.out.below b6); clear HS5
    have HB6 := Lib.hid (HB5.out.trans (b6.mono HB5.out.size)); clear b6 HB5
    have hs1 := sameS_any HS.out HT.out HLEN.out.1 hF64
    have HS1 := Lib.hid hs1; clear hs1
    go_wp2_with (fail)
    refine HS1.out.mono ?_
    clear HS1
    rintro e w7 ⟨rfl, b7⟩
    have hs2 := sameB_any (HS.out.bad.below b7) (HT.out.bad.below b7) HLEN.out.2
    have HS2 := Lib.hid hs2; clear hs2
    have HB7 := Lib.hid (HB6.out.trans (b7.mono HB6.out.size)); clear b7
    go_wp2_with (fail)
    refine HS2.out.mono ?_
    clear HS2
    rintro e w8 ⟨rfl, b8⟩
    have HB8 := Lib.hid (HB7.out.trans (b8.mono HB7.out.size)); clear b8
    go_wp2_with (fail)
    refine (lives_any _).mono ?_
    rintro e w9 ⟨rfl, b9⟩
    have HB9 := Lib.hid (HB8.out.trans (b9.mono HB8.out.size)); clear b9
    go_wp2
    go_ret
    exact ⟨rfl, HBOX.out.below HB9.out⟩
end Go.Proofs.Ytcbmifaobdamhaa

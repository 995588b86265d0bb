/- order: the law OrderFinds. -/
import Derived.Test.YtnkinjilnccmfaaL3
namespace Go.Proofs.Ytnkinjilnccmfaa
open Go.RowKit Go.Own Go.BigFrame Go.Big Go.Order
set_option maxRecDepth 100000 in
set_option maxHeartbeats 6400000 in
theorem orderFinds_any (whole : Int) (may : List Spl) (st : List Int) (s t : Option Addr) (ca cb : Nat) (w : World) (hl : Lst w (.slice s may.length ca) may) (hm : Sz w (.slice t st.length cb) st.length (intsI st)) (hn : may.length < 4611686018427387904) (hfl : (findV whole may st).l.length < 4611686018427387904) (hfs : (findV whole may st).s.length < 4611686018427387904) :
    Calls Try.prog 3 #[.int .i64 whole, .slice s may.length ca, .slice t st.length cb] w fun e w' => e = .returned (.bool true) ∧ Below w.heap.size w w' := by
  have hfew := few_any s t none may.length st.length 0 ca cb 0 w
  obtain ⟨fb, hfb⟩ : ∃ fb, fb = fewV may.length st.length 0 := ⟨_, rfl⟩
  rw [← hfb] at hfew
  have HFEW := Lib.hid hfew; clear hfew hfb
  have HL := Lib.hid hl; clear hl
  have HM := Lib.hid hm; clear hm
  have HN := Lib.hid hn; clear hn
  have HFL := Lib.hid hfl; clear hfl
  have HFS := Lib.hid hfs; clear hfs
  obtain ⟨nl, hnl⟩ : ∃ nl, nl = may.length := ⟨_, rfl⟩
  obtain ⟨ns, hns⟩ : ∃ ns, ns = st.length := ⟨_, rfl⟩
  rw [← hnl, ← hns]
  rw [← hnl] at HL HFEW
  rw [← hns] at HM HFEW
  have HNL := Lib.hid hnl; clear hnl
  have HNS := Lib.hid hns; clear hns
  go_enter Try.func3, Try.ntmps3
  go_wp2_with (fail)
  refine HFEW.out.mono ?_
  rintro e w1 ⟨rfl, b1⟩
  have B1 := Lib.hid b1; clear b1 HFEW
  cases fb with
  | false =>
    go_wp2_with (fail)
    refine (lives_any w1).mono ?_
    rintro e w2 ⟨rfl, b2⟩
    go_wp2
    go_ret
    exact ⟨rfl, B1.out.trans (b2.mono B1.out.size)⟩
  | true =>
    have hp := plain_any may s ca w1 (by rw [← HNL.out]; exact HL.out.below B1.out) HN.out
    rw [← HNL.out] at hp
    have HP := Lib.hid hp; clear hp
    go_wp2_with (fail)
    refine HP.out.mono ?_
    rintro e w2 ⟨pb, rfl, b2⟩
    have B2 := Lib.hid (B1.out.trans (b2.mono B1.out.size)); clear b2 B1 HP
    cases pb with
    | false =>
      go_wp2_with (fail)
      refine (lives_any w2).mono ?_
      rintro e w3 ⟨rfl, b3⟩
      go_wp2
      go_ret
      exact ⟨rfl, B2.out.trans (b3.mono B2.out.size)⟩
    | true =>
      have hf := find_any whole may st s t ca cb w2 (by rw [← HNL.out]; exact HL.out.below B2.out) (by rw [← HNS.out]; exact HM.out.below B2.out)
      rw [← HNL.out, ← HNS.out] at hf
      have HF := Lib.hid hf; clear hf
      go_wp2_with (fail)
      refine HF.out.mono ?_
      rintro e w3 ⟨sa, fa, ss, fs, rfl, hLa, hSa, b3⟩
      obtain ⟨fl, hfl⟩ : ∃ fl, fl = (findV whole may st).l.length := ⟨_, rfl⟩
      obtain ⟨gl, hgl⟩ : ∃ gl, gl = (findV whole may st).s.length := ⟨_, rfl⟩
      obtain ⟨fn, hfn⟩ : ∃ fn, fn = (findV whole may st).n := ⟨_, rfl⟩
      obtain ⟨fe, hfe⟩ : ∃ fe, fe = (findV whole may st).e := ⟨_, rfl⟩
      rw [← hfl, ← hgl, ← hfn, ← hfe]
      rw [← hfl] at hLa
      rw [← hgl] at hSa
      obtain ⟨W1, hW1⟩ : ∃ W1, W1 = w3.alloc (.cells #[.slice ss gl fs] 29) := ⟨_, rfl⟩
      have z1 : W1.heap.size = w3.heap.size + 1 := by rw [hW1]; exact alloc_size _ _
      have a1 : Below w3.heap.size w3 W1 := by rw [hW1]; exact alloc_below _ _
      have k1 : Blk W1 w3.heap.size [.slice ss gl fs] 29 := by rw [hW1]; exact Blk.new w3 #[.slice ss gl fs] 29
      have c1 : Below w2.heap.size w2 W1 := b3.trans (a1.mono b3.size)
      have B3 := Lib.hid (B2.out.trans (c1.mono B2.out.size))
      have LA := Lib.hid (hLa.below a1)
      have SA := Lib.hid (hSa.below a1)
      have K1 := Lib.hid k1
      have HFL2 := Lib.hid hfl; clear hfl
      have HGL2 := Lib.hid hgl; clear hgl
      have HFN := Lib.hid hfn; clear hfn
      have HFE := Lib.hid hfe; clear hfe
      have hr := rfind_any whole may st s t ca cb W1 (by rw [← HNL.out]; exact HL.out.below B3.out) (by rw [← HNS.out]; exact HM.out.below B3.out)
      rw [← HNL.out, ← HNS.out] at hr
      have HR := Lib.hid hr; clear hr
      have HW1 := Lib.hid hW1; clear hW1
      clear hLa hSa k1 c1 a1 z1 b3 B2 HF
      go_wp2_with (fail)
      rw [← HW1.out]
      refine HR.out.mono ?_
      rintro e w4 ⟨ta, ga, ts, gs, rfl, hLb, hSb, b4⟩
      rw [← HFL2.out, ← HGL2.out, ← HFN.out, ← HFE.out]
      rw [← HFL2.out] at hLb
      rw [← HGL2.out] at hSb
      have B4 := Lib.hid (B3.out.trans (b4.mono B3.out.size))
      have LA2 := Lib.hid (LA.out.below b4)
      have SA2 := Lib.hid (SA.out.below b4)
      have K2 := Lib.hid (K1.out.below b4 K1.out.lt)
      have sm := sameAll_any (findV whole may st).l (findV whole may st).l sa ta fa ga w4 (by rw [← HFL2.out]; exact LA2.out) (by rw [← HFL2.out]; exact hLb) HFL.out
      rw [eqvL_self, ← HFL2.out] at sm
      have SM := Lib.hid sm; clear sm
      have SB := Lib.hid hSb; clear hSb
      clear hLb b4 LA SA K1 HR HW1 B3
      go_wp2_with (fail)
      refine SM.out.mono ?_
      rintro e w5 ⟨rfl, b5⟩
      have B5 := Lib.hid (B4.out.trans (b5.mono B4.out.size))
      have S5 := SA2.out.below b5
      have T5 := SB.out.below b5
      have k5 : w5.cell? ⟨w3.heap.size, 0, none⟩ = some (.slice ss gl fs) := (K2.out.below b5 K2.out.lt).cell rfl
      have hms : ((findV whole may st).s.map fun j : Nat => (j : Int)).length = gl := by rw [List.length_map]; exact HGL2.out.symm
      have sq := sameSets_any ((findV whole may st).s.map fun j : Nat => (j : Int)) ((findV whole may st).s.map fun j : Nat => (j : Int)) ss ts fs gs w5 (by rw [hms, nts_map]; exact S5) (by rw [hms, nts_map]; exact T5) (by rw [List.length_map]; exact HFS.out)
      rw [hms, beq_self_eq_true] at sq
      have SQ := Lib.hid sq; clear sq S5 T5 hms b5 B4 LA2 SA2 K2 SM SB
      go_wp2_with (fail)
      refine SQ.out.mono ?_
      rintro e w6 ⟨rfl, b6⟩
      have B6 := Lib.hid (B5.out.trans (b6.mono B5.out.size)); clear b6 k5 SQ B5
      go_wp2_with (fail)
      refine (lives_any w6).mono ?_
      rintro e w7 ⟨rfl, b7⟩
      go_wp2
      go_ret
      exact ⟨rfl, B6.out.trans (b7.mono B6.out.size)⟩
end Go.Proofs.Ytnkinjilnccmfaa

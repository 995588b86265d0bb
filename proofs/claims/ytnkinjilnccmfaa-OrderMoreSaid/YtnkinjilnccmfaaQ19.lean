/- order: the reference's Check. -/
import Derived.Test.YtnkinjilnccmfaaQ18
namespace Go.Order
open Go.RowKit Go.Own Go.Proofs.Ytnkinjilnccmfaa
theorem costL_take {l : List Spl} {i : Nat} (h : i < l.length) : costL (l.take (i + 1)) = costL (l.take i) + l[i].cost := by
  rw [List.take_succ_eq_append_getElem h, costL_app]
  congr 1
end Go.Order
namespace Go.Proofs.Ytnkinjilnccmfaa
open Go.RowKit Go.Own Go.BigFrame Go.Big Go.Order
set_option maxRecDepth 100000 in
set_option maxHeartbeats 3200000 in
theorem rcheck_any (whole : Int) (may l : List Spl) (st : List Int) (s t u : Option Addr) (ca cb cc : Nat) (w : World) (hl : Lst w (.slice s may.length ca) may) (hm : Sz w (.slice t st.length cb) st.length (intsI st)) (hL : Lst w (.slice u l.length cc) l)
    (nm : may.length < 1000000) (ns : st.length < 1000000) (nl : l.length < 1000000) :
    Calls Try.prog 18 #[.int .i64 whole, .slice s may.length ca, .slice t st.length cb, .slice u l.length cc] w fun e w' => e = .returned (.tuple #[.int .i64 (chkV whole may st l).1, .int .i64 (chkV whole may st l).2]) ∧ Below w.heap.size w w' := by
  have hf := rerror_any whole may st s t ca cb w hl hm
  have hev := errV_cases whole may st
  have hok := fun h : errV whole may st = 0 => errV_ok h
  have hch : chkV whole may st l = if errV whole may st = 0 then (if tak may st 65536 whole l = some l.length then (((costL l : Nat) : Int), 0) else (0, 22)) else (0, errV whole may st) := rfl
  have hnl2 : (l.length : Int) < 4611686018427387904 := by omega
  obtain ⟨E, hE⟩ : ∃ E, E = errV whole may st := ⟨_, rfl⟩
  rw [← hE] at hf hev hok hch
  have HF := Lib.hid hf; clear hf
  have HL := Lib.hid hl; clear hl
  have HM := Lib.hid hm; clear hm
  have HLL := Lib.hid hL; clear hL
  have HOK := Lib.hid hok; clear hok
  have HCH := Lib.hid hch; clear hch
  have HNM := Lib.hid nm; clear nm
  have HNS := Lib.hid ns; clear ns
  have HNL := Lib.hid nl; clear nl
  clear hE
  by_cases h0 : E = 0
  · subst h0
    clear hev
    obtain ⟨_, _, hwb, _, hmok⟩ := HOK.out (by first | rfl | trivial)
    obtain ⟨m, rfl, hm1, hm2⟩ := isB_nat hwb
    have ht := fun (U : World) (hU : Below w.heap.size w U) => taken_any may st s t ca cb hmok HNM.out HNS.out 65536 m hm2 l u cc U HNL.out (HL.out.below hU) (HM.out.below hU) (HLL.out.below hU)
    have hcs := takI_cases may st 65536 (m : Int) l
    obtain ⟨z, hz⟩ : ∃ z, z = takI may st 65536 (m : Int) l := ⟨_, rfl⟩
    rw [← hz] at hcs
    simp only [← hz] at ht
    have HT := Lib.hid ht; clear ht hz
    have HCS := Lib.hid hcs; clear hcs
    clear hwb hmok hm1 hm2
    go_enter Try.func18, Try.ntmps18
    go_wp2_with (fail)
    refine HF.out.mono ?_
    rintro e V ⟨rfl, bV⟩
    have HBV := Lib.hid bV; clear bV
    go_wp2_with (fail)
    refine (HT.out V HBV.out).mono ?_
    rintro e V2 ⟨rfl, b2⟩
    have b2' := HBV.out.trans (b2.mono HBV.out.size)
    have HB2 := Lib.hid b2'; clear b2 b2'
    by_cases hzl : z = l.length
    · have hv : chkV (m : Int) may st l = (((costL l : Nat) : Int), (0 : Int)) := by
        rw [HCH.out, if_pos (by first | rfl | trivial), if_pos]
        rcases HCS.out with ⟨h1, h2⟩ | ⟨k, h1, h2, h3⟩
        · omega
        · rw [h1]; congr 1; omega
      have HV := Lib.hid hv; clear hv
      have g1 : (z != (l.length : Int)) = false := by rw [bne_eq_false_iff_eq]; omega
      have g2 : (z = (l.length : Int)) = True := eq_true (by omega)
      clear hzl
      go_wp2
      clear g1 g2
      go_loopw [11, 12] (fun v11 v wr => ∃ i : Nat, i ≤ l.length ∧ v = .int .i64 i ∧ v11 = .int .i64 (costL (l.take i) : Nat) ∧ Below w.heap.size w wr) (fun _ v _ => l.length - (vInt v).toNat)
      case atStart => exact ⟨0, Nat.zero_le _, rfl, rfl, HB2.out⟩
      case round =>
        obtain ⟨i, hi, rfl, rfl, hbr⟩ := hrel
        by_cases hil : i < l.length
        · have hil' : (i : Int) < l.length := by omega
          obtain ⟨g, o, rfl, -, -, -, hC, hg⟩ := HLL.out.at (by omega)
          have cA := (Lst.cells hC hil).below hbr hg
          have hnx := costL_take hil
          have hle := costL_le (l.take i)
          rw [List.length_take] at hle
          have hc16 := cost_le l[i]
          obtain ⟨x, hx⟩ : ∃ x, x = l[i] := ⟨_, rfl⟩
          rw [← hx] at cA hnx hc16
          have hs : Calls Try.prog 24 #[.agg x.cells.toArray] wr fun e w' => e = .returned (.int .i64 (x.cost : Nat)) ∧ Below wr.heap.size wr w' := rcost_any x wr
          have hi10 := infoS' x
          obtain ⟨C, hC'⟩ : ∃ C, C = x.cost := ⟨_, rfl⟩
          obtain ⟨vs, hvs⟩ : ∃ vs, vs = x.cells := ⟨_, rfl⟩
          obtain ⟨N, hN⟩ : ∃ N, N = costL (l.take i) := ⟨_, rfl⟩
          rw [← hC'] at hs hnx hc16
          rw [← hvs] at hs cA hi10
          rw [← hN] at hnx hle ⊢
          have hN9 : (N : Int) + (C : Int) < 4611686018427387904 := by have := HNL.out; omega
          have hN8 : (N : Int) < 4611686018427387904 := by omega
          have hC8 : (C : Int) < 4611686018427387904 := by omega
          have HS2 := Lib.hid hs; clear hs
          have CA := Lib.hid cA; clear cA
          have HNX := Lib.hid hnx; clear hnx hle hc16 hx hC hvs hN hC'
          have HBR := Lib.hid hbr; clear hbr
          go_wp2_with (refine wpList_load_agg (ty := 58) vs CA.out rfl rfl rfl aggS hi10 ?_)
          clear hi10
          go_wp2_with (fail)
          refine HS2.out.mono ?_
          rintro e w2 ⟨rfl, b2⟩
          have b2' := HBR.out.trans (b2.mono HBR.out.size)
          have HB2' := Lib.hid b2'; clear b2' b2
          go_wp2
          go_roundw
          case rel => exact ⟨i + 1, by omega, by go_num, by rw [HNX.out]; go_num, HB2'.out⟩
          case measure => simp [vInt]; omega
        · have hil' : ((i : Int) < l.length) = False := eq_false (by omega)
          have he : costL (l.take i) = costL l := by rw [List.take_of_length_le (by omega)]
          have HE := Lib.hid he; clear he
          go_wp2
          go_ret2
          exact ⟨by rw [HV.out, HE.out]; rfl, hbr⟩
    · have hv : chkV (m : Int) may st l = (0, 22) := by
        rw [HCH.out, if_pos (by first | rfl | trivial), if_neg]
        rcases HCS.out with ⟨h1, h2⟩ | ⟨k, h1, h2, h3⟩
        · rw [h1]; simp
        · rw [h1]; intro h; have := Option.some.inj h; omega
      have HV := Lib.hid hv; clear hv
      have g1 : (z != (l.length : Int)) = true := by rw [bne_iff_ne]; omega
      have g2 : (z = (l.length : Int)) = False := eq_false (by omega)
      clear hzl
      go_wp2
      go_ret2
      exact ⟨by rw [HV.out]; rfl, HB2.out⟩
  · have HCE := Lib.hid (show chkV whole may st l = (0, E) by rw [HCH.out, if_neg h0])
    have h1 : (E != 0) = true := by rw [bne_iff_ne]; exact h0
    have h2 : (E = 0) = False := eq_false h0
    clear h0
    go_enter Try.func18, Try.ntmps18
    go_wp2_with (fail)
    refine HF.out.mono ?_
    rintro e V ⟨rfl, bV⟩
    go_wp2
    go_ret2
    exact ⟨by rw [HCE.out]; rfl, bV⟩
end Go.Proofs.Ytnkinjilnccmfaa

/- order: the reference's Find answers as the program's. -/
import Derived.Test.YtnkinjilnccmfaaQ31
import Derived.Test.YtnkinjilnccmfaaQ28
namespace Go.Order
open Go.RowKit Go.Own Go.Proofs.Ytnkinjilnccmfaa Go.Theory
theorem inc_eq : ∀ {a b : List Int}, Inc a → Inc b → (∀ z, z ∈ a ↔ z ∈ b) → a = b
  | [], [], _, _, _ => rfl
  | [], y :: b, _, _, h => absurd ((h y).2 (List.mem_cons_self ..)) (by simp)
  | x :: a, [], _, _, h => absurd ((h x).1 (List.mem_cons_self ..)) (by simp)
  | x :: a, y :: b, ha, hb, h => by
    have ha' := List.pairwise_cons.1 ha
    have hb' := List.pairwise_cons.1 hb
    have e : x = y := by
      have h1 := (h x).1 (List.mem_cons_self ..)
      have h2 := (h y).2 (List.mem_cons_self ..)
      rcases List.mem_cons.1 h1 with h1 | h1
      · exact h1
      · rcases List.mem_cons.1 h2 with h2 | h2
        · exact h2.symm
        · have := hb'.1 x h1
          have := ha'.1 y h2
          omega
    subst e
    congr 1
    refine inc_eq ha'.2 hb'.2 fun z => ⟨fun hz => ?_, fun hz => ?_⟩
    · have h1 := ha'.1 z hz
      rcases List.mem_cons.1 ((h z).1 (List.mem_cons_of_mem _ hz)) with h2 | h2
      · omega
      · exact h2
    · have h1 := hb'.1 z hz
      rcases List.mem_cons.1 ((h z).2 (List.mem_cons_of_mem _ hz)) with h2 | h2
      · omega
      · exact h2
theorem sets_can {may : List Spl} {st : List Int} (hst : st.all isB = true) : setsL may st = (canL may st).map fun j : Nat => (j : Int) := by
  refine inc_eq ((srt_inc st).filter _) ?_ fun z => ?_
  · exact List.pairwise_map.2 ((range_filter_lt _ _).imp fun h => by omega)
  · rw [mem_sets, List.mem_map]
    unfold canL
    constructor
    · rintro ⟨h1, h2⟩
      obtain ⟨j, e, _, h6⟩ := isB_nat (List.all_eq_true.1 hst z h1)
      subst e
      refine ⟨j, List.mem_filter.2 ⟨List.mem_range.2 h6, ?_⟩, rfl⟩
      rw [Bool.and_eq_true]
      exact ⟨hasB_iff.2 h1, by unfold cn; exact decide_eq_true h2⟩
    · rintro ⟨j, hj, rfl⟩
      have h1 := (List.mem_filter.1 hj).2
      rw [Bool.and_eq_true] at h1
      exact ⟨hasB_iff.1 h1.1, by have h2 := h1.2; unfold cn at h2; exact of_decide_eq_true h2⟩
theorem nts_map (l : List Nat) : intsI (l.map fun j : Nat => (j : Int)) = nts l := by unfold intsI nts; rw [List.map_map]; rfl
end Go.Order
namespace Go.Proofs.Ytnkinjilnccmfaa
open Go.RowKit Go.Own Go.BigFrame Go.Big Go.Order
theorem results_tmp4 {fn : Func} {t u v x : Tmp} (h : fn.results = #[.tmp t, .tmp u, .tmp v, .tmp x]) (tmps : Array Value) (P : Program) (w : World) :
    (results fn tmps).run P w = .ok (.tuple #[tmps.getD t undef, tmps.getD u undef, tmps.getD v undef, tmps.getD x undef]) w := by
  simp [results, h]
/-- what the reference's Find returns -/
structure FrQ (whole : Int) (may : List Spl) (st : List Int) (w : World) (e : Ending) (w' : World) : Prop where
  out : ∃ sa ca ss cs, e = .returned (.tuple #[.slice sa (findV whole may st).l.length ca, .int .i64 (findV whole may st).n, .slice ss (findV whole may st).s.length cs, .int .i64 (findV whole may st).e]) ∧
    Lst w' (.slice sa (findV whole may st).l.length ca) (findV whole may st).l ∧ Sz w' (.slice ss (findV whole may st).s.length cs) (findV whole may st).s.length (nts (findV whole may st).s) ∧ Below w.heap.size w w'
set_option maxRecDepth 100000 in
set_option maxHeartbeats 3200000 in
theorem rfind_any (whole : Int) (may : List Spl) (st : List Int) (s t : Option Addr) (ca cb : Nat) (w : World) (hl : Lst w (.slice s may.length ca) may) (hm : Sz w (.slice t st.length cb) st.length (intsI st)) :
    Calls Try.prog 13 #[.int .i64 whole, .slice s may.length ca, .slice t st.length cb] w fun e w' => FrQ whole may st w e w' := by
  have hf := rerror_any whole may st s t ca cb w hl hm
  have hev := errV_cases whole may st
  have hok := fun h : errV whole may st = 0 => errV_ok h
  have hfv : findV whole may st = if errV whole may st = 0 then (if 0 ≤ (bb may st whole.toNat).2 then ⟨tre may st 65536 whole.toNat, (bb may st whole.toNat).2, [], 0⟩ else ⟨[], 0, canL may st, 6⟩) else ⟨[], 0, [], errV whole may st⟩ := rfl
  obtain ⟨E, hE⟩ : ∃ E, E = errV whole may st := ⟨_, rfl⟩
  rw [← hE] at hf hev hok hfv
  have HF := Lib.hid hf; clear hf
  have HL := Lib.hid hl; clear hl
  have HM := Lib.hid hm; clear hm
  have HOK := Lib.hid hok; clear hok
  have HFV := Lib.hid hfv; clear hfv
  clear hE
  by_cases h0 : E = 0
  · subst h0
    clear hev
    obtain ⟨hn1, hn2, hwb, hst, hmok⟩ := HOK.out (by first | rfl | trivial)
    obtain ⟨m, rfl, hm1, hm2⟩ := isB_nat hwb
    have hfv2 : findV (m : Int) may st = if 0 ≤ (bb may st m).2 then ⟨tre may st 65536 m, (bb may st m).2, [], 0⟩ else ⟨[], 0, canL may st, 6⟩ := by rw [HFV.out, if_pos (by first | rfl | trivial), Int.toNat_natCast]
    have hsm := fun (U : World) (hU : Below w.heap.size w U) => rsums_any may st s t ca cb U (HL.out.below hU) (HM.out.below hU) hmok hst hn1 hn2
    have hrsum : ∀ W t' u' cb' cc', Sz W (.slice t' (setsL may st).length cb') (setsL may st).length (intsI (setsL may st)) → Sz W (.slice u' (setsL may st).length cc') (setsL may st).length (intsI ((setsL may st).map (bs may st))) → Calls Try.prog 39 #[.slice t' (setsL may st).length cb', .slice u' (setsL may st).length cc', .int .i64 (m : Int)] W fun e w' => e = .returned (.int .i64 (bb may st m).2) ∧ w' = W := fun W t' u' cb' cc' h1 h2 => by
      have hlen := sets_len may st
      have h := rsum_any (setsL may st) ((setsL may st).map (bs may st)) (m : Int) t' u' cb' cc' W h1 (by rw [List.length_map]; exact h2) (by rw [List.length_map]) (by omega)
      rw [List.length_map, sumT_bb hmok hm2] at h
      exact h
    have htree := fun hb (W : World) t' u' cb' cc' (hW : Below w.heap.size w W) h1 h2 => rtree_any may st s t' u' ca cb' cc' hmok hn1 hn2 65536 m hm2 hm1 hm2 hb W (HL.out.below hW) h1 h2
    have hcan := sets_can (may := may) hst
    have htm : ∀ x ∈ tre may st 65536 m, x ∈ may := fun x hx => tre_mem hx
    obtain ⟨T, hT⟩ : ∃ T, T = tre may st 65536 m := ⟨_, rfl⟩
    obtain ⟨S, hS⟩ : ∃ S, S = (bb may st m).2 := ⟨_, rfl⟩
    rw [← hT, ← hS] at hfv2
    simp only [← hT, ← hS] at htree
    simp only [← hS] at hrsum
    rw [← hT] at htm
    clear hT hS
    have HFV2 := Lib.hid hfv2; clear hfv2
    have HSM := Lib.hid hsm; clear hsm
    have HRS := Lib.hid hrsum; clear hrsum
    have HTR := Lib.hid htree; clear htree
    have HCAN := Lib.hid hcan; clear hcan
    have HTM := Lib.hid htm; clear htm
    clear hwb hst hmok hm1 hm2 hn1 hn2
    go_enter Try.func13, Try.ntmps13
    go_wp2_with (fail)
    refine HF.out.mono ?_
    rintro e w1 ⟨rfl, b1⟩
    have HB1 := Lib.hid b1; clear b1
    go_wp2_with (fail)
    refine (HSM.out w1 HB1.out).mono ?_
    rintro e w2 ⟨s2, c2, s3, c3, rfl, hz2, hz3, b2⟩
    have HB2 := Lib.hid (HB1.out.trans (b2.mono HB1.out.size)); clear b2
    have hr := HRS.out w2 s2 s3 c2 c3 hz2 hz3
    have HT2 := Lib.hid (fun hb => HTR.out hb w2 s2 s3 c2 c3 HB2.out hz2 hz3)
    have HZ2 := Lib.hid hz2; clear hz2 hz3
    have hlen : (setsL may st).length = (canL may st).length := by rw [HCAN.out, List.length_map]
    have HLEN := Lib.hid hlen; clear hlen
    obtain ⟨N, hN⟩ : ∃ N, N = (setsL may st).length := ⟨_, rfl⟩
    rw [← hN] at hr HT2 ⊢
    have HN := Lib.hid hN; clear hN
    have HR := Lib.hid hr; clear hr
    go_wp2_with (fail)
    refine HR.out.mono ?_
    rintro e w3 ⟨rfl, h⟩
    have h2 := h.symm; clear h; subst h2
    by_cases hb0 : 0 ≤ S
    · have hb1 : (S < 0) = False := eq_false (by omega)
      have hv := HFV2.out
      rw [if_pos hb0] at hv
      have HV := Lib.hid hv; clear hv
      have ht := HT2.out hb0
      have HT3 := Lib.hid ht; clear ht hb0
      go_wp2_with (fail)
      refine HT3.out.mono ?_
      rintro e w4 ⟨v, rfl, hown, b4⟩
      obtain ⟨s4, c4, rfl, _⟩ := own_slice hown
      have HB4 := Lib.hid (HB2.out.trans (b4.mono HB2.out.size)); clear b4
      have HO := Lib.hid (Sl.of_owns hown); clear hown
      go_wp2
      refine bodyPost_ret (results_tmp4 rfl _ _ _) rfl ?_
      refine ⟨s4, c4, none, 0, ?_⟩
      rw [HV.out]
      exact ⟨rfl, ⟨HO.out, fun x hx => (HL.out.below HB4.out).at' x (HTM.out x hx)⟩, fun h => absurd h (Nat.lt_irrefl 0), HB4.out⟩
    · have hb1 : (S < 0) = True := eq_true (by omega)
      have hv := HFV2.out
      rw [if_neg hb0] at hv
      have HV := Lib.hid hv; clear hv hb0
      go_wp2
      refine bodyPost_ret (results_tmp4 rfl _ _ _) rfl ?_
      refine ⟨none, 0, s2, c2, ?_⟩
      rw [HV.out]
      have hz := HZ2.out
      rw [HLEN.out] at hz
      rw [HN.out, HLEN.out]
      refine ⟨rfl, lst_nil _, ?_, HB2.out⟩
      rw [← nts_map, ← HCAN.out]
      exact hz
  · have hv : findV whole may st = ⟨[], 0, [], E⟩ := by rw [HFV.out, if_neg h0]
    have HV := Lib.hid hv; clear hv
    have h1 : (E != 0) = true := by rw [bne_iff_ne]; exact h0
    have h2 : (E = 0) = False := eq_false h0
    clear h0 hev
    go_enter Try.func13, Try.ntmps13
    go_wp2_with (fail)
    refine HF.out.mono ?_
    rintro e w1 ⟨rfl, b1⟩
    go_wp2
    refine bodyPost_ret (results_tmp4 rfl _ _ _) rfl ?_
    refine ⟨none, 0, none, 0, ?_⟩
    rw [HV.out]
    exact ⟨rfl, lst_nil _, fun h => absurd h (Nat.lt_irrefl 0), b1⟩
end Go.Proofs.Ytnkinjilnccmfaa

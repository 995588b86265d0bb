/- order: the reference's tree. -/
import Derived.Test.YtnkinjilnccmfaaQ30
import Derived.Test.YtnkinjilnccmfaaQ25
namespace Go.Order
open Go.RowKit Go.Own Go.Proofs.Ytnkinjilnccmfaa Go.Theory
theorem mem_sets {may : List Spl} {st : List Int} {x : Int} : x ∈ setsL may st ↔ x ∈ st ∧ 0 ≤ bs may st x := by
  unfold setsL; rw [List.mem_filter, srt_mem, decide_eq_true_eq]
theorem sumT_bb {may : List Spl} {st : List Int} (hok : may.all Spl.ok = true) {p : Nat} (hp : p < 65536) : sumT (setsL may st) ((setsL may st).map (bs may st)) (p : Int) = (bb may st p).2 := by
  rw [sumT_map]
  have L := bst_law (firm := fmN st) (nps_ok hok) hp
  have hb : bs may st (p : Int) = (bb may st p).2 := by unfold bs; rw [Int.toNat_natCast]
  by_cases h : (p : Int) ∈ setsL may st
  · rw [if_pos h, hb]
  · rw [if_neg h]
    by_cases h0 : 0 ≤ (bb may st p).2
    · exact absurd (mem_sets.2 ⟨hasB_iff.1 (L.firm' h0), by rw [hb]; exact h0⟩) h
    · have h1 : bb may st p = (-1, -1) := L.neg (by show (bb may st p).2 < 0; omega)
      rw [h1]
theorem sets_len (may : List Spl) (st : List Int) : (setsL may st).length ≤ st.length := by
  have h1 := List.length_filter_le (fun s => decide (0 ≤ bs may st s)) (srt st)
  have h2 := srt_len st
  unfold setsL
  omega
/-- the first split that reaches the sum -/
theorem first_split {may : List Spl} {st : List Int} (hok : may.all Spl.ok = true) {s : Nat} (hs : s < 65536) (h0 : 0 ≤ (bb may st s).2) (h1 : pop s ≠ 1) :
    ∃ i : Nat, (bb may st s).1 = i ∧ i < may.length ∧ ∀ k, (hk : k < may.length) → k < i → may[k].w = s → ∀ p r : Nat, may[k].p = p → may[k].rest = r → 0 ≤ (bb may st p).2 → 0 ≤ (bb may st r).2 → (bb may st p).2 + (bb may st r).2 + (may[k].cost : Nat) ≠ (bb may st s).2 := by
  have L := bst_law (firm := fmN st) (nps_ok hok) hs
  have h2 : 0 ≤ (bb may st s).1 := L.split h0 h1
  obtain ⟨i, e1, e2, _⟩ := L.at' h2
  rw [nps_len] at e2
  refine ⟨i, e1, e2, fun k hk hki hw p r hp hr ha hb => ?_⟩
  obtain ⟨p', r', q1, q2, _, _, _, q4, q5, q6⟩ := nps_at hok hk hw
  have ep : p' = p := by omega
  have er : r' = r := by omega
  subst ep er
  have hl := L.least (L.firm' h0) k (by rw [nps_len]; exact hk) (by rw [q4]) (by rw [q4]; exact ha) (by rw [q5]; exact hb)
  have hl3 := hl.2.2 (by rw [show (bst (nps may) (fmN st) s).1 = (i : Int) from e1]; omega)
  rw [q6, q5, q4] at hl3
  have hl4 : (bb may st s).2 < (bb may st p').2 + (bb may st r').2 + (may[k].cost : Nat) := hl3
  omega
theorem tre_mem2 {may : List Spl} {st : List Int} : ∀ {n s : Nat} {x : Spl}, x ∈ tre may st n s → x ∈ may := by
  intro n
  induction n with
  | zero => intro s x h; cases h
  | succ n ih =>
    intro s x h
    unfold tre at h
    split at h
    · cases hm : may[(bb may st s).1.toNat]? with
      | none => rw [hm] at h; cases h
      | some y =>
        rw [hm] at h
        dsimp only at h
        rcases List.mem_cons.1 h with h | h
        · rw [h]; exact List.mem_of_getElem? hm
        · rcases List.mem_append.1 h with h | h
          · exact ih h
          · exact ih h
    · cases h
theorem tre_single {may : List Spl} {st : List Int} (hok : may.all Spl.ok = true) {n s : Nat} (hs : s < 65536) (h0 : 0 ≤ (bb may st s).2) (h1 : pop s = 1) : tre may st (n + 1) s = [] := by
  have L := bst_law (firm := fmN st) (nps_ok hok) hs
  have h2 : bb may st s = (-1, 0) := L.single h1 (L.firm' h0)
  exact tre_neg (by rw [h2]; decide)
end Go.Order
namespace Go.Proofs.Ytnkinjilnccmfaa
open Go.RowKit Go.Own Go.BigFrame Go.Big Go.Order
theorem sqw_nil' {P : Program} {l : List Oper} {ps : List Nat} {Ext : World → World → Prop} {w0 : World} {Post : Nat → Value → World → Prop} {Fin : Act → Prop} {k : Nat} {a : Act} (h : Fin a) : SqW P l ps Ext w0 Post Fin k [] a := h
theorem own_one {w : World} {g base n size : Nat} {l : List Value} {t : TypeId} (h : Blk w g l t) (hb : base ≤ g) (hl : l.length = n * size) (hm : n ≤ maxLen) : w.ownsRow base t size (.slice (some ⟨g, 0, none⟩) n n) n l :=
  ⟨hl, .inr ⟨g, n, l.toArray, rfl, hb, h, Nat.le_refl _, hm, by simp [hl], by rw [← hl]; exact List.take_length⟩⟩
theorem flat_one (l : List Spl) : ∀ u ∈ flat l, u.oneCell' = true := by
  intro u hu
  unfold flat at hu
  obtain ⟨c, hc, hu⟩ := List.mem_flatten.1 hu
  obtain ⟨x, _, rfl⟩ := List.mem_map.1 hc
  exact cells_one x u hu
attribute [local irreducible] SqC.SqW SqW
set_option maxRecDepth 100000 in
set_option maxHeartbeats 6400000 in
theorem rtree_any (may : List Spl) (st : List Int) (s t u : Option Addr) (ca cb cc : Nat) (hok : may.all Spl.ok = true) (nm : may.length ≤ 4096) (ns : st.length ≤ 4096) :
    ∀ (n m : Nat), m < n → 1 ≤ m → m < 65536 → 0 ≤ (bb may st m).2 → ∀ (w : World), Lst w (.slice s may.length ca) may → Sz w (.slice t (setsL may st).length cb) (setsL may st).length (intsI (setsL may st)) → Sz w (.slice u (setsL may st).length cc) (setsL may st).length (intsI ((setsL may st).map (bs may st))) →
    Calls Try.prog 40 #[.int .i64 (m : Int), .slice s may.length ca, .slice t (setsL may st).length cb, .slice u (setsL may st).length cc] w fun e w' => ∃ v, e = .returned v ∧ w'.ownsRow w.heap.size 58 10 v (tre may st n m).length (flat (tre may st n m)) ∧ Below w.heap.size w w' := by
  intro n
  induction n with
  | zero => intro m hm; omega
  | succ n ih =>
  intro m hm hm1 hm6 hb0 w hl ht hu
  have hsum : ∀ W, Below w.heap.size w W → ∀ p : Nat, p < 65536 → Calls Try.prog 39 #[.slice t (setsL may st).length cb, .slice u (setsL may st).length cc, .int .i64 (p : Int)] W fun e w' => e = .returned (.int .i64 (bb may st p).2) ∧ w' = W := fun W hW p hp => by
    have hlen := sets_len may st
    have h := rsum_any (setsL may st) ((setsL may st).map (bs may st)) (p : Int) t u cb cc W (ht.below hW) (by rw [List.length_map]; exact hu.below hW) (by rw [List.length_map]) (by omega)
    rw [List.length_map, sumT_bb hok hp] at h
    exact h
  have hsz := rsize_any (m : Int) w
  rw [siz_nat m hm6] at hsz
  have hrec : ∀ (p : Nat), p < n → 1 ≤ p → p < 65536 → 0 ≤ (bb may st p).2 → ∀ W, Below w.heap.size w W → Calls Try.prog 40 #[.int .i64 (p : Int), .slice s may.length ca, .slice t (setsL may st).length cb, .slice u (setsL may st).length cc] W fun e w' => ∃ v, e = .returned v ∧ w'.ownsRow W.heap.size 58 10 v (tre may st n p).length (flat (tre may st n p)) ∧ Below W.heap.size W w' :=
    fun p h1 h2 h3 h4 W hW => ih p h1 h2 h3 h4 W (hl.below hW) (ht.below hW) (hu.below hW)
  clear ih
  have hnm2 : (may.length : Int) < 4611686018427387904 := by omega
  have hsingle := fun h => tre_single (n := n) hok hm6 hb0 h
  have hfirst := fun h => first_split hok hm6 hb0 h
  have hstep := tre_step (st := st) (n := n) hok hm6
  have hlenT := tre_len (st := st) hok
  obtain ⟨N, hN⟩ : ∃ N, N = (setsL may st).length := ⟨_, rfl⟩
  simp only [← hN] at hsum hrec ⊢
  have hsm := hsum
  have HSUM := Lib.hid hsm; clear hsm hsum
  have HREC := Lib.hid hrec; clear hrec
  have HSZ := Lib.hid hsz; clear hsz
  have HSG := Lib.hid hsingle; clear hsingle
  have HFS := Lib.hid hfirst; clear hfirst
  have HST := Lib.hid hstep; clear hstep
  have HLT := Lib.hid hlenT; clear hlenT
  have HL := Lib.hid hl; clear hl ht hu hN
  have HM := Lib.hid (And.intro hm (And.intro hm1 (And.intro hm6 hb0))); clear hm hm1 hm6 hb0
  have HNM := Lib.hid (And.intro nm ns); clear nm ns
  have HOK := Lib.hid hok; clear hok
  by_cases hp1 : Go.Theory.pop m = 1
  · have htr := HSG.out hp1
    have HTR := Lib.hid htr; clear htr
    have e1 : (((Go.Theory.pop m : Nat) : Int) == 1) = true := by rw [hp1]; rfl
    have e2 : (((Go.Theory.pop m : Nat) : Int) = 1) = True := eq_true (by omega)
    clear hp1 hnm2
    go_enter Try.func40, Try.ntmps40
    go_wp2_with (fail)
    refine HSZ.out.mono ?_
    rintro e w2 ⟨rfl, h⟩
    have h2 := h.symm; clear h; subst h2
    go_wp2
    go_ret
    exact ⟨_, rfl, by rw [HTR.out]; exact World.ownsRow_nil _ _ _ _, Below.refl _ _⟩
  · have e1 : (((Go.Theory.pop m : Nat) : Int) == 1) = false := by rw [beq_eq_false_iff_ne]; omega
    have e2 : (((Go.Theory.pop m : Nat) : Int) = 1) = False := eq_false (by omega)
    obtain ⟨i0, hi0, hi0l, hbef⟩ := HFS.out hp1
    have HI0 := Lib.hid (And.intro hi0 hi0l); clear hi0 hi0l
    have HBF := Lib.hid hbef; clear hbef hp1
    go_enter Try.func40, Try.ntmps40
    go_wp2_with (fail)
    refine HSZ.out.mono ?_
    rintro e w2 ⟨rfl, h⟩
    have h2 := h.symm; clear h; subst h2
    go_wp2
    clear e1 e2
    go_loopw [9] (fun v wr => ∃ k : Nat, k ≤ i0 ∧ v = .int .i64 k ∧ Below w.heap.size w wr) (fun v _ => may.length - (vInt v).toNat)
    case atStart => exact ⟨0, Nat.zero_le _, rfl, Below.refl _ _⟩
    case round =>
      obtain ⟨k, hk, rfl, hbr⟩ := hrel
      have hkl : k < may.length := by have := HI0.out.2; omega
      have hkl' : (k : Int) < may.length := by omega
      obtain ⟨g2, o2, rfl, -, -, -, hC2, hg2⟩ := HL.out.at (by omega)
      have cZ := Lst.cells hC2 hkl
      have hBR := hbr
      have HBR := Lib.hid hbr; clear hbr
      have hx2 : k = i0 → ∃ h : 0 ≤ (bb may st m).1, True := fun e => ⟨by rw [HI0.out.1]; omega, trivial⟩
      have hwk := fun h : may[k].w = m => nps_at HOK.out hkl h
      have hrest := rrest_any may[k]
      have hcost := rcost_any may[k]
      have hcle := cost_le may[k]
      have hbk := HBF.out k hkl
      have hs0 := HST.out
      have hatx : may[k].At w := HL.out.at' _ (List.getElem_mem hkl)
      by_cases hxm : may[k].w = m
      · obtain ⟨p, r, e1, e2, hpm, hrm, hm6, _, _, _⟩ := hwk hxm
        have hbk2 := fun hki => hbk hki hxm p r e1 e2
        have hs1 := fun h0 => hs0 h0
        obtain ⟨C, hCc⟩ : ∃ C, C = may[k].cost := ⟨_, rfl⟩
        rw [← hCc] at hcost hcle hbk2
        rw [e2] at hrest
        have hfin : k = i0 → tre may st (n + 1) m = may[k] :: (tre may st n p ++ tre may st n r) ∧ 0 ≤ (bb may st p).2 ∧ 0 ≤ (bb may st r).2 ∧ (bb may st m).2 = (bb may st p).2 + (bb may st r).2 + (C : Int) ∧ 1 ≤ p ∧ 1 ≤ r := fun e => by
          have h0 : 0 ≤ (bb may st m).1 := by rw [HI0.out.1]; omega
          obtain ⟨i, p', r', q1, q2, q3, q4, q5, q6, q7, q8, _, q10, q11, q12, q13, q14⟩ := hs0 h0
          have hik : i = k := by have := HI0.out.1; omega
          subst hik
          have ep : p' = p := by omega
          have er : r' = r := by omega
          subst ep er
          rw [hCc]
          exact ⟨q8, q10, q11, q12, q13, q14⟩
        have hb1 := bb_le (st := st) HOK.out (show p < 65536 by omega)
        have hb2 := bb_le (st := st) HOK.out (show r < 65536 by omega)
        have hsp := fun W hW => HSUM.out W hW p (by omega)
        have hsr := fun W hW => HSUM.out W hW r (by omega)
        have hsm := fun W hW => HSUM.out W hW m hm6
        have hrp := fun h1 h2 W hW => HREC.out p (by have := HM.out.1; omega) h1 (by omega) h2 W hW
        have hrr := fun h1 h2 W hW => HREC.out r (by have := HM.out.1; omega) h1 (by omega) h2 W hW
        have hlp := fun h1 => HLT.out n p h1 (by omega)
        have hlr := fun h1 => HLT.out n r h1 (by omega)
        have hpl := Go.Theory.pop_le16 p
        have hrl := Go.Theory.pop_le16 r
        obtain ⟨a, ha⟩ : ∃ a, a = (bb may st p).2 := ⟨_, rfl⟩
        obtain ⟨b, hb⟩ : ∃ b, b = (bb may st r).2 := ⟨_, rfl⟩
        obtain ⟨S, hS⟩ : ∃ S, S = (bb may st m).2 := ⟨_, rfl⟩
        simp only [← ha] at hbk2 hfin hb1 hsp hrp
        simp only [← hb] at hbk2 hfin hb2 hsr hrr
        simp only [← hS] at hbk2 hfin hsm
        obtain ⟨Tp, hTp⟩ : ∃ T, T = tre may st n p := ⟨_, rfl⟩
        obtain ⟨Tr, hTr⟩ : ∃ T, T = tre may st n r := ⟨_, rfl⟩
        have hmp : ∀ x ∈ Tp, x ∈ may := fun x hx => by rw [hTp] at hx; exact tre_mem2 hx
        have hmr : ∀ x ∈ Tr, x ∈ may := fun x hx => by rw [hTr] at hx; exact tre_mem2 hx
        simp only [← hTp] at hfin hrp hlp
        simp only [← hTr] at hfin hrr hlr
        obtain ⟨x, hx⟩ : ∃ x, x = may[k] := ⟨_, rfl⟩
        rw [← hx] at cZ hrest hcost hfin hxm
        have hp' : x.p = p := by rw [hx]; exact e1
        have hone := cells_one x
        have hfl : flat [x] = x.cells := by unfold flat; simp
        clear hx e1 e2 hCc ha hb hS hTp hTr hbk hs0 hs1 hwk hx2 hC2 hatx hBR
        obtain ⟨zw, zp, ⟨na, da, sa2, ya⟩, ⟨nb, db, sb2, yb⟩, ⟨nc, dc, sc, yc⟩, ⟨nd, dd, sd, yd⟩⟩ := x
        dsimp only at hxm hp'
        subst hxm hp'
        have hrest' : ∀ W : World, Calls Try.prog 28 #[.agg #[.int .i64 (m : Int), .int .i64 (p : Int), .bool na, .slice sa2 da.length ya, .bool nb, .slice sb2 db.length yb, .bool nc, .slice sc dc.length yc, .bool nd, .slice sd dd.length yd]] W fun e w' => e = .returned (.int .i64 (r : Int)) ∧ Below W.heap.size W w' := fun W => hrest W
        have hcost' : ∀ W : World, Calls Try.prog 24 #[.agg #[.int .i64 (m : Int), .int .i64 (p : Int), .bool na, .slice sa2 da.length ya, .bool nb, .slice sb2 db.length yb, .bool nc, .slice sc dc.length yc, .bool nd, .slice sd dd.length yd]] W fun e w' => e = .returned (.int .i64 (C : Nat)) ∧ Below W.heap.size W w' := fun W => hcost W
        have hone' : ∀ v ∈ ([.int .i64 (m : Int), .int .i64 (p : Int), .bool na, .slice sa2 da.length ya, .bool nb, .slice sb2 db.length yb, .bool nc, .slice sc dc.length yc, .bool nd, .slice sd dd.length yd] : List Value), v.oneCell' = true := hone
        obtain ⟨xx, hxx⟩ : ∃ xx : Spl, xx = ⟨(m : Int), (p : Int), ⟨na, da, sa2, ya⟩, ⟨nb, db, sb2, yb⟩, ⟨nc, dc, sc, yc⟩, ⟨nd, dd, sd, yd⟩⟩ := ⟨_, rfl⟩
        rw [← hxx] at hfin hfl
        have hfl' : flat [xx] = [.int .i64 (m : Int), .int .i64 (p : Int), .bool na, .slice sa2 da.length ya, .bool nb, .slice sb2 db.length yb, .bool nc, .slice sc dc.length yc, .bool nd, .slice sd dd.length yd] := by rw [hfl, hxx]; rfl
        have hcz : Cells w g2 (o2 + k * 10) [.int .i64 (m : Int), .int .i64 (p : Int), .bool na, .slice sa2 da.length ya, .bool nb, .slice sb2 db.length yb, .bool nc, .slice sc dc.length yc, .bool nd, .slice sd dd.length yd] := cZ
        have hmem : ∀ W, Below w.heap.size w W → Cells W g2 (o2 + k * 10) [.int .i64 (m : Int), .int .i64 (p : Int), .bool na, .slice sa2 da.length ya, .bool nb, .slice sb2 db.length yb, .bool nc, .slice sc dc.length yc, .bool nd, .slice sd dd.length yd] ∧ W.cell? ⟨g2, o2 + k * 10, none⟩ = some (.int .i64 (m : Int)) ∧ W.cell? ⟨g2, o2 + k * 10 + 1, none⟩ = some (.int .i64 (p : Int)) ∧ (loadVar 58 ⟨g2, o2 + k * 10, none⟩).run Try.prog W = .ok (.agg #[.int .i64 (m : Int), .int .i64 (p : Int), .bool na, .slice sa2 da.length ya, .bool nb, .slice sb2 db.length yb, .bool nc, .slice sc dc.length yc, .bool nd, .slice sd dd.length yd]) W := fun W hW => by
          have h := hcz.below hW hg2
          exact ⟨h, by have := h 0 _ rfl; simpa using this, h 1 _ rfl, run_load_agg (P := Try.prog) (ty := 58) h aggS infoS⟩
        have HME := Lib.hid hmem; clear hmem hcz cZ hg2
        have HRE := Lib.hid hrest'; clear hrest' hrest
        have HCO := Lib.hid hcost'; clear hcost' hcost
        have HONE := Lib.hid hone'; clear hone' hone hxx hfl
        have HFL := Lib.hid hfl'; clear hfl'
        have HFIN := Lib.hid hfin; clear hfin
        have HBK := Lib.hid hbk2; clear hbk2
        have HSP := Lib.hid hsp; clear hsp
        have HSR := Lib.hid hsr; clear hsr
        have HSM := Lib.hid hsm; clear hsm
        have HRP := Lib.hid hrp; clear hrp
        have HRR := Lib.hid hrr; clear hrr
        have HLP := Lib.hid (And.intro hlp (And.intro hlr (And.intro hpl hrl))); clear hlp hlr hpl hrl
        have HMP := Lib.hid (And.intro hmp hmr); clear hmp hmr
        have HB := Lib.hid (And.intro hb1 (And.intro hb2 hcle)); clear hb1 hb2 hcle
        clear hpm hrm hm6
        have hne : ((m : Int) != (m : Int)) = false := by simp
        have q0 := (HME.out wr HBR.out).2.1
        have q1 := (HME.out wr HBR.out).2.2.1
        go_wp2_with (fail)
        refine (HSP.out wr HBR.out).mono ?_
        rintro e w2 ⟨rfl, h⟩
        have h2 := h.symm; clear h; subst h2
        clear q0 q1 hne
        have HC1 := Lib.hid (HME.out wr HBR.out).1
        go_wp2_with (refine wpList_load_agg (ty := 58) [.int .i64 (m : Int), .int .i64 (p : Int), .bool na, .slice sa2 da.length ya, .bool nb, .slice sb2 db.length yb, .bool nc, .slice sc dc.length yc, .bool nd, .slice sd dd.length yd] HC1.out rfl rfl rfl aggS infoS ?_)
        go_wp2_with (fail)
        refine (HRE.out wr).mono ?_
        rintro e w3 ⟨rfl, b3⟩
        have HB3 := Lib.hid (HBR.out.trans (b3.mono HBR.out.size)); clear b3 HC1
        go_wp2_with (fail)
        refine (HSR.out w3 HB3.out).mono ?_
        rintro e w4 ⟨rfl, h⟩
        have h2 := h.symm; clear h; subst h2
        by_cases hA0 : 0 ≤ a
        · have ha1 : (0 ≤ a) = True := eq_true hA0
          by_cases hB0 : 0 ≤ b
          · have hb1 : (0 ≤ b) = True := eq_true hB0
            have hab8 : a + b ≤ 4000000 := by have := HB.out; omega
            have hC16 : (C : Int) ≤ 16 := by have := HB.out; omega
            have hab9 : 0 ≤ a + b := by omega
            have hc3 := (HME.out w3 HB3.out).1
            have k0 : w3.cell? ⟨g2, o2 + k * 10, none⟩ = some (.int .i64 (m : Int)) := by have := hc3 0 _ rfl; simpa using this
            have k1 : w3.cell? ⟨g2, o2 + k * 10 + 1, none⟩ = some (.int .i64 (p : Int)) := by have := hc3 1 _ rfl; simpa using this
            have k2 : w3.cell? ⟨g2, o2 + k * 10 + 2, none⟩ = some (.bool na) := by have := hc3 2 _ rfl; simpa using this
            have k3 : w3.cell? ⟨g2, o2 + k * 10 + 3, none⟩ = some (.slice sa2 da.length ya) := by have := hc3 3 _ rfl; simpa using this
            have k4 : w3.cell? ⟨g2, o2 + k * 10 + 4, none⟩ = some (.bool nb) := by have := hc3 4 _ rfl; simpa using this
            have k5 : w3.cell? ⟨g2, o2 + k * 10 + 5, none⟩ = some (.slice sb2 db.length yb) := by have := hc3 5 _ rfl; simpa using this
            have k6 : w3.cell? ⟨g2, o2 + k * 10 + 6, none⟩ = some (.bool nc) := by have := hc3 6 _ rfl; simpa using this
            have k7 : w3.cell? ⟨g2, o2 + k * 10 + 7, none⟩ = some (.slice sc dc.length yc) := by have := hc3 7 _ rfl; simpa using this
            have k8 : w3.cell? ⟨g2, o2 + k * 10 + 8, none⟩ = some (.bool nd) := by have := hc3 8 _ rfl; simpa using this
            have k9 : w3.cell? ⟨g2, o2 + k * 10 + 9, none⟩ = some (.slice sd dd.length yd) := by have := hc3 9 _ rfl; simpa using this
            clear hnm2 hc3
            go_wp2_with (fail)
            refine (HCO.out w3).mono ?_
            rintro e w5 ⟨rfl, b5⟩
            have HB5 := Lib.hid (HB3.out.trans (b5.mono HB3.out.size)); clear b5 k0 k1 k2 k3 k4 k5 k6 k7 k8 k9
            have hnn : a + b + (C : Int) < 4611686018427387904 := by have := HB.out; omega
            have hnn2 : 0 ≤ a + b + (C : Int) := by omega
            go_wp2_with (fail)
            refine (HSM.out w5 HB5.out).mono ?_
            rintro e w6 ⟨rfl, h⟩
            have h2 := h.symm; clear h; subst h2
            by_cases hS : a + b + (C : Int) = S
            · have hki : k = i0 := Classical.byContradiction fun hne => HBK.out (by omega) hA0 hB0 hS
              obtain ⟨f1, _, _, _, f2, f3⟩ := HFIN.out hki
              have hS1 : (a + b + (C : Int) == S) = true := by rw [hS]; simp
              have hS2 : (a + b + (C : Int) = S) = True := eq_true hS
              have hrp := HRP.out f2 hA0
              have hrr := HRR.out f3 hB0
              have hlp := HLP.out.1 f2
              have hlr := HLP.out.2.1 f3
              have hl16 : Tp.length ≤ 16 ∧ Tr.length ≤ 16 := by have := HLP.out.2.2; omega
              have HF1 := Lib.hid f1; clear f1 f2 f3
              have HRP2 := Lib.hid hrp; clear hrp HRP
              have HRR2 := Lib.hid hrr; clear hrr HRR
              have HL16 := Lib.hid hl16; clear hl16 hlp hlr HLP
              clear hS hki hA0 hB0 ha1 hb1 hab8 hab9 hC16 hnn hnn2
              go_wp2
              obtain ⟨W5, hW5⟩ : ∃ W5, W5 = w5 := ⟨_, rfl⟩
              rw [← hW5] at HB5 ⊢
              clear hW5
              clear w5
              refine wp_region_sqB 14 [3, 4, 9, 13] (fun i v W => match i with
                | 3 => v = .agg #[.int .i64 (m : Int), .int .i64 (p : Int), .bool na, .slice sa2 da.length ya, .bool nb, .slice sb2 db.length yb, .bool nc, .slice sc dc.length yc, .bool nd, .slice sd dd.length yd]
                | 4 => W.ownsRow W5.heap.size 58 10 v 1 [.int .i64 (m : Int), .int .i64 (p : Int), .bool na, .slice sa2 da.length ya, .bool nb, .slice sb2 db.length yb, .bool nc, .slice sc dc.length yc, .bool nd, .slice sd dd.length yd]
                | 9 => v = .int .i64 (p : Int)
                | 13 => W.ownsRow W5.heap.size 58 10 v Tp.length (flat Tp)
                | _ => True) (by kernel_rfl) (by kernel_rfl) ?stable ?main
              case stable =>
                intro i v W W' h hb
                match i, h with
                | 0, h => exact h
                | 1, h => exact h
                | 2, h => exact h
                | 3, h => exact h
                | 4, h => exact own_below h hb
                | 5, h => exact h
                | 6, h => exact h
                | 7, h => exact h
                | 8, h => exact h
                | 9, h => exact h
                | 10, h => exact h
                | 11, h => exact h
                | 12, h => exact h
                | 13, h => exact own_below h hb
                | _ + 14, _ => exact trivial
              simp only [List.take_succ_cons, List.take_zero, List.drop_succ_cons, List.drop_zero]
              have hxu : ∀ W, ExtB W5.drew W → Below w.heap.size w W := fun W hW => HB5.out.trans ((ExtB.undrew hW).mono HB5.out.size)
              have hxs : ∀ W, ExtB W5.drew W → W5.heap.size ≤ W.heap.size := fun W hW => (ExtB.undrew hW).size
              iterate 3 (refine sqw_quiet rfl rfl (ExtB.refl _) ?_; go_big_quiet_step (fail); refine wpQuiet_nil ?_)
              refine sqw_postY rfl rfl rfl ?_ ?_
              · intro W hb hf
                exact yields_value (load_agg_exec rfl rfl (HME.out W (hxu W hb)).2.2.2) ⟨rfl, ExtB.refl _⟩
              intro v Wj hv
              obtain rfl : v = .agg #[.int .i64 (m : Int), .int .i64 (p : Int), .bool na, .slice sa2 da.length ya, .bool nb, .slice sb2 db.length yb, .bool nc, .slice sc dc.length yc, .bool nd, .slice sd dd.length yd] := hv
              simp only [Act.put, List.setIfInBounds_toArray, List.set_cons_zero, List.set_cons_succ]
              refine sqw_post rfl (by simp) rfl rfl ?_ ?_
              · intro W hb hf
                have hz := hxs W hb
                go_wp2
                exact ⟨own_one (n := 1) (size := 10) (Blk.new W #[.int .i64 (m : Int), .int .i64 (p : Int), .bool na, .slice sa2 da.length ya, .bool nb, .slice sb2 db.length yb, .bool nc, .slice sc dc.length yc, .bool nd, .slice sd dd.length yd] 58) hz rfl (by decide), alloc_below _ _⟩
              intro v4 Wj hv4
              simp only [Act.put, List.setIfInBounds_toArray, List.set_cons_zero, List.set_cons_succ]
              iterate 4 (refine sqw_quiet rfl rfl (ExtB.refl _) ?_; go_big_quiet_step (fail); refine wpQuiet_nil ?_)
              refine sqw_postY rfl rfl rfl ?_ ?_
              · intro W hb hf
                have cx := (HME.out W (hxu W hb)).2.2.1
                refine yields_value (v := .int .i64 (p : Int)) (w' := W) ?_ ⟨rfl, ExtB.refl _⟩
                go_simp
              intro v Wj2 hv
              obtain rfl : v = .int .i64 (p : Int) := hv
              simp only [Act.put, List.setIfInBounds_toArray, List.set_cons_zero, List.set_cons_succ]
              iterate 3 (refine sqw_quiet rfl rfl (ExtB.refl _) ?_; go_big_quiet_step (fail); refine wpQuiet_nil ?_)
              refine sqw_postY rfl rfl rfl ?_ ?_
              · intro W hb hf
                refine yields_call rfl (by kernel_rfl) rfl rfl ((HRP2.out W (hxu W hb)).mono ?_)
                rintro e u9 ⟨v, rfl, h1, h2⟩
                exact ⟨_, rfl, own_weaken h1 (hxs W hb), ExtB.of h2⟩
              intro v13 Wj3 hv13
              simp only [Act.put, List.setIfInBounds_toArray, List.set_cons_zero, List.set_cons_succ]
              refine sqw_nil' ?_
              intro w7 hb hf
              have h4 : w7.ownsRow W5.heap.size 58 10 v4 1 [.int .i64 (m : Int), .int .i64 (p : Int), .bool na, .slice sa2 da.length ya, .bool nb, .slice sb2 db.length yb, .bool nc, .slice sc dc.length yc, .bool nd, .slice sd dd.length yd] := hf 4 71 (by decide) (by kernel_rfl) rfl (fun o h => by obtain rfl := Option.some.inj h; rfl)
              have h13 : w7.ownsRow W5.heap.size 58 10 v13 Tp.length (flat Tp) := hf 13 80 (by decide) (by kernel_rfl) rfl (fun o h => by obtain rfl := Option.some.inj h; rfl)
              have hb7 : Below W5.heap.size W5 w7 := ExtB.undrew hb
              clear hf hb hxu hxs
              clear hv4 hv13
              obtain ⟨s4, c4, rfl, _⟩ := own_slice h4
              obtain ⟨s13, c13, rfl, _⟩ := own_slice h13
              have H4 := Lib.hid h4; clear h4
              have H13 := Lib.hid (Sl.of_owns h13); clear h13
              have HB7 := Lib.hid hb7; clear hb7
              have hl16 := HL16.out
              refine wpList_append_sl rfl _ _ 23 rfl W5.heap.size 58 _ 10 144 hTspl2 infoSpl rfl (by decide) _ 1 _ rfl H4.out _ Tp.length (flat Tp) rfl H13.out (flat_one Tp) (by unfold maxLen; omega) (by omega) HB7.out.size ?_
              intro v8 w8 h1 h2
              have hb8 : Below W5.heap.size W5 w8 := grown_below HB7.out H4.out h2 HB7.out.size
              have hw8 : Below w.heap.size w w8 := HB5.out.trans (hb8.mono HB5.out.size)
              obtain ⟨s8, c8, rfl, _⟩ := own_slice h1
              have H8 := Lib.hid h1; clear h1 h2
              have HW8 := Lib.hid hw8; clear hw8
              have HZ8 := Lib.hid hb8.size; clear hb8 hl16 H4 H13 HB7
              have hc8 := (HME.out w8 HW8.out).1
              have k0 : w8.cell? ⟨g2, o2 + k * 10, none⟩ = some (.int .i64 (m : Int)) := by have := hc8 0 _ rfl; simpa using this
              have k1 : w8.cell? ⟨g2, o2 + k * 10 + 1, none⟩ = some (.int .i64 (p : Int)) := by have := hc8 1 _ rfl; simpa using this
              have k2 : w8.cell? ⟨g2, o2 + k * 10 + 2, none⟩ = some (.bool na) := by have := hc8 2 _ rfl; simpa using this
              have k3 : w8.cell? ⟨g2, o2 + k * 10 + 3, none⟩ = some (.slice sa2 da.length ya) := by have := hc8 3 _ rfl; simpa using this
              have k4 : w8.cell? ⟨g2, o2 + k * 10 + 4, none⟩ = some (.bool nb) := by have := hc8 4 _ rfl; simpa using this
              have k5 : w8.cell? ⟨g2, o2 + k * 10 + 5, none⟩ = some (.slice sb2 db.length yb) := by have := hc8 5 _ rfl; simpa using this
              have k6 : w8.cell? ⟨g2, o2 + k * 10 + 6, none⟩ = some (.bool nc) := by have := hc8 6 _ rfl; simpa using this
              have k7 : w8.cell? ⟨g2, o2 + k * 10 + 7, none⟩ = some (.slice sc dc.length yc) := by have := hc8 7 _ rfl; simpa using this
              have k8 : w8.cell? ⟨g2, o2 + k * 10 + 8, none⟩ = some (.bool nd) := by have := hc8 8 _ rfl; simpa using this
              have k9 : w8.cell? ⟨g2, o2 + k * 10 + 9, none⟩ = some (.slice sd dd.length yd) := by have := hc8 9 _ rfl; simpa using this
              clear hc8
              go_wp2_with (fail)
              refine (HRE.out w8).mono ?_
              rintro e w9 ⟨rfl, b9⟩
              have HW9 := Lib.hid (HW8.out.trans (b9.mono HW8.out.size))
              have H9 := Lib.hid (own_below H8.out b9)
              have HZ9 := Lib.hid (Nat.le_trans HZ8.out b9.size)
              clear b9 k0 k1 k2 k3 k4 k5 k6 k7 k8 k9
              go_wp2_with (fail)
              refine (HRR2.out w9 HW9.out).mono ?_
              rintro e w10 ⟨v10, rfl, h10, b10⟩
              have HW10 := Lib.hid (HW9.out.trans (b10.mono HW9.out.size))
              have H10 := Lib.hid (own_below H9.out b10)
              have HZ10 := Lib.hid (Nat.le_trans HZ9.out b10.size)
              obtain ⟨s10, c10, rfl, _⟩ := own_slice h10
              have HS10 := Lib.hid (Sl.of_owns h10); clear h10 b10
              have hl16 := HL16.out
              have hz10 := HZ10.out
              go_wp2_with (refine wpList_append_sl rfl _ _ 23 rfl W5.heap.size 58 _ 10 144 hTspl2 infoSpl rfl (by decide) _ (1 + Tp.length) _ rfl H10.out _ Tr.length (flat Tr) rfl HS10.out (flat_one Tr) (by unfold maxLen; omega) (by omega) hz10 ?_)
              intro v11 w11 h1 h2
              have hw5 : W5.heap.size ≤ w10.heap.size := hz10
              have hb11 : Below w.heap.size w w11 := by
                refine HW10.out.grown h2 HW10.out.size fun q hq => ?_
                have := (H10.out.lt q hq).1
                have := HB5.out.size
                omega
              have HB11 := Lib.hid hb11; clear hb11 h2 hz10 hw5
              have h1' : w11.ownsRow w.heap.size 58 10 v11 (tre may st (n + 1) m).length (flat (tre may st (n + 1) m)) := by
                rw [HF1.out]
                have e1 : (xx :: (Tp ++ Tr)).length = 1 + Tp.length + Tr.length := by simp; omega
                have e2 : flat (xx :: (Tp ++ Tr)) = [.int .i64 (m : Int), .int .i64 (p : Int), .bool na, .slice sa2 da.length ya, .bool nb, .slice sb2 db.length yb, .bool nc, .slice sc dc.length yc, .bool nd, .slice sd dd.length yd] ++ flat Tp ++ flat Tr := by
                  rw [← HFL.out, ← flat_app, ← flat_app]; simp
                rw [e1, e2]
                exact own_weaken h1 HB5.out.size
              have H1 := Lib.hid h1'; clear h1' h1 hl16
              go_wp2
              go_ret
              exact ⟨_, rfl, H1.out, HB11.out⟩
            · have hS1 : (a + b + (C : Int) == S) = false := by rw [beq_eq_false_iff_ne]; exact hS
              have hS2 : (a + b + (C : Int) = S) = False := eq_false hS
              have hki : k ≠ i0 := fun e => by
                have h := HFIN.out e
                exact hS h.2.2.2.1.symm
              clear hS ha1 hb1
              have hnm2 : (may.length : Int) < 4611686018427387904 := by have := HNM.out; omega
              go_wp2
              go_roundw
              case rel => exact ⟨k + 1, by omega, by go_num, HB5.out⟩
              case measure => simp [vInt]; omega
          · have hb1 : (0 ≤ b) = False := eq_false hB0
            have hki : k ≠ i0 := fun e => by
              have h := HFIN.out e
              exact hB0 h.2.2.1
            go_wp2
            go_roundw
            case rel => exact ⟨k + 1, by omega, by go_num, HB3.out⟩
            case measure => simp [vInt]; omega
        · have ha1 : (0 ≤ a) = False := eq_false hA0
          have hki : k ≠ i0 := fun e => by
            have h := HFIN.out e
            exact hA0 h.2.1
          go_wp2
          go_roundw
          case rel => exact ⟨k + 1, by omega, by go_num, HB3.out⟩
          case measure => simp [vInt]; omega
      · have i1 : (may[k].w != (m : Int)) = true := by rw [bne_iff_ne]; exact hxm
        have i2 : (may[k].w = (m : Int)) = False := eq_false hxm
        have hki : k ≠ i0 := fun e => by
          have h0 : 0 ≤ (bb may st m).1 := by rw [HI0.out.1]; omega
          obtain ⟨i, p, r, q1, q2, q3, _⟩ := hs0 h0
          have : i = k := by have := HI0.out.1; omega
          subst this
          exact hxm q3
        have c0 : wr.cell? ⟨g2, o2 + k * 10, none⟩ = some (.int .i64 may[k].w) := by have := (cZ.below hBR hg2) 0 _ rfl; simpa using this
        obtain ⟨zz, hzz⟩ : ∃ zz, zz = may[k].w := ⟨_, rfl⟩
        rw [← hzz] at c0 i1 i2
        clear hzz hxm hbk hs0 hrest hcost hcle hwk hx2 hBR cZ hC2
        go_wp2
        go_roundw
        case rel => exact ⟨k + 1, by omega, by go_num, HBR.out⟩
        case measure => simp [vInt]; omega
end Go.Proofs.Ytnkinjilnccmfaa

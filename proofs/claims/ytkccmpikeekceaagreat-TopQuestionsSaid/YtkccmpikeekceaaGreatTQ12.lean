/- top: the closure of Best at a set that is not known. -/
import Derived.Test.YtkccmpikeekceaaGreatTQ11
/- top: the closure of Best at a set that is not known. -/
section
namespace Go.Proofs.YtkccmpikeekceaaGreat
open Go.RowKit Go.Own Go.Theory Go.BigFrame Go.Shelf Go.Top
theorem infoTree : (Tryz.prog.info? 35).map (·.size) = some 4 := by kernel_rfl
/-- Behind the first test. -/
structure OneQ (V w : World) (ws cs : List Nat) (gw gc K gk gb B gl ol : Nat) (l : List Nat) (u : World) : Prop where
  out : ∃ x o1 o2, BdJ V w ws cs gw gc K gk gb B gl ol l x o1 o2 u ∧ (l.length = 1 → BQ ws cs l = x) ∧ (1 < l.length → x = none)
/-- In front of a round of the questions. -/
structure LoQ (V w : World) (ws cs : List Nat) (gw gc K gk gb B gl ol : Nat) (l : List Nat) (c : Value) (u : World) : Prop where
  out : ∃ (j : Nat) (x : Option (Tr × Nat)) (o1 : Value) (o2 : Int), j ≤ cs.length ∧ c = .int .i64 j ∧ BdJ V w ws cs gw gc K gk gb B gl ol l x o1 o2 u ∧ (l.length = 1 → BQ ws cs l = x) ∧ (1 < l.length → x = foldB ws cs l j) ∧ (∀ t c, x = some (t, c) → c ≤ 8192)
theorem nd_inj {a b : Nat} (h : nd a = nd b) : b = a := by injection h with h; injection h with h; injection h with h; exact h.symm
theorem agg_nd {a b : Nat} {v : Value} (h : Value.agg #[nd a, v] = .agg #[nd b, v]) : b = a := by
  injection h with h
  have := congrArg Array.toList h
  simp only [List.cons.injEq] at this
  exact nd_inj this.1
/-- Behind both calls. -/
structure ReQ (V w : World) (ws cs : List Nat) (gw gc K gk gb B gl ol : Nat) (l : List Nat) (x : Option (Tr × Nat)) (o1 : Value) (o2 : Int) (t1 t2 : Tr) (c1 c2 : Nat) (v16 v17 : Value) (u : World) : Prop where
  out : ∃ r1 r2 b1 b2, v16 = nd r1 ∧ v17 = nd r2 ∧ BdJ V w ws cs gw gc K gk gb B gl ol l x o1 o2 u ∧ Blk u r1 [nd b1, .int .i64 (c1 : Int)] tP ∧ Blk u r2 [nd b2, .int .i64 (c2 : Int)] tP ∧ TrAt tT u (nd b1) t1 ∧ TrAt tT u (nd b2) t2 ∧ B < r1 ∧ B < r2
attribute [local irreducible] SqW SqR.SqW SqC.SqW
set_option maxRecDepth 100000 in
set_option maxHeartbeats 12800000 in
theorem of_new {V : World} {ws cs : List Nat} {sa : Option Addr} {ca : Nat} {sb : Option Addr} {cb gw gc K gk gb : Nat} (S : BdS V ws cs sa ca sb cb gw gc K gk gb) (m : Nat) (hm : m < 2 ^ ws.length) (hm0 : m ≠ 0)
    (ih : ∀ m' : Nat, m' < 2 ^ ws.length → m' ≠ 0 → (elsN ws.length m').length < (elsN ws.length m).length → ∀ u : World, BdW V u ws cs gw gc K gk gb → Calls Tryz.prog 24 #[.int .i64 (m' : Int), nd gk, nd gw, nd gc, nd gb] u fun e w' => BdQ V ws cs gw gc K gk gb m' u e w')
    (w : World) (hw : BdW V w ws cs gw gc K gk gb) (f : Int → Option Value) (hf : MapV w K f) (hv : f m = none) :
    Calls Tryz.prog 24 #[.int .i64 (m : Int), nd gk, nd gw, nd gc, nd gb] w fun e w' => BdQ V ws cs gw gc K gk gb m w e w' := by
  have hw8 := S.pr.most
  have hm256 : m < 256 := Nat.lt_of_lt_of_le hm (Nat.pow_le_pow_right (n := 2) (by omega) hw8)
  obtain ⟨W0, hW0⟩ : ∃ W0, W0 = w.alloc (.cells #[.pointer none, .int .i64 0] tP) := ⟨_, rfl⟩
  obtain ⟨W1, hW1⟩ : ∃ W1, W1 = W0.alloc (.cells #[.pointer none, .int .i64 0] tP) := ⟨_, rfl⟩
  have z0 : W0.heap.size = w.heap.size + 1 := by rw [hW0]; exact alloc_size _ _
  have z1 : W1.heap.size = w.heap.size + 1 + 1 := by rw [hW1, alloc_size, z0]
  have b0 : Below w.heap.size w W0 := by rw [hW0]; exact alloc_below _ _
  have b01 : Below W0.heap.size W0 W1 := by rw [hW1]; exact alloc_below _ _
  have b1 : Below w.heap.size w W1 := b0.trans (b01.mono b0.size)
  have hr1 : Blk W1 w.heap.size [.pointer none, .int .i64 0] tP := (by rw [hW0]; exact Blk.new w #[.pointer none, .int .i64 0] tP : Blk W0 w.heap.size [.pointer none, .int .i64 0] tP).below b01 (by omega)
  have hgk : W0.cell? ⟨gk, 0, none⟩ = some (.map (some K)) := (hw.low b0).ck
  have hl := lookK (hf.below b0) (m : Int)
  rw [hv] at hl
  simp only [Option.getD_none, Option.isSome_none] at hl
  have hcw : ∀ U, Below w.heap.size w U → U.cell? ⟨gw, 0, none⟩ = some (.slice sa ws.length ca) := fun U hU => by
    have h1 := hw.below.cell (p := ⟨gw, 0, none⟩) (World.block_lt_of_cell? _ _ S.cw)
    have h2 := World.block_lt_of_cell? _ _ (h1.trans S.cw)
    exact (hU.cell (p := ⟨gw, 0, none⟩) h2).trans (h1.trans S.cw)
  have HCW := Lib.hid hcw
  have hw1 := hcw W1 b1
  clear hcw
  rw [hW0] at hgk hl
  rw [hW1, hW0] at hw1
  have HS := Lib.hid S; clear S
  have HW := Lib.hid hw; clear hw
  have IH := Lib.hid ih; clear ih
  have HMF := Lib.hid hf; clear hf hv
  have HM := Lib.hid hm; clear hm
  have HM0 := Lib.hid hm0; clear hm0
  have HR1 := Lib.hid hr1; clear hr1
  have HB1 := Lib.hid b1; clear b1 b01 b0
  have HW1 := Lib.hid hW1; clear hW1
  have HW0 := Lib.hid hW0; clear hW0
  have HZ1 := Lib.hid z1; clear z1 z0
  go_enter Tryz.func24, Tryz.ntmps24
  go_wp2
  rw [← HW0.out, ← HW1.out]
  clear hgk hl hw1
  go_loopw [9, 29] (fun v c wr => ∃ i : Nat, i ≤ ws.length ∧ c = .int .i64 i ∧ wr.ownsRow W1.heap.size 3 1 v (elsTo m i).length (nvs (elsTo m i)) ∧ Below W1.heap.size W1 wr) (fun _ c _ => ws.length - (vInt c).toNat)
  case atStart => exact ⟨0, by omega, rfl, World.ownsRow_nil _ _ _ _, Below.refl _ _⟩
  case round =>
    obtain ⟨i, hi, rfl, how, hbr⟩ := hrel
    by_cases hil : i < ws.length
    · have hil' : (i : Int) < ws.length := by omega
      have hi8 : i < 8 := by omega
      have hll := elsTo_len m i
      have hss := elsTo_succ m i
      have hbit := eq1 (s := m) (k := i) (by omega)
      obtain ⟨q, hq⟩ : ∃ q, q = m.testBit i := ⟨_, rfl⟩
      rw [← hq] at hss hbit
      obtain ⟨L, hL⟩ : ∃ L, L = elsTo m i := ⟨_, rfl⟩
      rw [← hL] at hss how hll
      have HSS := Lib.hid hss; clear hss hq hL
      cases q with
      | true =>
        have hbsz := hbr.size
        have HOW := how.alloc (.cells #[.int .i64 i] 3)
        go_wp2_with (refine wpList_append_sl rfl _ _ 22 rfl W1.heap.size 3 (.int .i64 0) 1 8 hTintT infoIntT rfl (by decide) _ L.length _ rfl HOW _ 1 [.int .i64 i] rfl (sl_new _ _ _ 1 rfl (by decide)) (by intro u hu; simp at hu; rw [hu]; rfl) (by unfold maxLen; omega) (by omega) (by simp; omega) ?_)
        intro v' w' h3 h4
        have hb9 : Below W1.heap.size W1 w' := grown_below (hbr.trans ((alloc_below _ _).mono hbsz)) HOW h4 (by simp; omega)
        go_wp2
        go_roundw
        case rel =>
          refine ⟨i + 1, by omega, by go_num, ?_, hb9⟩
          rw [HSS.out]
          simp only [nvs, if_true, List.length_append, List.map_append]; exact h3
        case measure => simp [vInt]; omega
      | false =>
        go_wp2
        go_roundw
        case rel =>
          refine ⟨i + 1, by omega, by go_num, ?_, hbr⟩
          rw [HSS.out]
          simpa using how
        case measure => simp [vInt]; omega
    · obtain rfl : i = ws.length := by omega
      have hlen : elsTo m ws.length = elsN ws.length m := rfl
      rw [hlen] at how
      obtain ⟨l, hl⟩ : ∃ l, l = elsN ws.length m := ⟨_, rfl⟩
      rw [← hl] at how
      have hl0 : l ≠ [] := by
        intro e
        have h := mask_els HM.out
        rw [← hl, e] at h
        exact HM0.out h.symm
      have hl8 : l.length ≤ 8 := by rw [hl]; exact Nat.le_trans (els_len _ _) hw8
      have hpos : 0 < l.length := List.length_pos_iff.2 hl0
      obtain ⟨sl, cl, rfl, hge⟩ := own_slice how
      obtain ⟨gl, ol, rfl, _, hcl, hC, hgl⟩ := sl_at (Sl.of_owns how) (by omega)
      have hgl1 : W1.heap.size ≤ gl := hge gl rfl
      obtain ⟨W2, hW2⟩ : ∃ W2, W2 = wr.alloc (.cells #[.pointer none, .int .i64 (-1)] tP) := ⟨_, rfl⟩
      have b2 : Below wr.heap.size wr W2 := by rw [hW2]; exact alloc_below _ _
      have hbB : Blk W2 wr.heap.size [.pointer none, .int .i64 (-1)] tP := by rw [hW2]; exact Blk.new wr #[.pointer none, .int .i64 (-1)] tP
      have hwW2 : Below w.heap.size w W2 := HB1.out.trans ((hbr.trans (b2.mono hbr.size)).mono HB1.out.size)
      have hJ : BdJ V w ws cs gw gc K gk gb wr.heap.size gl ol l none (.pointer none) (-1) W2 :=
        ⟨HW.out, HW.out.low hwW2, ExtK.of hwW2, (HR1.out.below hbr (by have := HZ1.out; omega)).below b2 (Nat.lt_of_lt_of_le (by have := HZ1.out; omega) hbr.size), hbB, hC.below b2 hgl, hgl, by have := HZ1.out; omega, ⟨rfl, rfl⟩⟩
      obtain ⟨B, hB⟩ : ∃ B, B = wr.heap.size := ⟨_, rfl⟩
      have HLE := Lib.hid hl; clear hl
      have HWR := Lib.hid hwW2; clear hwW2 hbB how hge hgl1 hgl hC
      have HJ := Lib.hid hJ; clear hJ
      have HBR := Lib.hid hbr; clear hbr
      have B2 := Lib.hid b2; clear b2
      have HW2 := Lib.hid hW2; clear hW2
      have HL0 := Lib.hid hl0; clear hl0
      clear hlen hi hil
      rw [← hB] at HJ
      go_upto_if 45 with fail
      rw [← HW2.out]
      rw [← hB]
      have HBE := Lib.hid hB; clear hB
      go_cut [11] (fun v11 wx => v11 = nd B ∧ OneQ V w ws cs gw gc K gk gb B gl ol l wx)
      case first =>
        by_cases hone : l.length = 1
        · obtain ⟨i, rfl⟩ := List.length_eq_one_iff.1 hone
          have hcx : W2.cell? ⟨gl, ol, none⟩ = some (.int .i64 (i : Int)) := HJ.out.row 0 _ rfl
          have e1 : ((([i] : List Nat).length : Int) == 1) = true := rfl
          have e2 : ((([i] : List Nat).length : Int) = 1) = True := eq_true rfl
          obtain ⟨W3, hW3⟩ : ∃ W3, W3 = W2.alloc (.cells #[.int .i64 (-1), .pointer none, .pointer none, .int .i64 (i : Int)] tT) := ⟨_, rfl⟩
          have b3 : Below W2.heap.size W2 W3 := by rw [hW3]; exact alloc_below _ _
          have hT3 : Blk W3 W2.heap.size [.int .i64 (-1), .pointer none, .pointer none, .int .i64 (i : Int)] tT := by rw [hW3]; exact Blk.new W2 #[.int .i64 (-1), .pointer none, .pointer none, .int .i64 (i : Int)] tT
          have J3 := HJ.out.low HS.out b3
          have HT3 := Lib.hid hT3; clear hT3
          have J3 := Lib.hid J3
          have HW3 := Lib.hid hW3; clear hW3
          clear b3
          have hb3 := J3.out.b
          rw [HW3.out] at hb3
          have hbq : BQ ws cs [i] = some (.leaf i, 0) := rfl
          have HBQ := Lib.hid hbq; clear hbq
          go_wp2_with (refine wpList_store_blk (ty := tP) (n := 2) (vs := [nd W2.heap.size, .int .i64 0]) hb3 rfl rfl rfl rfl rfl infoP rfl (by simp) (by intro u hu; simp at hu; rcases hu with hu | hu <;> (subst hu; rfl)) ?_)
          intro w4 s1 s2
          rw [← HW3.out] at s2
          have J4 := J3.out.set (x' := some (.leaf i, 0)) (p1 := nd W2.heap.size) (p2 := 0) s2 s1 ⟨_, rfl, rfl, ⟨_, rfl, HT3.out⟩⟩
          have J4 := Lib.hid J4; clear s1 s2 hb3 hcx
          go_wp2
          go_meet
          case rel => exact ⟨rfl, ⟨_, _, _, J4.out, fun _ => HBQ.out, fun h => absurd h (by simp)⟩⟩
        · have e1 : ((l.length : Int) == 1) = false := beq_eq_false_iff_ne.2 (by omega)
          have e2 : ((l.length : Int) = 1) = False := eq_false (by omega)
          go_wp2
          go_meet
          case rel => exact ⟨rfl, ⟨_, _, _, HJ.out, fun h => absurd h hone, fun _ => rfl⟩⟩
      case rest =>
      obtain ⟨rfl, ⟨x0, p1, p2, hJ0, hx1, hx2⟩⟩ := hcut
      have HCC : Hid (∀ U, BdW V U ws cs gw gc K gk gb → U.cell? ⟨gw, 0, none⟩ = some (.slice sa ws.length ca) ∧ U.cell? ⟨gc, 0, none⟩ = some (.slice sb cs.length cb)) := Lib.hid fun U hU =>
        ⟨(hU.below.cell (p := ⟨gw, 0, none⟩) (World.block_lt_of_cell? _ _ HS.out.cw)).trans HS.out.cw, (hU.below.cell (p := ⟨gc, 0, none⟩) (World.block_lt_of_cell? _ _ HS.out.cc)).trans HS.out.cc⟩
      have hq8 := HS.out.pr.ask
      have hL0 : LoQ V w ws cs gw gc K gk gb B gl ol l (.int .i64 ((0 : Nat) : Int)) wc := ⟨0, x0, p1, p2, Nat.zero_le _, rfl, hJ0, hx1, fun h => hx2 h, fun t c e => by
        by_cases h1 : l.length = 1
        · obtain ⟨i, rfl⟩ := List.length_eq_one_iff.1 h1
          have := hx1 rfl
          rw [e] at this
          have e2 : BQ ws cs [i] = some (.leaf i, 0) := rfl
          rw [e2] at this
          injection this with this; injection this with _ this
          omega
        · rw [hx2 (by omega)] at e; cases e⟩
      have HL0' := Lib.hid hL0; clear hL0 hJ0 hx1 hx2
      have HLW : Hid (∀ i ∈ l, i < ws.length) := Lib.hid (by rw [HLE.out]; exact fun i hi => els_lt hi)
      clear HMF HW0 HW1 HZ1 HB1 HR1 HWR HJ HBR B2 HW2 HBE HCW
      go_wp2
      go_loopw [12] (fun c wr => LoQ V w ws cs gw gc K gk gb B gl ol l c wr) (fun c _ => cs.length - (vInt c).toNat)
      case atStart => exact HL0'.out
      case round =>
        obtain ⟨j, x, o1, o2, hj, rfl, hJ, h1, h2, hbd⟩ := hrel
        have hcc := (HCC.out wr hJ.bw).2
        by_cases hjl : j < cs.length
        · by_cases hl1 : 1 < l.length
          · have hjl' : (j : Int) < cs.length := by omega
            have l1 : (1 : Int) < l.length := by omega
            have j8 : j < 8 := by omega
            obtain ⟨gW, oW, rfl, _, _, hCW, hgW⟩ := sl_at HS.out.sw (by have := HS.out.pr.one; omega)
            obtain ⟨gC, oC, rfl, _, _, hCC, hgC⟩ := sl_at HS.out.sc (by omega)
            obtain ⟨wo, rfl⟩ : ∃ wo : World, wo = wr := ⟨_, rfl⟩
            have hCW' : Cells wo gW oW (nvs ws) := hCW.below hJ.bw.below hgW
            have hgwc : wo.cell? ⟨gw, 0, none⟩ = some (.slice (some ⟨gW, oW, none⟩) ws.length ca) := (HCC.out wo hJ.bw).1
            have HCW' := Lib.hid hCW'; clear hCW'
            have HGW := Lib.hid hgwc; clear hgwc
            have HJ := Lib.hid hJ; clear hJ
            have HH2 := Lib.hid h2; clear h1 h2
            go_wp2
            clear hcc
            go_loopw [13, 65] (fun v c wi => ∃ (i Y : Nat), i ≤ l.length ∧ v = .int .i64 (Y : Int) ∧ Y = maskL (yesL ws j (l.take i)) ∧ c = .int .i64 i ∧ wi = wo) (fun _ c _ => l.length - (vInt c).toNat)
            case atStart => exact ⟨0, 0, by omega, rfl, rfl, rfl, rfl⟩
            case round =>
              obtain ⟨i, Y, hi, rfl, hY, rfl, rfl⟩ := hrel
              obtain ⟨wo, rfl⟩ : ∃ wo : World, wo = wr := ⟨_, rfl⟩
              have hYM : Y < 256 := by
                rw [hY]
                exact Nat.lt_of_lt_of_le (mask_lt (n := 8) fun i hi => Nat.lt_of_lt_of_le (HLW.out i (List.mem_of_mem_take (List.mem_filter.1 hi).1)) hw8) (by decide)
              by_cases hil : i < l.length
              · have hil' : (i : Int) < l.length := by omega
                obtain ⟨z, hz⟩ : ∃ z, z = l[i] := ⟨_, rfl⟩
                have hzw : z < ws.length := by rw [hz]; exact HLW.out _ (List.getElem_mem _)
                obtain ⟨s, hs⟩ : ∃ s, s = ws[z] := ⟨_, rfl⟩
                have hs6 : s < 256 := by rw [hs]; exact HS.out.pr.small _ (List.getElem_mem _)
                have hq : hasQ ws j z = s.testBit j := by unfold hasQ; rw [List.getD_eq_getElem?_getD, List.getElem?_eq_getElem hzw, hs]; rfl
                have nB := yesL_succ (ws := ws) (k := j) hil hz
                rw [hq] at nB
                have cz : wo.cell? ⟨gl, ol + i, none⟩ = some (.int .i64 (z : Int)) := HJ.out.row i _ (nvs_at hil hz)
                have cs' : wo.cell? ⟨gW, oW + z, none⟩ = some (.int .i64 (s : Int)) := HCW'.out z _ (nvs_at hzw hs)
                have cg := HGW.out
                have hzw' : (z : Int) < ws.length := by omega
                have hz8 : z < 8 := by omega
                have hand := Go.Theory.and1 (s := s) (k := j) (by omega)
                have hY63 : Y < 9223372036854775808 := Nat.lt_trans hYM (by decide)
                have hz16 : z ≤ 16 := by omega
                have hor0 : bits .or .i64 (Y : Int) 0 = (Y : Int) := by
                  have := Go.Ib.b_or Y 0 hY63 (by decide)
                  rw [Nat.or_zero] at this
                  exact this
                have hpw := wrap_pow (n := z) hz16
                clear hz16
                have hp256 : 2 ^ z < 256 := Nat.pow_lt_pow_right (n := 8) (by decide) hz8
                obtain ⟨P2, hP2⟩ : ∃ P2, P2 = 2 ^ z := ⟨_, rfl⟩
                rw [← hP2] at hpw hp256
                have hor : bits .or .i64 (Y : Int) (P2 : Int) = ((Y ||| P2 : Nat) : Int) := Go.Ib.b_or Y P2 hY63 (Nat.lt_trans hp256 (by decide))
                clear hY63 hp256
                obtain ⟨q, hqq⟩ : ∃ q, q = s.testBit j := ⟨_, rfl⟩
                rw [← hqq] at nB hand
                have HNB := Lib.hid nB; clear nB
                have HY := Lib.hid hY; clear hY
                have HP2 := Lib.hid hP2; clear hP2
                clear hqq hq hs hz
                cases q with
                | true =>
                  have hand1 : bits .and .i64 ((s : Int) / 2 ^ j) 1 = 1 := by rw [hand]; rfl
                  clear hand
                  have hY2 : (Y ||| P2) = maskL (yesL ws j (l.take (i + 1))) := by rw [HNB.out, if_pos rfl, mask_snoc, ← HY.out, ← HP2.out]
                  have HY2 := Lib.hid hY2; clear hY2
                  obtain ⟨Z, hZ⟩ : ∃ Z, Z = Y ||| P2 := ⟨_, rfl⟩
                  rw [← hZ] at hor HY2
                  clear hZ
                  go_wp2
                  go_roundw
                  case rel => exact ⟨i + 1, Z, hil, rfl, HY2.out, by go_num, trivial⟩
                  case measure => clear hpw; simp [vInt]; omega
                | false =>
                  have hand1 : bits .and .i64 ((s : Int) / 2 ^ j) 1 = 0 := by rw [hand]; rfl
                  clear hand
                  have hY2 : Y = maskL (yesL ws j (l.take (i + 1))) := by rw [HNB.out, if_neg (by decide), List.append_nil]; exact HY.out
                  have HY2 := Lib.hid hY2; clear hY2
                  go_wp2
                  go_roundw
                  case rel => exact ⟨i + 1, Y, hil, rfl, HY2.out, by go_num, trivial⟩
                  case measure => clear hpw; simp [vInt]; omega
              · obtain rfl : i = l.length := by omega
                rw [List.take_length] at hY
                have h2 := HH2.out
                by_cases hy : yesL ws j l = []
                · have hY0 : Y = 0 := by rw [hY, hy]; rfl
                  clear hY
                  subst hY0
                  have hfs := foldB_succ ws cs l j
                  have hskip : tryQ ws cs (BQ ws cs) l (foldB ws cs l j) j = foldB ws cs l j := by unfold tryQ; rw [if_pos (.inl hy)]
                  have hLn : LoQ V w ws cs gw gc K gk gb B gl ol l (.int .i64 ((j : Int) + 1)) wo := ⟨j + 1, x, o1, o2, by omega, by go_num, HJ.out, fun h => absurd h (by omega), fun h => by rw [hfs, hskip]; exact h2 h, hbd⟩
                  have HLN := Lib.hid hLn; clear hLn hfs hskip
                  go_wp2
                  go_roundw
                  case rel => exact HLN.out
                  case measure => simp [vInt]; omega
                · by_cases hn : noL ws j l = []
                  · have hYm : Y = m := by rw [hY, HLE.out]; exact (mask_yes_all HM.out).2 (by rw [← HLE.out]; exact hn)
                    clear hY
                    have hm0' := HM0.out
                    have y1 : ((Y : Int) == 0) = false := beq_eq_false_iff_ne.2 (by omega)
                    have y2 : ((Y : Int) = 0) = False := eq_false (by omega)
                    have y3 : ((Y : Int) == (m : Int)) = true := by rw [hYm]; simp
                    have y4 : ((Y : Int) = (m : Int)) = True := eq_true (by rw [hYm])
                    clear hYm hm0'
                    have hfs := foldB_succ ws cs l j
                    have hskip : tryQ ws cs (BQ ws cs) l (foldB ws cs l j) j = foldB ws cs l j := by unfold tryQ; rw [if_pos (.inr hn)]
                    have hLn : LoQ V w ws cs gw gc K gk gb B gl ol l (.int .i64 ((j : Int) + 1)) wo := ⟨j + 1, x, o1, o2, by omega, by go_num, HJ.out, fun h => absurd h (by omega), fun h => by rw [hfs, hskip]; exact h2 h, hbd⟩
                    have HLN := Lib.hid hLn; clear hLn hfs hskip
                    go_wp2
                    go_roundw
                    case rel => exact HLN.out
                    case measure => simp [vInt]; omega
                  · have hYle : Y < 2 ^ ws.length := by rw [hY]; exact mask_lt fun i hi => HLW.out i (List.mem_filter.1 hi).1
                    have hY0 : Y ≠ 0 := by rw [hY]; exact fun e => hy (mask_zero.1 e)
                    have hYm : Y ≠ m := by rw [hY, HLE.out]; exact fun e => hn (by rw [HLE.out]; exact (mask_yes_all HM.out).1 e)
                    have hdiff := diff_no (ws := ws) (k := j) HM.out (by omega)
                    rw [← HLE.out, ← hY] at hdiff
                    have hand : bits .andNot .i64 (m : Int) (Y : Int) = ((Go.Ib.diff m Y : Nat) : Int) := Go.Ib.b_andNot m Y (by omega) (by omega)
                    rw [hdiff] at hand
                    have hel1 : elsN ws.length (maskL (noL ws j l)) = noL ws j l := by rw [HLE.out]; exact els_no _ _ _
                    have hel2 : elsN ws.length Y = yesL ws j l := by rw [hY, HLE.out]; exact els_yes _ _ _
                    have hml : maskL (noL ws j l) < 2 ^ ws.length := mask_lt fun i hi => HLW.out i (List.mem_filter.1 hi).1
                    have hml0 : maskL (noL ws j l) ≠ 0 := fun e => hn (mask_zero.1 e)
                    obtain ⟨mno, hmno⟩ : ∃ mno, mno = maskL (noL ws j l) := ⟨_, rfl⟩
                    rw [← hmno] at hel1 hml hml0 hand
                    have hsp := split_len ws j l
                    have py := List.length_pos_iff.2 hy
                    have pn := List.length_pos_iff.2 hn
                    obtain ⟨t1, c1, hb1, hf1⟩ := BQ_some (ws := ws) (cs := cs) (l := noL ws j l) HS.out.pr hn (by rw [HLE.out]; exact (els_nodup _ _).filter _) (fun i hi => HLW.out i (List.mem_filter.1 hi).1) (by omega)
                    obtain ⟨t2, c2, hb2, hf2⟩ := BQ_some (ws := ws) (cs := cs) (l := yesL ws j l) HS.out.pr hy (by rw [HLE.out]; exact (els_nodup _ _).filter _) (fun i hi => HLW.out i (List.mem_filter.1 hi).1) (by omega)
                    have le1 := fol_le HS.out.pr.cost hf1
                    have le2 := fol_le HS.out.pr.cost hf2
                    have hc18 : c1 ≤ 7168 := by omega
                    have hc28 : c2 ≤ 7168 := by omega
                    have hC1 : ∀ u : World, BdW V u ws cs gw gc K gk gb → Calls Tryz.prog 24 #[.int .i64 (mno : Int), nd gk, nd gw, nd gc, nd gb] u fun e w' => ∃ b, e = .returned (.agg #[nd b, .int .i64 (c1 : Int)]) ∧ TrAt tT w' (nd b) t1 ∧ KnM w' K ws cs ∧ ExtK K ws cs u w' := fun u hu => by
                      refine (IH.out mno hml hml0 (by rw [hel1, ← HLE.out]; omega) u hu).mono ?_
                      rintro e w' ⟨⟨t, c, b, q1, q2, q3⟩, q4, q5⟩
                      rw [hel1, hb1] at q1
                      injection q1 with q1; injection q1 with q1 q6
                      subst q1 q6
                      exact ⟨b, q2, q3, q5.kn, q4⟩
                    have hC2 : ∀ u : World, BdW V u ws cs gw gc K gk gb → Calls Tryz.prog 24 #[.int .i64 (Y : Int), nd gk, nd gw, nd gc, nd gb] u fun e w' => ∃ b, e = .returned (.agg #[nd b, .int .i64 (c2 : Int)]) ∧ TrAt tT w' (nd b) t2 ∧ KnM w' K ws cs ∧ ExtK K ws cs u w' := fun u hu => by
                      refine (IH.out Y hYle hY0 (by rw [hel2, ← HLE.out]; omega) u hu).mono ?_
                      rintro e w' ⟨⟨t, c, b, q1, q2, q3⟩, q4, q5⟩
                      rw [hel2, hb2] at q1
                      injection q1 with q1; injection q1 with q1 q6
                      subst q1 q6
                      exact ⟨b, q2, q3, q5.kn, q4⟩
                    have HC1 := Lib.hid hC1; clear hC1
                    have HC2 := Lib.hid hC2; clear hC2
                    have y1 : ((Y : Int) == 0) = false := beq_eq_false_iff_ne.2 (by omega)
                    have y2 : ((Y : Int) = 0) = False := eq_false (by omega)
                    have y3 : ((Y : Int) == (m : Int)) = false := beq_eq_false_iff_ne.2 (by omega)
                    have y4 : ((Y : Int) = (m : Int)) = False := eq_false (by omega)
                    have hfs := foldB_succ ws cs l j
                    have htry : tryQ ws cs (BQ ws cs) l (foldB ws cs l j) j = match foldB ws cs l j with
                        | none => some (.node j t1 t2, cs.getD j 0 + max c1 c2)
                        | some (t, c) => if cs.getD j 0 + max c1 c2 < c then some (.node j t1 t2, cs.getD j 0 + max c1 c2) else some (t, c) := by
                      unfold tryQ
                      rw [if_neg (fun e => e.elim hy hn), hb1, hb2]
                      generalize foldB ws cs l j = o
                      cases o <;> rfl
                    rw [htry, ← h2 hl1] at hfs
                    have HFS := Lib.hid hfs; clear hfs htry h2
                    have hckj : cs.getD j 0 ≤ 1024 := by rw [List.getD_eq_getElem?_getD, List.getElem?_eq_getElem hjl]; exact (HS.out.pr.cost _ (List.getElem_mem _)).2
                    obtain ⟨ck, hck⟩ : ∃ ck, ck = cs.getD j 0 := ⟨_, rfl⟩
                    rw [← hck] at HFS hckj
                    have hCCj : (nvs cs)[j]? = some (.int .i64 (ck : Int)) := nvs_at hjl (by rw [hck, List.getD_eq_getElem?_getD, List.getElem?_eq_getElem hjl]; rfl)
                    have HCJ : Hid (∀ U, BdW V U ws cs gw gc K gk gb → U.cell? ⟨gC, oC + j, none⟩ = some (.int .i64 (ck : Int))) := Lib.hid fun U hU => (hCC.below hU.below hgC) j _ hCCj
                    have HY := Lib.hid hY; clear hY hCCj hck hdiff hel1 hel2 hml hml0 hsp py pn hb1 hb2 hf1 hf2 le1 le2 hYle hY0 hYm hmno hy hn
                    have HKB : Hid (K < B) := Lib.hid (by have := HJ.out.kw; have := HJ.out.rlt; have := HJ.out.rge; omega)
                    go_upto_region 24 with fail
                    go_cut [16, 17] (fun v16 v17 wx => ReQ V w ws cs gw gc K gk gb B gl ol l x o1 o2 t1 t2 c1 c2 v16 v17 wx)
                    case first =>
                      have HJD := Lib.hid (HJ.out.low HS.out ((Below.refl wo.heap.size wo).drew))
                      have HBW := Lib.hid HJD.out.bw
                      refine SqX.wp_region_split2 8 9 [0, 1, 2, 3, 4, 5, 6, 7, 9, 8, 10, 11] (fun j => if j = 8 then 9 else if j = 9 then 8 else j) _ _ rfl rfl 12 (by kernel_rfl) (by kernel_rfl) (by kernel_rfl) (by kernel_rfl) ?_ ?_
                      · obtain ⟨wd, hwd⟩ : ∃ wd : World, wd = wo.drew := ⟨_, rfl⟩
                        rw [← hwd] at HJD HBW ⊢
                        clear hwd
                        haveI : Nonempty (Grown (ExtK K ws cs) wd) := ⟨⟨wd, ExtK.refl _ _ _ _⟩⟩
                        simp only [SqE.addE, List.set_cons_zero, List.set_cons_succ, List.getD_cons_zero, List.getD_cons_succ]
                        refine SqR.any_sqr 12 rfl 10 [0, 4, 5, 7, 8, 9] (ExtK K ws cs) (fun i v W => match i with
                          | 0 => v = bdv gk gw gc gb
                          | 4 => ∃ b, v = .agg #[nd b, .int .i64 (c1 : Int)] ∧ TrAt tT W (nd b) t1 ∧ KnM W K ws cs
                          | 5 => v = bdv gk gw gc gb
                          | 7 => ∃ b, v = .agg #[nd b, .int .i64 (c2 : Int)] ∧ TrAt tT W (nd b) t2 ∧ KnM W K ws cs
                          | 8 => ∃ r, v = nd r ∧ Blk W r [.pointer none, .int .i64 0] tP ∧ B < r ∧ r < W.heap.size
                          | 9 => ∃ r, v = nd r ∧ Blk W r [.pointer none, .int .i64 0] tP ∧ B < r ∧ r < W.heap.size
                          | _ => True) (fun k ρ v => k = 9 → v ≠ ρ 8) ?cong16 (by kernel_rfl) (ExtK.refl K ws cs) (ExtK.trans K ws cs) ?stable16 ?main16
                        case cong16 =>
                          intro k ρ ρ' v h1 h2 e
                          subst e
                          rw [← h1 8 (by kernel_rfl)]
                          exact h2 rfl
                        case stable16 =>
                          intro i v W W' h hx
                          have hal : (∃ r, v = nd r ∧ Blk W r [.pointer none, .int .i64 0] tP ∧ B < r ∧ r < W.heap.size) → ∃ r, v = nd r ∧ Blk W' r [.pointer none, .int .i64 0] tP ∧ B < r ∧ r < W'.heap.size := fun ⟨r, q1, q2, q3, q4⟩ =>
                            ⟨r, q1, q2.chg hx.chg (by have := HKB.out; simp; omega), q3, Nat.lt_of_lt_of_le q4 hx.chg.size⟩
                          match i, h with
                          | 0, h => exact h
                          | 1, h => exact h
                          | 2, h => exact h
                          | 3, h => exact h
                          | 4, h => exact (by obtain ⟨b, q1, q2, q3⟩ := h; exact ⟨b, q1, hx.tr q3 q2, hx.kn q3⟩)
                          | 5, h => exact h
                          | 6, h => exact h
                          | 7, h => exact (by obtain ⟨b, q1, q2, q3⟩ := h; exact ⟨b, q1, hx.tr q3 q2, hx.kn q3⟩)
                          | 8, h => exact hal h
                          | 9, h => exact hal h
                          | _ + 10, _ => exact trivial
                        case main16 =>
                          simp only [List.take_succ_cons, List.take_zero, List.drop_succ_cons, List.drop_zero]
                          refine SqR.sqw_postY rfl rfl rfl ?_ ?_
                          · intro W1 hx hf
                            have cx := (HBW.out.ext HS.out hx).cb
                            refine yields_value (v := bdv gk gw gc gb) (w' := W1) ?_ ⟨⟨rfl, ExtK.refl _ _ _ _⟩, fun e => absurd e (by decide)⟩
                            go_simp
                          intro v Wj hv hr
                          obtain rfl : v = bdv gk gw gc gb := hv
                          clear hr
                          simp only [Act.put, List.setIfInBounds_toArray, List.set_cons_zero, List.set_cons_succ]
                          iterate 3 (refine SqR.sqw_quiet rfl rfl (ExtK.refl _ _ _ _) ?_; go_big_quiet_step (fail); refine wpQuiet_nil ?_)
                          refine SqR.sqw_postY rfl rfl rfl ?_ ?_
                          · intro W1 hx hf
                            refine yields_closure (f := 24) (lb := #[nd gk, nd gw, nd gc, nd gb]) (args := #[.int .i64 (mno : Int)]) rfl (by kernel_rfl) rfl rfl ((HC1.out W1 (HBW.out.ext HS.out hx)).mono ?_)
                            rintro e u1 ⟨b, rfl, q1, q2, q3⟩
                            exact ⟨_, rfl, ⟨⟨b, rfl, q1, q2⟩, q3⟩, fun e => absurd e (by decide)⟩
                          intro v Wj hv hr
                          obtain ⟨b1, rfl, -, -⟩ := hv
                          clear hr
                          simp only [Act.put, List.setIfInBounds_toArray, List.set_cons_zero, List.set_cons_succ]
                          refine SqR.sqw_postY rfl rfl rfl ?_ ?_
                          · intro W1 hx hf
                            have cx := (HBW.out.ext HS.out hx).cb
                            refine yields_value (v := bdv gk gw gc gb) (w' := W1) ?_ ⟨⟨rfl, ExtK.refl _ _ _ _⟩, fun e => absurd e (by decide)⟩
                            go_simp
                          intro v Wj hv hr
                          obtain rfl : v = bdv gk gw gc gb := hv
                          clear hr
                          simp only [Act.put, List.setIfInBounds_toArray, List.set_cons_zero, List.set_cons_succ]
                          iterate 1 (refine SqR.sqw_quiet rfl rfl (ExtK.refl _ _ _ _) ?_; go_big_quiet_step (fail); refine wpQuiet_nil ?_)
                          refine SqR.sqw_postY rfl rfl rfl ?_ ?_
                          · intro W1 hx hf
                            refine yields_closure (f := 24) (lb := #[nd gk, nd gw, nd gc, nd gb]) (args := #[.int .i64 (Y : Int)]) rfl (by kernel_rfl) rfl rfl ((HC2.out W1 (HBW.out.ext HS.out hx)).mono ?_)
                            rintro e u1 ⟨b, rfl, q1, q2, q3⟩
                            exact ⟨_, rfl, ⟨⟨b, rfl, q1, q2⟩, q3⟩, fun e => absurd e (by decide)⟩
                          intro v Wj hv hr
                          obtain ⟨b2, rfl, -, -⟩ := hv
                          clear hr
                          simp only [Act.put, List.setIfInBounds_toArray, List.set_cons_zero, List.set_cons_succ]
                          refine SqR.sqw_postY rfl rfl rfl ?_ ?_
                          · intro W1 hx hf
                            have hz : B < W1.heap.size := Nat.lt_of_lt_of_le HJD.out.b.lt hx.chg.size
                            refine yields_value (v := nd W1.heap.size) (w' := W1.alloc (.cells #[.pointer none, .int .i64 0] tP)) ?_ ⟨⟨⟨W1.heap.size, rfl, Blk.new W1 #[.pointer none, .int .i64 0] tP, hz, by simp⟩, ExtK.of (alloc_below W1 _)⟩, fun e => absurd e (by decide)⟩
                            go_simp
                          intro v Wj hv hr
                          obtain ⟨ra, rfl, -, -, -⟩ := hv
                          clear hr
                          simp only [Act.put, List.setIfInBounds_toArray, List.set_cons_zero, List.set_cons_succ]
                          refine SqR.sqw_postY rfl rfl rfl ?_ ?_
                          · intro W1 hx hf
                            have hz : B < W1.heap.size := Nat.lt_of_lt_of_le HJD.out.b.lt hx.chg.size
                            refine yields_value (v := nd W1.heap.size) (w' := W1.alloc (.cells #[.pointer none, .int .i64 0] tP)) ?_ ⟨⟨⟨W1.heap.size, rfl, Blk.new W1 #[.pointer none, .int .i64 0] tP, hz, by simp⟩, ExtK.of (alloc_below W1 _)⟩, fun _ => (by
                              obtain ⟨r, e, _, _, h9⟩ : ∃ r, nd ra = nd r ∧ Blk W1 r [.pointer none, .int .i64 0] tP ∧ B < r ∧ r < W1.heap.size := hf 8 16 (by kernel_rfl) rfl rfl (fun o h => by obtain rfl := Option.some.inj h; rfl)
                              show nd W1.heap.size ≠ nd ra
                              intro e2
                              injection e with e; injection e with e; injection e with e
                              injection e2 with e2; injection e2 with e2; injection e2 with e2
                              omega)⟩
                            go_simp
                          intro v Wj hv hr
                          obtain ⟨rb, rfl, -, -, -⟩ := hv
                          have hne : nd rb ≠ nd ra := hr rfl
                          clear hr
                          simp only [Act.put, List.setIfInBounds_toArray, List.set_cons_zero, List.set_cons_succ]
                          refine SqR.sqw_nil ?_
                          intro w7 hx hf
                          obtain ⟨b1', e1, hT1, hkn1⟩ : ∃ b, Value.agg #[nd b1, .int .i64 (c1 : Int)] = .agg #[nd b, .int .i64 (c1 : Int)] ∧ TrAt tT w7 (nd b) t1 ∧ KnM w7 K ws cs := hf 4 92 (by decide) (by kernel_rfl) rfl (fun o h => by obtain rfl := Option.some.inj h; rfl)
                          obtain ⟨b2', e2, hT2, hkn2⟩ : ∃ b, Value.agg #[nd b2, .int .i64 (c2 : Int)] = .agg #[nd b, .int .i64 (c2 : Int)] ∧ TrAt tT w7 (nd b) t2 ∧ KnM w7 K ws cs := hf 7 95 (by decide) (by kernel_rfl) rfl (fun o h => by obtain rfl := Option.some.inj h; rfl)
                          obtain ⟨r1', e3, hR1, hB1, hz1⟩ : ∃ r, nd ra = nd r ∧ Blk w7 r [.pointer none, .int .i64 0] tP ∧ B < r ∧ r < w7.heap.size := hf 8 16 (by decide) (by kernel_rfl) rfl (fun o h => by obtain rfl := Option.some.inj h; rfl)
                          obtain ⟨r2', e4, hR2, hB2, hz2⟩ : ∃ r, nd rb = nd r ∧ Blk w7 r [.pointer none, .int .i64 0] tP ∧ B < r ∧ r < w7.heap.size := hf 9 17 (by decide) (by kernel_rfl) rfl (fun o h => by obtain rfl := Option.some.inj h; rfl)
                          obtain rfl := agg_nd e1
                          obtain rfl := agg_nd e2
                          obtain rfl := nd_inj e3
                          obtain rfl := nd_inj e4
                          clear hf e1 e2 e3 e4
                          have hne' : r1' ≠ r2' := by rintro rfl; exact hne rfl
                          have J7 := HJD.out.step HS.out hx
                          have HR1 := Lib.hid hR1; clear hR1
                          have HR2 := Lib.hid hR2; clear hR2
                          have HT1 := Lib.hid hT1; clear hT1
                          have HT2 := Lib.hid hT2; clear hT2
                          have HJ7 := Lib.hid J7; clear J7 hkn1 hkn2 hne hx hz1 hz2
                          refine wpList_store_blk (ty := tP) (n := 2) (vs := [nd b1', .int .i64 (c1 : Int)]) HR1.out rfl rfl rfl rfl rfl infoP rfl (by simp) (by intro u hu; simp at hu; rcases hu with hu | hu <;> (subst hu; rfl)) ?_
                          intro w8 s1 s2
                          have s1' : Blk w8 r1' [nd b1', .int .i64 (c1 : Int)] tP := s1
                          have J8 := HJ7.out.oth hB1 HR1.out rfl s2
                          have R28 := s2.blk (fun e => hne' e.symm) HR2.out
                          have T18 := tr_oth HR1.out rfl s2 HT1.out
                          have T28 := tr_oth HR1.out rfl s2 HT2.out
                          have S1 := Lib.hid s1'; clear s1 s1' s2
                          have HJ8 := Lib.hid J8; clear J8
                          have HR28 := Lib.hid R28; clear R28
                          have HT18 := Lib.hid T18; clear T18
                          have HT28 := Lib.hid T28; clear T28
                          refine wpList_store_blk (ty := tP) (n := 2) (vs := [nd b2', .int .i64 (c2 : Int)]) HR28.out rfl rfl rfl rfl rfl infoP rfl (by simp) (by intro u hu; simp at hu; rcases hu with hu | hu <;> (subst hu; rfl)) ?_
                          intro w9 s1 s2
                          have s1' : Blk w9 r2' [nd b2', .int .i64 (c2 : Int)] tP := s1
                          have J9 := HJ8.out.oth hB2 HR28.out rfl s2
                          have R19 := s2.blk hne' S1.out
                          have T19 := tr_oth HR28.out rfl s2 HT18.out
                          have T29 := tr_oth HR28.out rfl s2 HT28.out
                          have hq : ReQ V w ws cs gw gc K gk gb B gl ol l x o1 o2 t1 t2 c1 c2 (nd r1') (nd r2') w9 := ⟨r1', r2', b1', b2', rfl, rfl, J9, R19, s1', T19, T29, hB1, hB2⟩
                          have HQ := Lib.hid hq; clear hq J9 R19 s1' T19 T29 s1 s2
                          refine wpList_nil ?_
                          refine SqE.nrm ?_
                          go_wp2
                          go_meet
                          case rel => exact HQ.out
                      · obtain ⟨wd, hwd⟩ : ∃ wd : World, wd = wo.drew := ⟨_, rfl⟩
                        rw [← hwd] at HJD HBW ⊢
                        clear hwd
                        haveI : Nonempty (Grown (ExtK K ws cs) wd) := ⟨⟨wd, ExtK.refl _ _ _ _⟩⟩
                        simp only [SqE.addE, SqP.permL, SqP.ren, List.set_cons_zero, List.set_cons_succ, List.getD_cons_zero, List.getD_cons_succ, List.map_cons, List.map_nil]
                        refine SqR.any_sqr 12 rfl 10 [0, 4, 5, 7, 8, 9] (ExtK K ws cs) (fun i v W => match i with
                          | 0 => v = bdv gk gw gc gb
                          | 4 => ∃ b, v = .agg #[nd b, .int .i64 (c1 : Int)] ∧ TrAt tT W (nd b) t1 ∧ KnM W K ws cs
                          | 5 => v = bdv gk gw gc gb
                          | 7 => ∃ b, v = .agg #[nd b, .int .i64 (c2 : Int)] ∧ TrAt tT W (nd b) t2 ∧ KnM W K ws cs
                          | 8 => ∃ r, v = nd r ∧ Blk W r [.pointer none, .int .i64 0] tP ∧ B < r ∧ r < W.heap.size
                          | 9 => ∃ r, v = nd r ∧ Blk W r [.pointer none, .int .i64 0] tP ∧ B < r ∧ r < W.heap.size
                          | _ => True) (fun k ρ v => k = 9 → v ≠ ρ 8) ?cong17 (by kernel_rfl) (ExtK.refl K ws cs) (ExtK.trans K ws cs) ?stable17 ?main17
                        case cong17 =>
                          intro k ρ ρ' v h1 h2 e
                          subst e
                          rw [← h1 8 (by kernel_rfl)]
                          exact h2 rfl
                        case stable17 =>
                          intro i v W W' h hx
                          have hal : (∃ r, v = nd r ∧ Blk W r [.pointer none, .int .i64 0] tP ∧ B < r ∧ r < W.heap.size) → ∃ r, v = nd r ∧ Blk W' r [.pointer none, .int .i64 0] tP ∧ B < r ∧ r < W'.heap.size := fun ⟨r, q1, q2, q3, q4⟩ =>
                            ⟨r, q1, q2.chg hx.chg (by have := HKB.out; simp; omega), q3, Nat.lt_of_lt_of_le q4 hx.chg.size⟩
                          match i, h with
                          | 0, h => exact h
                          | 1, h => exact h
                          | 2, h => exact h
                          | 3, h => exact h
                          | 4, h => exact (by obtain ⟨b, q1, q2, q3⟩ := h; exact ⟨b, q1, hx.tr q3 q2, hx.kn q3⟩)
                          | 5, h => exact h
                          | 6, h => exact h
                          | 7, h => exact (by obtain ⟨b, q1, q2, q3⟩ := h; exact ⟨b, q1, hx.tr q3 q2, hx.kn q3⟩)
                          | 8, h => exact hal h
                          | 9, h => exact hal h
                          | _ + 10, _ => exact trivial
                        case main17 =>
                          simp only [List.take_succ_cons, List.take_zero, List.drop_succ_cons, List.drop_zero]
                          refine SqR.sqw_postY rfl rfl rfl ?_ ?_
                          · intro W1 hx hf
                            have cx := (HBW.out.ext HS.out hx).cb
                            refine yields_value (v := bdv gk gw gc gb) (w' := W1) ?_ ⟨⟨rfl, ExtK.refl _ _ _ _⟩, fun e => absurd e (by decide)⟩
                            go_simp
                          intro v Wj hv hr
                          obtain rfl : v = bdv gk gw gc gb := hv
                          clear hr
                          simp only [Act.put, List.setIfInBounds_toArray, List.set_cons_zero, List.set_cons_succ]
                          iterate 3 (refine SqR.sqw_quiet rfl rfl (ExtK.refl _ _ _ _) ?_; go_big_quiet_step (fail); refine wpQuiet_nil ?_)
                          refine SqR.sqw_postY rfl rfl rfl ?_ ?_
                          · intro W1 hx hf
                            refine yields_closure (f := 24) (lb := #[nd gk, nd gw, nd gc, nd gb]) (args := #[.int .i64 (mno : Int)]) rfl (by kernel_rfl) rfl rfl ((HC1.out W1 (HBW.out.ext HS.out hx)).mono ?_)
                            rintro e u1 ⟨b, rfl, q1, q2, q3⟩
                            exact ⟨_, rfl, ⟨⟨b, rfl, q1, q2⟩, q3⟩, fun e => absurd e (by decide)⟩
                          intro v Wj hv hr
                          obtain ⟨b1, rfl, -, -⟩ := hv
                          clear hr
                          simp only [Act.put, List.setIfInBounds_toArray, List.set_cons_zero, List.set_cons_succ]
                          refine SqR.sqw_postY rfl rfl rfl ?_ ?_
                          · intro W1 hx hf
                            have cx := (HBW.out.ext HS.out hx).cb
                            refine yields_value (v := bdv gk gw gc gb) (w' := W1) ?_ ⟨⟨rfl, ExtK.refl _ _ _ _⟩, fun e => absurd e (by decide)⟩
                            go_simp
                          intro v Wj hv hr
                          obtain rfl : v = bdv gk gw gc gb := hv
                          clear hr
                          simp only [Act.put, List.setIfInBounds_toArray, List.set_cons_zero, List.set_cons_succ]
                          iterate 1 (refine SqR.sqw_quiet rfl rfl (ExtK.refl _ _ _ _) ?_; go_big_quiet_step (fail); refine wpQuiet_nil ?_)
                          refine SqR.sqw_postY rfl rfl rfl ?_ ?_
                          · intro W1 hx hf
                            refine yields_closure (f := 24) (lb := #[nd gk, nd gw, nd gc, nd gb]) (args := #[.int .i64 (Y : Int)]) rfl (by kernel_rfl) rfl rfl ((HC2.out W1 (HBW.out.ext HS.out hx)).mono ?_)
                            rintro e u1 ⟨b, rfl, q1, q2, q3⟩
                            exact ⟨_, rfl, ⟨⟨b, rfl, q1, q2⟩, q3⟩, fun e => absurd e (by decide)⟩
                          intro v Wj hv hr
                          obtain ⟨b2, rfl, -, -⟩ := hv
                          clear hr
                          simp only [Act.put, List.setIfInBounds_toArray, List.set_cons_zero, List.set_cons_succ]
                          refine SqR.sqw_postY rfl rfl rfl ?_ ?_
                          · intro W1 hx hf
                            have hz : B < W1.heap.size := Nat.lt_of_lt_of_le HJD.out.b.lt hx.chg.size
                            refine yields_value (v := nd W1.heap.size) (w' := W1.alloc (.cells #[.pointer none, .int .i64 0] tP)) ?_ ⟨⟨⟨W1.heap.size, rfl, Blk.new W1 #[.pointer none, .int .i64 0] tP, hz, by simp⟩, ExtK.of (alloc_below W1 _)⟩, fun e => absurd e (by decide)⟩
                            go_simp
                          intro v Wj hv hr
                          obtain ⟨ra, rfl, -, -, -⟩ := hv
                          clear hr
                          simp only [Act.put, List.setIfInBounds_toArray, List.set_cons_zero, List.set_cons_succ]
                          refine SqR.sqw_postY rfl rfl rfl ?_ ?_
                          · intro W1 hx hf
                            have hz : B < W1.heap.size := Nat.lt_of_lt_of_le HJD.out.b.lt hx.chg.size
                            refine yields_value (v := nd W1.heap.size) (w' := W1.alloc (.cells #[.pointer none, .int .i64 0] tP)) ?_ ⟨⟨⟨W1.heap.size, rfl, Blk.new W1 #[.pointer none, .int .i64 0] tP, hz, by simp⟩, ExtK.of (alloc_below W1 _)⟩, fun _ => (by
                              obtain ⟨r, e, _, _, h9⟩ : ∃ r, nd ra = nd r ∧ Blk W1 r [.pointer none, .int .i64 0] tP ∧ B < r ∧ r < W1.heap.size := hf 8 17 (by kernel_rfl) rfl rfl (fun o h => by obtain rfl := Option.some.inj h; rfl)
                              show nd W1.heap.size ≠ nd ra
                              intro e2
                              injection e with e; injection e with e; injection e with e
                              injection e2 with e2; injection e2 with e2; injection e2 with e2
                              omega)⟩
                            go_simp
                          intro v Wj hv hr
                          obtain ⟨rb, rfl, -, -, -⟩ := hv
                          have hne : nd rb ≠ nd ra := hr rfl
                          clear hr
                          simp only [Act.put, List.setIfInBounds_toArray, List.set_cons_zero, List.set_cons_succ]
                          refine SqR.sqw_nil ?_
                          intro w7 hx hf
                          obtain ⟨b1', e1, hT1, hkn1⟩ : ∃ b, Value.agg #[nd b1, .int .i64 (c1 : Int)] = .agg #[nd b, .int .i64 (c1 : Int)] ∧ TrAt tT w7 (nd b) t1 ∧ KnM w7 K ws cs := hf 4 92 (by decide) (by kernel_rfl) rfl (fun o h => by obtain rfl := Option.some.inj h; rfl)
                          obtain ⟨b2', e2, hT2, hkn2⟩ : ∃ b, Value.agg #[nd b2, .int .i64 (c2 : Int)] = .agg #[nd b, .int .i64 (c2 : Int)] ∧ TrAt tT w7 (nd b) t2 ∧ KnM w7 K ws cs := hf 7 95 (by decide) (by kernel_rfl) rfl (fun o h => by obtain rfl := Option.some.inj h; rfl)
                          obtain ⟨r1', e3, hR1, hB1, hz1⟩ : ∃ r, nd rb = nd r ∧ Blk w7 r [.pointer none, .int .i64 0] tP ∧ B < r ∧ r < w7.heap.size := hf 9 16 (by decide) (by kernel_rfl) rfl (fun o h => by obtain rfl := Option.some.inj h; rfl)
                          obtain ⟨r2', e4, hR2, hB2, hz2⟩ : ∃ r, nd ra = nd r ∧ Blk w7 r [.pointer none, .int .i64 0] tP ∧ B < r ∧ r < w7.heap.size := hf 8 17 (by decide) (by kernel_rfl) rfl (fun o h => by obtain rfl := Option.some.inj h; rfl)
                          obtain rfl := agg_nd e1
                          obtain rfl := agg_nd e2
                          obtain rfl := nd_inj e3
                          obtain rfl := nd_inj e4
                          clear hf e1 e2 e3 e4
                          have hne' : r1' ≠ r2' := by rintro rfl; exact hne rfl
                          have J7 := HJD.out.step HS.out hx
                          have HR1 := Lib.hid hR1; clear hR1
                          have HR2 := Lib.hid hR2; clear hR2
                          have HT1 := Lib.hid hT1; clear hT1
                          have HT2 := Lib.hid hT2; clear hT2
                          have HJ7 := Lib.hid J7; clear J7 hkn1 hkn2 hne hx hz1 hz2
                          refine wpList_store_blk (ty := tP) (n := 2) (vs := [nd b1', .int .i64 (c1 : Int)]) HR1.out rfl rfl rfl rfl rfl infoP rfl (by simp) (by intro u hu; simp at hu; rcases hu with hu | hu <;> (subst hu; rfl)) ?_
                          intro w8 s1 s2
                          have s1' : Blk w8 r1' [nd b1', .int .i64 (c1 : Int)] tP := s1
                          have J8 := HJ7.out.oth hB1 HR1.out rfl s2
                          have R28 := s2.blk (fun e => hne' e.symm) HR2.out
                          have T18 := tr_oth HR1.out rfl s2 HT1.out
                          have T28 := tr_oth HR1.out rfl s2 HT2.out
                          have S1 := Lib.hid s1'; clear s1 s1' s2
                          have HJ8 := Lib.hid J8; clear J8
                          have HR28 := Lib.hid R28; clear R28
                          have HT18 := Lib.hid T18; clear T18
                          have HT28 := Lib.hid T28; clear T28
                          refine wpList_store_blk (ty := tP) (n := 2) (vs := [nd b2', .int .i64 (c2 : Int)]) HR28.out rfl rfl rfl rfl rfl infoP rfl (by simp) (by intro u hu; simp at hu; rcases hu with hu | hu <;> (subst hu; rfl)) ?_
                          intro w9 s1 s2
                          have s1' : Blk w9 r2' [nd b2', .int .i64 (c2 : Int)] tP := s1
                          have J9 := HJ8.out.oth hB2 HR28.out rfl s2
                          have R19 := s2.blk hne' S1.out
                          have T19 := tr_oth HR28.out rfl s2 HT18.out
                          have T29 := tr_oth HR28.out rfl s2 HT28.out
                          have hq : ReQ V w ws cs gw gc K gk gb B gl ol l x o1 o2 t1 t2 c1 c2 (nd r1') (nd r2') w9 := ⟨r1', r2', b1', b2', rfl, rfl, J9, R19, s1', T19, T29, hB1, hB2⟩
                          have HQ := Lib.hid hq; clear hq J9 R19 s1' T19 T29 s1 s2
                          refine wpList_nil ?_
                          refine SqE.nrm ?_
                          go_wp2
                          go_meet
                          case rel => exact HQ.out
                    case rest =>
                      obtain ⟨⟨r1, r2, b1, b2, rfl, rfl, hJ9, hR1, hR2, hT1, hT2, hB1, hB2⟩⟩ := hcut
                      have cg := (HCC.out wc hJ9.bw).2
                      have cck := HCJ.out wc hJ9.bw
                      have cr1 := hR1.cell (i := 1) rfl
                      have cr2 := hR2.cell (i := 1) rfl
                      obtain ⟨M, hMN⟩ : ∃ M, M = max c1 c2 := ⟨_, rfl⟩
                      have hmx : max (c1 : Int) (c2 : Int) = (M : Int) := by rw [hMN]; omega
                      have hM7 : M ≤ 7168 := by omega
                      have HMN := Lib.hid hMN; clear hMN
                      have HJ9 := Lib.hid hJ9; clear hJ9
                      have HR1 := Lib.hid hR1; clear hR1
                      have HR2 := Lib.hid hR2; clear hR2
                      have HT1' := Lib.hid hT1; clear hT1
                      have HT2' := Lib.hid hT2; clear hT2
                      clear hand y1 y2 y3 y4
                      go_upto_region 25 with fail
                      refine wp_region_quiet_lit (by kernel_rfl) (by kernel_rfl) ?_
                      repeat (go_big_quiet_step (rfl))
                      refine wpQuiet_nil ?_
                      rintro _ ⟨nq, rfl⟩
                      clear cg cck cr1 cr2
                      obtain ⟨w10, hw10⟩ : ∃ w10, w10 = wc.drewN nq := ⟨_, rfl⟩
                      have b910 : Below wc.heap.size wc w10 := by rw [hw10]; exact below_drewN (Below.refl wc.heap.size wc) nq
                      rw [← hw10]
                      clear hw10
                      have J10 := Lib.hid (HJ9.out.low HS.out b910)
                      have HRR1 := Lib.hid (HR1.out.below b910 HR1.out.lt)
                      have HRR2 := Lib.hid (HR2.out.below b910 HR2.out.lt)
                      have HT1 := Lib.hid (HT1'.out.below b910)
                      have HT2 := Lib.hid (HT2'.out.below b910)
                      clear HJ9 HR1 HR2 HT1' HT2' b910 HJ
                      have cB1 := J10.out.b.cell (i := 1) rfl
                      have hO := J10.out.o
                      cases x with
                      | none =>
                        obtain ⟨rfl, rfl⟩ := hO
                        obtain ⟨w11, hw11⟩ : ∃ w11, w11 = w10.alloc (.cells #[.int .i64 (j : Int), nd b1, nd b2, .int .i64 (-1)] tT) := ⟨_, rfl⟩
                        have bw11 : Below w10.heap.size w10 w11 := by rw [hw11]; exact alloc_below _ _
                        have hT11 : Blk w11 w10.heap.size [.int .i64 (j : Int), nd b1, nd b2, .int .i64 (-1)] tT := by rw [hw11]; exact Blk.new w10 #[.int .i64 (j : Int), nd b1, nd b2, .int .i64 (-1)] tT
                        have J11 := Lib.hid (J10.out.low HS.out bw11)
                        have hTr : TrAt tT w11 (nd w10.heap.size) (.node j t1 t2) := ⟨_, b1, b2, rfl, hT11, HT1.out.below bw11, HT2.out.below bw11⟩
                        have HTR := Lib.hid hTr; clear hTr hT11 bw11
                        have cr10 := HRR1.out.cell (i := 0) rfl
                        have cr20 := HRR2.out.cell (i := 0) rfl
                        have hsb := J11.out.b
                        rw [hw11] at hsb
                        have HW11 := Lib.hid hw11; clear hw11
                        go_wp2_with (refine wpList_store_blk (ty := tP) (n := 2) (vs := [nd w10.heap.size, .int .i64 ((ck : Int) + (M : Int))]) hsb rfl rfl rfl rfl rfl infoP rfl (by simp) (by intro u hu; simp at hu; rcases hu with hu | hu <;> (subst hu; rfl)) ?_)
                        intro w12 s1 s2
                        rw [← HW11.out] at s2
                        have s1' : Blk w12 B [nd w10.heap.size, .int .i64 ((ck : Int) + (M : Int))] tP := s1
                        have J12 := J11.out.set (x' := some (.node j t1 t2, ck + max c1 c2)) (p1 := nd w10.heap.size) (p2 := (ck : Int) + (M : Int)) s2 s1' ⟨_, rfl, by rw [HMN.out]; omega, HTR.out⟩
                        have hLn : LoQ V w ws cs gw gc K gk gb B gl ol l (.int .i64 ((j : Int) + 1)) w12 := ⟨j + 1, _, _, _, by omega, by go_num, J12, fun h => absurd h (by omega), fun _ => by rw [HFS.out], fun t c e => by injection e with e; injection e with _ e; omega⟩
                        have HLN := Lib.hid hLn; clear hLn J12 s1 s1' s2 hsb cr10 cr20
                        go_wp2
                        go_roundw
                        case rel => exact HLN.out
                        case measure => simp [vInt]; omega
                      | some p =>
                        obtain ⟨t0, c0⟩ := p
                        obtain ⟨b0, rfl, rfl, hT0⟩ := hO
                        have hc0 := hbd t0 c0 rfl
                        have z1 : ((c0 : Int) < 0) = False := eq_false (by omega)
                        have z2 : ¬ c0 < 0 := by omega
                        clear hT0
                        by_cases hlt : ck + M < c0
                        · have z3 : (ck : Int) + (M : Int) < (c0 : Int) := by omega
                          obtain ⟨w11, hw11⟩ : ∃ w11, w11 = w10.alloc (.cells #[.int .i64 (j : Int), nd b1, nd b2, .int .i64 (-1)] tT) := ⟨_, rfl⟩
                          have bw11 : Below w10.heap.size w10 w11 := by rw [hw11]; exact alloc_below _ _
                          have hT11 : Blk w11 w10.heap.size [.int .i64 (j : Int), nd b1, nd b2, .int .i64 (-1)] tT := by rw [hw11]; exact Blk.new w10 #[.int .i64 (j : Int), nd b1, nd b2, .int .i64 (-1)] tT
                          have J11 := Lib.hid (J10.out.low HS.out bw11)
                          have hTr : TrAt tT w11 (nd w10.heap.size) (.node j t1 t2) := ⟨_, b1, b2, rfl, hT11, HT1.out.below bw11, HT2.out.below bw11⟩
                          have HTR := Lib.hid hTr; clear hTr hT11 bw11
                          have cr10 := HRR1.out.cell (i := 0) rfl
                          have cr20 := HRR2.out.cell (i := 0) rfl
                          have hsb := J11.out.b
                          rw [hw11] at hsb
                          have HW11 := Lib.hid hw11; clear hw11
                          go_wp2_with (refine wpList_store_blk (ty := tP) (n := 2) (vs := [nd w10.heap.size, .int .i64 ((ck : Int) + (M : Int))]) hsb rfl rfl rfl rfl rfl infoP rfl (by simp) (by intro u hu; simp at hu; rcases hu with hu | hu <;> (subst hu; rfl)) ?_)
                          intro w12 s1 s2
                          rw [← HW11.out] at s2
                          have s1' : Blk w12 B [nd w10.heap.size, .int .i64 ((ck : Int) + (M : Int))] tP := s1
                          have J12 := J11.out.set (x' := some (.node j t1 t2, ck + max c1 c2)) (p1 := nd w10.heap.size) (p2 := (ck : Int) + (M : Int)) s2 s1' ⟨_, rfl, by rw [HMN.out]; omega, HTR.out⟩
                          have hLn : LoQ V w ws cs gw gc K gk gb B gl ol l (.int .i64 ((j : Int) + 1)) w12 := ⟨j + 1, _, _, _, by omega, by go_num, J12, fun h => absurd h (by omega), fun _ => by rw [HFS.out, ← HMN.out]; exact (if_pos hlt).symm, fun t c e => by injection e with e; injection e with _ e; omega⟩
                          have HLN := Lib.hid hLn; clear hLn J12 s1 s1' s2 hsb cr10 cr20
                          go_wp2
                          go_roundw
                          case rel => exact HLN.out
                          case measure => simp [vInt]; omega
                        · have z3 : ((ck : Int) + (M : Int) < (c0 : Int)) = False := eq_false (by omega)
                          have hLn : LoQ V w ws cs gw gc K gk gb B gl ol l (.int .i64 ((j : Int) + 1)) w10 := ⟨j + 1, _, _, _, by omega, by go_num, J10.out, fun h => absurd h (by omega), fun _ => by rw [HFS.out, ← HMN.out]; exact (if_neg hlt).symm, hbd⟩
                          have HLN := Lib.hid hLn; clear hLn
                          go_wp2
                          go_roundw
                          case rel => exact HLN.out
                          case measure => simp [vInt]; omega
          · have hjl' : (j : Int) < cs.length := by omega
            have l1 : ((1 : Int) < l.length) = False := eq_false (by omega)
            have l2 : ¬ 1 < l.length := hl1
            have hbq : BQ ws cs l = x := h1 (by omega)
            obtain ⟨t, c, hbs, hfs⟩ := BQ_some (ws := ws) (cs := cs) (l := l) HS.out.pr HL0.out (by rw [HLE.out]; exact els_nodup _ _) (by rw [HLE.out]; exact fun i hi => els_lt hi) hl8
            rw [hbq] at hbs
            subst hbs
            obtain ⟨b, rfl, rfl, hTb⟩ := hJ.o
            have hck : wr.cell? ⟨gk, 0, none⟩ = some (.map (some K)) := hJ.bw.ck
            obtain ⟨fk, ⟨mm, him, hmg⟩, hfp⟩ := hJ.bw.kn
            have hkn3 : ∀ W : World, Chg [K] wr W → IMap W K (mset mm (m : Int) (.agg #[nd b, .int .i64 (c : Int)])) → KnM W K ws cs := fun W hc hW => ⟨_, MapV.set hmg hW, fun k v hv => by
              by_cases hkm : k = m
              · rw [if_pos hkm] at hv
                refine ⟨m, t, c, b, hkm, by rw [← HLE.out]; exact hbq, (Option.some.inj hv).symm, tr_chg ⟨mm, him, hmg⟩ hc hTb⟩
              · rw [if_neg hkm] at hv
                obtain ⟨S', t', c', b', e1, e2, e3, e4⟩ := hfp k v hv
                exact ⟨S', t', c', b', e1, e2, e3, tr_chg ⟨mm, him, hmg⟩ hc e4⟩⟩
            have hfin : ∀ (W W' : World), ExtK K ws cs wr W → Oth w.heap.size W W' → BdQ V ws cs gw gc K gk gb m w (.returned (.agg #[nd b, .int .i64 (c : Int)])) W' := fun W W' hx ho => by
              have h3 := (hJ.step HS.out hx).fin ho
              obtain ⟨b', e1, _, e3⟩ := h3.2.2
              injection e1 with e1; injection e1 with e1; injection e1 with e1
              subst e1
              exact ⟨⟨t, c, b, by rw [← HLE.out]; exact hbq, rfl, e3⟩, h3.2.1, h3.1⟩
            have HFIN := Lib.hid hfin; clear hfin
            have HK3 := Lib.hid hkn3; clear hkn3
            have HJF := Lib.hid hJ; clear hJ
            have HIM := Lib.hid him; clear him hmg hfp hbq hfs hTb h1 h2 hbd
            go_wp2_with (first | refine wpList_load_agg (ty := tP) [nd b, .int .i64 (c : Int)] HJF.out.b.cells0 rfl rfl rfl aggP infoP ?_ | refine wpList_mapUpdate_imap (k := (m : Int)) (v := .agg #[nd b, .int .i64 (c : Int)]) HIM.out rfl rfl rfl rfl rfl rfl hTknown hKint ?_)
            intro w3 hm3 hc3 hz3
            have hx3 : ExtK K ws cs wr w3 := ⟨hc3, fun _ => HK3.out w3 hc3 hm3⟩
            have J3 := Lib.hid (HJF.out.step HS.out hx3)
            have HX3 := Lib.hid hx3; clear hx3 hm3 hc3 hz3 hck
            go_wp2_with (first | refine wpList_load_agg (ty := tP) [nd b, .int .i64 (c : Int)] J3.out.b.cells0 rfl rfl rfl aggP infoP ?_ | refine wpList_store_blk (ty := tP) (n := 2) (vs := [nd b, .int .i64 (c : Int)]) J3.out.r rfl rfl rfl rfl rfl infoP rfl (by simp) (by intro u hu; simp at hu; rcases hu with hu | hu <;> (subst hu; rfl)) ?_)
            intro w4 s1 s2
            have hq := HFIN.out w3 w4 HX3.out s2
            have s1' : Blk w4 w.heap.size [nd b, .int .i64 (c : Int)] tP := s1
            go_wp2
            refine bodyPost_ret (results_blk rfl s1' rfl rfl (by kernel_rfl) infoP) rfl ?_
            exact hq
        · have hjl' : ((j : Int) < cs.length) = False := eq_false (by omega)
          have l2 : ¬ j < cs.length := hjl
          have hbq : BQ ws cs l = x := by
            by_cases e : l.length = 1
            · exact h1 e
            · rw [BQ_more (by omega) hl8, h2 (by omega)]; congr 1; omega
          obtain ⟨t, c, hbs, hfs⟩ := BQ_some (ws := ws) (cs := cs) (l := l) HS.out.pr HL0.out (by rw [HLE.out]; exact els_nodup _ _) (by rw [HLE.out]; exact fun i hi => els_lt hi) hl8
          rw [hbq] at hbs
          subst hbs
          obtain ⟨b, rfl, rfl, hTb⟩ := hJ.o
          have hck : wr.cell? ⟨gk, 0, none⟩ = some (.map (some K)) := hJ.bw.ck
          obtain ⟨fk, ⟨mm, him, hmg⟩, hfp⟩ := hJ.bw.kn
          have hkn3 : ∀ W : World, Chg [K] wr W → IMap W K (mset mm (m : Int) (.agg #[nd b, .int .i64 (c : Int)])) → KnM W K ws cs := fun W hc hW => ⟨_, MapV.set hmg hW, fun k v hv => by
            by_cases hkm : k = m
            · rw [if_pos hkm] at hv
              refine ⟨m, t, c, b, hkm, by rw [← HLE.out]; exact hbq, (Option.some.inj hv).symm, tr_chg ⟨mm, him, hmg⟩ hc hTb⟩
            · rw [if_neg hkm] at hv
              obtain ⟨S', t', c', b', e1, e2, e3, e4⟩ := hfp k v hv
              exact ⟨S', t', c', b', e1, e2, e3, tr_chg ⟨mm, him, hmg⟩ hc e4⟩⟩
          have hfin : ∀ (W W' : World), ExtK K ws cs wr W → Oth w.heap.size W W' → BdQ V ws cs gw gc K gk gb m w (.returned (.agg #[nd b, .int .i64 (c : Int)])) W' := fun W W' hx ho => by
            have h3 := (hJ.step HS.out hx).fin ho
            obtain ⟨b', e1, _, e3⟩ := h3.2.2
            injection e1 with e1; injection e1 with e1; injection e1 with e1
            subst e1
            exact ⟨⟨t, c, b, by rw [← HLE.out]; exact hbq, rfl, e3⟩, h3.2.1, h3.1⟩
          have HFIN := Lib.hid hfin; clear hfin
          have HK3 := Lib.hid hkn3; clear hkn3
          have HJF := Lib.hid hJ; clear hJ
          have HIM := Lib.hid him; clear him hmg hfp hbq hfs hTb h1 h2 hbd
          go_wp2_with (first | refine wpList_load_agg (ty := tP) [nd b, .int .i64 (c : Int)] HJF.out.b.cells0 rfl rfl rfl aggP infoP ?_ | refine wpList_mapUpdate_imap (k := (m : Int)) (v := .agg #[nd b, .int .i64 (c : Int)]) HIM.out rfl rfl rfl rfl rfl rfl hTknown hKint ?_)
          intro w3 hm3 hc3 hz3
          have hx3 : ExtK K ws cs wr w3 := ⟨hc3, fun _ => HK3.out w3 hc3 hm3⟩
          have J3 := Lib.hid (HJF.out.step HS.out hx3)
          have HX3 := Lib.hid hx3; clear hx3 hm3 hc3 hz3 hck
          go_wp2_with (first | refine wpList_load_agg (ty := tP) [nd b, .int .i64 (c : Int)] J3.out.b.cells0 rfl rfl rfl aggP infoP ?_ | refine wpList_store_blk (ty := tP) (n := 2) (vs := [nd b, .int .i64 (c : Int)]) J3.out.r rfl rfl rfl rfl rfl infoP rfl (by simp) (by intro u hu; simp at hu; rcases hu with hu | hu <;> (subst hu; rfl)) ?_)
          intro w4 s1 s2
          have hq := HFIN.out w3 w4 HX3.out s2
          have s1' : Blk w4 w.heap.size [nd b, .int .i64 (c : Int)] tP := s1
          go_wp2
          refine bodyPost_ret (results_blk rfl s1' rfl rfl (by kernel_rfl) infoP) rfl ?_
          exact hq
end Go.Proofs.YtkccmpikeekceaaGreat
end

/- order: the program's builder. -/
import Derived.Test.YtnkinjilnccmfaaQ23
namespace Go.Proofs.Ytnkinjilnccmfaa
open Go.RowKit Go.Own Go.BigFrame Go.Big Go.Order
theorem mk_of (u : World) : (Instr.makeMap 93 none).run Try.prog u = .ok (.map (some u.heap.size)) (u.alloc (.map #[] 0)) := by
  simp [Instr.makeMap, run_underlying hTof, run_newObj_alloc, Result.andThen]
theorem mk_known (u : World) : (Instr.makeMap 94 none).run Try.prog u = .ok (.map (some u.heap.size)) (u.alloc (.map #[] 0)) := by
  simp [Instr.makeMap, run_underlying hTknown, run_newObj_alloc, Result.andThen]
theorem own_lt {w : World} {base size n : Nat} {e : TypeId} {v : Value} {xs : List Value} (h : w.ownsRow base e size v n xs) {b : Nat} (hb : v.ownBlock = some b) : b < w.heap.size := by
  rcases h.2 with ⟨h6, _⟩ | ⟨g, cap, cur, h6, _, h7, _⟩
  · rw [h6] at hb; cases hb
  · rw [h6] at hb
    cases hb
    rcases Nat.lt_or_ge g w.heap.size with h8 | h8
    · exact h8
    · rw [Array.getElem?_eq_none h8] at h7; cases h7
structure BrQ (may : List Spl) (st : List Int) (s : Option Addr) (ca : Nat) (w : World) (e : Ending) (w' : World) : Prop where
  out : ∃ V gf go gm F O K gk gb, e = .returned (bdv gk gf go gb gm) ∧ BdS V may st s ca gf go gm F O K gk gb ∧ BdW V w' may st gf go gm K gk gb ∧ Below w.heap.size w V ∧ V.heap.size + 3 = w'.heap.size ∧ Below w.heap.size w w' ∧ K = V.heap.size ∧ gk = V.heap.size + 1 ∧ gb = V.heap.size + 1 + 1
attribute [local irreducible] SqC.SqW
attribute [local go_sem high] run_store_func
set_option maxRecDepth 100000 in
set_option maxHeartbeats 6400000 in
theorem builder_any (may : List Spl) (st : List Int) (s t : Option Addr) (ca cb : Nat) (w : World) (hl : Lst w (.slice s may.length ca) may) (hm : Sz w (.slice t st.length cb) st.length (intsI st)) (hok : may.all Spl.ok = true) (nm : may.length < 1000000) (ns : st.length < 1000000) :
    Calls Try.prog 33 #[.slice s may.length ca, .slice t st.length cb] w fun e w' => BrQ may st s ca w e w' := by
  have hmk1 := mk_firm (w.alloc (.cells #[.slice s may.length ca] 23))
  obtain ⟨W1, hW1⟩ : ∃ W1, W1 = w.alloc (.cells #[.slice s may.length ca] 23) := ⟨_, rfl⟩
  obtain ⟨W2, hW2⟩ : ∃ W2, W2 = W1.alloc (.map #[] 0) := ⟨_, rfl⟩
  obtain ⟨W3, hW3⟩ : ∃ W3, W3 = W2.alloc (.cells #[.map (some (w.heap.size + 1))] 71) := ⟨_, rfl⟩
  have z1 : W1.heap.size = w.heap.size + 1 := by rw [hW1]; exact alloc_size _ _
  have z2 : W2.heap.size = w.heap.size + 1 + 1 := by rw [hW2, alloc_size, z1]
  have z3 : W3.heap.size = w.heap.size + 1 + 1 + 1 := by rw [hW3, alloc_size, z2]
  have b1 : Below w.heap.size w W1 := by rw [hW1]; exact alloc_below _ _
  have b2 : Below W1.heap.size W1 W2 := by rw [hW2]; exact alloc_below _ _
  have b3 : Below W2.heap.size W2 W3 := by rw [hW3]; exact alloc_below _ _
  have b23 : Below W1.heap.size W1 W3 := b2.trans (b3.mono b2.size)
  have b03 : Below w.heap.size w W3 := b1.trans (b23.mono b1.size)
  have cm : Blk W3 w.heap.size [.slice s may.length ca] 23 := (by rw [hW1]; exact Blk.new w #[.slice s may.length ca] 23 : Blk W1 w.heap.size [.slice s may.length ca] 23).below b23 (by omega)
  have mF : FirmM W3 (w.heap.size + 1) fun _ => false := by
    have h := FirmM.new W1
    rw [← hW2, z1] at h
    exact h.below b3
  have cf : Blk W3 (w.heap.size + 1 + 1) [.map (some (w.heap.size + 1))] 71 := by
    have : Blk W3 W2.heap.size [.map (some (w.heap.size + 1))] 71 := by rw [hW3]; exact Blk.new W2 #[.map (some (w.heap.size + 1))] 71
    rwa [z2] at this
  have hns : (st.length : Int) < 4611686018427387904 := by omega
  have hnm : (may.length : Int) < 4611686018427387904 := by omega
  have HL := Lib.hid hl; clear hl
  have HM := Lib.hid hm; clear hm
  have HOK := Lib.hid hok; clear hok
  have HNM := Lib.hid nm; clear nm
  have HB03 := Lib.hid b03; clear b03 b1 b2 b3 b23 z1 z2
  have HZ3 := Lib.hid z3; clear z3
  have HCM := Lib.hid cm; clear cm
  have HMF := Lib.hid mF; clear mF
  have HCF := Lib.hid cf; clear cf
  have HW1 := Lib.hid hW1; clear hW1
  have HW2 := Lib.hid hW2; clear hW2
  have HW3 := Lib.hid hW3; clear hW3
  go_enter Try.func33, Try.ntmps33
  go_wp2
  rw [← HW1.out, ← HW2.out, ← HW3.out]
  clear hmk1
  go_loopw [16] (fun v wr => ∃ i : Nat, i ≤ st.length ∧ v = .int .i64 i ∧ FirmM wr (w.heap.size + 1) (hasB (st.take i)) ∧ Chg [w.heap.size + 1] W3 wr) (fun v _ => st.length - (vInt v).toNat)
  case atStart => exact ⟨0, Nat.zero_le _, rfl, HMF.out, Chg.refl _ _⟩
  case round =>
    obtain ⟨i, hi, rfl, hfA, hch⟩ := hrel
    have HFA := Lib.hid hfA; clear hfA
    have HCH := Lib.hid hch; clear hch
    have cF : wr.cell? ⟨w.heap.size + 1 + 1, 0, none⟩ = some (.map (some (w.heap.size + 1))) := (HCF.out.chg HCH.out (by simp)).cell rfl
    have hbw : Below w.heap.size w wr := HB03.out.trans (HCH.out.below HB03.out.size (by simp))
    have HBW := Lib.hid hbw; clear hbw
    by_cases hil : i < st.length
    · have hil' : (i : Int) < st.length := by omega
      obtain ⟨g, o, rfl, _, _, hC, hgl⟩ := sl_at (HM.out (by omega)) (by omega)
      obtain ⟨x, hx⟩ : ∃ x, x = st[i] := ⟨_, rfl⟩
      have cx : wr.cell? ⟨g, o + i, none⟩ = some (.int .i64 x) := by rw [hx]; exact (hC.below HBW.out hgl) i _ (intsI_at hil)
      have hhas : ∀ z, hasB (st.take (i + 1)) z = (decide (z = x) || hasB (st.take i) z) := fun z => by rw [hx]; exact hasB_take hil z
      have HHAS := Lib.hid hhas; clear hhas hx hC
      obtain ⟨m, hmm, hg⟩ := HFA.out
      have HMm := Lib.hid hmm; clear hmm
      have HGm := Lib.hid hg; clear hg
      go_wp2_with (refine wpList_mapUpdate_imap (k := x) (v := .bool true) HMm.out rfl rfl rfl rfl rfl rfl hTfirm hKset ?_)
      intro w3 hm3 hc3 hz3
      have hfn : FirmM w3 (w.heap.size + 1) (hasB (st.take (i + 1))) := (FirmM.set HGm.out hm3).congr fun k => by unfold bmap; rw [HHAS.out k]
      have hcn : Chg [w.heap.size + 1] W3 w3 := HCH.out.trans hc3
      have HFN := Lib.hid hfn; clear hfn hm3
      have HCN := Lib.hid hcn; clear hcn hc3
      go_wp2
      go_roundw
      case rel => exact ⟨i + 1, by omega, by go_num, HFN.out, HCN.out⟩
      case measure => simp [vInt]; omega
    · have hil' : ((i : Int) < st.length) = False := eq_false (by omega)
      have hfall : FirmM wr (w.heap.size + 1) (hasB st) := HFA.out.congr fun k => by rw [List.take_of_length_le (by omega)]
      have hcm := HCM.out.chg HCH.out (by simp)
      have hcf := HCF.out.chg HCH.out (by simp)
      have hzr : w.heap.size + 1 + 1 < wr.heap.size := hcf.lt
      obtain ⟨X, hX⟩ : ∃ X, X = wr := ⟨_, rfl⟩
      rw [← hX] at hfall hcm hcf HBW hzr cF
      obtain ⟨X1, hX1⟩ : ∃ X1, X1 = X.alloc (.map #[] 0) := ⟨_, rfl⟩
      obtain ⟨X2, hX2⟩ : ∃ X2, X2 = X1.alloc (.cells #[.map (some X.heap.size)] 93) := ⟨_, rfl⟩
      have y1 : X1.heap.size = X.heap.size + 1 := by rw [hX1]; exact alloc_size _ _
      have y2 : X2.heap.size = X.heap.size + 1 + 1 := by rw [hX2, alloc_size, y1]
      have c1 : Below X.heap.size X X1 := by rw [hX1]; exact alloc_below _ _
      have c2 : Below X1.heap.size X1 X2 := by rw [hX2]; exact alloc_below _ _
      have c02 : Below X.heap.size X X2 := c1.trans (c2.mono c1.size)
      have mO : MapV X2 X.heap.size fun _ => none := by
        have h := MapV.new X
        rw [← hX1] at h
        exact h.below c2
      have kO : Blk X2 (X.heap.size + 1) [.map (some X.heap.size)] 93 := by
        have : Blk X2 X1.heap.size [.map (some X.heap.size)] 93 := by rw [hX2]; exact Blk.new X1 #[.map (some X.heap.size)] 93
        rwa [y1] at this
      have hmk2 := mk_of X
      have qm : X2.cell? ⟨w.heap.size, 0, none⟩ = some (.slice s may.length ca) := (hcm.below c02 hcm.lt).cell rfl
      rw [hX2, hX1] at qm
      have MF := Lib.hid (hfall.below c02); clear hfall
      have CM := Lib.hid (hcm.below c02 hcm.lt); clear hcm
      have CF := Lib.hid (hcf.below c02 hcf.lt); clear hcf
      have BX := Lib.hid (HBW.out.trans (c02.mono HBW.out.size)); clear HBW
      have MO := Lib.hid mO; clear mO
      have KO := Lib.hid kO; clear kO
      have Y2 := Lib.hid y2; clear y1 y2 c1 c2 c02
      have HX1 := Lib.hid hX1; clear hX1
      have HX2 := Lib.hid hX2; clear hX2
      have HZR := Lib.hid hzr; clear hzr cF
      have HXW := Lib.hid hX
      rw [hX] at hmk2 qm
      clear hX HFA HCH
      go_wp2
      rw [← HXW.out, ← HX1.out, ← HX2.out]
      clear hmk2 qm
      go_loopw [26] (fun v wi => ∃ (k : Nat) (f : Int → Option Value), k ≤ may.length ∧ v = .int .i64 k ∧ OfI X2 wi X.heap.size may k f ∧ Chg [X.heap.size] X2 wi) (fun v _ => may.length - (vInt v).toNat)
      case atStart => exact ⟨0, _, Nat.zero_le _, rfl, OfI.start may MO.out, Chg.refl _ _⟩
      case round =>
        obtain ⟨k, f, hk, rfl, hof, hch⟩ := hrel
        have hOlt : X.heap.size < X2.heap.size := by rw [Y2.out]; omega
        have bwr : Below w.heap.size w wr := BX.out.trans (hch.below BX.out.size (by have := HZR.out; simp; omega))
        have HOF := Lib.hid hof; clear hof
        have HCH := Lib.hid hch; clear hch
        have HOL := Lib.hid hOlt; clear hOlt
        have BWR := Lib.hid bwr; clear bwr
        have kO := KO.out.chg HCH.out (by simp)
        by_cases hkl : k < may.length
        · have hkl' : (k : Int) < may.length := by omega
          obtain ⟨g, o, rfl, -, -, -, hC, hg⟩ := HL.out.at (by omega)
          have cA := (Lst.cells hC hkl).below BWR.out hg
          have hwat := wAt_eq hkl
          obtain ⟨x, hx⟩ : ∃ x, x = may[k] := ⟨_, rfl⟩
          rw [← hx] at cA hwat
          clear hx hC
          obtain ⟨xw, xp, ⟨na, da, sa, ya⟩, ⟨nb, db, sb, yb⟩, ⟨nc, dc, sc, yc⟩, ⟨nd, dd, sd, yd⟩⟩ := x
          dsimp only at hwat
          have k0 : wr.cell? ⟨g, o + k * 10, none⟩ = some (.int .i64 xw) := cA 0 _ rfl
          have k1 : wr.cell? ⟨g, o + k * 10 + 1, none⟩ = some (.int .i64 xp) := cA 1 _ rfl
          have k2 : wr.cell? ⟨g, o + k * 10 + 2, none⟩ = some (.bool na) := cA 2 _ rfl
          have k3 : wr.cell? ⟨g, o + k * 10 + 3, none⟩ = some (.slice sa da.length ya) := cA 3 _ rfl
          have k4 : wr.cell? ⟨g, o + k * 10 + 4, none⟩ = some (.bool nb) := cA 4 _ rfl
          have k5 : wr.cell? ⟨g, o + k * 10 + 5, none⟩ = some (.slice sb db.length yb) := cA 5 _ rfl
          have k6 : wr.cell? ⟨g, o + k * 10 + 6, none⟩ = some (.bool nc) := cA 6 _ rfl
          have k7 : wr.cell? ⟨g, o + k * 10 + 7, none⟩ = some (.slice sc dc.length yc) := cA 7 _ rfl
          have k8 : wr.cell? ⟨g, o + k * 10 + 8, none⟩ = some (.bool nd) := cA 8 _ rfl
          have k9 : wr.cell? ⟨g, o + k * 10 + 9, none⟩ = some (.slice sd dd.length yd) := cA 9 _ rfl
          obtain ⟨W4, hW4⟩ : ∃ W4, W4 = wr.alloc (.cells #[.int .i64 xw, .int .i64 xp, .bool na, .slice sa da.length ya, .bool nb, .slice sb db.length yb, .bool nc, .slice sc dc.length yc, .bool nd, .slice sd dd.length yd] 58) := ⟨_, rfl⟩
          have b4 : Below wr.heap.size wr W4 := by rw [hW4]; exact alloc_below _ _
          have hX4 : Blk W4 wr.heap.size [.int .i64 xw, .int .i64 xp, .bool na, .slice sa da.length ya, .bool nb, .slice sb db.length yb, .bool nc, .slice sc dc.length yc, .bool nd, .slice sd dd.length yd] 58 := by rw [hW4]; exact Blk.new wr #[.int .i64 xw, .int .i64 xp, .bool na, .slice sa da.length ya, .bool nb, .slice sb db.length yb, .bool nc, .slice sc dc.length yc, .bool nd, .slice sd dd.length yd] 58
          have of4 := HOF.out.below b4
          have kO4 := kO.below b4 kO.lt
          have ch4 : Chg [X.heap.size] X2 W4 := HCH.out.trans (Chg.of_below b4)
          have hrow : wr.heap.size < W4.heap.size := hX4.lt
          have OF4 := Lib.hid of4; clear of4
          have KO4 := Lib.hid kO4; clear kO4 kO
          have HX4 := Lib.hid hX4; clear hX4
          have CH4 := Lib.hid ch4; clear ch4
          have HW4 := Lib.hid hW4; clear hW4 b4 cA
          have HWAT := Lib.hid hwat; clear hwat
          have hX2r : X2.heap.size ≤ wr.heap.size := HCH.out.size
          have HX2R := Lib.hid hX2r; clear hX2r hrow
          go_wp2
          rw [← HW4.out]
          clear k0 k1 k2 k3 k4 k5 k6 k7 k8 k9
          have eX : W4.drew.cell? ⟨wr.heap.size, 0, none⟩ = some (.int .i64 xw) ∧ W4.drew.cell? ⟨X.heap.size + 1, 0, none⟩ = some (.map (some X.heap.size)) ∧ MapV W4.drew X.heap.size f :=
            ⟨(HX4.out.drew).cell rfl, (KO4.out.drew).cell rfl, (OF4.out.below ((Below.refl W4.heap.size W4).drew)).map⟩
          haveI : Nonempty (SqC.Come fun U : World => U.cell? ⟨wr.heap.size, 0, none⟩ = some (.int .i64 xw) ∧ U.cell? ⟨X.heap.size + 1, 0, none⟩ = some (.map (some X.heap.size)) ∧ MapV U X.heap.size f) := ⟨⟨_, eX⟩⟩
          refine SqC.wp_region_sqc 11 [8, 9, 10] (fun U : World => U.cell? ⟨wr.heap.size, 0, none⟩ = some (.int .i64 xw) ∧ U.cell? ⟨X.heap.size + 1, 0, none⟩ = some (.map (some X.heap.size)) ∧ MapV U X.heap.size f) (by kernel_rfl) (by kernel_rfl) (by kernel_rfl) eX ?_
          have ofd := OF4.out.below ((Below.refl W4.heap.size W4).drew)
          have chd : Chg [X.heap.size] X2 W4.drew := CH4.out.drew
          have xd := HX4.out.drew
          have kd := KO4.out.drew
          obtain ⟨wd, hwd⟩ : ∃ wd : World, wd = W4.drew := ⟨_, rfl⟩
          rw [← hwd] at eX ofd chd xd kd ⊢
          clear hwd
          have EX := Lib.hid eX; clear eX
          have OFD := Lib.hid ofd; clear ofd
          have CHD := Lib.hid chd; clear chd
          have XD := Lib.hid xd; clear xd
          have KD := Lib.hid kd; clear kd
          refine SqC.value (.map (some X.heap.size)) rfl rfl (by intro U hU; have cx := hU.2.1; go_simp) ?_
          simp only [Act.put, List.setIfInBounds_toArray, List.set_cons_zero, List.set_cons_succ]
          refine SqC.quiet rfl rfl ?_; go_big_quiet_step (fail); refine wpQuiet_nil ?_
          refine SqC.value (.int .i64 xw) rfl rfl (by intro U hU; have cx := hU.1; go_simp) ?_
          simp only [Act.put, List.setIfInBounds_toArray, List.set_cons_zero, List.set_cons_succ]
          refine SqC.value (.map (some X.heap.size)) rfl rfl (by intro U hU; have cx := hU.2.1; go_simp) ?_
          simp only [Act.put, List.setIfInBounds_toArray, List.set_cons_zero, List.set_cons_succ]
          refine SqC.quiet rfl rfl ?_; go_big_quiet_step (fail); refine wpQuiet_nil ?_
          refine SqC.value (.int .i64 xw) rfl rfl (by intro U hU; have cx := hU.1; go_simp) ?_
          simp only [Act.put, List.setIfInBounds_toArray, List.set_cons_zero, List.set_cons_succ]
          obtain ⟨so, co, eso, hge⟩ := own_slice (OFD.out.row xw)
          rw [eso] at hge
          refine SqC.value (.slice so (idxN may xw k).length co) rfl rfl (by intro U hU; have cx := lookO hU.2.2 xw; rw [eso] at cx; go_simp) ?_
          simp only [Act.put, List.setIfInBounds_toArray, List.set_cons_zero, List.set_cons_succ]
          refine SqC.quiet rfl rfl ?_; go_big_quiet_step (fail); refine wpQuiet_nil ?_
          refine SqC.effectW rfl rfl ?_
          obtain ⟨w8, hw8⟩ : ∃ w8 : World, w8 = wd.alloc (.cells #[.int .i64 (k : Int)] 3) := ⟨_, rfl⟩
          have b8 : Below wd.heap.size wd w8 := by rw [hw8]; exact alloc_below _ _
          have k8 : Blk w8 wd.heap.size [.int .i64 (k : Int)] 3 := by rw [hw8]; exact Blk.new wd #[.int .i64 (k : Int)] 3
          have HW8 := Lib.hid hw8; clear hw8
          have ESO := Lib.hid eso; clear eso
          have HGE := Lib.hid hge; clear hge
          have B8 := Lib.hid b8; clear b8
          have K8 := Lib.hid k8; clear k8
          go_wp2
          rw [← HW8.out]
          have of8 := OFD.out.below B8.out
          have x8 := XD.out.below B8.out XD.out.lt
          have kk8 := KD.out.below B8.out KD.out.lt
          refine SqC.here rfl (fun _ => ⟨x8.cell rfl, kk8.cell rfl, of8.map⟩) ?_
          have hrow := of8.row xw
          rw [ESO.out] at hrow
          have hlenk := idxN_len may xw k
          have hnm6 := HNM.out
          refine SqC.effectW rfl rfl ?_
          refine wpList_append_where rfl _ _ 50 rfl X2.heap.size 3 (.int .i64 0) 1 8 hTint infoInt rfl (by decide) _ _ (nts (idxN may xw k)) rfl hrow ⟨wd.heap.size, 0, none⟩ 1 1 [.int .i64 (k : Int)] rfl rfl (by
              intro j u hj
              rw [Addr.add_lit, Nat.zero_add]; exact K8.out.cell hj) (by intro u hu; simp at hu; subst hu; rfl) (by simp only [maxLen]; omega) (by omega) (by have := CHD.out.size; have := B8.out.size; omega) ?_
          intro v' w9 h1 h2 h3
          have hne : ∀ b, (Value.slice so (idxN may xw k).length co).ownBlock = some b → X2.heap.size ≤ b ∧ b < wr.heap.size := fun b hb => ⟨HGE.out b hb, by
            have h := HOF.out.row xw
            rw [ESO.out] at h
            exact own_lt h hb⟩
          have x9 : w9.cell? ⟨wr.heap.size, 0, none⟩ = some (.int .i64 xw) := (x8.grown h2 (fun e => by have := (hne _ e.symm).2; omega)).cell rfl
          have kk9 := kk8.grown h2 (fun e => by have := (hne _ e.symm).1; have := Y2.out; omega)
          obtain ⟨mm, him, hmg⟩ := of8.map
          have HF9 := Lib.hid (show MapV w9 X.heap.size f from ⟨mm, him.grown h2 (fun e => by have := (hne _ e.symm).1; have := Y2.out; omega), hmg⟩)
          have him9 := him.grown h2 (fun e => by have := (hne _ e.symm).1; have := Y2.out; omega)
          have ch9 : Chg [X.heap.size] X2 w9 := (CHD.out.trans (Chg.of_below B8.out)).grown h2 (fun b hb => (hne b hb).1)
          have hstep := fun (w10 : World) (h4 : IMap w10 X.heap.size (mset mm xw v')) (h5 : Chg [X.heap.size] w9 w10) => of8.step (w1 := w9) (w2 := w10) (v' := v') HOL.out hmg (by rw [HWAT.out]; exact h1) (by rw [HWAT.out, ESO.out]; exact h2) (by rw [HWAT.out, ESO.out]; exact h3) (by rw [HWAT.out]; exact h4) h5
          have HSTEP := Lib.hid hstep; clear hstep
          have HIM9 := Lib.hid him9; clear him9 him hmg
          have CH9 := Lib.hid ch9; clear ch9 hne h1 h2 h3 hrow hlenk hnm6 of8 x8 kk8
          have X9 := Lib.hid x9; clear x9
          have KK9 := Lib.hid kk9; clear kk9
          go_wp2
          refine SqC.here rfl (fun _ => ⟨X9.out, KK9.out.cell rfl, HF9.out⟩) ?_
          refine SqC.effectW rfl rfl ?_
          refine wpList_mapUpdate_imap (k := xw) (v := v') HIM9.out rfl rfl rfl rfl rfl rfl hTof hKset ?_
          intro w10 hm10 hc10 hz10
          have hfin := HSTEP.out w10 hm10 hc10
          have hch10 : Chg [X.heap.size] X2 w10 := CH9.out.trans hc10
          have HFIN := Lib.hid hfin; clear hfin hm10
          have HCH10 := Lib.hid hch10; clear hch10 hc10 hz10
          clear HSTEP HIM9 CH9 X9 KK9 HF9
          go_wp2
          refine SqC.here rfl (by intro h; first | exact h.elim | exact absurd rfl h) (SqC.nil ?_)
          go_wp2
          go_roundw
          case rel => exact ⟨k + 1, _, by omega, by go_num, HFIN.out, HCH10.out⟩
          case measure => simp [vInt]; omega
        · have hkl' : ((k : Int) < may.length) = False := eq_false (by omega)
          have hkk : k = may.length := by omega
          have hofm : OfM wr X.heap.size may := (by rw [hkk] at HOF; exact HOF.out.of)
          have cmr : wr.cell? ⟨w.heap.size, 0, none⟩ = some (.slice s may.length ca) := (CM.out.chg HCH.out (by have := HZR.out; simp; omega)).cell rfl
          have cfr : wr.cell? ⟨w.heap.size + 1 + 1, 0, none⟩ = some (.map (some (w.heap.size + 1))) := (CF.out.chg HCH.out (by have := HZR.out; simp; omega)).cell rfl
          have cor : wr.cell? ⟨X.heap.size + 1, 0, none⟩ = some (.map (some X.heap.size)) := kO.cell rfl
          have mfr : FirmM wr (w.heap.size + 1) (hasB st) := MF.out.chg HCH.out (by have := HZR.out; simp; omega)
          have hS : BdS wr may st s ca (w.heap.size + 1 + 1) (X.heap.size + 1) w.heap.size (w.heap.size + 1) X.heap.size wr.heap.size (wr.heap.size + 1) (wr.heap.size + 1 + 1) :=
            ⟨HL.out.below BWR.out, cmr, cfr, mfr, cor, hofm, Nat.le_refl _, by omega, by omega, by omega, by omega, HOK.out, HNM.out⟩
          obtain ⟨V, hV⟩ : ∃ V, V = wr := ⟨_, rfl⟩
          have hmk3 := mk_known V
          have bwV : Below w.heap.size w V := by rw [hV]; exact BWR.out
          rw [← hV] at hS
          obtain ⟨U1, hU1⟩ : ∃ U1, U1 = V.alloc (.map #[] 0) := ⟨_, rfl⟩
          obtain ⟨U2, hU2⟩ : ∃ U2, U2 = U1.alloc (.cells #[.map (some V.heap.size)] 94) := ⟨_, rfl⟩
          obtain ⟨U3, hU3⟩ : ∃ U3, U3 = U2.alloc (.cells #[bdv (V.heap.size + 1) (w.heap.size + 1 + 1) (X.heap.size + 1) (V.heap.size + 1 + 1) w.heap.size] 66) := ⟨_, rfl⟩
          have y1 : U1.heap.size = V.heap.size + 1 := by rw [hU1, alloc_size]
          have y2 : U2.heap.size = V.heap.size + 1 + 1 := by rw [hU2, alloc_size, y1]
          have y3 : U3.heap.size = V.heap.size + 1 + 1 + 1 := by rw [hU3, alloc_size, y2]
          have e1 : Below V.heap.size V U1 := by rw [hU1]; exact alloc_below _ _
          have e2 : Below U1.heap.size U1 U2 := by rw [hU2]; exact alloc_below _ _
          have e3 : Below U2.heap.size U2 U3 := by rw [hU3]; exact alloc_below _ _
          have e13 : Below U1.heap.size U1 U3 := e2.trans (e3.mono e2.size)
          have eV : Below V.heap.size V U3 := e1.trans (e13.mono e1.size)
          have kn : KnM U3 V.heap.size may st := by
            have h : KnM U1 V.heap.size may st := ⟨_, by rw [hU1]; exact MapV.new V, fun k v hv => by cases hv⟩
            exact h.below e13
          have kk : U3.cell? ⟨V.heap.size + 1, 0, none⟩ = some (.map (some V.heap.size)) := by
            have : Blk U2 U1.heap.size [.map (some V.heap.size)] 94 := by rw [hU2]; exact Blk.new U1 #[.map (some V.heap.size)] 94
            rw [y1] at this
            exact (this.below e3 (by omega)).cell rfl
          have kb : U3.cell? ⟨V.heap.size + 1 + 1, 0, none⟩ = some (bdv (V.heap.size + 1) (w.heap.size + 1 + 1) (X.heap.size + 1) (V.heap.size + 1 + 1) w.heap.size) := by
            have : Blk U3 U2.heap.size [bdv (V.heap.size + 1) (w.heap.size + 1 + 1) (X.heap.size + 1) (V.heap.size + 1 + 1) w.heap.size] 66 := by rw [hU3]; exact Blk.new U2 #[bdv (V.heap.size + 1) (w.heap.size + 1 + 1) (X.heap.size + 1) (V.heap.size + 1 + 1) w.heap.size] 66
            rw [y2] at this
            exact this.cell rfl
          have hW : BdW V U3 may st (w.heap.size + 1 + 1) (X.heap.size + 1) w.heap.size V.heap.size (V.heap.size + 1) (V.heap.size + 1 + 1) := ⟨eV, kk, kb, kn⟩
          have hQ : BrQ may st s ca w (.returned (bdv (V.heap.size + 1) (w.heap.size + 1 + 1) (X.heap.size + 1) (V.heap.size + 1 + 1) w.heap.size)) U3 := ⟨V, _, _, _, _, _, _, _, _, rfl, hS, hW, bwV, by omega, bwV.trans (eV.mono bwV.size), rfl, rfl, rfl⟩
          rw [hU3, hU2, hU1] at kk hQ
          have HQ := Lib.hid hQ; clear hQ hS hW kn kb kk eV e13 e3 e2 e1 y1 y2 y3 bwV hofm cmr cfr cor mfr kO
          clear hU1 hU2 hU3
          rw [hV] at hmk3 HQ
          clear hV hkk
          go_wp2
          go_ret
          exact HQ.out
end Go.Proofs.Ytnkinjilnccmfaa

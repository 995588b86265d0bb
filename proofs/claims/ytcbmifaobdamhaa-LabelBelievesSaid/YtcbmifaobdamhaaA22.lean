/- label: the program's ranks. -/
import Derived.Test.YtcbmifaobdamhaaA21
import Derived.Deep.LoopGhost
namespace Go.Proofs.Ytcbmifaobdamhaa
open Go.RowKit Go.Own Go.Theory Go.BigFrame Go.Ib Go.Label Go.Shelf
set_option maxRecDepth 100000 in
set_option maxHeartbeats 4000000 in
theorem ranks_any (b : Lg) (s : Nat) (sa sr : Option Addr) (ca cr : Nat) (bs : List Value) (ok : Ok b) (hs : s < 65536) (w : World) (h : LgAt w b sa sr ca cr bs) :
    Calls Try.prog 53 #[lgV b sa sr ca cr, .int .i64 s] w fun e w' => ∃ A j, w.heap.size ≤ A ∧ e = .returned (.tuple #[.map (some A), .map (some (A + 1))]) ∧ (j < 66 ∧ Quiet b s j) ∧ MapF w' A (rIter b s j).1 ∧ MapF w' (A + 1) (rIter b s j).2 ∧ Below w.heap.size w w' := by
  unfold lgV
  have hbox := box_new w b sa sr ca cr 25
  obtain ⟨W1, hW1⟩ : ∃ W1, W1 = w.alloc (.cells #[.int .i64 b.facts, .slice sa b.assume.length ca, .slice sr b.rules.length cr] 25) := ⟨_, rfl⟩
  rw [← hW1] at hbox
  have hH := h.below hbox.b1
  have HBOX := Lib.hid hbox
  have z0 := hbox.z1
  have zs := hbox.sz
  obtain ⟨c0, c1, c2⟩ := hbox.cell W1 (Below.refl _ _)
  clear hbox h
  have HH := Lib.hid hH; clear hH
  have HOK := Lib.hid ok
  have r64 := ok.r64
  have a16 := ok.a16
  clear ok
  obtain ⟨A, hA⟩ : ∃ A, A = w.heap.size + 1 := ⟨_, rfl⟩
  obtain ⟨W2, hW2⟩ : ∃ W2, W2 = ((W1.alloc (.map #[] 0)).alloc (.map #[] 0)).alloc (.cells #[.map (some A)] 75) := ⟨_, rfl⟩
  have b2 : Below W1.heap.size W1 W2 := by rw [hW2]; exact ((alloc_below _ _).alloc (by simp) _).alloc (by simp; omega) _
  have hR2 : RkM 75 W2 A (rk0 b s 0) (fun _ => none) := by
    rw [hW2]
    refine ⟨?_, ?_, ?_⟩
    · have := ((MapF.new W1).below (alloc_below _ (.map #[] 0))).below (alloc_below _ (.cells #[.map (some A)] 75))
      rw [zs, ← hA] at this
      exact this
    · have := (MapF.new (W1.alloc (.map #[] 0))).below (alloc_below _ (.cells #[.map (some A)] 75))
      rw [World.size_alloc, zs, ← hA] at this
      exact this
    · exact Blk.new_at _ _ _ (by simp; omega)
  have HB2 := Lib.hid b2; clear b2
  have HR2 := Lib.hid hR2; clear hR2
  rw [hA] at hW2
  have HW1 := Lib.hid hW1; clear hW1
  have HW2 := Lib.hid hW2; clear hW2
  have HA := Lib.hid hA; clear hA
  obtain ⟨n, hn⟩ : ∃ n, n = b.assume.length := ⟨_, rfl⟩
  have HN := Lib.hid hn
  rw [← hn] at c1 a16 HW1 ⊢
  clear hn
  have hmk := mk_map
  go_enter Try.func53, Try.ntmps53
  go_wp2
  clear hmk
  rw [← HW1.out, ← HW2.out]
  rw [show w.heap.size + 1 + 1 + 1 = w.heap.size + 1 + 2 from rfl]
  simp only [← HA.out]
  clear c0 c1 c2
  go_loopw [26] (fun vi wq => ∃ k : Nat, k ≤ n ∧ vi = .int .i64 k ∧ RkM 75 wq A (rk0 b s k) (fun _ => none) ∧ Below W1.heap.size W1 wq) (fun vi _ => n - (vInt vi).toNat)
  case atStart => exact ⟨0, by omega, rfl, HR2.out, HB2.out⟩
  case round =>
    clear HR2 HB2 HW2
    obtain ⟨k, hk, rfl, hR, hbq⟩ := hrel
    have HR := Lib.hid hR
    have HBQ := Lib.hid hbq; clear hbq
    have zA : W1.heap.size ≤ A := by have := HA.out; omega
    by_cases h1 : k < n
    · have h1' : (k : Int) < n := by omega
      obtain ⟨g, o, rfl, _, _, hC, hlt⟩ := sl_at (HH.out.asm (by have := HN.out; omega)) (by have := HN.out; omega)
      obtain ⟨f, hf⟩ : ∃ f, b.assume.getD k 0 = f := ⟨_, rfl⟩
      have ck : wr.cell? ⟨g, o + k, none⟩ = some (.int .i64 f) := (hC.below HBQ.out hlt) k _ (by
        rw [← hf, getD_eq 0 (by have := HN.out; omega)]
        have := HN.out
        simp [show k < b.assume.length by omega])
      have hnext : rk0 b s (k + 1) = if s.testBit k then (fun x => if x = f then some 0 else rk0 b s k x) else rk0 b s k := by
        conv => lhs; unfold rk0
        rw [hf]
      have HX := Lib.hid hnext; clear hnext hf hC
      have hand := and1 (s := s) (k := k) (by omega)
      have cbx : wr.cell? ⟨A + 2, 0, none⟩ = some (.map (some A)) := hR.bx.cell rfl
      clear hR
      cases htb : s.testBit k with
      | true =>
        rw [htb, if_pos rfl] at hand
        obtain ⟨m, hm, hg⟩ := HR.out.a
        have hnx : rk0 b s (k + 1) = fun x => if x = f then some 0 else rk0 b s k x := by rw [HX.out, if_pos htb]
        have HNX := Lib.hid hnx; clear hnx htb
        have HM := Lib.hid hm; clear hm
        have HG := Lib.hid hg; clear hg
        go_wp2_with (refine wpList_mapUpdate_imap (k := f) (v := .int .i64 ((0 : Nat) : Int)) HM.out rfl rfl rfl rfl rfl rfl hTm hKi ?_)
        intro w3 hm3 hc3 hz3
        have hRn : RkM 75 w3 A (rk0 b s (k + 1)) (fun _ => none) := by
          rw [HNX.out]
          exact ⟨MapF.set HG.out hm3, HR.out.r.chg hc3 (by simp), HR.out.bx.chg hc3 (by simp)⟩
        have hbn : Below W1.heap.size W1 w3 := HBQ.out.trans (hc3.below HBQ.out.size (by simp; exact zA))
        have HRN := Lib.hid hRn; clear hRn hm3
        have HBN := Lib.hid hbn; clear hbn hc3
        go_wp2
        go_roundw
        case rel => exact ⟨k + 1, by omega, by go_num, HRN.out, HBN.out⟩
        case measure => simp [vInt]; omega
      | false =>
        rw [htb, if_neg Bool.false_ne_true] at hand
        have hnx : rk0 b s (k + 1) = rk0 b s k := by rw [HX.out, htb]; rfl
        have HNX := Lib.hid hnx; clear hnx htb
        go_wp2
        go_roundw
        case rel => exact ⟨k + 1, by omega, by go_num, by rw [HNX.out]; exact HR.out, HBQ.out⟩
        case measure => simp [vInt]; omega
    · have h1' : (n : Int) ≤ k := by omega
      obtain rfl : k = n := by omega
      have hR0 : RkM 75 wr A (rIter b s 0).1 (rIter b s 0).2 := by
        show RkM _ _ _ (rk0 b s b.assume.length) _
        rw [← HN.out]; exact hR
      have HR0 := Lib.hid hR0; clear hR0 HR hR
      go_wp2
      go_loopg [10] 66 (fun gg v10 wq => ∃ j : Nat, v10 = .int .i64 ((j : Int) + 1) ∧ j < 66 ∧ RkM 75 wq A (rIter b s j).1 (rIter b s j).2 ∧ Below W1.heap.size W1 wq ∧ 66 - known (rIter b s j).1 ≤ gg ∧ j ≤ known (rIter b s j).1)
      case atStart => exact ⟨0, rfl, by omega, HR0.out, HBQ.out, by omega, Nat.zero_le _⟩
      case round =>
        clear HR0 HBQ
        obtain ⟨j, rfl, hj, hR, hbq, hgas, hjk⟩ := hrel
        obtain ⟨rk, hrk⟩ : ∃ rk, rk = (rIter b s j).1 := ⟨_, rfl⟩
        obtain ⟨rs, hrs⟩ : ∃ rs, rs = (rIter b s j).2 := ⟨_, rfl⟩
        rw [← hrk] at hR hgas hjk
        rw [← hrs] at hR
        have HRK := Lib.hid hrk; clear hrk
        have HRS := Lib.hid hrs; clear hrs
        obtain ⟨c0, c1, c2⟩ := HBOX.out.cell wr hbq
        have zw : w.heap.size < wr.heap.size := Nat.lt_of_lt_of_le z0 hbq.size
        obtain ⟨Fb, hFb⟩ : ∃ Fb, Fb = wr.heap.size := ⟨_, rfl⟩
        have hAF : A + 2 < Fb := by rw [hFb]; exact hR.bx.lt
        obtain ⟨W3, hW3⟩ : ∃ W3, W3 = wr.alloc (.map #[] 0) := ⟨_, rfl⟩
        have b3 : Below W1.heap.size W1 W3 := by rw [hW3]; exact hbq.alloc hbq.size _
        have hR3 : RkM 75 W3 A rk rs := by rw [hW3]; exact hR.below (alloc_below _ _)
        have hF3 : MapF W3 Fb (fndN b rk 0) := by rw [hW3, hFb]; exact MapF.new wr
        have HB3 := Lib.hid b3; clear b3 hbq
        have HR3 := Lib.hid hR3; clear hR3 hR
        have HF3 := Lib.hid hF3; clear hF3
        have HW3 := Lib.hid hW3; clear hW3
        obtain ⟨nr, hnr⟩ : ∃ nr, nr = b.rules.length := ⟨_, rfl⟩
        have HNR := Lib.hid hnr
        rw [← hnr] at c2 r64
        clear hnr
        have hmk := mk_map
        have HGAS := Lib.hid hgas; clear hgas
        have HJK := Lib.hid hjk; clear hjk
        go_wp2
        clear hmk
        rw [← HW3.out]
        simp only [← hFb]
        have HFB := Lib.hid hFb; clear hFb c0 c1 c2 HW3
        go_loopw [45] (fun vi wq => ∃ i : Nat, i ≤ nr ∧ vi = .int .i64 i ∧ MapF wq Fb (fndN b rk i) ∧ RkM 75 wq A rk rs ∧ Below W1.heap.size W1 wq) (fun vi _ => nr - (vInt vi).toNat)
        case atStart => exact ⟨0, by omega, rfl, HF3.out, HR3.out, HB3.out⟩
        case round =>
          clear HF3 HR3 HB3
          obtain ⟨i, hi, rfl, hF, hR, hbq⟩ := hrel
          by_cases h1 : i < nr
          · have h1' : (i : Int) < nr := by omega
            have h1n : i < b.rules.length := by have := HNR.out; omega
            obtain ⟨g, o, sb, cb, rfl, hc, hbd⟩ := HH.out.rule h1n
            obtain ⟨k0, k1⟩ := hc wr hbq
            obtain ⟨hd, hhd⟩ : ∃ hd, hd = b.rules[i].head := ⟨_, rfl⟩
            obtain ⟨bl, hbe⟩ : ∃ bl, bl = b.rules[i].body := ⟨_, rfl⟩
            have hb16 := HOK.out.long _ (List.getElem_mem h1n)
            have hbdw := hbd.below hbq
            rw [← hhd] at k0
            rw [← hbe] at k1 hb16 hbdw
            have hnew : newR rk (fndN b rk i) (b.rules.getD i rl0) = ((rk hd).isNone && (fndN b rk i hd).isNone && bl.all fun f => (rk f).isSome) := by
              rw [getD_eq rl0 h1n]; unfold newR; rw [← hhd, ← hbe]
            have hhd2 : (b.rules.getD i rl0).head = hd := by rw [getD_eq rl0 h1n, hhd]
            have HNEW := Lib.hid hnew; clear hnew
            have HHD := Lib.hid hhd2; clear hhd2 hhd hbe hbd hc
            have cbx : wr.cell? ⟨A + 2, 0, none⟩ = some (.map (some A)) := hR.bx.cell rfl
            have zbx : A + 2 < wr.heap.size := hR.bx.lt
            have hao := alloc_below wr (.cells #[.int .i64 hd, .slice sb bl.length cb] 61)
            have hl1 := look_any (hR.a.below hao) hd
            have hl2 := look_any (hF.below hao) hd
            have hcl := clack_any rk bl A (A + 2) sb cb _ (hbdw.below hao) (by omega) (hR.bx.below hao hR.bx.lt) (hR.a.below hao)
            have HF := Lib.hid hF; clear hF
            have HR := Lib.hid hR; clear hR
            have HBQ := Lib.hid hbq; clear hbq hbdw
            have HCL := Lib.hid hcl; clear hcl
            have HAO := Lib.hid hao; clear hao
            cases hkn : rk hd with
            | some v =>
              rw [hkn] at hl1
              have e := fnd_same (b := b) (rk := rk) (i := i) (by rw [HNEW.out, hkn]; rfl)
              have EE := Lib.hid e; clear e hkn
              obtain ⟨q2, hq2⟩ : ∃ q, q = fndN b rk i hd := ⟨_, rfl⟩
              rw [← hq2] at hl2
              clear hq2
              go_wp2
              go_roundw
              case rel => exact ⟨i + 1, by omega, by go_num, by rw [EE.out]; exact HF.out.below HAO.out, HR.out.below HAO.out, HBQ.out.trans (HAO.out.mono HBQ.out.size)⟩
              case measure => simp [vInt]; omega
            | none =>
              rw [hkn] at hl1
              cases hfn : fndN b rk i hd with
              | some v =>
                rw [hfn] at hl2
                have e := fnd_same (b := b) (rk := rk) (i := i) (by rw [HNEW.out, hkn, hfn]; rfl)
                have EE := Lib.hid e; clear e hkn hfn
                go_wp2
                go_roundw
                case rel => exact ⟨i + 1, by omega, by go_num, by rw [EE.out]; exact HF.out.below HAO.out, HR.out.below HAO.out, HBQ.out.trans (HAO.out.mono HBQ.out.size)⟩
                case measure => simp [vInt]; omega
              | none =>
                rw [hfn] at hl2
                cases hany : bl.any fun x => (rk x).isNone with
                | true =>
                  have hall : (bl.all fun f => (rk f).isSome) = false := by
                    obtain ⟨x, hx, h⟩ := List.any_eq_true.1 hany
                    cases h2 : (bl.all fun f => (rk f).isSome) with
                    | false => rfl
                    | true =>
                      have h3 := List.all_eq_true.1 h2 x hx
                      cases h4 : rk x with
                      | none => rw [h4] at h3; cases h3
                      | some => rw [h4] at h; cases h
                  have e := fnd_same (b := b) (rk := rk) (i := i) (by rw [HNEW.out, hall, Bool.and_false])
                  have hcl := HCL.out
                  rw [hany] at hcl
                  have HCL2 := Lib.hid hcl; clear hcl
                  have EE := Lib.hid e; clear e hkn hfn hall hany
                  go_wp2_with (fail)
                  refine HCL2.out.mono ?_
                  rintro e w5 ⟨rfl, q, rfl⟩
                  have hb5 := below_drewN HAO.out q
                  have HB5 := Lib.hid hb5; clear hb5
                  go_wp2
                  go_roundw
                  case rel => exact ⟨i + 1, by omega, by go_num, by rw [EE.out]; exact HF.out.below HB5.out, HR.out.below HB5.out, HBQ.out.trans (HB5.out.mono HBQ.out.size)⟩
                  case measure => simp [vInt]; omega
                | false =>
                  have hall : (bl.all fun f => (rk f).isSome) = true := by
                    rw [List.all_eq_true]
                    intro x hx
                    have h := List.any_eq_false.1 hany x hx
                    cases h4 : rk x with
                    | none => rw [h4] at h; exact absurd rfl h
                    | some => rfl
                  have e := fnd_more (b := b) (rk := rk) (i := i) (by rw [HNEW.out, hall, hkn, hfn]; rfl)
                  rw [HHD.out] at e
                  have hcl := HCL.out
                  rw [hany] at hcl
                  have HCL2 := Lib.hid hcl; clear hcl
                  have EE := Lib.hid e; clear e hkn hfn hall hany
                  go_wp2_with (fail)
                  refine HCL2.out.mono ?_
                  rintro e w5 ⟨rfl, q, rfl⟩
                  have hb5 := below_drewN HAO.out q
                  have hF5 := HF.out.below hb5
                  have hR5 := HR.out.below hb5
                  have hB5 := HBQ.out.trans (hb5.mono HBQ.out.size)
                  obtain ⟨m, hm, hg⟩ := hF5
                  have HM := Lib.hid hm; clear hm
                  have HG := Lib.hid hg; clear hg
                  have HR5 := Lib.hid hR5; clear hR5
                  have HB5 := Lib.hid hB5; clear hB5 hb5
                  go_wp2_with (refine wpList_mapUpdate_imap (k := hd) (v := .int .i64 (i : Int)) HM.out rfl rfl rfl rfl rfl rfl hTm hKi ?_)
                  intro w6 hm6 hc6 _
                  have hFn : MapF w6 Fb (fndN b rk (i + 1)) := by rw [EE.out]; exact MapF.set HG.out hm6
                  have hRn := HR5.out.chg hc6 (by simp; omega) (by simp; omega) (by simp; omega)
                  have hBn : Below W1.heap.size W1 w6 := HB5.out.trans (hc6.below HB5.out.size (by simp; omega))
                  have HFN := Lib.hid hFn; clear hFn
                  have HRN := Lib.hid hRn; clear hRn
                  have HBN := Lib.hid hBn; clear hBn hm6 hc6
                  go_wp2
                  go_roundw
                  case rel => exact ⟨i + 1, by omega, by go_num, HFN.out, HRN.out, HBN.out⟩
                  case measure => simp [vInt]; omega
          · have h1' : (nr : Int) ≤ i := by omega
            obtain rfl : i = nr := by omega
            have hfe : fndN b rk i = fnd b rk := by unfold fnd; rw [← HNR.out]
            rw [hfe] at hF
            clear hfe
            obtain ⟨m, hm, hg⟩ := hF
            have hlen := run_len_imap (P := Try.prog) hTm hm
            cases m with
            | nil =>
              have hq : Quiet b s j := fun f => by
                have h := hg f
                rw [← HRK.out]
                cases h2 : fnd b rk f with
                | none => rfl
                | some v => rw [h2] at h; cases h
              have cbx : wr.cell? ⟨A + 2, 0, none⟩ = some (.map (some A)) := hR.bx.cell rfl
              have HQ := Lib.hid hq; clear hq hg hm
              have HR := Lib.hid hR; clear hR
              have HB := Lib.hid (HBOX.out.below hbq); clear hbq
              go_wp2
              refine bodyPost_ret (results_tmp2 rfl _ _ _) rfl ?_
              exact ⟨A, j, by omega, rfl, ⟨hj, HQ.out⟩, by rw [← HRK.out]; exact HR.out.a, by rw [← HRS.out]; exact HR.out.r, HB.out⟩
            | cons p m' =>
              have hne : fnd b rk p.1 ≠ none := fun h => by
                have h2 := hg p.1
                rw [h, mget_of_mem (v := p.2) hm.nodup (List.mem_cons_self)] at h2
                cases h2
              obtain ⟨m, hme⟩ : ∃ m, m = p :: m' := ⟨_, rfl⟩
              have hL : 0 < m.length := by rw [hme]; simp
              rw [← hme] at hm hg hlen
              clear hme
              obtain ⟨L, hLe⟩ : ∃ L, L = m.length := ⟨_, rfl⟩
              rw [← hLe] at hlen hL
              clear hLe
              have hL2 : ((L : Int) = 0) = False := eq_false (by omega)
              have hL3 : ((L : Int) == 0) = false := by rw [beq_eq_false_iff_ne]; omega
              have HNE := Lib.hid hne; clear hne
              have HG := Lib.hid hg; clear hg
              have HM := Lib.hid hm; clear hm
              have HR := Lib.hid hR; clear hR
              have HBQ := Lib.hid hbq; clear hbq
              go_wp2_with (refine wpList_range_imap rfl _ _ 3 3 rfl hTm rfl HM.out ?_)
              intro w6 hit b6 hz6
              obtain ⟨It, hIt⟩ : ∃ It, It = wr.heap.size := ⟨_, rfl⟩
              rw [← hIt] at hit hz6 ⊢
              have hkeys : ∀ f, (fnd b rk f).isSome = decide (f ∈ m.map (·.1)) := fun f => by
                rw [Bool.eq_iff_iff, decide_eq_true_eq, ← mget_mem, HG.out f, Option.isSome_map]
              have ha6 := HR.out.a.below b6
              have hr6 := HR.out.r.below b6
              have hb6 := HR.out.bx.below b6 HR.out.bx.lt
              have hq6 := HBQ.out.trans (b6.mono HBQ.out.size)
              have hAI : A + 2 < It := by rw [hIt]; exact HR.out.bx.lt
              have HIt := Lib.hid hIt; clear hIt
              have HIT := Lib.hid hit; clear hit
              have HA6 := Lib.hid ha6; clear ha6
              have HR6 := Lib.hid hr6; clear hr6
              have HB6 := Lib.hid hb6; clear hb6
              have HQ6 := Lib.hid hq6; clear hq6 b6
              have HKEYS := Lib.hid hkeys; clear hkeys
              go_wp2
              try go_frame
              go_loopw [90] (fun _ wq => ∃ left cnt, IIt wq Fb It m left cnt ∧ MapF wq A (fun f => if (fnd b rk f).isSome && !left f then some (j + 1) else rk f) ∧ MapF wq (A + 1) (fun f => match fnd b rk f with | some v => if left f then rs f else some v | none => rs f) ∧ Blk wq (A + 2) [.map (some A)] 75 ∧ Below W1.heap.size W1 wq) (fun _ wq => wq.rangeLeft Fb It)
              case atStart =>
                refine ⟨_, _, HIT.out, HA6.out.congr fun f => ?_, HR6.out.congr fun f => ?_, HB6.out, HQ6.out⟩
                · rw [HKEYS.out f]; simp
                · have h := HKEYS.out f
                  cases h2 : fnd b rk f with
                  | none => rfl
                  | some v =>
                    rw [h2] at h
                    simp only [Option.isSome_some] at h
                    simp only [← h, if_true]
              case round =>
                clear HIT HA6 HR6 HB6 HQ6
                obtain ⟨left, cnt, hit, hma, hmr, hbx, hbq⟩ := hrel
                have HIT := Lib.hid hit
                have HMA := Lib.hid hma; clear hma
                have HMR := Lib.hid hmr; clear hmr
                have HBX := Lib.hid hbx; clear hbx
                have HBQ := Lib.hid hbq; clear hbq hit
                go_wp2_with (at_next; refine wpList_next_imap rfl _ rfl rfl HIT.out ?_ ?_)
                · intro hc0 hl0
                  have ha2 : MapF wr A (rIter b s (j + 1)).1 := HMA.out.congr fun f => by
                    show _ = if (fnd b (rIter b s j).1 f).isSome then some (j + 1) else (rIter b s j).1 f
                    rw [← HRK.out, hl0 f, Bool.not_false, Bool.and_true]
                  have hr2 : MapF wr (A + 1) (rIter b s (j + 1)).2 := HMR.out.congr fun f => by
                    show _ = match fnd b (rIter b s j).1 f with | some i => some i | none => (rIter b s j).2 f
                    rw [← HRK.out, ← HRS.out]
                    cases fnd b rk f with
                    | none => rfl
                    | some v => rw [hl0 f]; rfl
                  have hkl : known rk < known (rIter b s (j + 1)).1 := by
                    have h := known_lt HOK.out (s := s) (j := j) (f := p.1) (by
                      rw [← HRK.out]
                      cases h : fnd b rk p.1 with
                      | none => exact absurd h HNE.out
                      | some v => rfl)
                    rwa [← HRK.out] at h
                  have hk65 := cntB_le (fun i => ((rIter b s (j + 1)).1 ((i : Int) - 1)).isSome) 65
                  have HK65 : Hid (known (rIter b s (j + 1)).1 ≤ 65) := Lib.hid hk65
                  clear hk65 hl0
                  have HA2 := Lib.hid ha2; clear ha2
                  have HR2 := Lib.hid hr2; clear hr2
                  have HKL := Lib.hid hkl; clear hkl
                  go_wp2
                  go_roundg (gk - 1)
                  case measure => have := HGAS.out; have := HKL.out; have := HK65.out; omega
                  case rel =>
                    refine ⟨j + 1, by go_num, ?_, ⟨HA2.out, HR2.out, HBX.out⟩, HBQ.out, ?_, ?_⟩
                    · have := HJK.out; have := HKL.out; have := HK65.out; omega
                    · have := HGAS.out; have := HKL.out; have := HK65.out; omega
                    · have := HJK.out; have := HKL.out; omega
                · intro k v w7 cnt2 hkv hlk hit7 hlt hc7 hz7 hen
                  have hgk := HG.out k
                  rw [mget_of_mem HM.out.nodup hkv] at hgk
                  obtain ⟨q, hq, hqv⟩ : ∃ q : Nat, fnd b rk k = some q ∧ v = .int .i64 q := by
                    cases h2 : fnd b rk k with
                    | none => rw [h2] at hgk; cases hgk
                    | some q => rw [h2] at hgk; injection hgk with hgk; exact ⟨q, rfl, hgk⟩
                  subst hqv
                  clear hgk hkv
                  have hnA : A ∉ [It] := by simp; omega
                  have hnR : A + 1 ∉ [It] := by simp; omega
                  have ha7 := HMA.out.chg hc7 hnA
                  have hr7 := HMR.out.chg hc7 hnR
                  have hb7 := HBX.out.chg hc7 (by simp; omega)
                  have hq7 : Below W1.heap.size W1 w7 := HBQ.out.trans (hc7.below HBQ.out.size (by simp; have := HBQ.out.size; omega))
                  have cbx : w7.cell? ⟨A + 2, 0, none⟩ = some (.map (some A)) := hb7.cell rfl
                  obtain ⟨ma, hma, hga⟩ := ha7
                  have HMA7 := Lib.hid hma; clear hma
                  have HGA7 := Lib.hid hga; clear hga
                  have HR7 := Lib.hid hr7; clear hr7
                  have HB7 := Lib.hid hb7; clear hb7
                  have HQ7 := Lib.hid hq7; clear hq7
                  have HI7 := Lib.hid hit7; clear hit7 hc7
                  have HFK := Lib.hid hq; clear hq
                  have HLT := Lib.hid hlt; clear hlt
                  have HLK := Lib.hid hlk; clear hlk
                  go_wp2_with (refine wpList_mapUpdate_imap (k := k) (v := .int .i64 ((j + 1 : Nat) : Int)) HMA7.out rfl rfl rfl rfl rfl rfl hTm hKi ?_)
                  intro w8 hm8 hc8 hz8
                  have ha8 := MapF.set HGA7.out hm8
                  obtain ⟨mr, hmr, hgr⟩ := HR7.out.chg hc8 (by simp)
                  have hb8 := HB7.out.chg hc8 (by simp)
                  have hq8 : Below W1.heap.size W1 w8 := HQ7.out.trans (hc8.below HQ7.out.size (by simp; omega))
                  have hi8 := HI7.out.chg hc8 (by simp; omega) (by simp; omega)
                  have HA8 := Lib.hid ha8; clear ha8 hm8 hc8
                  have HB8 := Lib.hid hb8; clear hb8
                  have HQ8 := Lib.hid hq8; clear hq8
                  have HI8 := Lib.hid hi8; clear hi8
                  have HMR8 := Lib.hid hmr; clear hmr
                  have HGR8 := Lib.hid hgr; clear hgr
                  go_wp2_with (refine wpList_mapUpdate_imap (k := k) (v := .int .i64 (q : Int)) HMR8.out rfl rfl rfl rfl rfl rfl hTm hKi ?_)
                  intro w9 hm9 hc9 hz9
                  have hr9 := MapF.set HGR8.out hm9
                  have ha9 := HA8.out.chg hc9 (by simp)
                  have hb9 := HB8.out.chg hc9 (by simp)
                  have hq9 : Below W1.heap.size W1 w9 := HQ8.out.trans (hc9.below HQ8.out.size (by simp; omega))
                  have hi9 := HI8.out.chg hc9 (by simp; omega) (by simp; omega)
                  have ha10 := ha9.congr (g := fun f => if (fnd b rk f).isSome && !(left f && f != k) then some (j + 1) else rk f) fun f => by
                    by_cases e : f = k
                    · subst e
                      rw [if_pos rfl, HFK.out]; simp
                    · have e2 : (f != k) = true := by simpa using e
                      rw [if_neg e, e2, Bool.and_true]
                  have hr10 := hr9.congr (g := fun f => match fnd b rk f with | some v => if (left f && f != k) then rs f else some v | none => rs f) fun f => by
                    by_cases e : f = k
                    · subst e
                      rw [if_pos rfl, HFK.out]; simp
                    · have e2 : (f != k) = true := by simpa using e
                      rw [if_neg e, e2, Bool.and_true]
                  have HA10 := Lib.hid ha10; clear ha10 ha9
                  have HR10 := Lib.hid hr10; clear hr10 hr9 hm9 hc9
                  have HB9 := Lib.hid hb9; clear hb9
                  have HQ9 := Lib.hid hq9; clear hq9
                  have HI9 := Lib.hid hi9; clear hi9
                  go_wp2
                  go_roundw
                  case rel => exact ⟨_, cnt2, HI9.out, HA10.out, HR10.out, HB9.out, HQ9.out⟩
                  case measure => rw [HI9.out.left_eq, HIT.out.left_eq]; exact HLT.out
end Go.Proofs.Ytcbmifaobdamhaa

/- theory: the law TheoryChecks. -/
import Derived.Test.YtnkglahiagigoaaF20
namespace Go.Proofs.Ytnkglahiagigoaa
open Go.RowKit Go.Own Go.Theory Go.BigFrame Go.Shelf
set_option maxRecDepth 100000 in
set_option maxHeartbeats 1600000 in
theorem law_checks (la lb : List Int) (how byv : Int) (a b : Option Addr) (ca cb : Nat) (hho : rg how) (hby : rg byv) (hra : ∀ z ∈ la, rg z) (hrb : ∀ z ∈ lb, rg z) (w : World) (hla : Sl w 1 (.slice a la.length ca) la.length (la.map (.int .i64))) (hma : la.length ≤ maxLen)
    (hlb : Sl w 1 (.slice b lb.length cb) lb.length (lb.map (.int .i64))) (hmb : lb.length ≤ maxLen) :
    Calls Try.prog 5 #[.slice a la.length ca, .int .i64 how, .int .i64 byv, .slice b lb.length cb] w fun e w' => e = .returned (.bool true) ∧ Below w.heap.size w w' := by
  go_enter Try.func5, Try.ntmps5
  go_wp2_with (fail)
  refine (base_two la a ca hra w hla hma).mono ?_
  rintro e w1 ⟨n, may, c, v, rfl, hv, hn8, hc10, hrow, hmk, hb1⟩
  obtain ⟨sc, cc, rfl, hP⟩ := hmk w1 (Sl.of_owns hrow.2)
  have hlb1 := hlb.below hb1
  have z1 := hb1.size
  clear hrow hmk hla hma hra hlb
  go_wp2_with (fail)
  refine (bent_two n may c how byv sc cc hv hn8 hc10 hho hby w1 hP.sl).mono ?_
  rintro e w2 ⟨m, o, d, sd, cd, rfl, _, hQ, hb2⟩
  have hP2 := hP.below hb2
  have hlb2 := hlb1.below hb2
  have hb := hb1.trans (hb2.mono z1)
  have z2 := hb.size
  clear hP hlb1 hb1 hb2 z1 hv hn8 hc10
  obtain ⟨T, k, ⟨hT, hTr⟩, _, hr⟩ := all_two n may c sc cc
  go_wp2_with (fail)
  refine (hr w2 hP2).mono ?_
  clear hr
  rintro e w3 ⟨v3, rfl, ⟨⟨s3, c3, rfl⟩, how3⟩, hb3⟩
  have hmb' : (lb.length : Int) ≤ 9223372036854775807 := by unfold maxLen at hmb; omega
  clear hmb
  go_wp2
  go_loopw [15, 17] (fun v vi wr => ∃ (i : Nat) (L : List Int), i ≤ lb.length ∧ i ≤ 12 ∧ vi = .int .i64 i ∧ L.length ≤ 65536 + 2 * i ∧ (∀ z ∈ L, rg z) ∧ wr.ownsRow w2.heap.size 23 1 v L.length (L.map (.int .i64)) ∧ Below w2.heap.size w2 wr) (fun _ vi _ => 12 - (vInt vi).toNat)
  case atStart => exact ⟨0, T, by omega, by omega, rfl, by omega, hTr, how3, hb3⟩
  case round =>
    obtain ⟨i, L, hi, hi12, rfl, hL, hLr, hown, hbr⟩ := hrel
    have zr := hbr.size
    by_cases h12 : i < lb.length ∧ i < 12
    · obtain ⟨h1, h2⟩ := h12
      obtain ⟨g, o', rfl, _, _, hC, _⟩ := sl_at (hlb2.below hbr) (by omega)
      obtain ⟨x, hx⟩ : ∃ x, x = lb[i] := ⟨_, rfl⟩
      have hxr : rg x := by rw [hx]; exact hrb _ (List.getElem_mem h1)
      have hcell : ∀ U, Below wr.heap.size wr U → U.cell? ⟨g, o' + i, none⟩ = some (.int .i64 x) := fun U hU => by
        obtain ⟨g2, o2, e, _, _, hC2, _⟩ := sl_at ((hlb2.below hbr).below hU) (by omega)
        injection e with e; injection e with e1 e2 _
        subst e1 e2
        exact hC2 i (.int .i64 x) (by simp [h1, hx])
      have HX := Lib.hid hx; clear hx
      have h1' : (i : Int) < lb.length := by omega
      have h2' : (i : Int) < 12 := by omega
      obtain ⟨y, hy⟩ : ∃ y, bits .and .i64 (may : Int) x = y := ⟨_, rfl⟩
      have hyr : rg y := by rw [← hy]; exact bits_rg _ _ _
      go_wp2
      refine wp_region_sqB 12 [4, 9, 11] (fun k v W => match k with
        | 4 => v = .int .i64 x
        | 9 => v = .int .i64 x
        | 11 => (∃ g', v = .slice (some ⟨g', 0, none⟩) 2 2) ∧ Sl W 1 v 2 [.int .i64 x, .int .i64 y]
        | _ => True) (by kernel_rfl) (by kernel_rfl) ?stable ?main
      case stable =>
        intro k v W W' h hb
        match k, h with
        | 0, h => exact h
        | 1, h => exact h
        | 2, h => exact h
        | 3, h => exact h
        | 4, h => exact h
        | 5, h => exact h
        | 6, h => exact h
        | 7, h => exact h
        | 8, h => exact h
        | 9, h => exact h
        | 10, h => exact h
        | 11, h => exact ⟨h.1, h.2.below hb⟩
        | _ + 12, _ => exact trivial
      simp only [List.take_succ_cons, List.take_zero, List.drop_succ_cons, List.drop_zero]
      iterate 4 (refine sqw_quiet rfl rfl (ExtB.refl _) ?_; go_big_quiet_step (fail); refine wpQuiet_nil ?_)
      refine sqw_postY rfl rfl rfl ?_ ?_
      · intro W1 hb hf
        have cx := hcell W1 (ExtB.undrew hb)
        refine yields_value (v := .int .i64 x) (w' := W1) ?_ ⟨rfl, ExtB.refl _⟩
        go_simp
      intro v Wj hv
      obtain rfl : v = .int .i64 x := hv
      simp only [Act.put, List.setIfInBounds_toArray, List.set_cons_zero, List.set_cons_succ]
      iterate 4 (refine sqw_quiet rfl rfl (ExtB.refl _) ?_; go_big_quiet_step (fail); refine wpQuiet_nil ?_)
      refine sqw_postY rfl rfl rfl ?_ ?_
      · intro W1 hb hf
        have cx := hcell W1 (ExtB.undrew hb)
        refine yields_value (v := .int .i64 x) (w' := W1) ?_ ⟨rfl, ExtB.refl _⟩
        go_simp
      intro v Wj hv
      obtain rfl : v = .int .i64 x := hv
      simp only [Act.put, List.setIfInBounds_toArray, List.set_cons_zero, List.set_cons_succ]
      refine sqw_quiet rfl rfl (ExtB.refl _) ?_; go_big_quiet_step (fail); refine wpQuiet_nil ?_
      refine sqw_postY rfl rfl rfl ?_ ?_
      · intro W1 hb hf
        refine yields_value (v := .slice (some ⟨W1.heap.size, 0, none⟩) 2 2) (w' := W1.alloc (.cells #[.int .i64 x, .int .i64 y] 23)) ?_ ⟨⟨⟨_, rfl⟩, sl_new W1 _ 23 2 rfl (by decide)⟩, alloc_below W1 _⟩
        go_simp
      intro v Wj hv
      obtain ⟨⟨g', rfl⟩, _⟩ := hv
      simp only [Act.put, List.setIfInBounds_toArray, List.set_cons_zero, List.set_cons_succ]
      intro w6 hb6 hfe
      have hS6 : Sl w6 1 (.slice (some ⟨g', 0, none⟩) 2 2) 2 [.int .i64 x, .int .i64 y] := (hfe 11 68 (by decide) rfl rfl (by intro o' e; injection e with e; subst e; rfl)).2
      clear hfe
      have bw6 : Below wr.heap.size wr w6 := ExtB.undrew hb6
      have how6 := own_below hown bw6
      have hbr6 := hbr.trans (bw6.mono zr)
      have z6 := hbr6.size
      clear hb6 bw6 hcell
      refine wpList_append_sl rfl _ _ 24 rfl w2.heap.size 23 (.int .i64 0) 1 8 hTset infoSet rfl (by decide) _ L.length _ rfl how6 _ 2 [.int .i64 x, .int .i64 y] rfl hS6 (by intro u hu; simp at hu; rcases hu with rfl | rfl <;> rfl) (by unfold maxLen; omega) (by omega) z6 ?_
      intro v' w' h8 h9
      have hb9 : Below w2.heap.size w2 w' := grown_below hbr6 how6 h9 (by omega)
      go_wp2
      go_roundw
      case rel =>
        refine ⟨i + 1, L ++ [x, y], by omega, by omega, by go_num, by simp; omega, ?_, ?_, hb9⟩
        · intro z hz
          rcases List.mem_append.1 hz with hz | hz
          · exact hLr z hz
          · simp at hz; rcases hz with rfl | rfl
            · exact hxr
            · exact hyr
        · rw [List.length_append, List.map_append]; exact h8
      case measure => simp [vInt]; omega
    · obtain ⟨w9, h9⟩ : ∃ w9, w9 = wr := ⟨_, rfl⟩
      subst h9
      obtain ⟨sl, cl, rfl, _⟩ := own_slice hown
      have hLs := Sl.of_owns hown
      have hlen : (lb.length : Int) ≤ i ∨ ((i : Int) < lb.length ∧ (12 : Int) ≤ i) := by omega
      have hb9 := hb.trans (hbr.mono z2)
      have hPr := hP2.below hbr
      have hQr := hQ.below hbr
      have hLl : L.length ≤ 70000 := by omega
      clear hown hP2 hQ hlb2 hb z2 hTr hT hb3 hi hi12 h12 hrb hho hby hL
      rcases hlen with h1' | ⟨h1', h2'⟩
      all_goals
        go_wp2
        go_loopw [9, 10, 11, 18] (fun vn vm vl vi wq => ∃ (j : Nat) (N M : Int) (l : List Int) (sa : Option Addr) (cap : Nat), j ≤ 2 ∧ vi = .int .i64 j ∧ vn = .int .i64 N ∧ vm = .int .i64 M ∧ vl = .slice sa l.length cap ∧ Prob w9 N M l sa cap ∧ Below w9.heap.size w9 wq) (fun _ _ _ vi _ => 2 - (vInt vi).toNat)
        case atStart => exact ⟨0, n, may, c, sc, cc, by omega, rfl, rfl, rfl, rfl, hPr, Below.refl _ _⟩
        case round =>
          obtain ⟨j, N, M, l, sa, cap, hj, rfl, rfl, rfl, rfl, hR, hbq⟩ := hrel
          have zq := hbq.size
          by_cases h3 : j < 2
          · have h3' : (j : Int) < 2 := by omega
            obtain ⟨w7, h7⟩ : ∃ w7, w7 = wr := ⟨_, rfl⟩
            subst h7
            go_wp2
            go_loopw [19] (fun vk ws => ∃ q : Nat, q ≤ L.length ∧ vk = .int .i64 q ∧ Below w9.heap.size w9 ws) (fun vk _ => L.length - (vInt vk).toNat)
            case atStart => exact ⟨0, by omega, rfl, hbq⟩
            case round =>
              obtain ⟨q, hq, rfl, hbs⟩ := hrel
              have zs := hbs.size
              have hRs := hR.below hbs
              have hLw := hLs.below hbs
              by_cases h4 : q < L.length
              · have h4' : (q : Int) < L.length := by omega
                obtain ⟨x, hx⟩ : ∃ x, x = L[q] := ⟨_, rfl⟩
                have hxr : rg x := by rw [hx]; exact hLr _ (List.getElem_mem h4)
                obtain ⟨T', k', hT', hp, hr⟩ := check_two N M l sa cap x hxr
                obtain ⟨gL, oL, rfl, _, _, hC, _⟩ := sl_at hLw (by omega)
                have hcell : ∀ U, Below wr.heap.size wr U → U.cell? ⟨gL, oL + q, none⟩ = some (.int .i64 x) := fun U hU => by
                  obtain ⟨g2, o2, e2, _, _, hC2, _⟩ := sl_at (hLw.below hU) (by omega)
                  injection e2 with e2; injection e2 with e21 e22 _
                  subst e21 e22
                  exact hC2 q (.int .i64 x) (by simp [h4, hx])
                have HX := Lib.hid hx; clear hx hC
                have cx := hcell wr (Below.refl _ _)
                go_wp2_with (fail)
                refine (hp wr hRs).mono ?_
                clear hp cx
                rintro e w3' ⟨v3, rfl, ⟨⟨s3', c3', rfl⟩, how3'⟩, hb3'⟩
                have hR3 := hRs.below hb3'
                have hT3 := Sl.of_owns how3'
                have cx := hcell w3' hb3'
                clear how3' hcell
                go_wp2_with (fail)
                refine (hr w3' hR3).mono ?_
                clear hr cx
                rintro e w4 ⟨v4, rfl, ⟨⟨s4, c4, rfl⟩, how4⟩, hb4⟩
                have hT4 := hT3.below hb4
                have hU4 := Sl.of_owns how4
                have hb34 := hb3'.trans (hb4.mono hb3'.size)
                clear how4 hT3 hR3 hb3' hb4
                go_wp2_with (fail)
                refine (sameInts_any T' T' _ _ _ _ w4 hT4 hU4 (.inl (by omega))).mono ?_
                rintro e w5 ⟨rfl, hb5⟩
                have hb35 := hb34.trans (hb5.mono hb34.size)
                rw [show (T' == T') = true from beq_self_eq_true T']
                clear hT4 hU4 hb34 hb5
                go_wp2
                go_roundw
                case rel => exact ⟨q + 1, by omega, by go_num, hbs.trans (hb35.mono zs)⟩
                case measure => simp [vInt]; omega
              · have h4' : (L.length : Int) ≤ q := by omega
                go_wp2
                go_roundw
                case rel => exact ⟨j + 1, m, o, d, sd, cd, by omega, by go_num, rfl, rfl, rfl, hQr, hbs⟩
                case measure => simp [vInt]; omega
          · have h3' : (2 : Int) ≤ j := by omega
            go_wp2_with (fail)
            refine (lives_any wr).mono ?_
            rintro e w6 ⟨rfl, hb6⟩
            go_wp2
            go_ret
            exact ⟨rfl, (hb9.trans (hbq.mono (by have := hb9.size; omega))).trans (hb6.mono (by have := hb9.size; omega))⟩
end Go.Proofs.Ytnkglahiagigoaa

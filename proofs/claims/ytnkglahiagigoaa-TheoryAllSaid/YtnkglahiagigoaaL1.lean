/- theory: the law TheoryAll. -/
import Derived.Test.YtnkglahiagigoaaF19
namespace Go.Proofs.Ytnkglahiagigoaa
open Go.RowKit Go.Own Go.Theory Go.BigFrame Go.Shelf
set_option maxRecDepth 100000 in
set_option maxHeartbeats 1600000 in
theorem law_all (la lb : List Int) (how byv : Int) (a b : Option Addr) (ca cb : Nat) (hho : rg how) (hby : rg byv) (hra : ∀ z ∈ la, rg z) (w : World) (hla : Sl w 1 (.slice a la.length ca) la.length (la.map (.int .i64))) (hma : la.length ≤ maxLen)
    (hlb : Sl w 1 (.slice b lb.length cb) lb.length (lb.map (.int .i64))) (hmb : lb.length ≤ maxLen) :
    Calls Try.prog 3 #[.slice a la.length ca, .int .i64 how, .int .i64 byv, .slice b lb.length cb] w fun e w' => e = .returned (.bool true) ∧ Below w.heap.size w w' := by
  go_enter Try.func3, Try.ntmps3
  go_wp2_with (fail)
  refine (base_two la a ca hra w hla hma).mono ?_
  rintro e w1 ⟨n, may, c, v, rfl, hv, hn8, hc10, hrow, hmk, hb1⟩
  obtain ⟨sc, cc, rfl, hP⟩ := hmk w1 (Sl.of_owns hrow.2)
  have hlb1 := hlb.below hb1
  have z1 := hb1.size
  clear hrow hmk hla hma hra hlb
  go_wp2_with (fail)
  refine (bent_two n may c how byv sc cc hv hn8 hc10 hho hby w1 hP.sl).mono ?_
  rintro e w2 ⟨m, o, d, sd, cd, rfl, hQ, hb2⟩
  have hP2 := hP.below hb2
  have hlb2 := hlb1.below hb2
  have hb := hb1.trans (hb2.mono z1)
  have z2 := hb.size
  clear hP hlb1 hb1 hb2 z1 hv hn8 hc10
  go_wp2
  go_loopw [9, 10, 11, 15] (fun vn vm vl vi wr => ∃ (i : Nat) (N M : Int) (l : List Int) (sa : Option Addr) (cap : Nat), i ≤ 2 ∧ vi = .int .i64 i ∧ vn = .int .i64 N ∧ vm = .int .i64 M ∧ vl = .slice sa l.length cap ∧ Prob wr N M l sa cap ∧ Below w2.heap.size w2 wr) (fun _ _ _ vi _ => 2 - (vInt vi).toNat)
  case atStart => exact ⟨0, n, may, c, sc, cc, by omega, rfl, rfl, rfl, rfl, hP2, Below.refl _ _⟩
  case round =>
    obtain ⟨i, N, M, l, sa, cap, hi, rfl, rfl, rfl, rfl, hR, hbr⟩ := hrel
    have zr := hbr.size
    by_cases h1 : i < 2
    · have h1' : (i : Int) < 2 := by omega
      obtain ⟨T, k, hT, hp, hr⟩ := all_two N M l sa cap
      go_wp2_with (fail)
      refine (hp wr hR).mono ?_
      clear hp
      rintro e w3 ⟨v3, rfl, ⟨⟨s3, c3, rfl⟩, how3⟩, hb3⟩
      have hR3 := hR.below hb3
      have hT3 := Sl.of_owns how3
      clear how3
      go_wp2_with (fail)
      refine (hr w3 hR3).mono ?_
      clear hr
      rintro e w4 ⟨v4, rfl, ⟨⟨s4, c4, rfl⟩, how4⟩, hb4⟩
      have hT4 := hT3.below hb4
      have hU4 := Sl.of_owns how4
      have hb34 := hb3.trans (hb4.mono hb3.size)
      clear how4 hT3 hR3 hb3 hb4
      go_wp2_with (fail)
      refine (same_any T T _ _ _ _ w4 hT4 hU4 (.inl (by omega))).mono ?_
      rintro e w5 ⟨rfl, hb5⟩
      have hT5 := hT4.below hb5
      have hU5 := hU4.below hb5
      have hb35 := hb34.trans (hb5.mono hb34.size)
      rw [show (T == T) = true from beq_self_eq_true T]
      clear hT4 hU4 hb34 hb5
      go_wp2_with (fail)
      refine (common_any T _ _ w5 hT5 (by omega)).mono ?_
      rintro e w6 ⟨rfl, rfl⟩
      go_wp2_with (fail)
      refine (rcommon_any T _ _ w6 hU5 (by omega)).mono ?_
      rintro e w7 ⟨rfl, rfl⟩
      go_wp2
      go_roundw
      case rel => exact ⟨i + 1, m, o, d, sd, cd, by omega, by go_num, rfl, rfl, rfl, hQ.below (hbr.trans (hb35.mono zr)), hbr.trans (hb35.mono zr)⟩
      case measure => simp [vInt]; omega
    · have h1' : (2 : Int) ≤ i := by omega
      have hlbr := hlb2.below hbr
      have hbB := hb.trans (hbr.mono hb.size)
      have zB := hbB.size
      have hmb' : (lb.length : Int) ≤ 9223372036854775807 := by unfold maxLen at hmb; omega
      have h1' : (2 : Int) ≤ i := by omega
      clear hR hQ hP2 hlb2 hbr hb z2 zr h1 hi
      obtain ⟨w9, h9⟩ : ∃ w9, w9 = wr := ⟨_, rfl⟩
      subst h9
      go_wp2
      go_loopw [20, 21] (fun v vi wq => ∃ (j : Nat) (L : List Int), j ≤ lb.length ∧ j ≤ 20 ∧ vi = .int .i64 j ∧ L.length = j ∧ wq.ownsRow w9.heap.size 23 1 v L.length (L.map (.int .i64)) ∧ Below w9.heap.size w9 wq) (fun _ vi _ => 20 - (vInt vi).toNat)
      case atStart => exact ⟨0, [], by omega, by omega, rfl, rfl, World.ownsRow_nil _ _ _ _, Below.refl _ _⟩
      case round =>
        obtain ⟨j, L, hj, hj20, rfl, hL, hown, hbq⟩ := hrel
        have HL := Lib.hid hL; clear hL
        have zq := hbq.size
        by_cases h2 : j < lb.length
        · by_cases h3 : j < 20
          · obtain ⟨g, o, rfl, _, _, hC, _⟩ := sl_at (hlbr.below hbq) (by omega)
            obtain ⟨x, hx⟩ : ∃ x, x = lb[j] := ⟨_, rfl⟩
            have cx : wr.cell? ⟨g, o + j, none⟩ = some (.int .i64 x) := hC j (.int .i64 x) (by simp [h2, hx])
            have HX := Lib.hid hx; clear hx
            have h2' : (j : Int) < lb.length := by omega
            have h3' : (j : Int) < 20 := by omega
            have HOW := hown.alloc (.cells #[.int .i64 x] 23)
            go_wp2_with (refine wpList_append_sl rfl _ _ 24 rfl w9.heap.size 23 (.int .i64 0) 1 8 hTset infoSet rfl (by decide) _ L.length _ rfl HOW _ 1 [.int .i64 x] rfl (sl_new _ _ _ 1 rfl (by decide)) (by intro u hu; simp at hu; rw [hu]; rfl) (by have := HL.out; unfold maxLen; omega) (by have := HL.out; omega) (by simp; omega) ?_)
            intro v' w' h8 h9
            have hb9 : Below w9.heap.size w9 w' := grown_below (hbq.trans ((alloc_below _ _).mono zq)) HOW h9 (by simp; omega)
            go_wp2
            go_roundw
            case rel =>
              refine ⟨j + 1, L ++ [x], by omega, by omega, by go_num, by have := HL.out; simp; omega, ?_, hb9⟩
              rw [List.length_append, List.map_append]; exact h8
            case measure => simp [vInt]; omega
          · have h3' : (20 : Int) ≤ j := by omega
            have h2' : (j : Int) < lb.length := by omega
            obtain ⟨sl, cl', rfl, _⟩ := own_slice hown
            have hLs := Sl.of_owns hown
            go_wp2_with (fail)
            refine (common_any L _ _ wr hLs (by have := HL.out; omega)).mono ?_
            rintro e w4 ⟨rfl, rfl⟩
            go_wp2_with (fail)
            refine (rcommon_any L _ _ w4 hLs (by have := HL.out; omega)).mono ?_
            rintro e w5 ⟨rfl, rfl⟩
            go_wp2_with (fail)
            refine (lives_any w5).mono ?_
            rintro e w6 ⟨rfl, hb6⟩
            go_wp2
            go_ret
            exact ⟨rfl, (hbB.trans (hbq.mono zB)).trans (hb6.mono (by omega))⟩
        · have h2' : (lb.length : Int) ≤ j := by omega
          have h3' : (j : Int) ≤ 20 := by omega
          obtain ⟨sl, cl', rfl, _⟩ := own_slice hown
          have hLs := Sl.of_owns hown
          go_wp2_with (fail)
          refine (common_any L _ _ wr hLs (by have := HL.out; omega)).mono ?_
          rintro e w4 ⟨rfl, rfl⟩
          go_wp2_with (fail)
          refine (rcommon_any L _ _ w4 hLs (by have := HL.out; omega)).mono ?_
          rintro e w5 ⟨rfl, rfl⟩
          go_wp2_with (fail)
          refine (lives_any w5).mono ?_
          rintro e w6 ⟨rfl, hb6⟩
          go_wp2
          go_ret
          exact ⟨rfl, (hbB.trans (hbq.mono zB)).trans (hb6.mono (by omega))⟩
end Go.Proofs.Ytnkglahiagigoaa

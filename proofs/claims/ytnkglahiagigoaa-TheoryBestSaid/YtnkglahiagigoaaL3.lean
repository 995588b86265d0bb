/- theory: the law TheoryBest. -/
import Derived.Test.YtnkglahiagigoaaF20
namespace Go.Own
open Go.RowKit
theorem own_upd {w : World} {base n : Nat} {e : TypeId} {g cap : Nat} {xs : List Value} (h : w.ownsRow base e 1 (.slice (some ⟨g, 0, none⟩) n cap) n xs) (i : Nat) (u : Value) :
    (w.setCell ⟨g, i, none⟩ u).ownsRow base e 1 (.slice (some ⟨g, 0, none⟩) n cap) n (xs.set i u) := by
  obtain ⟨h1, ⟨h2, _⟩ | ⟨g', cap', cur, h2, hb, hgg, hn, hm, hs, ht⟩⟩ := h
  · cases h2
  · injection h2 with e1 e2 e3
    injection e1 with e1
    injection e1 with e1 _ _
    subst e1 e3
    have hB : Blk w g cur.toList e := by unfold Blk; rw [hgg]
    have hB2 := hB.set i u
    refine ⟨by rw [List.length_set]; exact h1, .inr ⟨g, cap, (cur.toList.set i u).toArray, rfl, hb, hB2, hn, hm, by simpa using hs, ?_⟩⟩
    rw [List.toList_toArray, List.take_set, ht]
end Go.Own
namespace Go.Proofs.Ytnkglahiagigoaa
open Go.RowKit Go.Own Go.Theory Go.BigFrame Go.Shelf
theorem Row.below {base : Nat} {t : TypeId} {T : List Int} {v : Value} {w w' : World} (h : Row base t T v w) (hb : Below w.heap.size w w') : Row base t T v w' := ⟨h.1, own_below h.2 hb⟩
set_option maxRecDepth 100000 in
set_option maxHeartbeats 4000000 in
theorem law_best (la lb : List Int) (how byv pos : Int) (a b : Option Addr) (ca cb : Nat) (hho : rg how) (hby : rg byv) (hpo : rg pos) (hra : ∀ z ∈ la, rg z) (hrb : ∀ z ∈ lb, rg z) (w : World) (hla : Sl w 1 (.slice a la.length ca) la.length (la.map (.int .i64))) (hma : la.length ≤ maxLen)
    (hlb : Sl w 1 (.slice b lb.length cb) lb.length (lb.map (.int .i64))) (hmb : lb.length ≤ maxLen) :
    Calls Try.prog 4 #[.slice a la.length ca, .slice b lb.length cb, .int .i64 how, .int .i64 byv, .int .i64 pos] w fun e w' => e = .returned (.bool true) ∧ Below w.heap.size w w' := by
  go_enter Try.func4, Try.ntmps4
  go_wp2_with (fail)
  refine (base_two la a ca hra w hla hma).mono ?_
  rintro e w1 ⟨n, may, c, v, rfl, hv, hn8, hc10, hrow, hmk, hb1⟩
  obtain ⟨sc, cc, rfl, hP⟩ := hmk w1 (Sl.of_owns hrow.2)
  have hlb1 := hlb.below hb1
  have z1 := hb1.size
  clear hrow hmk hla hma hra hlb
  go_wp2_with (fail)
  refine (some_two lb n b cb (by omega) hrb w1 hlb1 hmb).mono ?_
  rintro e w2 ⟨wl, v2, rfl, hwl, hwts, ⟨⟨s2, c2, rfl⟩, how2⟩, hb2⟩
  have hP2 := hP.below hb2
  have hlb2 := hlb1.below hb2
  have hW2 := Sl.of_owns how2
  have hb12 := hb1.trans (hb2.mono z1)
  have z2 := hb12.size
  clear hP hlb1 hb1 hb2 z1 how2
  go_wp2_with (fail)
  refine (bent_two n may c how byv sc cc hv hn8 hc10 hho hby w2 hP2.sl).mono ?_
  rintro e w3 ⟨m, o, d, sd, cd, rfl, hm17, hQ, hb3⟩
  have hP3 := hP2.below hb3
  have hlb3 := hlb2.below hb3
  have hW3 := hW2.below hb3
  have hb := hb12.trans (hb3.mono z2)
  have z3 := hb.size
  clear hP2 hlb2 hb12 hb3 z2 hv hc10 hW2
  have hS : Sl (w3.alloc (.cells #[] 3)) 1 (.slice s2 wl.length c2) wl.length (wl.map (.int .i64)) := hW3.alloc _
  have hO := World.ownsRow_made (e := 3) (size := 1) w3 #[] 0 (Nat.le_refl _) (by decide) (by simp)
  go_wp2_with (refine wpList_append_sl rfl _ _ 22 rfl w3.heap.size 3 (.int .i64 0) 1 8 hTint infoInt rfl (by decide) _ 0 [] rfl hO _ wl.length (wl.map (.int .i64)) rfl hS (ints_one wl) (by rw [Nat.zero_add]; unfold maxLen; omega) (by omega) (by simp) ?_)
  intro v4 w4 h1 h2
  have b34 : Below w3.heap.size w3 w4 := grown_below (alloc_below w3 (.cells #[] 3)) hO h2 (by simp)
  clear hS hO h2
  have hlw : wl.length ≤ 1000000 := by omega
  have hn0 : n = 0 ∨ 0 < n := by omega
  rcases hn0 with h0 | h0
  focus
    have h0' : (n : Int) ≤ 0 := by omega
    have h0n : (0 < n) = False := by simp; omega
    have HN := Lib.hid h0; clear h0
    go_wp2
    obtain ⟨xs, hx17, hR5⟩ : ∃ xs : List Int, xs.length ≤ 17 ∧ Row w3.heap.size 3 xs v4 w4 := ⟨wl, hwl, Row.of h1⟩
    have b35 := b34
    clear b34 h1
    obtain ⟨v5, hv5⟩ : ∃ v5, v5 = v4 := ⟨_, rfl⟩
    subst hv5
    obtain ⟨w6, hw6⟩ : ∃ w6, w6 = w4 := ⟨_, rfl⟩
    subst hw6
    clear hwts hpo h0' HN h0n
  rotate_left
  focus
    obtain ⟨k, hk, hkn⟩ := around_rg pos (n := n) h0
    have ha := around_any pos n hpo (by omega) w4
    simp only [show around pos (n : Int) = (k : Int) from hk] at ha
    clear hk
    have hwn : k < wl.length := by have := (hwts (by omega)).1; omega
    have h0' : (0 : Int) < n := by omega
    obtain ⟨g, cap4, sp, rfl, hg1, hg2, hg3, hB⟩ := own_blk h1 (by omega)
    go_wp2_with (fail)
    refine ha.mono ?_
    clear ha
    rintro e w5 ⟨rfl, rfl⟩
    have gx : (wl.map (Value.int .i64) ++ sp)[k]? = some (.int .i64 wl[k]) := by
      rw [List.getElem?_append_left (by rw [List.length_map]; exact hwn)]
      simp [hwn]
    have cx : w5.cell? ⟨g, k, none⟩ = some (.int .i64 wl[k]) := hB.cell gx
    have fx : w5.frozen? ⟨g, k, none⟩ = false := hB.frozen k
    have hki : (k : Int) < wl.length := by omega
    have hU := own_upd h1 k (.int .i64 byv)
    go_wp2
    obtain ⟨xs, hx17, hR5⟩ : ∃ xs : List Int, xs.length ≤ 17 ∧ Row w3.heap.size 3 xs (.slice (some ⟨g, 0, none⟩) wl.length cap4) (w5.setCell ⟨g, k, none⟩ (.int .i64 byv)) := ⟨wl.set k byv, by simp; omega, ⟨⟨_, cap4, by rw [List.length_set]⟩, by rw [List.length_set, List.map_set]; exact hU⟩⟩
    have b35 : Below w3.heap.size w3 (w5.setCell ⟨g, k, none⟩ (.int .i64 byv)) := below_set b34 (Nat.le_refl _) hg1 k _
    clear gx b34 h1 hB cx fx hU hg1 hg2 hg3 hki hwn hwts hpo h0' h0 hkn
    generalize (w5.setCell ⟨g, k, none⟩ (.int .i64 byv)) = w6 at hR5 b35 ⊢
    generalize (Value.slice (some ⟨g, 0, none⟩) wl.length cap4) = v5 at hR5 ⊢
  all_goals
    go_loopw [11, 12, 13, 14, 19] (fun vn vm vl vw vi wr => ∃ (i : Nat) (N M : Int) (l : List Int) (sa : Option Addr) (cap : Nat) (W : List Int), i ≤ 4 ∧ vi = .int .i64 i ∧ vn = .int .i64 N ∧ vm = .int .i64 M ∧ vl = .slice sa l.length cap ∧ Prob w3 N M l sa cap ∧ W.length ≤ 20 + i ∧ (∃ sw cw, vw = .slice sw W.length cw) ∧ Sl wr 1 vw W.length (W.map (.int .i64)) ∧ (i = 0 → Row w3.heap.size 3 xs v5 wr) ∧ (i = 1 → wr.ownsRow w3.heap.size 3 1 vw W.length (W.map (.int .i64))) ∧ Below w3.heap.size w3 wr) (fun _ _ _ _ vi _ => 4 - (vInt vi).toNat)
    case atStart => exact ⟨0, n, may, c, sc, cc, wl, by omega, rfl, rfl, rfl, rfl, hP3, by omega, ⟨_, _, rfl⟩, hW3.below b35, fun _ => hR5, fun h => absurd h (by decide), b35⟩
    case round =>
      obtain ⟨i, N, M, l, sa, cap, W, hi, rfl, rfl, rfl, rfl, hPw, hWl, ⟨sw, cw, rfl⟩, hSW, hc0, hc1, hbr⟩ := hrel
      have zr := hbr.size
      by_cases h3 : i < 4
      · have h3' : (i : Int) < 4 := by omega
        obtain ⟨x, y, k1, hbp, hbq⟩ := best_two N M l W sa sw cap cw (by omega)
        obtain ⟨z, T, k2, hT, hop, hoq⟩ := bound_two N M l W sa sw cap cw (by omega) hPw.hv
        have hR := hPw.below hbr
        go_wp2_with (fail)
        refine (hbp wr hR hSW).mono ?_
        clear hbp
        rintro e w7 ⟨rfl, hb7⟩
        have hR7 := hR.below hb7
        have hS7 := hSW.below hb7
        go_wp2_with (fail)
        refine (hbq w7 hR7 hS7).mono ?_
        clear hbq
        rintro e w8 ⟨rfl, hb8⟩
        have hR8 := hR7.below hb8
        have hS8 := hS7.below hb8
        have k8 := hb7.trans (hb8.mono hb7.size)
        clear hR7 hS7 hb7 hb8
        go_wp2_with (fail)
        refine (hop w8 hR8 hS8).mono ?_
        clear hop
        rintro e w9 ⟨v9, rfl, ⟨⟨s9, c9, rfl⟩, how9⟩, hb9⟩
        have hR9 := hR8.below hb9
        have hS9 := hS8.below hb9
        have hT9 := Sl.of_owns how9
        have k9 := k8.trans (hb9.mono k8.size)
        clear hR8 hS8 hb9 k8 how9
        go_wp2_with (fail)
        refine (hoq w9 hR9 hS9).mono ?_
        clear hoq
        rintro e wA ⟨vA, rfl, ⟨⟨sA, cA, rfl⟩, howA⟩, hbA⟩
        have hTA := hT9.below hbA
        have hUA := Sl.of_owns howA
        have kA := k9.trans (hbA.mono k9.size)
        clear hR9 hS9 hbA k9 howA hT9
        go_wp2_with (fail)
        refine (sameInts_any T T _ _ _ _ wA hTA hUA (.inl (by omega))).mono ?_
        rintro e wB ⟨rfl, hbB⟩
        have kB := kA.trans (hbB.mono kA.size)
        have b3B : Below w3.heap.size w3 wB := hbr.trans (kB.mono zr)
        have zB := b3B.size
        rw [show (T == T) = true from beq_self_eq_true T]
        clear hTA hUA hbB kA hR
        have hi4 : i = 0 ∨ i = 1 ∨ i = 2 ∨ i = 3 := by omega
        clear h3 h3' hi
        rcases hi4 with rfl | rfl | rfl | rfl
        · obtain ⟨⟨s5, c5, rfl⟩, how5⟩ := (hc0 rfl).below kB
          go_wp2
          go_roundw
          case rel => exact ⟨1, N, M, l, sa, cap, xs, by omega, by first | rfl | go_num, rfl, rfl, rfl, hPw, by omega, ⟨_, _, rfl⟩, Sl.of_owns how5, fun h => absurd h (by decide), fun _ => how5, b3B⟩
          case measure => simp [vInt]
        · have how5 := own_below (hc1 rfl) kB
          have HOW := how5.alloc (.cells #[.int .i64 1] 3)
          go_wp2_with (refine wpList_append_sl rfl _ _ 22 rfl w3.heap.size 3 (.int .i64 0) 1 8 hTint infoInt rfl (by decide) _ W.length _ rfl HOW _ 1 [.int .i64 1] rfl (sl_new _ _ _ 1 rfl (by decide)) (by intro u hu; simp at hu; rw [hu]; rfl) (by unfold maxLen; omega) (by omega) (by simp; omega) ?_)
          intro v' w' q1 q2
          have hb9 : Below w3.heap.size w3 w' := grown_below (b3B.trans ((alloc_below _ _).mono zB)) HOW q2 (by simp; omega)
          obtain ⟨s', c', rfl, _⟩ := own_slice q1
          go_wp2
          go_roundw
          case rel => exact ⟨2, N, M, l, sa, cap, W ++ [1], by omega, by first | rfl | go_num, rfl, rfl, rfl, hPw, by simp; omega, ⟨s', c', by rw [List.length_append]; rfl⟩, by rw [List.length_append, List.map_append]; exact Sl.of_owns q1, fun h => absurd h (by decide), fun h => absurd h (by decide), hb9⟩
          case measure => simp [vInt]
        · go_wp2_with (fail)
          refine (some_two lb m b cb hm17.2 hrb wB (hlb3.below b3B) hmb).mono ?_
          rintro e wC ⟨WC, vC, rfl, hWC, _, ⟨⟨sC, cC, rfl⟩, howC⟩, hbC⟩
          go_wp2
          go_roundw
          case rel => exact ⟨3, m, o, d, sd, cd, WC, by omega, by first | rfl | go_num, rfl, rfl, rfl, hQ, by omega, ⟨_, _, rfl⟩, Sl.of_owns howC, fun h => absurd h (by decide), fun h => absurd h (by decide), b3B.trans (hbC.mono zB)⟩
          case measure => simp [vInt]
        · go_wp2
          go_roundw
          case rel => exact ⟨4, N, M, l, sa, cap, W, by omega, by first | rfl | go_num, rfl, rfl, rfl, hPw, by omega, ⟨_, _, rfl⟩, hSW.below kB, fun h => absurd h (by decide), fun h => absurd h (by decide), b3B⟩
          case measure => simp [vInt]
      · have h3' : (4 : Int) ≤ i := by omega
        go_wp2_with (fail)
        refine (lives_any wr).mono ?_
        rintro e w7 ⟨rfl, hb7⟩
        go_wp2
        go_ret
        exact ⟨rfl, (hb.trans (hbr.mono z3)).trans (hb7.mono (by omega))⟩
end Go.Proofs.Ytnkglahiagigoaa

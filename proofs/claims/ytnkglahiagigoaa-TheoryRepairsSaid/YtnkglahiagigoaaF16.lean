/- theory: the generators Base, Some, and bent. -/
import Derived.Test.YtnkglahiagigoaaF15
namespace Go.Theory
open Go.RowKit Go.Own Go.Ib
/-- conflicts below M -/
def good (M : Nat) (c : List Int) : Prop := ∀ z ∈ c, 1 ≤ z ∧ z < (M : Int)
theorem valid_of {n may : Nat} {c : List Int} (hn : n ≤ 16) (hm : may < 2 ^ n) (hl : c.length ≤ 1024) (hg : good (2 ^ n) c) : valid n may c := by
  unfold valid
  rw [show ((2 : Int) ^ (n : Int).toNat) = ((2 ^ n : Nat) : Int) by simp]
  exact ⟨by omega, by omega, hl, by omega, by omega, hg⟩
end Go.Theory
namespace Go.Proofs.Ytnkglahiagigoaa
open Go.RowKit Go.Own Go.Theory Go.BigFrame Go.Shelf
set_option maxRecDepth 100000 in
set_option maxHeartbeats 1600000 in
theorem base_any (l : List Int) (sa : Option Addr) (cap : Nat) (hr : ∀ z ∈ l, rg z) (w : World) (hl : Sl w 1 (.slice sa l.length cap) l.length (l.map (.int .i64))) (hm : l.length ≤ maxLen) :
    Calls Try.prog 11 #[.slice sa l.length cap] w fun e w' => ∃ (n may : Nat) (c : List Int) (v : Value), e = .returned (.tuple #[.int .i64 n, .int .i64 may, v]) ∧ valid n may c ∧ n ≤ 8 ∧ c.length ≤ 10 ∧ w'.ownsRow w.heap.size 23 1 v c.length (c.map (.int .i64)) ∧ Below w.heap.size w w' := by
  have hml : (l.length : Int) ≤ 9223372036854775807 := by unfold maxLen at hm; omega
  obtain ⟨n, hn, hn9⟩ := at3_rg l 0 (n := 9) (by omega)
  obtain ⟨a1, ha1, _⟩ := at3_rg l 1 (n := 3) (by omega)
  obtain ⟨a2, ha2, hb2⟩ := at3_rg l 1 (n := 1024) (by omega)
  obtain ⟨a3, ha3, hb3⟩ := at3_rg l 2 (n := 1024) (by omega)
  have c0 := fun W h => at_any l 0 9 sa cap (by unfold rg; omega) (by omega) hr W h hm
  have c1 := fun W h => at_any l 1 3 sa cap (by unfold rg; omega) (by omega) hr W h hm
  have c2 := fun W h => at_any l 1 1024 sa cap (by unfold rg; omega) (by omega) hr W h hm
  have c3 := fun W h => at_any l 2 1024 sa cap (by unfold rg; omega) (by omega) hr W h hm
  rw [show at3 l 0 9 = (n : Int) from hn] at c0
  rw [show at3 l 1 3 = (a1 : Int) from ha1] at c1
  rw [show at3 l 1 1024 = (a2 : Int) from ha2] at c2
  rw [show at3 l 2 1024 = (a3 : Int) from ha3] at c3
  clear hn ha1 ha2 ha3
  have hp := wrap_pow (n := n) (by omega)
  have hp2 : 2 ^ n ≤ 256 := Nat.pow_le_pow_right (n := 2) (by omega) (show n ≤ 8 by omega)
  have hp3 : 1 ≤ 2 ^ n := Nat.one_le_two_pow
  have hlt : ∀ j, j < n → 2 ^ j < 2 ^ n := fun j hj => Nat.pow_lt_pow_right (by decide) hj
  have hor : ∀ x y, x < 2 ^ n → y < 2 ^ n → x ||| y < 2 ^ n := fun x y hx hy => Nat.or_lt_two_pow hx hy
  have hval := fun (may : Nat) (c : List Int) => valid_of (n := n) (may := may) (c := c) (by omega)
  obtain ⟨M, hM⟩ : ∃ M, M = 2 ^ n := ⟨_, rfl⟩
  rw [← hM] at hp hp2 hp3
  simp only [← hM] at hlt hor hval
  clear hM
  have hM9 : M < 9223372036854775808 := by omega
  have HM9 := Lib.hid hM9; clear hM9
  have HV := Lib.hid hval; clear hval
  have HLT := Lib.hid hlt; clear hlt
  have HOR := Lib.hid hor; clear hor
  have key : ∃ may : Nat, may < M ∧ (if a1 = 0 then may = M - 1 else bits .and .i64 ((M : Int) - 1) (bits .or .i64 (a2 : Int) (a3 : Int)) = (may : Int)) := by
    by_cases h : a1 = 0
    · exact ⟨M - 1, by omega, by rw [if_pos h]⟩
    · have ho : a2 ||| a3 < 1024 := Nat.or_lt_two_pow (n := 10) hb2 hb3
      refine ⟨(M - 1) &&& (a2 ||| a3), Nat.lt_of_le_of_lt Nat.and_le_left (by omega), ?_⟩
      rw [if_neg h, Go.Ib.b_or a2 a3 (by omega) (by omega), show (M : Int) - 1 = ((M - 1 : Nat) : Int) by omega]
      exact Go.Ib.b_and _ _ (by omega) (by omega)
  obtain ⟨may, hmay, hmk⟩ := key
  have HMK := Lib.hid hmk; clear hmk
  go_enter Try.func11, Try.ntmps11
  go_wp2_with (fail)
  refine (c0 w hl).mono ?_
  clear c0
  rintro e w2 ⟨rfl, rfl⟩
  go_wp2_with (fail)
  refine (c1 w2 hl).mono ?_
  clear c1
  rintro e w3 ⟨rfl, rfl⟩
  by_cases h1 : a1 = 0
  · have hmk : (M : Int) - 1 = (may : Int) := by have := HMK.out; rw [if_pos h1] at this; omega
    subst h1
    go_wp2
    go_loopw [8, 9] (fun v c wr => ∃ (i : Nat) (L : List Int), i ≤ 10 ∧ c = .int .i64 i ∧ L.length ≤ i ∧ good M L ∧ wr.ownsRow w3.heap.size 23 1 v L.length (L.map (.int .i64)) ∧ Below w3.heap.size w3 wr) (fun _ c _ => 10 - (vInt c).toNat)
    case atStart => exact ⟨0, [], by omega, rfl, by simp, fun z h => absurd h (by simp), World.ownsRow_nil _ _ _ _, Below.refl _ _⟩
    case round =>
      obtain ⟨i, L, hi, rfl, hLl, hLg, how, hbr⟩ := hrel
      by_cases h1 : 3 * (i : Int) + 3 < l.length
      · by_cases h2 : i < 10
        · have h2' : (i : Int) < 10 := by omega
          by_cases h3 : n = 0
          · have h3' : (n : Int) ≤ 0 := by omega
            clear h3
            go_wp2
            go_ret3
            exact ⟨n, may, L, _, rfl, HV.out may L hmay (Nat.le_trans hLl (Nat.le_trans hi (by decide))) hLg, Nat.le_of_lt_succ hn9, Nat.le_trans hLl hi, how, hbr⟩
          · have h3' : 0 < (n : Int) := by omega
            have hlr := hl.below hbr
            obtain ⟨x1, hx1, hy1⟩ := at3_rg l (3 * (i : Int) + 3) (n := n) (by omega)
            obtain ⟨x2, hx2, hy2⟩ := at3_rg l (3 * (i : Int) + 4) (n := n) (by omega)
            obtain ⟨x3, hx3, hy3⟩ := at3_rg l (3 * (i : Int) + 5) (n := 2) (by omega)
            obtain ⟨x4, hx4, hy4⟩ := at3_rg l (3 * (i : Int) + 5) (n := n) (by omega)
            have d1 := at_any l (3 * (i : Int) + 3) n sa cap (by unfold rg; omega) (by omega) hr wr hlr hm
            have d2 := at_any l (3 * (i : Int) + 4) n sa cap (by unfold rg; omega) (by omega) hr wr hlr hm
            have d3 := at_any l (3 * (i : Int) + 5) 2 sa cap (by unfold rg; omega) (by omega) hr wr hlr hm
            have d4 := at_any l (3 * (i : Int) + 5) n sa cap (by unfold rg; omega) (by omega) hr wr hlr hm
            rw [hx1] at d1
            rw [hx2] at d2
            rw [show at3 l (3 * (i : Int) + 5) 2 = (x3 : Int) from hx3] at d3
            rw [hx4] at d4
            clear hx1 hx2 hx3 hx4
            have q1 := wrap_pow (n := x1) (by omega)
            have q2 := wrap_pow (n := x2) (by omega)
            have q4 := wrap_pow (n := x4) (by omega)
            have e1 := HLT.out x1 hy1
            have e2 := HLT.out x2 hy2
            have e4 := HLT.out x4 hy4
            have g1 : 1 ≤ 2 ^ x1 := Nat.one_le_two_pow
            obtain ⟨y1, hz1⟩ : ∃ y, y = 2 ^ x1 := ⟨_, rfl⟩
            obtain ⟨y2, hz2⟩ : ∃ y, y = 2 ^ x2 := ⟨_, rfl⟩
            obtain ⟨y4, hz4⟩ : ∃ y, y = 2 ^ x4 := ⟨_, rfl⟩
            rw [← hz1] at q1 e1 g1
            rw [← hz2] at q2 e2
            rw [← hz4] at q4 e4
            clear hz1 hz2 hz4
            have f1 : bits .or .i64 (y1 : Int) (y2 : Int) = ((y1 ||| y2 : Nat) : Int) := Go.Ib.b_or y1 y2 (Nat.lt_trans e1 HM9.out) (Nat.lt_trans e2 HM9.out)
            have r1 := HOR.out y1 y2 e1 e2
            have g2 : y1 ≤ y1 ||| y2 := Nat.left_le_or
            obtain ⟨s1, hs1⟩ : ∃ s, s = y1 ||| y2 := ⟨_, rfl⟩
            rw [← hs1] at f1 r1 g2
            clear hs1
            have f2 : bits .or .i64 (s1 : Int) (y4 : Int) = ((s1 ||| y4 : Nat) : Int) := Go.Ib.b_or s1 y4 (Nat.lt_trans r1 HM9.out) (Nat.lt_trans e4 HM9.out)
            have r2 := HOR.out s1 y4 r1 e4
            have g3 : s1 ≤ s1 ||| y4 := Nat.left_le_or
            obtain ⟨s2, hs2⟩ : ∃ s, s = s1 ||| y4 := ⟨_, rfl⟩
            rw [← hs2] at f2 r2 g3
            clear hs2
            have hbsz := hbr.size
            have grow : ∀ s : Nat, 1 ≤ s → s < M → good M (L ++ [(s : Int)]) := fun s hs1 hs2 z hz => by
              rcases List.mem_append.1 hz with hz | hz
              · exact hLg z hz
              · simp at hz; subst hz; omega
            have GG := Lib.hid grow; clear grow
            go_wp2_with (fail)
            refine d1.mono ?_
            clear d1
            rintro e w4 ⟨rfl, rfl⟩
            go_wp2_with (fail)
            refine d2.mono ?_
            clear d2
            rintro e w5 ⟨rfl, rfl⟩
            go_wp2_with (fail)
            refine d3.mono ?_
            clear d3
            rintro e w6 ⟨rfl, rfl⟩
            by_cases h4 : x3 = 0
            · subst h4
              go_wp2_with (fail)
              refine d4.mono ?_
              clear d4
              rintro e w7 ⟨rfl, rfl⟩
              have HOW := how.alloc (.cells #[.int .i64 s2] 23)
              go_wp2_with (refine wpList_append_sl rfl _ _ 24 rfl w3.heap.size 23 (.int .i64 0) 1 8 hTset infoSet rfl (by decide) _ L.length _ rfl HOW _ 1 [.int .i64 s2] rfl (sl_new _ _ _ 1 rfl (by decide)) (by intro u hu; simp at hu; rw [hu]; rfl) (by unfold maxLen; omega) (by omega) (by simp; omega) ?_)
              intro v' w' h8 h9
              have hb9 : Below w3.heap.size w3 w' := grown_below (hbr.trans ((alloc_below _ _).mono hbsz)) HOW h9 (by simp; omega)
              go_wp2
              go_roundw
              case rel =>
                refine ⟨i + 1, L ++ [(s2 : Int)], by omega, by go_num, by rw [List.length_append]; exact Nat.succ_le_succ hLl, GG.out s2 (Nat.le_trans g1 (Nat.le_trans g2 g3)) r2, ?_, hb9⟩
                rw [List.length_append, List.map_append]; exact h8
              case measure => simp [vInt]; omega
            · have h4' : ((x3 : Int) == 0) = false := beq_eq_false_iff_ne.2 (by omega)
              have HOW := how.alloc (.cells #[.int .i64 s1] 23)
              go_wp2_with (refine wpList_append_sl rfl _ _ 24 rfl w3.heap.size 23 (.int .i64 0) 1 8 hTset infoSet rfl (by decide) _ L.length _ rfl HOW _ 1 [.int .i64 s1] rfl (sl_new _ _ _ 1 rfl (by decide)) (by intro u hu; simp at hu; rw [hu]; rfl) (by unfold maxLen; omega) (by omega) (by simp; omega) ?_)
              intro v' w' h8 h9
              have hb9 : Below w3.heap.size w3 w' := grown_below (hbr.trans ((alloc_below _ _).mono hbsz)) HOW h9 (by simp; omega)
              go_wp2
              go_roundw
              case rel =>
                refine ⟨i + 1, L ++ [(s1 : Int)], by omega, by go_num, by rw [List.length_append]; exact Nat.succ_le_succ hLl, GG.out s1 (Nat.le_trans g1 g2) r1, ?_, hb9⟩
                rw [List.length_append, List.map_append]; exact h8
              case measure => simp [vInt]; omega
        · have h2' : (10 : Int) ≤ i := by omega
          go_wp2
          go_ret3
          exact ⟨n, may, L, _, rfl, HV.out may L hmay (Nat.le_trans hLl (Nat.le_trans hi (by decide))) hLg, Nat.le_of_lt_succ hn9, Nat.le_trans hLl hi, how, hbr⟩
      · have h1' : (l.length : Int) ≤ 3 * (i : Int) + 3 := by omega
        clear h1
        go_wp2
        go_ret3
        exact ⟨n, may, L, _, rfl, HV.out may L hmay (Nat.le_trans hLl (Nat.le_trans hi (by decide))) hLg, Nat.le_of_lt_succ hn9, Nat.le_trans hLl hi, how, hbr⟩
  · have hmk : bits .and .i64 ((M : Int) - 1) (bits .or .i64 (a2 : Int) (a3 : Int)) = (may : Int) := by have := HMK.out; rw [if_neg h1] at this; exact this
    have h1' : 0 < (a1 : Int) := by omega
    have h1n : 0 < a1 := by omega
    go_wp2_with (fail)
    refine (c2 w3 hl).mono ?_
    clear c2
    rintro e w4 ⟨rfl, rfl⟩
    go_wp2_with (fail)
    refine (c3 w4 hl).mono ?_
    clear c3
    rintro e w3 ⟨rfl, rfl⟩
    clear h1
    go_wp2
    go_loopw [8, 9] (fun v c wr => ∃ (i : Nat) (L : List Int), i ≤ 10 ∧ c = .int .i64 i ∧ L.length ≤ i ∧ good M L ∧ wr.ownsRow w3.heap.size 23 1 v L.length (L.map (.int .i64)) ∧ Below w3.heap.size w3 wr) (fun _ c _ => 10 - (vInt c).toNat)
    case atStart => exact ⟨0, [], by omega, rfl, by simp, fun z h => absurd h (by simp), World.ownsRow_nil _ _ _ _, Below.refl _ _⟩
    case round =>
      obtain ⟨i, L, hi, rfl, hLl, hLg, how, hbr⟩ := hrel
      by_cases h1 : 3 * (i : Int) + 3 < l.length
      · by_cases h2 : i < 10
        · have h2' : (i : Int) < 10 := by omega
          by_cases h3 : n = 0
          · have h3' : (n : Int) ≤ 0 := by omega
            clear h3
            go_wp2
            go_ret3
            exact ⟨n, may, L, _, rfl, HV.out may L hmay (Nat.le_trans hLl (Nat.le_trans hi (by decide))) hLg, Nat.le_of_lt_succ hn9, Nat.le_trans hLl hi, how, hbr⟩
          · have h3' : 0 < (n : Int) := by omega
            have hlr := hl.below hbr
            obtain ⟨x1, hx1, hy1⟩ := at3_rg l (3 * (i : Int) + 3) (n := n) (by omega)
            obtain ⟨x2, hx2, hy2⟩ := at3_rg l (3 * (i : Int) + 4) (n := n) (by omega)
            obtain ⟨x3, hx3, hy3⟩ := at3_rg l (3 * (i : Int) + 5) (n := 2) (by omega)
            obtain ⟨x4, hx4, hy4⟩ := at3_rg l (3 * (i : Int) + 5) (n := n) (by omega)
            have d1 := at_any l (3 * (i : Int) + 3) n sa cap (by unfold rg; omega) (by omega) hr wr hlr hm
            have d2 := at_any l (3 * (i : Int) + 4) n sa cap (by unfold rg; omega) (by omega) hr wr hlr hm
            have d3 := at_any l (3 * (i : Int) + 5) 2 sa cap (by unfold rg; omega) (by omega) hr wr hlr hm
            have d4 := at_any l (3 * (i : Int) + 5) n sa cap (by unfold rg; omega) (by omega) hr wr hlr hm
            rw [hx1] at d1
            rw [hx2] at d2
            rw [show at3 l (3 * (i : Int) + 5) 2 = (x3 : Int) from hx3] at d3
            rw [hx4] at d4
            clear hx1 hx2 hx3 hx4
            have q1 := wrap_pow (n := x1) (by omega)
            have q2 := wrap_pow (n := x2) (by omega)
            have q4 := wrap_pow (n := x4) (by omega)
            have e1 := HLT.out x1 hy1
            have e2 := HLT.out x2 hy2
            have e4 := HLT.out x4 hy4
            have g1 : 1 ≤ 2 ^ x1 := Nat.one_le_two_pow
            obtain ⟨y1, hz1⟩ : ∃ y, y = 2 ^ x1 := ⟨_, rfl⟩
            obtain ⟨y2, hz2⟩ : ∃ y, y = 2 ^ x2 := ⟨_, rfl⟩
            obtain ⟨y4, hz4⟩ : ∃ y, y = 2 ^ x4 := ⟨_, rfl⟩
            rw [← hz1] at q1 e1 g1
            rw [← hz2] at q2 e2
            rw [← hz4] at q4 e4
            clear hz1 hz2 hz4
            have f1 : bits .or .i64 (y1 : Int) (y2 : Int) = ((y1 ||| y2 : Nat) : Int) := Go.Ib.b_or y1 y2 (Nat.lt_trans e1 HM9.out) (Nat.lt_trans e2 HM9.out)
            have r1 := HOR.out y1 y2 e1 e2
            have g2 : y1 ≤ y1 ||| y2 := Nat.left_le_or
            obtain ⟨s1, hs1⟩ : ∃ s, s = y1 ||| y2 := ⟨_, rfl⟩
            rw [← hs1] at f1 r1 g2
            clear hs1
            have f2 : bits .or .i64 (s1 : Int) (y4 : Int) = ((s1 ||| y4 : Nat) : Int) := Go.Ib.b_or s1 y4 (Nat.lt_trans r1 HM9.out) (Nat.lt_trans e4 HM9.out)
            have r2 := HOR.out s1 y4 r1 e4
            have g3 : s1 ≤ s1 ||| y4 := Nat.left_le_or
            obtain ⟨s2, hs2⟩ : ∃ s, s = s1 ||| y4 := ⟨_, rfl⟩
            rw [← hs2] at f2 r2 g3
            clear hs2
            have hbsz := hbr.size
            have grow : ∀ s : Nat, 1 ≤ s → s < M → good M (L ++ [(s : Int)]) := fun s hs1 hs2 z hz => by
              rcases List.mem_append.1 hz with hz | hz
              · exact hLg z hz
              · simp at hz; subst hz; omega
            have GG := Lib.hid grow; clear grow
            go_wp2_with (fail)
            refine d1.mono ?_
            clear d1
            rintro e w4 ⟨rfl, rfl⟩
            go_wp2_with (fail)
            refine d2.mono ?_
            clear d2
            rintro e w5 ⟨rfl, rfl⟩
            go_wp2_with (fail)
            refine d3.mono ?_
            clear d3
            rintro e w6 ⟨rfl, rfl⟩
            by_cases h4 : x3 = 0
            · subst h4
              go_wp2_with (fail)
              refine d4.mono ?_
              clear d4
              rintro e w7 ⟨rfl, rfl⟩
              have HOW := how.alloc (.cells #[.int .i64 s2] 23)
              go_wp2_with (refine wpList_append_sl rfl _ _ 24 rfl w3.heap.size 23 (.int .i64 0) 1 8 hTset infoSet rfl (by decide) _ L.length _ rfl HOW _ 1 [.int .i64 s2] rfl (sl_new _ _ _ 1 rfl (by decide)) (by intro u hu; simp at hu; rw [hu]; rfl) (by unfold maxLen; omega) (by omega) (by simp; omega) ?_)
              intro v' w' h8 h9
              have hb9 : Below w3.heap.size w3 w' := grown_below (hbr.trans ((alloc_below _ _).mono hbsz)) HOW h9 (by simp; omega)
              go_wp2
              go_roundw
              case rel =>
                refine ⟨i + 1, L ++ [(s2 : Int)], by omega, by go_num, by rw [List.length_append]; exact Nat.succ_le_succ hLl, GG.out s2 (Nat.le_trans g1 (Nat.le_trans g2 g3)) r2, ?_, hb9⟩
                rw [List.length_append, List.map_append]; exact h8
              case measure => simp [vInt]; omega
            · have h4' : ((x3 : Int) == 0) = false := beq_eq_false_iff_ne.2 (by omega)
              have HOW := how.alloc (.cells #[.int .i64 s1] 23)
              go_wp2_with (refine wpList_append_sl rfl _ _ 24 rfl w3.heap.size 23 (.int .i64 0) 1 8 hTset infoSet rfl (by decide) _ L.length _ rfl HOW _ 1 [.int .i64 s1] rfl (sl_new _ _ _ 1 rfl (by decide)) (by intro u hu; simp at hu; rw [hu]; rfl) (by unfold maxLen; omega) (by omega) (by simp; omega) ?_)
              intro v' w' h8 h9
              have hb9 : Below w3.heap.size w3 w' := grown_below (hbr.trans ((alloc_below _ _).mono hbsz)) HOW h9 (by simp; omega)
              go_wp2
              go_roundw
              case rel =>
                refine ⟨i + 1, L ++ [(s1 : Int)], by omega, by go_num, by rw [List.length_append]; exact Nat.succ_le_succ hLl, GG.out s1 (Nat.le_trans g1 g2) r1, ?_, hb9⟩
                rw [List.length_append, List.map_append]; exact h8
              case measure => simp [vInt]; omega
        · have h2' : (10 : Int) ≤ i := by omega
          go_wp2
          go_ret3
          exact ⟨n, may, L, _, rfl, HV.out may L hmay (Nat.le_trans hLl (Nat.le_trans hi (by decide))) hLg, Nat.le_of_lt_succ hn9, Nat.le_trans hLl hi, how, hbr⟩
      · have h1' : (l.length : Int) ≤ 3 * (i : Int) + 3 := by omega
        clear h1
        go_wp2
        go_ret3
        exact ⟨n, may, L, _, rfl, HV.out may L hmay (Nat.le_trans hLl (Nat.le_trans hi (by decide))) hLg, Nat.le_of_lt_succ hn9, Nat.le_trans hLl hi, how, hbr⟩
end Go.Proofs.Ytnkglahiagigoaa

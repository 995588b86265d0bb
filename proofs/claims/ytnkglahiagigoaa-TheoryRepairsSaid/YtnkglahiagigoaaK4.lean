/- theory: package conflict: Repairs. -/
import Derived.Test.YtnkglahiagigoaaK3
import Derived.Test.YtnkglahiagigoaaT5
namespace Go.Theory
open Go.RowKit Go.Own Go.Ib
theorem ints_row (l : List Nat) : (ints l).map (Value.int .i64) = l.map fun (j : Nat) => .int .i64 j := by unfold ints; rw [List.map_map]; rfl
theorem ints_len (l : List Nat) : (ints l).length = l.length := by simp [ints]
theorem ints_of {n may : Nat} {c : List Int} (hv : valid n may c) : ∃ l : List Nat, ints l = c ∧ ∀ x ∈ l, x < 2 ^ n := by
  obtain ⟨_, _, _, h⟩ := valid_nat hv
  refine ⟨c.map Int.toNat, ?_, fun x hx => ?_⟩
  · unfold ints
    rw [List.map_map]
    conv => rhs; rw [← List.map_id c]
    refine List.map_congr_left fun z hz => ?_
    have := h z hz
    show ((z.toNat : Nat) : Int) = z
    omega
  · obtain ⟨z, hz, rfl⟩ := List.mem_map.1 hx
    have := h z hz
    omega
theorem least_len {l L : List Nat} (h : IsLeast l L) : L.length ≤ l.length := List.Nodup.length_le_of_subset h.nodup h.mem
theorem and_meets {r s : Nat} (hr : r < 65536) (hs : s < 65536) : (bits .and .i64 (r : Int) (s : Int) != 0) = meets r s := by
  rw [b_and r s (by omega) (by omega)]
  unfold meets
  by_cases h : r &&& s = 0
  · rw [h]; rfl
  · have : (((r &&& s : Nat) : Int) != 0) = true := by simp; omega
    rw [this]; exact (decide_eq_true h).symm
theorem or_pow {r k : Nat} (hr : r < 256) (hk : k < 8) : wrap64 ((2 : Int) ^ k) = ((2 ^ k : Nat) : Int) ∧ bits .or .i64 (r : Int) ((2 ^ k : Nat) : Int) = ((r ||| 2 ^ k : Nat) : Int) := by
  refine ⟨wrap_pow (by omega), b_or r (2 ^ k) (by omega) ?_⟩
  have : (2 : Nat) ^ k ≤ 2 ^ 8 := Nat.pow_le_pow_right (by decide) (by omega)
  omega
end Go.Theory
namespace Go.Proofs.Ytnkglahiagigoaa
open Go.RowKit Go.Own Go.Theory Go.BigFrame Go.Shelf Go.Ib
set_option maxRecDepth 100000 in
theorem chas_any (s k : Nat) (hs : s < 65536) (hk : k < 16) (w : World) : Calls Try.prog 62 #[.int .i64 s, .int .i64 k] w fun e w' => e = .returned (.bool (s.testBit k)) ∧ w' = w := by
  have h := and1 (k := k) hs
  cases hb : s.testBit k with
  | true =>
    rw [hb, if_pos rfl] at h
    go_enter Try.func62, Try.ntmps62
    go_wp2
    go_ret
    exact ⟨rfl, rfl⟩
  | false =>
    rw [hb, if_neg Bool.false_ne_true] at h
    go_enter Try.func62, Try.ntmps62
    go_wp2
    go_ret
    exact ⟨rfl, rfl⟩
theorem cvalidP (n M B : Nat) (hwp : wrap64 ((2 : Int) ^ n) = (M : Int)) (hn : n ≤ 16) (w : World) (hB : B < w.heap.size) (hc : w.cell? ⟨B, 0, none⟩ = some (.int .i64 n)) :
    PredAt Try.prog 76 #[.pointer (some ⟨B, 0, none⟩)] (Value.int .i64) (fun x => decide (x < 0) || decide ((M : Int) ≤ x)) w := fun W x hb => by
  have hcW : W.cell? ⟨B, 0, none⟩ = some (.int .i64 n) := (hb.cell (p := ⟨B, 0, none⟩) hB).trans hc
  show Calls Try.prog 76 #[.int .i64 x, .pointer (some ⟨B, 0, none⟩)] W _
  go_enter Try.func76, Try.ntmps76
  by_cases h : x < 0
  · have h' : decide (x < 0) = true := decide_eq_true h
    go_wp2
    go_ret
    exact ⟨by first | rfl | (rw [h']; rfl), 0, rfl⟩
  · have h' : decide (x < 0) = false := decide_eq_false h
    go_wp2
    go_ret
    exact ⟨by first | rfl | (rw [h', Bool.false_or]; rfl), 0, rfl⟩
set_option maxRecDepth 100000 in
theorem cvalid_any (n : Nat) (l : List Nat) (sa : Option Addr) (cap : Nat) (hn : n ≤ 16) (w : World) (h : Sl w 1 (.slice sa l.length cap) l.length (l.map fun (j : Nat) => .int .i64 j)) (hm : l.length ≤ 64) (hl : ∀ x ∈ l, x < 2 ^ n) :
    Calls Try.prog 60 #[.int .i64 n, .slice sa l.length cap] w fun e w' => e = .returned (.int .i64 0) ∧ Below w.heap.size w w' := by
  obtain ⟨W1, hW1⟩ : ∃ W1, W1 = w.alloc (.cells #[.int .i64 n] 3) := ⟨_, rfl⟩
  have b1 : Below w.heap.size w W1 := by rw [hW1]; exact alloc_below w _
  have z1 : W1.heap.size = w.heap.size + 1 := by rw [hW1]; exact alloc_size w _
  have c1 : W1.cell? ⟨w.heap.size, 0, none⟩ = some (.int .i64 n) := by
    have : Blk W1 w.heap.size [.int .i64 n] 3 := by rw [hW1]; exact Blk.new w #[.int .i64 n] 3
    exact this.cell rfl
  have hwp := wrap_pow hn
  have h1 := h.below b1
  rw [← ints_row, ← ints_len l] at h1
  have cf : Calls Try.prog 57 #[.slice sa (ints l).length cap, .func (.func 76) #[] #[.pointer (some ⟨w.heap.size, 0, none⟩)]] W1 _ := cf_any Try.lc57 _ 76 _ (enters_of Try.func76 (by kernel_rfl) rfl) (ints l) sa cap W1 (cvalidP n (2 ^ n) w.heap.size hwp hn W1 (by omega) c1) h1 (by rw [ints_len]; omega)
  have hany : (ints l).any (fun x => decide (x < 0) || decide (((2 ^ n : Nat) : Int) ≤ x)) = false := by
    rw [List.any_eq_false]
    intro z hz
    obtain ⟨x, hx, rfl⟩ := List.mem_map.1 hz
    have := hl x hx
    simp only [Bool.or_eq_true, decide_eq_true_eq]
    omega
  rw [hany, ints_len] at cf
  clear hany hwp h1 h
  have hm' : (l.length : Int) ≤ 64 := by omega
  have Z1 := Lib.hid z1; clear z1
  go_enter Try.func60, Try.ntmps60
  go_wp2_with (fail)
  rw [← hW1]
  clear hW1
  refine cf.mono ?_
  clear cf
  rintro e w2 ⟨rfl, q, rfl⟩
  go_wp2
  go_ret
  exact ⟨rfl, below_drewN b1 _⟩
set_option maxRecDepth 100000 in
theorem ccontains_any (l : List Nat) (sa : Option Addr) (cap : Nat) (w : World) (h : Sl w 1 (.slice sa l.length cap) l.length (l.map fun (j : Nat) => .int .i64 j)) (hm : l.length ≤ 1000000) (h0 : ∀ x ∈ l, x ≠ 0) :
    Calls Try.prog 61 #[.slice sa l.length cap, .int .i64 0] w fun e w' => e = .returned (.bool false) ∧ w' = w := by
  by_cases hl : l.length = 0
  · rw [hl]
    exact AnyE.slices_Contains_empty Try.ct61 sa cap _ w
  · obtain ⟨b, off, rfl, _, _, hC, _⟩ := sl_split h (by omega)
    have hcon := AnyE.slices_Contains Try.ct61 (Value.int .i64) (fun x y => x == y) (EqlAt.int _ _ .i64) b off l.length cap (ints l) 0 w (by rw [ints_len]; exact Nat.le_refl _) (by omega) (fun j hj => hC j _ (by
      rw [← ints_row]; exact getBang (ints l) _ j hj))
    refine hcon.mono ?_
    rintro e w' ⟨rfl, rfl⟩
    refine ⟨?_, rfl⟩
    congr 2
    rw [List.any_eq_false]
    intro z hz
    obtain ⟨x, hx, rfl⟩ := List.mem_map.1 (List.mem_of_mem_take hz)
    have := h0 x hx
    simp
    omega
set_option maxRecDepth 100000 in
set_option maxHeartbeats 4000000 in
theorem crepairs_any (n : Nat) (l : List Nat) (sa : Option Addr) (cap : Nat) (hn : n ≤ 8) (w : World) (h : Sl w 1 (.slice sa l.length cap) l.length (l.map fun (j : Nat) => .int .i64 j)) (hm : l.length ≤ 10) (hl : ∀ x ∈ l, x < 2 ^ n) (h0 : ∀ x ∈ l, x ≠ 0) :
    Calls Try.prog 32 #[.int .i64 n, .slice sa l.length cap] w fun e w' => ∃ (out : List Nat) (v : Value), e = .returned (.tuple #[v, .int .i64 0]) ∧ Rep n l out ∧ w'.ownsRow w.heap.size 23 1 v out.length (out.map fun (j : Nat) => .int .i64 j) ∧ Below w.heap.size w w' := by
  have hM8 : (2 : Nat) ^ n ≤ 256 := Nat.pow_le_pow_right (n := 2) (by omega) hn
  have hl8 : ∀ x ∈ l, x < 256 := fun x hx => Nat.lt_of_lt_of_le (hl x hx) hM8
  go_enter Try.func32, Try.ntmps32
  go_wp2_with (fail)
  refine (cvalid_any n l sa cap (by omega) w h (by omega) hl).mono ?_
  rintro e w1 ⟨rfl, b1⟩
  have h1 := h.below b1
  have z1 := b1.size
  clear h
  go_wp2_with (fail)
  refine (ccontains_any l sa cap w1 h1 (by omega) h0).mono ?_
  rintro e w1' ⟨rfl, rfl⟩
  obtain ⟨W2, hW2⟩ : ∃ W2, W2 = w1'.alloc (.cells #[.int .i64 0] 23) := ⟨_, rfl⟩
  have b2 : Below w1'.heap.size w1' W2 := by rw [hW2]; exact alloc_below _ _
  have o2 : W2.ownsRow w.heap.size 23 1 (.slice (some ⟨w1'.heap.size, 0, none⟩) 1 1) ([0] : List Nat).length (([0] : List Nat).map fun (j : Nat) => .int .i64 j) := by rw [hW2]; exact own_new w1' #[.int .i64 0] 23 1 w.heap.size rfl (by decide) z1
  have b12 : Below w.heap.size w W2 := b1.trans (b2.mono z1)
  have z2 := b12.size
  have h2 := h1.below b2
  clear h1 b1 b2 z1
  go_wp2_with (fail)
  rw [← hW2]
  clear hW2
  refine (cleast_any l sa cap W2 h2 (by omega) hl8).mono ?_
  rintro e w3 ⟨L, v3, rfl, hL, how3, b3⟩
  obtain ⟨sL, cL, rfl, hL3⟩ := own_nat how3
  have o3 := own_below o2 b3
  have b13 := b12.trans (b3.mono z2)
  have z3 := b13.size
  have hLl : L.length ≤ 10 := by have := least_len hL; omega
  have hLM : ∀ x ∈ L, x < 2 ^ n := fun x hx => hl x (hL.mem x hx)
  have hfin := fun out (hr : Rep n L out) => rep_least (by omega : n ≤ 16) hl hL hr
  have hstep := fun s O O' i (hi : i < L.length) (hs : s = L[i]) (hr : Rep n (L.take i) O) (hI : IsLeast (nextS n s O) O') => by
    have := rep_step (by omega : n ≤ 16) hr (by rw [hs]; exact hLM _ (List.getElem_mem hi)) hI
    rw [hs, ← List.take_succ_eq_append_getElem hi] at this
    exact this
  have hcount := fun i O (hr : Rep n (L.take i) O) => Nat.le_trans (nodup_len hr.nodup hr.lt) hM8
  have hlt8 := fun i O (hr : Rep n (L.take i) O) x (hx : x ∈ O) => Nat.lt_of_lt_of_le (hr.lt x hx) hM8
  have hnlt := fun i O s (hr : Rep n (L.take i) O) x (hx : x ∈ nextS n s O) => Nat.lt_of_lt_of_le (next_lt hr.lt hx) hM8
  have hL8 : ∀ x ∈ L, x < 256 := fun x hx => hl8 x (hL.mem x hx)
  have hnil := rep_nil (show n ≤ 16 by omega)
  clear how3 o2 h2 b3 b12 z2 hL hLM hM8 hl hl8 h0
  go_wp2
  go_loopw [7, 26] (fun vo vi wr => ∃ (i : Nat) (O : List Nat), i ≤ L.length ∧ vi = .int .i64 i ∧ Rep n (L.take i) O ∧ wr.ownsRow w.heap.size 23 1 vo O.length (O.map fun (j : Nat) => .int .i64 j) ∧ Below w3.heap.size w3 wr) (fun _ vi _ => L.length - (vInt vi).toNat)
  case atStart => exact ⟨0, [0], by omega, rfl, by rw [List.take_zero]; exact hnil, o3, Below.refl _ _⟩
  case round =>
    obtain ⟨i, O, hi, rfl, hO, hown, hbr⟩ := hrel
    have zr := hbr.size
    by_cases h1 : i < L.length
    · have h1' : (i : Int) < L.length := by omega
      obtain ⟨g, o, rfl, hcx⟩ := nat_cell (hL3.below hbr) h1
      obtain ⟨s, hs⟩ : ∃ s, s = L[i] := ⟨_, rfl⟩
      have hs8 := hL8 s (by rw [hs]; exact List.getElem_mem h1)
      rw [← hs] at hcx
      have hst := fun O' hI => hstep s O O' i h1 hs hO hI
      have hOl := hcount i O hO
      have hO8 := hlt8 i O hO
      have hN8 := hnlt i O s hO
      have hNl := nextS_len n s O
      have hNl2 : (nextS n s O).length ≤ 10000 := by
        have : (n + 1) * O.length ≤ 9 * 256 := Nat.mul_le_mul (by omega) hOl
        omega
      have cx := hcx wr (Below.refl _ _)
      obtain ⟨sO, cO, rfl, hSO⟩ := own_nat hown
      have HS := Lib.hid hs; clear hs
      clear hO hNl
      obtain ⟨wA, hwA⟩ : ∃ wA, wA = wr := ⟨_, rfl⟩
      subst hwA
      go_wp2
      go_loopw [10, 32] (fun vn vj ws => ∃ (j : Nat) (N : List Nat), j ≤ O.length ∧ vj = .int .i64 j ∧ N = nextS n s (O.take j) ∧ ws.ownsRow wA.heap.size 23 1 vn N.length (N.map fun (j : Nat) => .int .i64 j) ∧ Below wA.heap.size wA ws) (fun _ vj _ => O.length - (vInt vj).toNat)
      case atStart => exact ⟨0, [], by omega, rfl, by rw [List.take_zero]; rfl, World.ownsRow_nil _ _ _ _, Below.refl _ _⟩
      case round =>
        obtain ⟨j, N, hj, rfl, hN, hnown, hbs⟩ := hrel
        have zs := hbs.size
        have hNlen : N.length ≤ 10000 := by
          rw [hN]
          have h1 := nextS_len n s (O.take j)
          have h2 : (O.take j).length ≤ 256 := by rw [List.length_take]; omega
          have : (n + 1) * (O.take j).length ≤ 9 * 256 := Nat.mul_le_mul (by omega) h2
          omega
        by_cases h2 : j < O.length
        · have h2' : (j : Int) < O.length := by omega
          obtain ⟨g2, o2, rfl, hcr⟩ := nat_cell (hSO.below hbs) h2
          obtain ⟨r, hr⟩ : ∃ r, r = O[j] := ⟨_, rfl⟩
          have hr8 := hO8 r (by rw [hr]; exact List.getElem_mem h2)
          have htk := nextS_take (n := n) (s := s) h2
          rw [← hr] at hcr htk
          rw [← hN] at htk
          have cr := hcr wr (Below.refl _ _)
          have ham := and_meets (r := r) (s := s) (by omega) (by omega)
          have HR := Lib.hid hr; clear hr
          have HN := Lib.hid hN; clear hN
          cases hmt : meets r s with
          | true =>
            rw [hmt] at ham
            have hone : nextS n s (O.take (j + 1)) = N ++ [r] := by rw [htk]; unfold meetOne; rw [if_pos hmt]
            have HONE := Lib.hid hone; clear hone htk hmt
            have HOW := hnown.alloc (.cells #[.int .i64 r] 23)
            go_wp2_with (refine wpList_append_sl rfl _ _ 24 rfl wA.heap.size 23 (.int .i64 0) 1 8 hTset infoSet rfl (by decide) _ N.length _ rfl HOW _ 1 [.int .i64 r] rfl (sl_new _ _ _ 1 rfl (by decide)) (by intro u hu; simp at hu; rw [hu]; rfl) (by unfold maxLen; omega) (by omega) (by simp; omega) ?_)
            intro v' w' h8 h9
            have hb11 : Below wA.heap.size wA w' := grown_below (hbs.trans ((alloc_below _ _).mono zs)) HOW h9 (by simp; omega)
            go_wp2
            go_roundw
            case rel =>
              refine ⟨j + 1, N ++ [r], by omega, by go_num, HONE.out.symm, ?_, hb11⟩
              rw [List.length_append, List.map_append]; exact h8
            case measure => simp [vInt]; omega
          | false =>
            rw [hmt] at ham
            have hone : nextS n s (O.take (j + 1)) = N ++ more s r n := by rw [htk]; unfold meetOne; rw [if_neg (by rw [hmt]; exact Bool.false_ne_true)]
            have HONE := Lib.hid hone; clear hone htk hmt
            go_wp2
            go_loopw [10, 45] (fun vn vk wt => ∃ k : Nat, k ≤ n ∧ vk = .int .i64 k ∧ wt.ownsRow wA.heap.size 23 1 vn (N ++ more s r k).length ((N ++ more s r k).map fun (j : Nat) => .int .i64 j) ∧ Below wA.heap.size wA wt) (fun _ vk _ => n - (vInt vk).toNat)
            case atStart => exact ⟨0, by omega, rfl, by rw [show more s r 0 = [] from rfl, List.append_nil]; exact hnown, hbs⟩
            case round =>
              obtain ⟨k, hk, rfl, hkown, hbt⟩ := hrel
              have zt := hbt.size
              have hml := more_len s r k
              have hQl : (N ++ more s r k).length ≤ 20000 := by rw [List.length_append]; omega
              by_cases h3 : k < n
              · have h3' : (k : Int) < n := by omega
                obtain ⟨hsh, hor⟩ := or_pow (r := r) (k := k) hr8 (by omega)
                have hmy := fun h => more_yes (s := s) (r := r) (k := k) h
                have hmn := fun h => more_no (s := s) (r := r) (k := k) h
                obtain ⟨m, hm2⟩ : ∃ m, m = 2 ^ k := ⟨_, rfl⟩
                rw [← hm2] at hsh hor hmy
                have HM2 := Lib.hid hm2; clear hm2
                obtain ⟨Q, hQ⟩ : ∃ Q, Q = N ++ more s r k := ⟨_, rfl⟩
                rw [← hQ] at hkown hQl
                go_wp2_with (fail)
                refine (chas_any s k (by omega) (by omega) wr).mono ?_
                rintro e w5 ⟨rfl, rfl⟩
                cases hb : s.testBit k with
                | true =>
                  have hq : N ++ more s r (k + 1) = Q ++ [r ||| m] := by rw [hmy hb, hQ, List.append_assoc]
                  have HQ := Lib.hid hq; clear hq hQ hmy hmn
                  have HOW := hkown.alloc (.cells #[.int .i64 (r ||| m : Nat)] 23)
                  go_wp2_with (refine wpList_append_sl rfl _ _ 24 rfl wA.heap.size 23 (.int .i64 0) 1 8 hTset infoSet rfl (by decide) _ Q.length _ rfl HOW _ 1 [.int .i64 (r ||| m : Nat)] rfl (sl_new _ _ _ 1 rfl (by decide)) (by intro u hu; simp at hu; rw [hu]; rfl) (by unfold maxLen; omega) (by omega) (by simp; omega) ?_)
                  intro v' w' h8 h9
                  have hb11 : Below wA.heap.size wA w' := grown_below (hbt.trans ((alloc_below _ _).mono zt)) HOW h9 (by simp; omega)
                  go_wp2
                  go_roundw
                  case rel =>
                    refine ⟨k + 1, by omega, by go_num, ?_, hb11⟩
                    rw [HQ.out, List.length_append, List.map_append]; exact h8
                  case measure => simp [vInt]; omega
                | false =>
                  have hq : N ++ more s r (k + 1) = Q := by rw [hmn hb, hQ]
                  have HQ := Lib.hid hq; clear hq hQ hmy hmn
                  go_wp2
                  go_roundw
                  case rel => exact ⟨k + 1, by omega, by go_num, by rw [HQ.out]; exact hkown, hbt⟩
                  case measure => simp [vInt]; omega
              · obtain rfl : k = n := by omega
                go_wp2
                go_roundw
                case rel => exact ⟨j + 1, N ++ more s r k, by omega, by go_num, HONE.out.symm, hkown, hbt⟩
                case measure => simp [vInt]; omega
        · have h2' : (O.length : Int) ≤ j := by omega
          rw [List.take_of_length_le (by omega)] at hN
          have hN8' : ∀ x ∈ N, x < 256 := fun x hx => hN8 x (by rw [← hN]; exact hx)
          obtain ⟨sN, cN, rfl, hSN⟩ := own_nat hnown
          have HN := Lib.hid hN; clear hN
          go_wp2_with (fail)
          refine (cleast_any N sN cN wr hSN (by omega) hN8').mono ?_
          rintro e w5 ⟨O', v5, rfl, hI, how5, b5⟩
          have hr' := hst O' (by rw [← HN.out]; exact hI)
          have b35 : Below w3.heap.size w3 w5 := (hbr.trans (hbs.mono zr)).trans (b5.mono (by omega))
          clear hst
          go_wp2
          go_roundw
          case rel => exact ⟨i + 1, O', by omega, by go_num, hr', own_base' how5 (by omega), b35⟩
          case measure => simp [vInt]; omega
    · have h1' : (L.length : Int) ≤ i := by omega
      rw [List.take_of_length_le (by omega)] at hO
      have hf := hfin O hO
      clear hfin hstep hcount hlt8 hnlt
      go_wp2
      go_ret2
      exact ⟨O, _, rfl, hf, hown, b13.trans (hbr.mono z3)⟩
end Go.Proofs.Ytnkglahiagigoaa

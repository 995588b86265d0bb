/- theory: package conflict: Least. -/
import Derived.Test.YtnkglahiagigoaaK2
import Derived.Test.YtnkglahiagigoaaShB
import Derived.Test.YtnkglahiagigoaaCf
namespace Go.Theory
theorem lift8 : ∀ l : List Nat, (∀ x ∈ l, x < 256) → ∃ xs : List S8, xs.map (fun x => x.1) = l
  | [], _ => ⟨[], rfl⟩
  | x :: r, h => by
    obtain ⟨xs, hx⟩ := lift8 r fun y hy => h y (by simp [hy])
    exact ⟨⟨x, h x (by simp)⟩ :: xs, by simp [hx]⟩
theorem map8 (xs : List S8) : xs.map enc8 = (xs.map (fun x => x.1)).map fun (j : Nat) => .int .i64 j := by
  rw [List.map_map]; rfl
end Go.Theory
namespace Go.Proofs.Ytnkglahiagigoaa
open Go.RowKit Go.Own Go.Theory Go.BigFrame Go.Shelf Go.Ib
/-- A row of natural sets: the slice and its cells. -/
theorem own_nat {w : World} {base : Nat} {t : TypeId} {L : List Nat} {v : Value} (h : w.ownsRow base t 1 v L.length (L.map fun (j : Nat) => .int .i64 j)) : ∃ sb cb, v = .slice sb L.length cb ∧ Sl w 1 (.slice sb L.length cb) L.length (L.map fun (j : Nat) => .int .i64 j) := by
  obtain ⟨sb, cb, e, _⟩ := own_slice h
  subst e
  exact ⟨sb, cb, rfl, Sl.of_owns h⟩
theorem nat_cell {w : World} {L : List Nat} {sb : Option Addr} {cb k : Nat} (h : Sl w 1 (.slice sb L.length cb) L.length (L.map fun (j : Nat) => .int .i64 j)) (hk : k < L.length) : ∃ g o, sb = some ⟨g, o, none⟩ ∧ ∀ W, Below w.heap.size w W → W.cell? ⟨g, o + k, none⟩ = some (.int .i64 (L[k] : Nat)) := by
  obtain ⟨g, o, rfl, _, _, hC, ha⟩ := sl_at h (by omega)
  exact ⟨g, o, rfl, fun W hb => (hC.below hb ha) k _ (by simp [hk])⟩
theorem nats_one (L : List Nat) : ∀ u ∈ L.map (fun (j : Nat) => (Value.int .i64 j)), u.oneCell' = true := by
  intro u hu
  obtain ⟨j, _, rfl⟩ := List.mem_map.1 hu
  rfl
attribute [local irreducible] theories fst cl sub
theorem own_base' {w : World} {base base' n size : Nat} {e : TypeId} {v : Value} {xs : List Value} (h : w.ownsRow base e size v n xs) (hb : base' ≤ base) : w.ownsRow base' e size v n xs := by
  obtain ⟨h1, h2 | ⟨g, cap, cur, e1, hg, r⟩⟩ := h
  · exact ⟨h1, .inl h2⟩
  · exact ⟨h1, .inr ⟨g, cap, cur, e1, Nat.le_trans hb hg, r⟩⟩
theorem cpart_any (p s : Int) (w : World) : Calls Try.prog 59 #[.int .i64 p, .int .i64 s] w fun e w' => e = .returned (.bool (sub p s)) ∧ w' = w := by
  rw [← sub_andNot]
  go_enter Try.func59, Try.ntmps59
  go_wp2
  go_ret
  exact ⟨rfl, rfl⟩
theorem leastP (s : Int) (B : Nat) (w : World) (hB : B < w.heap.size) (hc : w.cell? ⟨B, 0, none⟩ = some (.int .i64 s)) :
    PredAt Try.prog 58 #[.pointer (some ⟨B, 0, none⟩)] (Value.int .i64) (fun x => sub x s) w := fun W x hb => by
  have hcW : W.cell? ⟨B, 0, none⟩ = some (.int .i64 s) := (hb.cell (p := ⟨B, 0, none⟩) hB).trans hc
  show Calls Try.prog 58 #[.int .i64 x, .pointer (some ⟨B, 0, none⟩)] W _
  go_enter Try.func58, Try.ntmps58
  go_wp2_with (fail)
  refine (cpart_any x s W).mono ?_
  rintro e w2 ⟨rfl, rfl⟩
  go_wp2
  go_ret
  exact ⟨rfl, 0, rfl⟩
theorem clone_any (l : List Nat) (sa : Option Addr) (cap : Nat) (w : World) (h : Sl w 1 (.slice sa l.length cap) l.length (l.map fun (j : Nat) => .int .i64 j)) (hm : l.length ≤ 1000000) :
    Calls Try.prog 56 #[.slice sa l.length cap] w fun e w' => ∃ v, e = .returned v ∧ w'.ownsRow w.heap.size 23 1 v l.length (l.map fun (j : Nat) => .int .i64 j) ∧ Below w.heap.size w w' := by
  obtain ⟨_, ⟨h2, h3⟩ | ⟨b, off, cap', h2, h3, h4, h5, h6⟩⟩ := h
  · injection h2 with h2 _ _
    subst h2
    have hl : l = [] := List.length_eq_zero_iff.1 h3
    subst hl
    refine (AnyE.slices_Clone_nil Try.cn56 0 cap w).mono ?_
    rintro e w' ⟨rfl, rfl⟩
    exact ⟨_, rfl, World.ownsRow_nil _ _ _ _, Below.refl _ _⟩
  · injection h2 with h2 _ _
    subst h2
    have hi := infoSet
    rw [Option.map_eq_some_iff] at hi
    obtain ⟨i0, hi, he⟩ := hi
    injection he with e1 e2
    injection e2 with e2 e3
    refine (AnyE.slices_Clone Try.cn56 i0 (.int .i64 0) 1 8 hi e1 e2 e3 rfl (by decide) Try.sizeOf23 b off l.length cap _ w (by simp) (by unfold maxLen; omega) (by omega) (fun j u hj => h5 j u hj) (nats_one l)).mono ?_
    rintro e w' ⟨v, rfl, h1, _, h2⟩
    exact ⟨v, rfl, h1, h2⟩
set_option maxRecDepth 100000 in
set_option maxHeartbeats 1600000 in
theorem cleast_any (l : List Nat) (sa : Option Addr) (cap : Nat) (w : World) (h : Sl w 1 (.slice sa l.length cap) l.length (l.map fun (j : Nat) => .int .i64 j)) (hm : l.length ≤ 1000000) (h8 : ∀ x ∈ l, x < 256) :
    Calls Try.prog 31 #[.slice sa l.length cap] w fun e w' => ∃ (L : List Nat) (v : Value), e = .returned v ∧ IsLeast l L ∧ w'.ownsRow w.heap.size 23 1 v L.length (L.map fun (j : Nat) => .int .i64 j) ∧ Below w.heap.size w w' := by
  go_enter Try.func31, Try.ntmps31
  go_wp2_with (fail)
  refine (clone_any l sa cap w h hm).mono ?_
  rintro e w1 ⟨v1, rfl, h1, b1⟩
  obtain ⟨xs, hxs⟩ := lift8 l h8
  have hxl : xs.length = l.length := by rw [← hxs, List.length_map]
  rw [← hxs, ← map8, List.length_map] at h1
  have z1 := b1.size
  go_wp2_with (fail)
  refine (ordered_any xs w.heap.size v1 w1 h1 (by omega)).mono ?_
  rintro e w2 ⟨ys, rfl, p1, p2, p3, p4⟩
  have b2 := p4 w.heap.size z1 (Nat.le_refl _)
  have b12 : Below w.heap.size w w2 := b1.trans b2
  have z2 := b12.size
  obtain ⟨S, hS⟩ : ∃ S, S = ys.map (fun x => x.1) := ⟨_, rfl⟩
  have hSl : S.length = xs.length := by rw [hS, List.length_map]; exact p1.length_eq
  have hSp : S.Perm l := by rw [hS, ← hxs]; exact p1.map _
  have hSs : S.Pairwise (fun (x y : Nat) => ltS y x = false) := by rw [hS, List.pairwise_map]; exact p2
  rw [map8, ← hS, ← hSl] at p3
  have hfin := least_is hSp hSs (fun x hx => Nat.lt_of_lt_of_le (h8 x hx) (by decide))
  have hS8 : ∀ x ∈ S, x < 256 := fun x hx => h8 x (hSp.subset hx)
  obtain ⟨sb, cb, rfl, hSb⟩ := own_nat p3
  have hSm : S.length ≤ 1000000 := by omega
  clear h1 p4 p1 p2 p3 hS hSp hSs hxs hxl hSl b1 b2 z1 h h8
  go_wp2
  go_loopw [3, 10] (fun vo vi wr => ∃ (i : Nat) (O : List Nat), i ≤ S.length ∧ vi = .int .i64 i ∧ O = least (S.take i) ∧ wr.ownsRow w2.heap.size 23 1 vo O.length (O.map fun (j : Nat) => .int .i64 j) ∧ Below w2.heap.size w2 wr) (fun _ vi _ => S.length - (vInt vi).toNat)
  case atStart => exact ⟨0, [], by omega, rfl, rfl, World.ownsRow_nil _ _ _ _, Below.refl _ _⟩
  case round =>
    obtain ⟨i, O, hi, rfl, hO, hown, hbr⟩ := hrel
    have zr := hbr.size
    by_cases h1 : i < S.length
    · have h1' : (i : Int) < S.length := by omega
      obtain ⟨g, o, rfl, hcx⟩ := nat_cell (hSb.below hbr) h1
      have ht := least_take h1
      rw [← hO] at ht
      obtain ⟨x, hx⟩ : ∃ x, x = S[i] := ⟨_, rfl⟩
      have hx8 := hS8 x (by rw [hx]; exact List.getElem_mem h1)
      rw [← hx] at hcx ht
      have hx6 : (x : Int) < 65536 := by omega
      have hx0 : (0 : Int) ≤ x := by omega
      have cx := hcx wr (Below.refl _ _)
      have HX := Lib.hid hx; clear hx
      have HT := Lib.hid ht; clear ht
      have HO := Lib.hid hO; clear hO
      obtain ⟨W1, hW1⟩ : ∃ W1, W1 = wr.alloc (.cells #[.int .i64 x] 23) := ⟨_, rfl⟩
      have bW1 : Below wr.heap.size wr W1 := by rw [hW1]; exact alloc_below wr _
      have hWz : W1.heap.size = wr.heap.size + 1 := by rw [hW1]; exact alloc_size wr _
      have cW : W1.cell? ⟨wr.heap.size, 0, none⟩ = some (.int .i64 x) := by
        have : Blk W1 wr.heap.size [.int .i64 x] 23 := by rw [hW1]; exact Blk.new wr #[.int .i64 x] 23
        exact this.cell rfl
      have hOW : W1.ownsRow w2.heap.size 23 1 u3 O.length (O.map fun (j : Nat) => .int .i64 j) := by rw [hW1]; exact hown.alloc _
      obtain ⟨sO, cO, rfl, hSO⟩ := own_nat hOW
      have hOl : O.length ≤ i := by
        have := (least_spec (S.take i)).1.length_le
        rw [← HO.out, List.length_take] at this
        omega
      have hSO' : Sl W1 1 (.slice sO (ints O).length cO) (ints O).length ((ints O).map (.int .i64)) := by
        rw [show (ints O).map (Value.int .i64) = O.map fun (j : Nat) => .int .i64 j by unfold ints; rw [List.map_map]; rfl, show (ints O).length = O.length by simp [ints]]
        exact hSO
      have cf : Calls Try.prog 57 #[.slice sO (ints O).length cO, .func (.func 58) #[] #[.pointer (some ⟨wr.heap.size, 0, none⟩)]] W1 _ := cf_any Try.lc57 _ 58 _ (enters_of Try.func58 (by kernel_rfl) rfl) (ints O) sO cO W1 (leastP x wr.heap.size W1 (by omega) cW) hSO' (by simp [ints]; omega)
      rw [show (ints O).length = O.length by simp [ints]] at cf
      have hany : (ints O).any (fun y => sub y x) = O.any (fun (y : Nat) => sub y x) := by unfold ints; rw [List.any_map]; rfl
      rw [hany] at cf
      clear hSO' hany hSO cx
      have hb9 : Below w2.heap.size w2 W1 := hbr.trans (bW1.mono zr)
      have HWZ := Lib.hid hWz; clear hWz
      have HW1 := Lib.hid hW1
      obtain ⟨b, hb⟩ : ∃ b, b = O.any (fun (y : Nat) => sub y x) := ⟨_, rfl⟩
      rw [← hb] at cf
      have cx := hcx wr (Below.refl _ _)
      go_wp2_with (fail)
      rw [← hW1]
      clear hW1 cx
      refine cf.mono ?_
      clear cf
      rintro e w3 ⟨rfl, q, hq⟩
      have hown2 : w3.ownsRow w2.heap.size 23 1 (.slice sO O.length cO) O.length (O.map fun (j : Nat) => .int .i64 j) := by rw [hq]; exact own_below hOW (below_drewN (Below.refl _ _) _)
      have hb10 : Below w2.heap.size w2 w3 := by rw [hq]; exact below_drewN hb9 _
      have cW2 : w3.cell? ⟨wr.heap.size, 0, none⟩ = some (.int .i64 x) := by rw [hq]; exact cW
      clear hq hOW hb9 cW
      have z10 := hb10.size
      cases b with
      | true =>
        have hk : least (S.take (i + 1)) = O := by rw [HT.out]; unfold keepS; rw [if_pos hb.symm]
        have HK := Lib.hid hk; clear hk hb
        go_wp2
        go_roundw
        case rel => exact ⟨i + 1, O, by omega, by go_num, HK.out.symm, hown2, hb10⟩
        case measure => simp [vInt]; omega
      | false =>
        have hk : least (S.take (i + 1)) = O ++ [x] := by rw [HT.out]; unfold keepS; rw [if_neg (by rw [← hb]; exact Bool.false_ne_true)]
        have HK := Lib.hid hk; clear hk hb
        have HOW := hown2.alloc (.cells #[.int .i64 x] 23)
        go_wp2_with (refine wpList_append_sl rfl _ _ 24 rfl w2.heap.size 23 (.int .i64 0) 1 8 hTset infoSet rfl (by decide) _ O.length _ rfl HOW _ 1 [.int .i64 x] rfl (sl_new _ _ _ 1 rfl (by decide)) (by intro u hu; simp at hu; rw [hu]; rfl) (by unfold maxLen; omega) (by omega) (by simp; omega) ?_)
        intro v' w' h8 h9
        have hb11 : Below w2.heap.size w2 w' := grown_below (hb10.trans ((alloc_below _ _).mono z10)) HOW h9 (by simp; omega)
        go_wp2
        go_roundw
        case rel =>
          refine ⟨i + 1, O ++ [x], by omega, by go_num, HK.out.symm, ?_, hb11⟩
          rw [List.length_append, List.map_append]; exact h8
        case measure => simp [vInt]; omega
    · have h1' : (S.length : Int) ≤ i := by omega
      rw [List.take_of_length_le (by omega)] at hO
      rw [← hO] at hfin
      clear hO
      go_wp2
      go_ret
      exact ⟨O, _, rfl, hfin, own_base' hown z2, b12.trans (hbr.mono z2)⟩
end Go.Proofs.Ytnkglahiagigoaa

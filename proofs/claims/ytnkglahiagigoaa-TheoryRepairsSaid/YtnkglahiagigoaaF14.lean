/- theory: the program's Bound. -/
import Derived.Test.YtnkglahiagigoaaT1
import Derived.Test.YtnkglahiagigoaaSo
namespace Go.Own
open Go.RowKit
theorem sl_block {w : World} {size n : Nat} {v : Value} {vs : List Value} (h : Sl w size v n vs) : ∀ b, v.ownBlock = some b → b < w.heap.size := by
  intro b hb
  obtain ⟨_, ⟨rfl, _⟩ | ⟨g, off, cap, rfl, _, _, _, hlt⟩⟩ := h
  · cases hb
  · injection hb with hb; subst hb; exact hlt
end Go.Own
namespace Go.Theory
open Go.RowKit Go.Own Go.Ib
theorem lexR_nat {wl l : List Int} {x y : Int} (hx : 0 ≤ x) (hy : 0 ≤ y) (h : lexR (fun i => -(wt wl l i.toNat)) x y) : lexN wl l x.toNat y.toNat := by
  unfold lexR at h; dsimp only at h; unfold lexN; omega
theorem ordN_take (may : Nat) (l : List Int) (k : Nat) : (List.range (k + 1)).filter (fun i => sub (l.getD i 0) may) = (List.range k).filter (fun i => sub (l.getD i 0) may) ++ (if sub (l.getD k 0) may = true then [k] else []) := by
  rw [List.range_succ, List.filter_append]
  congr 1
  rw [List.filter_cons]
  cases h : sub (l.getD k 0) may <;> rfl
/-- The sorted row as numbers. -/
theorem nats_of {wl l : List Int} {may : Nat} {ys : List Int} (hp : ys.Perm ((ordN may l).map fun (j : Nat) => (j : Int))) (hs : ys.Pairwise (lexR fun i => -(wt wl l i.toNat))) :
    ∃ zs : List Nat, ys = zs.map (fun (j : Nat) => (j : Int)) ∧ zs.Perm (ordN may l) ∧ zs.Pairwise (lexN wl l) := by
  have hn : ∀ y ∈ ys, 0 ≤ y := fun y hy => by
    obtain ⟨j, _, rfl⟩ := List.mem_map.1 (hp.subset hy)
    omega
  have e : ys = (ys.map Int.toNat).map (fun (j : Nat) => (j : Int)) := by
    rw [List.map_map]
    conv => lhs; rw [← List.map_id ys]
    exact List.map_congr_left fun y hy => by have := hn y hy; simp; omega
  refine ⟨ys.map Int.toNat, e, ?_, ?_⟩
  · have := hp.map Int.toNat
    rw [List.map_map] at this
    have e2 : List.map (Int.toNat ∘ fun (j : Nat) => (j : Int)) (ordN may l) = ordN may l := by
      conv => rhs; rw [← List.map_id (ordN may l)]
      exact List.map_congr_left fun y _ => rfl
    rwa [e2] at this
  · rw [List.pairwise_map]
    exact hs.imp_of_mem fun hx hy h => lexR_nat (hn _ hx) (hn _ hy) h
theorem gre_drop {l : List Int} {zs : List Nat} {k u : Nat} (h : k < zs.length) : gre l (zs.drop k) u = if cnf l zs[k] &&& u = 0 then zs[k] :: gre l (zs.drop (k + 1)) (u ||| cnf l zs[k]) else gre l (zs.drop (k + 1)) u := by
  rw [List.drop_eq_getElem_cons h]; rfl
end Go.Theory
namespace Go.Proofs.Ytnkglahiagigoaa
open Go.RowKit Go.Own Go.Theory Go.BigFrame Go.Shelf
theorem BW.chg {g : Nat} {W W' : World} {pw pl : Nat} {nv mv : Value} {l wl : List Int} {sa wa : Option Addr} {cap wcap : Nat} (h : BW W pw pl nv mv l wl sa wa cap wcap) (hc : Chg [g] W W') (h1 : pw ≠ g) (h2 : pl ≠ g)
    (h3 : ∀ b, (Value.slice sa l.length cap).ownBlock = some b → b ≠ g) (h4 : ∀ b, (Value.slice wa wl.length wcap).ownBlock = some b → b ≠ g) : BW W' pw pl nv mv l wl sa wa cap wcap :=
  ⟨h.bw.chg hc (by simpa using h1), h.bl.chg hc (by simpa using h2), h.sl.chg hc (fun b hb => by simpa using h3 b hb), h.sw.chg hc (fun b hb => by simpa using h4 b hb)⟩
set_option maxRecDepth 100000 in
theorem stable_none (cap : Nat) (fv : Value) (w : World) : Calls Try.prog 43 #[.slice none 0 cap, fv] w fun e w' => e = .returned (.tuple #[]) ∧ w' = w := by
  go_enter Try.func43, Try.ntmps43
  go_wp2_with (go_at_call 67; go_enter Try.func67, Try.ntmps67)
  go_loopw [7, 8] (fun a b wr => a = .int .i64 0 ∧ b = .int .i64 20 ∧ wr = w) (fun _ _ _ => 0)
  case atStart => exact ⟨rfl, rfl, rfl⟩
  case round =>
    obtain ⟨rfl, rfl, rfl⟩ := hrel
    go_wp2_with (go_at_call 79; go_enter Try.func79, Try.ntmps79)
    go_loopw [8] (fun a wq => a = .int .i64 1 ∧ wq = wr) (fun _ _ => 0)
    case atStart => exact ⟨rfl, rfl⟩
    case round =>
      obtain ⟨rfl, rfl⟩ := hrel
      go_wp2
      go_end0
      go_wp2
      go_loopw [6] (fun a wq => a = .int .i64 20 ∧ wq = wr) (fun _ _ => 0)
      case atStart => exact ⟨rfl, rfl⟩
      case round =>
        obtain ⟨rfl, rfl⟩ := hrel
        go_wp2
        go_end0
        go_wp2
        go_end0
        exact ⟨rfl, rfl⟩
set_option maxRecDepth 100000 in
theorem pbound_bad (n may : Int) (l wl : List Int) (sa wa : Option Addr) (cap wcap : Nat) (hn : rg n) (hm : rg may) (hv : ¬ (valid n may l ∧ wts n wl)) (w : World) (hl : Sl w 1 (.slice sa l.length cap) l.length (l.map (.int .i64))) (hll : l.length ≤ 1000000) (hr : ∀ z ∈ l, rg z)
    (hwl : Sl w 1 (.slice wa wl.length wcap) wl.length (wl.map (.int .i64))) (hwll : wl.length ≤ 1000000) :
    Calls Try.prog 23 #[.int .i64 n, .int .i64 may, .slice sa l.length cap, .slice wa wl.length wcap] w fun e w' => e = .returned (.tuple #[.int .i64 0, .slice none 0 0, .int .i64 1]) ∧ Below w.heap.size w w' := by
  obtain ⟨W0, hW0⟩ : ∃ W0, w.alloc (.cells #[.slice sa l.length cap] 24) = W0 := ⟨_, rfl⟩
  have b0 : Below w.heap.size w W0 := by rw [← hW0]; exact alloc_below _ _
  have c0 : W0.cell? ⟨w.heap.size, 0, none⟩ = some (.slice sa l.length cap) := by rw [← hW0]; exact (Blk.new _ _ _).cell rfl
  obtain ⟨W1, hW1⟩ : ∃ W1, W0.alloc (.cells #[.int .i64 n, .int .i64 may, .slice sa l.length cap, .slice wa wl.length wcap] 61) = W1 := ⟨_, rfl⟩
  have b1 : Below w.heap.size w W1 := by rw [← hW1]; exact b0.alloc (by have := b0.size; omega) _
  have h := pwvalid_any n may l wl sa wa cap wcap hn hm W1 (hl.below b1) hll hr (hwl.below b1) hwll
  rw [show (decide (valid n may l) && decide (wts n wl)) = false by rw [← Bool.decide_and]; exact decide_eq_false hv] at h
  have k1 : Blk W1 W0.heap.size [.int .i64 n, .int .i64 may, .slice sa l.length cap, .slice wa wl.length wcap] 61 := by rw [← hW1]; exact Blk.new _ _ _
  have hC : Cells W1 W0.heap.size 0 [.int .i64 n, .int .i64 may, .slice sa l.length cap, .slice wa wl.length wcap] := k1.cells 0 _ rfl
  go_enter Try.func23, Try.ntmps23
  go_wp2_with (refine wpList_load_agg [.int .i64 n, .int .i64 may, .slice sa l.length cap, .slice wa wl.length wcap] hC rfl rfl rfl aggW infoW ?_)
  refine h.mono ?_
  rintro e w2 ⟨rfl, hb⟩
  go_wp2
  go_ret3
  exact ⟨rfl, b1.trans (hb.mono b1.size)⟩
theorem cmpI_neg (x y : Int) : cmpI x y < 0 ↔ x < y := by
  unfold cmpI; split
  · omega
  · split <;> omega
theorem bnd_rg {wl l : List Int} (hw : ∀ z ∈ wl, 0 ≤ z ∧ z ≤ 16384) (T : List Nat) (a : Int) : a - 16384 * T.length ≤ T.foldl (fun a i => a - wt wl l i) a ∧ T.foldl (fun a i => a - wt wl l i) a ≤ a := by
  refine snoc_ind (p := fun T => a - 16384 * T.length ≤ T.foldl (fun a i => a - wt wl l i) a ∧ T.foldl (fun a i => a - wt wl l i) a ≤ a) (by simp) (fun T x ih => ?_) T
  have := wmin_rg hw (l.getD x 0).toNat 16
  rw [List.foldl_append, List.length_append]
  simp only [List.foldl_cons, List.foldl_nil, List.length_cons, List.length_nil]
  unfold wt at *
  omega
/-- The row of conflicts within may is sorted. -/
theorem psort_any (may : Nat) (pw pl : Nat) (nv mv : Value) (l wl : List Int) (sa wa : Option Addr) (cap wcap base : Nat) (v : Value) (w : World) (H : BW w pw pl nv mv l wl sa wa cap wcap) (h19 : l.length ≤ 19)
    (hc : ∀ c ∈ l, ∃ m : Nat, c = m ∧ m < 2 ^ wl.length) (hn : wl.length ≤ 16) (hw : ∀ z ∈ wl, 0 ≤ z ∧ z ≤ 16384) (how : w.ownsRow base 3 1 v (ordN may l).length ((ordN may l).map fun (j : Nat) => .int .i64 j))
    (h1 : pw < base) (h2 : pl < base) (h3 : ∀ b, (Value.slice sa l.length cap).ownBlock = some b → b < base) (h4 : ∀ b, (Value.slice wa wl.length wcap).ownBlock = some b → b < base) (hbase : base ≤ w.heap.size) :
    Calls Try.prog 43 #[v, .func (.func 44) #[] #[.pointer (some ⟨pw, 0, none⟩), .pointer (some ⟨pl, 0, none⟩)]] w fun e w' => e = .returned (.tuple #[]) ∧ ∃ zs : List Nat, zs.Perm (ordN may l) ∧ zs.Pairwise (lexN wl l) ∧
      w'.ownsRow base 3 1 v zs.length (zs.map fun (j : Nat) => .int .i64 j) ∧ BW w' pw pl nv mv l wl sa wa cap wcap ∧ Below base w w' := by
  rcases how.2 with ⟨rfl, h0⟩ | ⟨g, gcap, cur, rfl, hg, hgg, hnc, hm, hs, ht⟩
  · have hx : ordN may l = [] := List.length_eq_zero_iff.1 h0
    refine (stable_none 0 _ w).mono ?_
    rintro e w' ⟨rfl, rfl⟩
    exact ⟨rfl, [], by rw [hx], List.Pairwise.nil, World.ownsRow_nil _ _ _ _, H, Below.refl _ _⟩
  · rw [Nat.mul_one] at ht hs
    have hB : Blk w g (((ordN may l).map fun (j : Nat) => (j : Int)).map (.int .i64) ++ cur.toList.drop (ordN may l).length) 3 := by
      unfold Blk
      rw [hgg]
      have e : ((ordN may l).map fun (j : Nat) => (j : Int)).map (Value.int .i64) = (ordN may l).map fun (j : Nat) => .int .i64 j := by rw [List.map_map]; rfl
      rw [e, ← ht, List.take_append_drop]
    have hle := ordN_len may l
    have hsort := stable_any (fun i => -(wt wl l i.toNat)) 44 #[.pointer (some ⟨pw, 0, none⟩), .pointer (some ⟨pl, 0, none⟩)] ((ordN may l).map fun (j : Nat) => (j : Int)) (cur.toList.drop (ordN may l).length) g gcap
      (fun W => BW W pw pl nv mv l wl sa wa cap wcap) (fun W W' h k => h.chg k (by omega) (by omega) (fun b hb => by have := h3 b hb; omega) (fun b hb => by have := h4 b hb; omega))
      (by
        refine List.pairwise_map.2 ?_
        unfold ordN
        exact (List.Pairwise.filter _ List.pairwise_lt_range).imp fun h => by omega)
      (by rw [List.length_map]; omega) (by rw [List.length_map]; exact hnc) (by kernel_rfl) ?_ w H hB
    · rw [List.length_map] at hsort
      refine hsort.mono ?_
      rintro e w' ⟨rfl, ys, g1, g2, g3, g4⟩
      obtain ⟨zs, rfl, g5, g6⟩ := nats_of g1 g2
      have hl : zs.length = (ordN may l).length := g5.length_eq
      refine ⟨rfl, zs, g5, g6, ?_, H.chg g4 (by omega) (by omega) (fun b hb => by have := h3 b hb; omega) (fun b hb => by have := h4 b hb; omega), g4.below hbase (by simp; omega)⟩
      have e : (zs.map fun (j : Nat) => (j : Int)).map (Value.int .i64) = zs.map fun (j : Nat) => .int .i64 j := by rw [List.map_map]; rfl
      rw [e] at g3
      refine ⟨by simp, .inr ⟨g, gcap, _, by rw [hl], hg, g3, by rw [hl]; exact hnc, hm, ?_, ?_⟩⟩
      · have e5 : cur.toList.length = cur.size := Array.length_toList
        simp only [List.size_toArray, List.length_append, List.length_map, List.length_drop, e5]; omega
      · rw [List.toList_toArray, Nat.mul_one, List.take_append_of_le_length (by simp), List.take_of_length_le (by simp)]
    · intro W x y hW hx hy
      obtain ⟨a, ha, rfl⟩ := List.mem_map.1 hx
      obtain ⟨b, hb, rfl⟩ := List.mem_map.1 hy
      unfold ordN at ha hb
      have ha2 := List.mem_range.1 (List.mem_filter.1 ha).1
      have hb2 := List.mem_range.1 (List.mem_filter.1 hb).1
      refine (bcmp_any a b pw pl nv mv l wl sa wa cap wcap W hW ha2 hb2 (by omega) hc hn hw).mono ?_
      rintro e w' ⟨rfl, hbl⟩
      refine ⟨_, rfl, ?_, hbl⟩
      rw [cmpI_neg]
      simp only [Int.toNat_natCast]
      omega
set_option maxRecDepth 100000 in
set_option maxHeartbeats 3200000 in
theorem pbound_any (n may : Nat) (l wl : List Int) (sa wa : Option Addr) (cap wcap : Nat) (hv : valid n may l) (hw : wts n wl) (h12 : l.length ≤ 19) (w : World) (hl : Sl w 1 (.slice sa l.length cap) l.length (l.map (.int .i64))) (hr : ∀ z ∈ l, rg z)
    (hwl : Sl w 1 (.slice wa wl.length wcap) wl.length (wl.map (.int .i64))) :
    Calls Try.prog 23 #[.int .i64 n, .int .i64 may, .slice sa l.length cap, .slice wa wl.length wcap] w fun e w' => ∃ v, e = .returned (.tuple #[.int .i64 (bndV wl l may), v, .int .i64 0]) ∧ w'.ownsRow w.heap.size 3 1 v (bndL wl l may).length ((bndL wl l may).map fun (j : Nat) => .int .i64 j) ∧ Below w.heap.size w w' := by
  obtain ⟨hn16, hmayM, hll', hv2⟩ := valid_nat hv
  have hp2 := pow16 hn16
  have hmay : may < 65536 := by omega
  have hll : l.length ≤ 1000000 := by omega
  have HWN : Hid (wl.length = n) := Lib.hid (by have := hw.1; omega)
  have hcn : ∀ c ∈ l, ∃ m : Nat, c = m ∧ m < 2 ^ wl.length := fun c hc => ⟨c.toNat, by have := hv2 c hc; omega, by have := hv2 c hc; rw [HWN.out]; omega⟩
  have hcne : ∀ i, i < l.length → cnf l i ≠ 0 := fun i hi => by
    unfold cnf
    rw [List.getD_eq_getElem?_getD, List.getElem?_eq_getElem hi, Option.getD_some]
    have := hv2 _ (List.getElem_mem hi)
    omega
  have hcni : ∀ i (hi : i < l.length), l[i] = (cnf l i : Int) ∧ cnf l i < 65536 := fun i hi => by
    unfold cnf
    rw [List.getD_eq_getElem?_getD, List.getElem?_eq_getElem hi, Option.getD_some]
    have := hv2 _ (List.getElem_mem hi)
    omega
  obtain ⟨W0, hW0⟩ : ∃ W0, w.alloc (.cells #[.slice sa l.length cap] 24) = W0 := ⟨_, rfl⟩
  have b0 : Below w.heap.size w W0 := by rw [← hW0]; exact alloc_below _ _
  have y0 : Blk W0 w.heap.size [.slice sa l.length cap] 24 := by rw [← hW0]; exact Blk.new _ _ _
  have c0 : W0.cell? ⟨w.heap.size, 0, none⟩ = some (.slice sa l.length cap) := y0.cell rfl
  have s0 : Hid (W0.heap.size = w.heap.size + 1) := Lib.hid (by rw [← hW0]; simp)
  obtain ⟨W1, hW1⟩ : ∃ W1, W0.alloc (.cells #[.int .i64 n, .int .i64 may, .slice sa l.length cap, .slice wa wl.length wcap] 61) = W1 := ⟨_, rfl⟩
  have b1 : Below w.heap.size w W1 := by rw [← hW1]; exact b0.alloc (by have := s0.out; omega) _
  have k1 : Blk W1 W0.heap.size [.int .i64 n, .int .i64 may, .slice sa l.length cap, .slice wa wl.length wcap] 61 := by rw [← hW1]; exact Blk.new _ _ _
  have y1 : Blk W1 w.heap.size [.slice sa l.length cap] 24 := by rw [← hW1]; exact y0.alloc _
  have hC : Cells W1 W0.heap.size 0 [.int .i64 n, .int .i64 may, .slice sa l.length cap, .slice wa wl.length wcap] := k1.cells 0 _ rfl
  have h := pwvalid_any n may l wl sa wa cap wcap (by unfold rg; omega) (rg_nat hmay) W1 (hl.below b1) hll hr (hwl.below b1) (by have := HWN.out; omega)
  rw [decide_eq_true hv, decide_eq_true hw, Bool.and_self] at h
  have hX1 : BW W1 W0.heap.size w.heap.size (.int .i64 n) (.int .i64 may) l wl sa wa cap wcap := ⟨k1, y1, hl.below b1, hwl.below b1⟩
  clear y0 hv hr
  go_enter Try.func23, Try.ntmps23
  go_wp2_with (refine wpList_load_agg [.int .i64 n, .int .i64 may, .slice sa l.length cap, .slice wa wl.length wcap] hC rfl rfl rfl aggW infoW ?_)
  refine h.mono ?_
  clear h hC
  rintro e w2 ⟨rfl, hb⟩
  have b2 := b1.trans (hb.mono b1.size)
  have hX2 := hX1.below hb
  obtain ⟨P, hP⟩ : ∃ P, W0.heap.size = P := ⟨_, rfl⟩
  obtain ⟨B, hB⟩ : ∃ B, w.heap.size = B := ⟨_, rfl⟩
  rw [hP, hB] at hX2
  have hP2 : P < w2.heap.size := hX2.bw.lt
  have hBP : P = B + 1 := by have := s0.out; omega
  have HBP := Lib.hid hBP; clear hBP
  clear hX1 k1 y1 hW0 hW1 c0
  have c2 : w2.cell? ⟨B, 0, none⟩ = some (.slice sa l.length cap) := hX2.bl.cell rfl
  go_wp2
  go_loopw [12, 31] (fun v c wr => ∃ (k : Nat) (L : List Nat), k ≤ l.length ∧ c = .int .i64 k ∧ L = (List.range k).filter (fun i => sub (l.getD i 0) may) ∧ wr.ownsRow w2.heap.size 3 1 v L.length (L.map fun (j : Nat) => .int .i64 j) ∧ Below w2.heap.size w2 wr) (fun _ c _ => l.length - (vInt c).toNat)
  case atStart => exact ⟨0, [], by omega, rfl, rfl, World.ownsRow_nil _ _ _ _, Below.refl _ _⟩
  case round =>
    obtain ⟨k, L, hk, rfl, hL, how, hbr⟩ := hrel
    have hLl : L.length ≤ k := by
      rw [hL]
      have := List.length_filter_le (fun i => sub (l.getD i 0) may) (List.range k)
      rwa [List.length_range] at this
    by_cases hkl : k < l.length
    · have hX3 := hX2.below hbr
      obtain ⟨b, o, rfl, _, _, hCt, hbt⟩ := sl_split hX3.sl (by omega)
      obtain ⟨x, hx⟩ : ∃ x, x = l[k] := ⟨_, rfl⟩
      have cx : wr.cell? ⟨b, o + k, none⟩ = some (.int .i64 x) := hCt k _ (by simp [hkl, hx])
      have hst := ordN_take may l k
      rw [← hL, show l.getD k 0 = x by rw [hx]; simp [hkl]] at hst
      clear hx
      have HST := Lib.hid hst; clear hst
      have HL := Lib.hid hL; clear hL
      go_wp2_with (fail)
      refine (contains_any may x wr).mono ?_
      rintro e w3 ⟨rfl, rfl⟩
      cases hs : sub x may with
      | false =>
        go_wp2
        go_roundw
        case rel => exact ⟨k + 1, L, by omega, by go_num, by rw [HST.out, hs]; simp, how, hbr⟩
        case measure => simp [vInt]; omega
      | true =>
        have hbsz := hbr.size
        have HOW := how.alloc (.cells #[.int .i64 k] 3)
        go_wp2_with (refine wpList_append_sl rfl _ _ 22 rfl w2.heap.size 3 (.int .i64 0) 1 8 hTint infoInt rfl (by decide) _ L.length _ rfl HOW _ 1 [.int .i64 k] rfl (sl_new _ _ _ 1 rfl (by decide)) (by intro u hu; simp at hu; rw [hu]; rfl) (by unfold maxLen; omega) (by omega) (by simp; omega) ?_)
        intro v' w' h1 h2
        have hb9 : Below w2.heap.size w2 w' := grown_below (hbr.trans ((alloc_below _ _).mono hbsz)) HOW h2 (by simp; omega)
        go_wp2
        go_roundw
        case rel =>
          refine ⟨k + 1, L ++ [k], by omega, by go_num, by rw [HST.out, hs]; simp, ?_, hb9⟩
          rw [List.length_append, List.map_append]; exact h1
        case measure => simp [vInt]; omega
    · obtain rfl : k = l.length := by omega
      have hL2 : L = ordN may l := hL
      clear hL
      rw [hL2] at how
      clear hL2 hLl
      have hX3 := hX2.below hbr
      have hsl : ∀ b, (Value.slice sa l.length cap).ownBlock = some b → b < w2.heap.size := sl_block hX2.sl
      have hsw : ∀ b, (Value.slice wa wl.length wcap).ownBlock = some b → b < w2.heap.size := sl_block hX2.sw
      have hsort := psort_any may P B (.int .i64 n) (.int .i64 may) l wl sa wa cap wcap w2.heap.size u12 wr hX3 h12 hcn (by have := HWN.out; omega) hw.2 how hP2 hX2.bl.lt hsl hsw hbr.size
      go_wp2_with (go_at_call 43; refine hsort.mono ?_)
      clear hsort
      rintro e w4 ⟨rfl, zs, z1, z2, z3, z4, z5⟩
      have hzl : zs.length ≤ l.length := by rw [z1.length_eq]; exact ordN_len _ _
      have hzm : ∀ i ∈ zs, i < l.length := fun i hi => by
        have : i ∈ ordN may l := z1.subset hi
        unfold ordN at this
        exact List.mem_range.1 (List.mem_filter.1 this).1
      have hgl : (gre l zs 0).length ≤ l.length := Nat.le_trans (gre_sub l zs 0).length_le hzl
      have hbl := bound_law z1 z2 hcne
      have hout := out_sorted z1 z2 hcne
      have hbv : bndV wl l may = (gre l zs 0).foldl (fun a i => a - wt wl l i) (wsum wl may 16) := by unfold bndV; rw [hbl]
      have HOUT := Lib.hid hout; clear hout
      have HBV := Lib.hid hbv; clear hbv hbl
      have b4 : Below w2.heap.size w2 w4 := hbr.trans z5
      have hsl4 := Sl.of_owns z3
      obtain ⟨oa, ocap, rfl, hob⟩ := own_slice z3
      clear z3 how hbr hX3 hX2 z5
      have hC4 : Cells w4 P 0 [.int .i64 n, .int .i64 may, .slice sa l.length cap, .slice wa wl.length wcap] := z4.bw.cells0
      have hof := of_any wl may (.int .i64 n) (.int .i64 may) (.slice sa l.length cap) wa wcap hmay w4 z4.sw (fun j hj => by have := bits_of_lt hmayM hj; have := HWN.out; omega) hw.2
      have hw0 := wsum_rg hw.2 may 16
      obtain ⟨s0', hs0'⟩ : ∃ s, s = wsum wl may 16 := ⟨_, rfl⟩
      rw [← hs0'] at HBV hof hw0
      clear hs0'
      go_wp2_with (refine wpList_load_agg [.int .i64 n, .int .i64 may, .slice sa l.length cap, .slice wa wl.length wcap] hC4 rfl rfl rfl aggW infoW ?_)
      refine hof.mono ?_
      clear hof hC4
      rintro e w5 ⟨rfl, b5⟩
      have z5 := z4.below b5
      have hsl5 := hsl4.below b5
      have b25 : Below w2.heap.size w2 w5 := b4.trans (b5.mono b4.size)
      clear z4 hsl4 b4 b5 hsl hsw
      go_wp2
      go_loopw [15, 16, 17, 52] (fun bv uv ov c wr => ∃ (k u : Nat) (T : List Nat), k ≤ zs.length ∧ c = .int .i64 k ∧ uv = .int .i64 u ∧ u < 65536 ∧ bv = .int .i64 (T.foldl (fun a i => a - wt wl l i) s0') ∧ gre l zs 0 = T ++ gre l (zs.drop k) u ∧ wr.ownsRow w5.heap.size 3 1 ov T.length (T.map fun (j : Nat) => .int .i64 j) ∧ Below w5.heap.size w5 wr) (fun _ _ _ c _ => zs.length - (vInt c).toNat)
      case atStart => exact ⟨0, 0, [], by omega, rfl, rfl, by omega, rfl, rfl, World.ownsRow_nil _ _ _ _, Below.refl _ _⟩
      case round =>
        obtain ⟨k, u, T, hk, rfl, rfl, hu, rfl, hT, how, hbr⟩ := hrel
        have hTl : T.length ≤ 19 := by
          have := congrArg List.length hT
          rw [List.length_append] at this
          omega
        have hrb := bnd_rg (l := l) hw.2 T s0'
        obtain ⟨bv, hbv⟩ : ∃ b, b = T.foldl (fun a i => a - wt wl l i) s0' := ⟨_, rfl⟩
        rw [← hbv] at hrb ⊢
        have HBT := Lib.hid hbv; clear hbv
        have zr := z5.below hbr
        by_cases hkz : k < zs.length
        · obtain ⟨i, hi⟩ : ∃ i, i = zs[k] := ⟨_, rfl⟩
          have hil : i < l.length := by rw [hi]; exact hzm _ (List.getElem_mem _)
          have hgd := gre_drop (l := l) (u := u) hkz
          rw [← hi] at hgd
          obtain ⟨ob, oo, rfl, _, _, hCo, hbo⟩ := sl_split hsl5 (by omega)
          have ci : wr.cell? ⟨ob, oo + k, none⟩ = some (.int .i64 i) := (hCo.below hbr hbo) k _ (by simp [hkz, hi])
          clear hi
          obtain ⟨lb, lo, rfl, _, _, hCl, hbl⟩ := sl_split zr.sl (by omega)
          obtain ⟨hci, hci2⟩ := hcni i hil
          have cl2 : wr.cell? ⟨lb, lo + i, none⟩ = some (.int .i64 (cnf l i : Nat)) := hCl i _ (by simp [hil, hci])
          have cB : wr.cell? ⟨B, 0, none⟩ = some (.slice (some ⟨lb, lo, none⟩) l.length cap) := zr.bl.cell rfl
          have hii : (i : Int) < l.length := by omega
          have hkk : (k : Int) < zs.length := by omega
          obtain ⟨c, hc⟩ : ∃ c, c = cnf l i := ⟨_, rfl⟩
          have hcb : ∀ j, c.testBit j = true → j < wl.length := fun j hj => by
            obtain ⟨m, hm1, hm2⟩ := hcn _ (List.getElem_mem hil)
            have : c = m := by rw [hc]; omega
            rw [this] at hj
            exact bits_of_lt hm2 hj
          rw [← hc] at hci2 cl2 hgd
          have hwt : wt wl l i = wmin wl c 16 := by rw [hc]; rfl
          clear hci
          have HC := Lib.hid hc; clear hc
          have hand : bits .and .i64 (c : Int) (u : Int) = ((c &&& u : Nat) : Int) := Go.Ib.b_and c u (by omega) (by omega)
          by_cases hd : c &&& u = 0
          · rw [hd] at hand
            rw [if_pos hd] at hgd
            have HGD := Lib.hid hgd; clear hgd
            have hor2 : bits .or .i64 (u : Int) (c : Int) = ((u ||| c : Nat) : Int) := Go.Ib.b_or u c (by omega) (by omega)
            have huc : u ||| c < 65536 := Nat.or_lt_two_pow (n := 16) hu hci2
            obtain ⟨u2, hu2⟩ : ∃ x, x = u ||| c := ⟨_, rfl⟩
            rw [← hu2] at hor2 huc HGD
            clear hu2 hd
            have hlt := fun W hW => pleast_any wl c (.int .i64 n) (.int .i64 may) (.slice (some ⟨lb, lo, none⟩) l.length cap) wa wcap hci2 W hW hcb hw.2
            rw [← hwt] at hlt
            have hmr := wmin_rg hw.2 c 16
            rw [← hwt] at hmr
            clear hwt
            obtain ⟨m, hm⟩ : ∃ m, m = wt wl l i := ⟨_, rfl⟩
            simp only [← hm] at hlt hmr
            have HMM := Lib.hid hm; clear hm
            have hcell : ∀ U, BW U P B (.int .i64 n) (.int .i64 may) l wl (some ⟨lb, lo, none⟩) wa cap wcap → U.cell? ⟨lb, lo + i, none⟩ = some (.int .i64 c) := fun U hU => by
              obtain ⟨g', o', e, _, _, hCC, _⟩ := sl_split hU.sl (by omega)
              injection e with e; injection e with e1 e2 e3
              subst e1 e2
              exact hCC i _ (by simp [hil, (hcni i hil).1, HC.out])
            go_wp2
            refine wp_region_sqB 8 [1, 2, 5, 6] (fun i v W => match i with
              | 1 => v = .agg #[.int .i64 n, .int .i64 may, .slice (some ⟨lb, lo, none⟩) l.length cap, .slice wa wl.length wcap]
              | 2 => v = .slice (some ⟨lb, lo, none⟩) l.length cap
              | 5 => v = .int .i64 c
              | 6 => v = .int .i64 m
              | _ => True) (by kernel_rfl) (by kernel_rfl) ?stable ?main
            case stable =>
              intro i v W W' h hb
              match i, h with
              | 0, h => exact h
              | 1, h => exact h
              | 2, h => exact h
              | 3, h => exact h
              | 4, h => exact h
              | 5, h => exact h
              | 6, h => exact h
              | _ + 7, _ => exact trivial
            simp only [List.take_succ_cons, List.take_zero, List.drop_succ_cons, List.drop_zero]
            refine sqw_quiet rfl rfl (ExtB.refl _) ?_; go_big_quiet_step (fail); refine wpQuiet_nil ?_
            refine sqw_postY rfl rfl rfl ?_ ?_
            · intro W1 hb hf
              have hU := zr.below (ExtB.undrew hb)
              exact yields_value (load_agg_exec rfl rfl (run_load_agg (P := Try.prog) (ty := 61) hU.bw.cells0 aggW infoW)) ⟨rfl, ExtB.refl _⟩
            intro v Wj hv
            obtain rfl : v = .agg #[.int .i64 n, .int .i64 may, .slice (some ⟨lb, lo, none⟩) l.length cap, .slice wa wl.length wcap] := hv
            simp only [Act.put, List.setIfInBounds_toArray, List.set_cons_zero, List.set_cons_succ]
            refine sqw_postY rfl rfl rfl ?_ ?_
            · intro W1 hb hf
              have cx : W1.cell? ⟨B, 0, none⟩ = some (.slice (some ⟨lb, lo, none⟩) l.length cap) := (zr.below (ExtB.undrew hb)).bl.cell rfl
              refine yields_value (v := .slice (some ⟨lb, lo, none⟩) l.length cap) (w' := W1) ?_ ⟨rfl, ExtB.refl _⟩
              go_simp
            intro v Wj hv
            obtain rfl : v = .slice (some ⟨lb, lo, none⟩) l.length cap := hv
            simp only [Act.put, List.setIfInBounds_toArray, List.set_cons_zero, List.set_cons_succ]
            iterate 2 (refine sqw_quiet rfl rfl (ExtB.refl _) ?_; go_big_quiet_step (fail); refine wpQuiet_nil ?_)
            refine sqw_postY rfl rfl rfl ?_ ?_
            · intro W1 hb hf
              have cx := hcell W1 (zr.below (ExtB.undrew hb))
              refine yields_value (v := .int .i64 c) (w' := W1) ?_ ⟨rfl, ExtB.refl _⟩
              go_simp
            intro v Wj hv
            obtain rfl : v = .int .i64 c := hv
            simp only [Act.put, List.setIfInBounds_toArray, List.set_cons_zero, List.set_cons_succ]
            refine sqw_postY rfl rfl rfl ?_ ?_
            · intro W1 hb hf
              refine yields_call rfl (by kernel_rfl) rfl rfl ((hlt _ (zr.below (ExtB.undrew hb)).sw).mono ?_)
              rintro e w6 ⟨rfl, b6⟩
              exact ⟨_, rfl, rfl, b6⟩
            intro v Wj hv
            obtain rfl : v = .int .i64 m := hv
            simp only [Act.put, List.setIfInBounds_toArray, List.set_cons_zero, List.set_cons_succ]
            refine sqw_quiet rfl rfl (ExtB.refl _) ?_; go_big_quiet_step (fail); refine wpQuiet_nil ?_
            intro w6 hb6 _
            have bw6 : Below wr.heap.size wr w6 := ExtB.undrew hb6
            have X6 := zr.below bw6
            have c6 : w6.cell? ⟨lb, lo + i, none⟩ = some (.int .i64 c) := hcell w6 X6
            have cB6 : w6.cell? ⟨B, 0, none⟩ = some (.slice (some ⟨lb, lo, none⟩) l.length cap) := X6.bl.cell rfl
            have how6 := own_below how bw6
            have hbr6 : Below w5.heap.size w5 w6 := hbr.trans (bw6.mono hbr.size)
            have hsz6 := hbr6.size
            have HOW := how6.alloc (.cells #[.int .i64 i] 3)
            go_wp2_with (refine wpList_append_sl rfl _ _ 22 rfl w5.heap.size 3 (.int .i64 0) 1 8 hTint infoInt rfl (by decide) _ T.length _ rfl HOW _ 1 [.int .i64 i] rfl (sl_new _ _ _ 1 rfl (by decide)) (by intro u hu; simp at hu; rw [hu]; rfl) (by unfold maxLen; omega) (by omega) (by simp; omega) ?_)
            intro v' w' h1 h2
            have hb9 : Below w5.heap.size w5 w' := grown_below (hbr6.trans ((alloc_below _ _).mono hsz6)) HOW h2 (by simp; omega)
            go_wp2
            go_roundw
            case rel =>
              refine ⟨k + 1, u2, T ++ [i], by omega, by go_num, rfl, huc, ?_, ?_, ?_, hb9⟩
              · rw [List.foldl_append, ← HBT.out]
                simp only [List.foldl_cons, List.foldl_nil]
                rw [← HMM.out]
              · rw [hT, HGD.out]; simp
              · rw [List.length_append, List.map_append]; exact h1
            case measure => simp [vInt]; omega
          · rw [if_neg hd] at hgd
            have HGD := Lib.hid hgd; clear hgd
            have hd0 : (((c &&& u : Nat) : Int) == 0) = false := beq_eq_false_iff_ne.2 (by omega)
            obtain ⟨d, hdd⟩ : ∃ d, d = c &&& u := ⟨_, rfl⟩
            rw [← hdd] at hand hd0
            clear hdd hd
            go_wp2
            go_roundw
            case rel => exact ⟨k + 1, u, T, by omega, by go_num, rfl, hu, by rw [HBT.out], by rw [hT, HGD.out], how, hbr⟩
            case measure => simp [vInt]; omega
        · obtain rfl : k = zs.length := by omega
          have hT2 : T = gre l zs 0 := by rw [hT, List.drop_length]; simp [gre]
          have hTS := HOUT.out
          rw [← hT2] at hTS
          have hbv2 : bv = bndV wl l may := by rw [HBV.out, HBT.out, hT2]
          have e : T.map (fun (j : Nat) => Value.int .i64 j) = (T.map fun (j : Nat) => (j : Int)).map (.int .i64) := by rw [List.map_map]; rfl
          rw [e, show T.length = (T.map fun (j : Nat) => (j : Int)).length by rw [List.length_map]] at how
          have hso : Calls Try.prog 47 #[u17] wr _ := sort_own Try.sortA how (by rw [List.length_map]; omega)
          rw [hTS] at hso
          have HT2 := Lib.hid hT2; clear hT2 hTS hT e
          have HBV2 := Lib.hid hbv2; clear hbv2
          have hlen : (T.map fun (j : Nat) => (j : Int)).length = (bndL wl l may).length := by
            have := congrArg List.length HOUT.out
            rw [← HT2.out, List.length_mergeSort, List.length_map, List.length_map] at this
            rw [List.length_map]; exact this
          have HLEN := Lib.hid hlen; clear hlen
          go_wp2_with (go_at_call 47; refine hso.mono ?_)
          clear hso
          rintro e w6 ⟨rfl, ho6, hb6⟩
          have hb6' := hb6 w5.heap.size hbr.size (Nat.le_refl _)
          rw [HLEN.out] at ho6
          go_wp2
          go_ret3
          rw [HBV2.out]
          have e2 : (bndL wl l may).map (fun (j : Nat) => Value.int .i64 j) = ((bndL wl l may).map fun (j : Nat) => (j : Int)).map (.int .i64) := by rw [List.map_map]; rfl
          rw [e2, hB]
          have s2 := b2.size
          have s25 := b25.size
          exact ⟨_, rfl, own_weaken ho6 (by omega), (hB ▸ b2 : Below B w w2).trans ((b25.mono (by omega)).trans ((hbr.trans hb6').mono (by omega)))⟩
end Go.Proofs.Ytnkglahiagigoaa

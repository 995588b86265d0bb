/- theory: the program's Best. -/
import Derived.Test.YtnkglahiagigoaaF6
namespace Go.Theory
open Go.RowKit Go.Own
def bstep (f : Nat → Int) (p : Nat × Int) (s : Nat) : Nat × Int := if p.2 < f s then (s, f s) else p
/-- the first heaviest of a list -/
def pbest (f : Nat → Int) (T : List Nat) : Nat × Int := T.foldl (bstep f) (0, -1)
theorem pbest_snoc (f : Nat → Int) (T : List Nat) (s : Nat) : pbest f (T ++ [s]) = bstep f (pbest f T) s := by unfold pbest; rw [List.foldl_append]; rfl
theorem pbest_take (f : Nat → Int) {T : List Nat} {k : Nat} (h : k < T.length) : pbest f (T.take (k + 1)) = bstep f (pbest f (T.take k)) T[k] := by
  rw [List.take_succ_eq_append_getElem h, pbest_snoc]
theorem theories_lt {n may : Nat} {l : List Int} {s : Nat} (h : s ∈ theories n may l) : s < 2 ^ n := by
  unfold theories theoriesTo at h
  exact List.mem_range.1 (List.mem_filter.1 h).1
theorem theories_thy {n may : Nat} {l : List Int} {s : Nat} (h : s ∈ theories n may l) : theory n may l s := by
  unfold theories theoriesTo at h
  exact of_decide_eq_true (List.mem_filter.1 h).2
theorem wsum_ext {wl : List Int} (s : Nat) : ∀ k, wsum wl s (wl.length + k) = wsum wl s wl.length
  | 0 => rfl
  | k + 1 => by
    rw [← Nat.add_assoc, wsum, wsum_ext s k]
    have : wl.getD (wl.length + k) 0 = 0 := by rw [List.getD_eq_getElem?_getD, List.getElem?_eq_none (by omega)]; rfl
    rw [this]
    split <;> omega
theorem wsum16 {wl : List Int} (s : Nat) (h : wl.length ≤ 16) : wsum wl s 16 = wsum wl s wl.length := by
  have := wsum_ext (wl := wl) s (16 - wl.length)
  rwa [show wl.length + (16 - wl.length) = 16 by omega] at this
theorem wmin_ext {wl : List Int} {s : Nat} (hb : ∀ k, s.testBit k = true → k < wl.length) : ∀ k, wmin wl s (wl.length + k) = wmin wl s wl.length
  | 0 => rfl
  | k + 1 => by
    rw [← Nat.add_assoc, wmin, wmin_ext hb k]
    have : s.testBit (wl.length + k) = false := by
      cases h : s.testBit (wl.length + k) with
      | false => rfl
      | true => have := hb _ h; omega
    rw [this]; rfl
theorem wmin16 {wl : List Int} {s : Nat} (hb : ∀ k, s.testBit k = true → k < wl.length) (h : wl.length ≤ 16) : wmin wl s 16 = wmin wl s wl.length := by
  have := wmin_ext hb (16 - wl.length)
  rwa [show wl.length + (16 - wl.length) = 16 by omega] at this
end Go.Theory
namespace Go.Proofs.Ytnkglahiagigoaa
open Go.RowKit Go.Own Go.Theory Go.BigFrame Go.Shelf
theorem aggW : (match Try.prog.underlying 61 with | some (.struct _) | some (.array _ _) => true | _ => false) = true := by kernel_rfl
theorem infoW : (Try.prog.info? 61).map (·.size) = some 4 := by kernel_rfl
set_option maxRecDepth 100000 in
theorem pbest_bad (n may : Int) (l wl : List Int) (sa wa : Option Addr) (cap wcap : Nat) (hn : rg n) (hm : rg may) (hv : ¬ (valid n may l ∧ wts n wl)) (w : World) (hl : Sl w 1 (.slice sa l.length cap) l.length (l.map (.int .i64))) (hll : l.length ≤ 1000000) (hr : ∀ z ∈ l, rg z)
    (hwl : Sl w 1 (.slice wa wl.length wcap) wl.length (wl.map (.int .i64))) (hwll : wl.length ≤ 1000000) :
    Calls Try.prog 21 #[.int .i64 n, .int .i64 may, .slice sa l.length cap, .slice wa wl.length wcap] w fun e w' => e = .returned (.tuple #[.int .i64 0, .int .i64 0, .int .i64 1]) ∧ Below w.heap.size w w' := by
  obtain ⟨W1, hW1⟩ : ∃ W1, w.alloc (.cells #[.int .i64 n, .int .i64 may, .slice sa l.length cap, .slice wa wl.length wcap] 61) = W1 := ⟨_, rfl⟩
  have b1 : Below w.heap.size w W1 := by rw [← hW1]; exact alloc_below _ _
  have h := pwvalid_any n may l wl sa wa cap wcap hn hm W1 (hl.below b1) hll hr (hwl.below b1) hwll
  rw [show (decide (valid n may l) && decide (wts n wl)) = false by rw [← Bool.decide_and]; exact decide_eq_false hv] at h
  have k1 : Blk W1 w.heap.size [.int .i64 n, .int .i64 may, .slice sa l.length cap, .slice wa wl.length wcap] 61 := by rw [← hW1]; exact Blk.new _ _ _
  have hC : Cells W1 w.heap.size 0 [.int .i64 n, .int .i64 may, .slice sa l.length cap, .slice wa wl.length wcap] := k1.cells 0 _ rfl
  go_enter Try.func21, Try.ntmps21
  go_wp2_with (refine wpList_load_agg [.int .i64 n, .int .i64 may, .slice sa l.length cap, .slice wa wl.length wcap] hC rfl rfl rfl aggW infoW ?_)
  refine h.mono ?_
  rintro e w2 ⟨rfl, hb⟩
  go_wp2
  go_ret3
  exact ⟨rfl, b1.trans (hb.mono b1.size)⟩
set_option maxRecDepth 100000 in
set_option maxHeartbeats 1600000 in
theorem pbest_any (n may : Nat) (l wl : List Int) (sa wa : Option Addr) (cap wcap : Nat) (hv : valid n may l) (hw : wts n wl) (w : World) (hl : Sl w 1 (.slice sa l.length cap) l.length (l.map (.int .i64))) (hr : ∀ z ∈ l, rg z)
    (hwl : Sl w 1 (.slice wa wl.length wcap) wl.length (wl.map (.int .i64))) :
    Calls Try.prog 21 #[.int .i64 n, .int .i64 may, .slice sa l.length cap, .slice wa wl.length wcap] w fun e w' => e = .returned (.tuple #[.int .i64 ((pbest (fun s => wsum wl s 16) (theories n may l)).1 : Int), .int .i64 (pbest (fun s => wsum wl s 16) (theories n may l)).2, .int .i64 0]) ∧ Below w.heap.size w w' := by
  have hn16 : n ≤ 16 := by have := hv.2.1; omega
  have hp2 := pow16 hn16
  have hmay : may < 65536 := by
    have h := hv.2.2.2.2.1
    rw [show ((2 : Int) ^ (n : Int).toNat) = ((2 ^ n : Nat) : Int) by simp] at h
    omega
  have hll : l.length ≤ 1000000 := by have := hv.2.2.1; omega
  have HWN : Hid (wl.length = n) := Lib.hid (by have := hw.1; omega)
  obtain ⟨W1, hW1⟩ : ∃ W1, w.alloc (.cells #[.int .i64 n, .int .i64 may, .slice sa l.length cap, .slice wa wl.length wcap] 61) = W1 := ⟨_, rfl⟩
  have b1 : Below w.heap.size w W1 := by rw [← hW1]; exact alloc_below _ _
  have h := pwvalid_any n may l wl sa wa cap wcap (by unfold rg; omega) (rg_nat hmay) W1 (hl.below b1) hll hr (hwl.below b1) (by have := HWN.out; omega)
  rw [decide_eq_true hv, decide_eq_true hw] at h
  have k1 : Blk W1 w.heap.size [.int .i64 n, .int .i64 may, .slice sa l.length cap, .slice wa wl.length wcap] 61 := by rw [← hW1]; exact Blk.new _ _ _
  have hC : Cells W1 w.heap.size 0 [.int .i64 n, .int .i64 may, .slice sa l.length cap, .slice wa wl.length wcap] := k1.cells 0 _ rfl
  have hT := fun s (hs : s ∈ theories n may l) => theories_lt hs
  have ht := fun W h => ptheories_any n may l sa cap hv W h
  obtain ⟨T, hTT⟩ : ∃ T, T = theories n may l := ⟨_, rfl⟩
  rw [← hTT]
  simp only [← hTT] at ht hT
  have hTl : T.length ≤ 65536 := by rw [hTT]; exact Nat.le_trans (theoriesTo_len _ _ _ _) hp2
  clear hv hTT
  go_enter Try.func21, Try.ntmps21
  go_wp2_with (refine wpList_load_agg [.int .i64 n, .int .i64 may, .slice sa l.length cap, .slice wa wl.length wcap] hC rfl rfl rfl aggW infoW ?_)
  refine h.mono ?_
  clear h hC
  rintro e w2 ⟨rfl, hb⟩
  have b2 : Below w.heap.size w w2 := b1.trans (hb.mono b1.size)
  have ht2 := ht w2 (hl.below b2)
  have k2 := k1.below hb k1.lt
  have hC2 : Cells w2 w.heap.size 0 [.int .i64 n, .int .i64 may, .slice sa l.length cap] := k2.cells 0 _ rfl
  clear ht hW1
  go_wp2_with (refine wpList_load_agg [.int .i64 n, .int .i64 may, .slice sa l.length cap] hC2 rfl rfl rfl aggBase infoBase ?_)
  refine ht2.mono ?_
  clear ht2
  rintro e w3 ⟨v, rfl, ho, hb3⟩
  have b3 : Below w.heap.size w w3 := b2.trans (hb3.mono b2.size)
  have k3 := k2.below hb3 k2.lt
  have hsT := Sl.of_owns ho
  obtain ⟨ta, tcap, rfl, _⟩ := own_slice ho
  clear ho hC2
  go_wp2
  go_loopw [12, 13, 30] (fun bv mv c wr => ∃ k : Nat, k ≤ T.length ∧ c = .int .i64 k ∧ bv = .int .i64 ((pbest (fun s => wsum wl s 16) (T.take k)).1 : Int) ∧ mv = .int .i64 (pbest (fun s => wsum wl s 16) (T.take k)).2 ∧ Below w3.heap.size w3 wr) (fun _ _ c _ => T.length - (vInt c).toNat)
  case atStart => exact ⟨0, by omega, rfl, rfl, rfl, Below.refl _ _⟩
  case round =>
    obtain ⟨k, hk, rfl, rfl, rfl, hbr⟩ := hrel
    have bw := b3.trans (hbr.mono b3.size)
    by_cases hkl : k < T.length
    · obtain ⟨b, o, rfl, _, _, hCt, hbt⟩ := sl_split hsT (by omega)
      obtain ⟨s, hs⟩ : ∃ s, s = T[k] := ⟨_, rfl⟩
      have cx : wr.cell? ⟨b, o + k, none⟩ = some (.int .i64 s) := (hCt.below hbr hbt) k _ (by simp [hkl, hs])
      have hsl : s < 2 ^ n := by rw [hs]; exact hT _ (List.getElem_mem _)
      have kr := k3.below hbr k3.lt
      have hCr : Cells wr w.heap.size 0 [.int .i64 n, .int .i64 may, .slice sa l.length cap, .slice wa wl.length wcap] := kr.cells 0 _ rfl
      have hof := of_any wl s (.int .i64 n) (.int .i64 may) (.slice sa l.length cap) wa wcap (by omega) wr (hwl.below bw) (fun j hj => by have := bits_of_lt hsl hj; have := HWN.out; omega) hw.2
      have hst := pbest_take (fun s => wsum wl s 16) hkl
      rw [← hs] at hst
      have HS := Lib.hid hs; clear hs
      have HST := Lib.hid hst; clear hst
      obtain ⟨q, hq⟩ : ∃ q, q = pbest (fun s => wsum wl s 16) (T.take k) := ⟨_, rfl⟩
      rw [← hq] at HST ⊢
      clear hq
      obtain ⟨x, hx⟩ : ∃ x, x = wsum wl s 16 := ⟨_, rfl⟩
      rw [← hx] at hof
      have HX := Lib.hid hx; clear hx
      go_wp2_with (refine wpList_load_agg [.int .i64 n, .int .i64 may, .slice sa l.length cap, .slice wa wl.length wcap] hCr rfl rfl rfl aggW infoW ?_)
      refine hof.mono ?_
      clear hof hCr
      rintro e w4 ⟨rfl, hb4⟩
      have h4 := hbr.trans (hb4.mono hbr.size)
      by_cases hlt : q.2 < x
      · have hn : pbest (fun s => wsum wl s 16) (T.take (k + 1)) = (s, x) := by rw [HST.out, bstep, if_pos (by rw [← HX.out]; exact hlt), ← HX.out]
        have HN := Lib.hid hn; clear hn
        go_wp2
        go_roundw
        case rel => exact ⟨k + 1, by omega, by go_num, by rw [HN.out], by rw [HN.out], h4⟩
        case measure => simp [vInt]; omega
      · have hn : pbest (fun s => wsum wl s 16) (T.take (k + 1)) = q := by rw [HST.out, bstep, if_neg (by rw [← HX.out]; exact hlt)]
        have HN := Lib.hid hn; clear hn
        have hle : x ≤ q.2 := by omega
        clear hlt
        go_wp2
        go_roundw
        case rel => exact ⟨k + 1, by omega, by go_num, by rw [HN.out], by rw [HN.out], h4⟩
        case measure => simp [vInt]; omega
    · obtain rfl : k = T.length := by omega
      rw [List.take_length]
      go_wp2
      go_ret3
      exact ⟨rfl, bw⟩
end Go.Proofs.Ytnkglahiagigoaa

/- theory: the sets that clash. -/
import Derived.Test.YtnkglahiagigoaaF3
namespace Go.Theory
open Go.RowKit Go.Own Go.Ib
/-- a row of bools -/
def bl (n : Nat) (g : Nat → Bool) : List Value := (List.range n).map fun s => Value.bool (g s)
theorem bl_len (n : Nat) (g : Nat → Bool) : (bl n g).length = n := by simp [bl]
theorem bl_get {n i : Nat} (g : Nat → Bool) (h : i < n) : (bl n g)[i]? = some (.bool (g i)) := by simp [bl, h]
theorem bl_congr {n : Nat} {g h : Nat → Bool} (e : ∀ s, s < n → g s = h s) : bl n g = bl n h := by
  unfold bl
  apply List.map_congr_left
  intro s hs
  rw [e s (List.mem_range.1 hs)]
theorem bl_set {n i : Nat} {g : Nat → Bool} {b : Bool} (h : i < n) : (bl n g).set i (.bool b) = bl n fun s => if s = i then b else g s := by
  apply List.ext_getElem?
  intro j
  rw [List.getElem?_set]
  by_cases hj : j < n
  · rw [bl_get _ hj]
    by_cases e : i = j
    · subst e
      rw [if_pos rfl, bl_len, if_pos h, bl_get _ h, if_pos rfl]
    · rw [if_neg e, bl_get _ hj, if_neg (fun h => e h.symm)]
  · have h1 : (bl n g)[j]? = none := List.getElem?_eq_none (by rw [bl_len]; omega)
    have h2 : (bl n fun s => if s = i then b else g s)[j]? = none := List.getElem?_eq_none (by rw [bl_len]; omega)
    rw [h1, h2]
    by_cases e : i = j
    · omega
    · rw [if_neg e]
theorem bl_rep (n : Nat) : List.replicate n (Value.bool false) = bl n fun _ => false := by
  unfold bl
  rw [List.map_const', List.length_range]
/-- s contains a conflict -/
def cl (l : List Int) (s : Nat) : Bool := l.any fun c => sub c s
theorem cl_fst {l : List Int} {s : Nat} : cl l s = decide (0 ≤ fst l s) := by
  unfold cl fst
  rw [Bool.eq_iff_iff, List.any_eq_true, decide_eq_true_iff]
  constructor
  · rintro ⟨c, hc, h⟩
    rw [if_pos (List.findIdx_lt_length.2 ⟨c, hc, h⟩)]; omega
  · intro h
    split at h
    · rename_i hlt
      obtain ⟨x, hx, h2⟩ := List.findIdx_lt_length.1 hlt
      exact ⟨x, hx, h2⟩
    · omega
theorem diff_lt {s x : Nat} (hs : s < 9223372036854775808) (h : s.testBit x = true) : diff s (2 ^ x) < s := by
  have h1 := diff_le s (2 ^ x)
  have h2 : diff s (2 ^ x) ≠ s := fun e => by
    have := diff_bit s (2 ^ x) x hs
    rw [e, h, Nat.testBit_two_pow_self] at this
    cases this
  omega
/-- The table's law. -/
theorem cl_step {n : Nat} {l : List Int} (hn : n ≤ 16) (hv : ∀ c ∈ l, 1 ≤ c ∧ c < ((2 ^ n : Nat) : Int)) {s : Nat} (hs : s < 2 ^ n) :
    cl l s = (decide ((s : Int) ∈ l) || (els s 16).any fun x => cl l (diff s (2 ^ x.1))) := by
  have hp := pow16 hn
  have nat : ∀ c ∈ l, ∃ m : Nat, c = m ∧ m < 2 ^ n := fun c hc => ⟨c.toNat, by have := hv c hc; omega, by have := hv c hc; omega⟩
  have hmem : ∀ x (h : x < 16 ∧ s.testBit x = true), (⟨x, h⟩ : El s) ∈ els s 16 := fun x h => by
    unfold els
    rw [List.mem_filterMap]
    exact ⟨x, List.mem_range.2 h.1, by rw [dif_pos h]⟩
  rw [Bool.eq_iff_iff, Bool.or_eq_true, decide_eq_true_iff, List.any_eq_true]
  unfold cl
  rw [List.any_eq_true]
  constructor
  · rintro ⟨c, hc, h⟩
    obtain ⟨m, rfl, hm⟩ := nat c hc
    rw [subN (by omega) (by omega)] at h
    by_cases e : m = s
    · subst e; exact .inl hc
    · right
      have : ∃ x, s.testBit x = true ∧ m.testBit x = false := by
        apply Classical.byContradiction
        intro hno
        apply e
        apply Nat.eq_of_testBit_eq
        intro x
        cases h1 : s.testBit x with
        | true =>
          cases h2 : m.testBit x with
          | true => rfl
          | false => exact absurd ⟨x, h1, h2⟩ hno
        | false =>
          cases h2 : m.testBit x with
          | false => rfl
          | true => rw [h x h2] at h1; cases h1
      obtain ⟨x, h1, h2⟩ := this
      have hx : x < 16 := Nat.lt_of_lt_of_le (bits_of_lt hs h1) hn
      refine ⟨⟨x, hx, h1⟩, hmem x ⟨hx, h1⟩, ?_⟩
      rw [List.any_eq_true]
      refine ⟨_, hc, ?_⟩
      rw [subN (by omega) (Nat.lt_of_le_of_lt (diff_le _ _) (by omega))]
      intro k hk
      rw [diff_bit s _ k (by omega), h k hk, Nat.testBit_two_pow]
      have : x ≠ k := fun e => by subst e; rw [h2] at hk; cases hk
      simp [this]
  · rintro (h | ⟨⟨x, hx⟩, _, h⟩)
    · exact ⟨_, h, (subN (by omega) (by omega)).2 fun _ h => h⟩
    · rw [List.any_eq_true] at h
      obtain ⟨c, hc, h⟩ := h
      obtain ⟨m, rfl, hm⟩ := nat c hc
      refine ⟨_, hc, ?_⟩
      rw [subN (by omega) (Nat.lt_of_le_of_lt (diff_le _ _) (by omega))] at h
      rw [subN (by omega) (by omega)]
      intro k hk
      have := h k hk
      rw [diff_bit s _ k (by omega)] at this
      exact (Bool.and_eq_true_iff.1 this).1
end Go.Theory
namespace Go.Proofs.Ytnkglahiagigoaa
open Go.RowKit Go.Own Go.Theory Go.BigFrame Go.Shelf
open Go.Ib (diff)
theorem mk_bools (n : Nat) (hn : n ≤ 1000000) (u : World) : (Instr.makeSlice 67 (.int .i64 n) (.int .i64 n)).run Try.prog u = .ok (.slice (some ⟨u.heap.size, 0, none⟩) n n) (u.alloc (.cells (Array.replicate n (.bool false)) 4)) :=
  run_make_one (.bool false) 1 (by kernel_rfl) (by kernel_rfl) rfl n (by omega) (by unfold maxLen; omega) u
attribute [local go_sem] Oper.semAt_some SqC.wide_fn SqC.wide_round_fn
set_option maxRecDepth 100000 in
theorem clashes_any (n may : Nat) (l : List Int) (sa : Option Addr) (cap : Nat) (hv : valid n may l) (w : World) (hl : Sl w 1 (.slice sa l.length cap) l.length (l.map (.int .i64))) :
    Calls Try.prog 64 #[.agg #[.int .i64 n, .int .i64 may, .slice sa l.length cap]] w fun e w' => ∃ g, w.heap.size ≤ g ∧ e = .returned (.slice (some ⟨g, 0, none⟩) (2 ^ n) (2 ^ n)) ∧ Blk w' g (bl (2 ^ n) (cl l)) 4 ∧ Below w.heap.size w w' := by
  have hn16 : n ≤ 16 := by have := hv.2.1; omega
  have hp := wrap_pow hn16
  have hp2 := pow16 hn16
  have hll : l.length ≤ 1024 := hv.2.2.1
  have hv2 : ∀ c ∈ l, 1 ≤ c ∧ c < ((2 ^ n : Nat) : Int) := by
    have := hv.2.2.2.2.2
    rw [show ((2 : Int) ^ (n : Int).toNat) = ((2 ^ n : Nat) : Int) by simp] at this
    exact this
  have step := fun (s : Nat) => cl_step (s := s) hn16 hv2
  obtain ⟨M, hM⟩ : ∃ M, M = 2 ^ n := ⟨_, rfl⟩
  rw [← hM] at hp hp2 hv2 step ⊢
  clear hM hv
  have hmk := mk_bools M (by omega)
  have hstep := Lib.hid step; clear step
  refine (callsIn_wide (n := 4)).1 ?_
  refine callsIn_of_wp_marks Try.func64 rfl trivial ?_ rfl
  simp only [Try.ntmps64, List.size_toArray, List.length_cons, List.length_nil, Nat.reduceAdd, Nat.reduceSub, Array.replicate_succ, Array.replicate_zero, List.push_toArray, List.append_toArray, List.nil_append, List.cons_append]
  gi_wp2
  obtain ⟨B, hB⟩ : ∃ B, B = w.heap.size := ⟨_, rfl⟩
  rw [← hB]
  obtain ⟨W0, hW0⟩ : ∃ W0, ((w.alloc (.cells #[.int .i64 n, .int .i64 may, .slice sa l.length cap] 56)).alloc (.cells (Array.replicate M (.bool false)) 4)).alloc (.cells #[.slice (some ⟨B + 1, 0, none⟩) M M] 67) = W0 := ⟨_, rfl⟩
  have a1 : Blk W0 (B + 1) (bl M fun _ => false) 4 := by
    rw [← hW0, ← bl_rep, show B + 1 = (w.alloc (.cells #[.int .i64 n, .int .i64 may, .slice sa l.length cap] 56)).heap.size by rw [hB]; simp]
    exact (blk_make _ M _ _).alloc _
  have a2 : Blk W0 (B + 1 + 1) [.slice (some ⟨B + 1, 0, none⟩) M M] 67 := by rw [← hW0]; exact Blk.new_at _ _ _ (by rw [hB]; simp)
  have a3 : Below B w W0 := by rw [← hW0, hB]; exact (((Below.refl _ w).alloc (Nat.le_refl _) _).alloc (by simp) _).alloc (by simp; omega) _
  rw [hW0]
  clear hW0
  obtain ⟨B1, hB1⟩ : ∃ x, x = B + 1 := ⟨_, rfl⟩
  obtain ⟨B2, hB2⟩ : ∃ x, x = B + 1 + 1 := ⟨_, rfl⟩
  rw [← hB2, ← hB1] at a2
  rw [← hB1] at a1
  rw [← hB2, ← hB1]
  have HB1 := Lib.hid hB1; clear hB1
  have HB2 := Lib.hid hB2; clear hB2
  have HB := Lib.hid hB; clear hB
  gi_loopw [15] (fun c wr => ∃ k : Nat, k ≤ l.length ∧ c = .int .i64 k ∧ Blk wr B1 (bl M fun s => decide ((s : Int) ∈ l.take k)) 4 ∧ Blk wr B2 [.slice (some ⟨B1, 0, none⟩) M M] 67 ∧ Below B w wr) (fun c _ => l.length - (vInt c).toNat)
  case atStart =>
    refine ⟨0, by omega, rfl, ?_, a2, a3⟩
    rw [bl_congr (h := fun _ => false) (fun s _ => by simp)]
    exact a1
  case round =>
    obtain ⟨k, hk, rfl, h1, h2, h3⟩ := hrel
    clear a1 a2 a3
    by_cases hkl : k < l.length
    · obtain ⟨b, o, rfl, _, _, hC, hbs⟩ := sl_at hl (by omega)
      obtain ⟨x, hx, hxM⟩ : ∃ x : Nat, l[k] = (x : Int) ∧ x < M := by
        have := hv2 _ (List.getElem_mem hkl)
        exact ⟨l[k].toNat, by omega, by omega⟩
      have cx : wr.cell? ⟨b, o + k, none⟩ = some (.int .i64 x) := ((hC.below (HB.out ▸ h3) hbs)) k _ (by simp [hkl, hx])
      have cS : wr.cell? ⟨B2, 0, none⟩ = some (.slice (some ⟨B1, 0, none⟩) M M) := h2.cell rfl
      have cO := h1.cellD (.bool false) (i := x) (by rw [bl_len]; exact hxM)
      have cF : wr.frozen? ⟨B1, x, none⟩ = false := h1.frozen x
      have hxi : (x : Int) < M := by omega
      have HX := Lib.hid hx; clear hx
      gi_wp2
      go_roundw
      case rel =>
        refine ⟨k + 1, by omega, by go_num, ?_, h2.set_ne _ (by have := HB1.out; have := HB2.out; simp; omega), below_set h3 (by rw [HB.out]; exact Nat.le_refl _) (by have := HB1.out; omega) _ _⟩
        have := h1.set x (.bool true)
        rw [bl_set hxM] at this
        rw [bl_congr (g := fun s => decide ((s : Int) ∈ l.take (k + 1))) (h := fun s => if s = x then true else decide ((s : Int) ∈ l.take k))]
        · exact this
        · intro s _
          rw [List.take_succ_eq_append_getElem hkl, HX.out]
          by_cases e : s = x
          · subst e; simp
          · have e' : ¬ ((s : Int) = (x : Int)) := by omega
            rw [if_neg e]; simp [e']
      case measure => simp [vInt]; omega
    · obtain rfl : k = l.length := by omega
      rw [List.take_length] at h1
      have cS : wr.cell? ⟨B2, 0, none⟩ = some (.slice (some ⟨B1, 0, none⟩) M M) := h2.cell rfl
      gi_wp2
      rw [hp]
      refine wpIn_loop (fun a' w' => ∃ (k : Nat) (ds : List Deferred) (p6 p26 p27 p28 p29 p47 : Value), (k ≤ M ∧ Blk w' B1 (bl M fun s => if s < k then cl l s else decide ((s : Int) ∈ l)) 4 ∧ Blk w' B2 [.slice (some ⟨B1, 0, none⟩) M M] 67 ∧ Below B w w' ∧ Marks B ds w') ∧ a' = { tmps := #[.agg #[.int .i64 n, .int .i64 may, .slice sa l.length cap], .pointer (some ⟨B, 0, none⟩), .slice none 0 0, .pointer (some ⟨B2, 0, none⟩), undef, u5, p6, undef, .pointer (some ⟨B, 0, none⟩), .int .i64 n, .int .i64 M, .slice (some ⟨B1, 0, none⟩) M M, .pointer (some ⟨B, 2, none⟩), .slice sa l.length cap, .int .i64 l.length, .int .i64 l.length, .bool false, u17, u18, u19, u20, u21, u22, .slice (some ⟨B1, 0, none⟩) M M, .int .i64 M, .int .i64 (k : Int), p26, p27, p28, p29, undef, undef, undef, undef, undef, undef, undef, undef, undef, undef, undef, undef, undef, undef, undef, undef, undef, p47, undef], defers := ds })
        (fun a' _ => M - (vInt (a'.tmps.getD 25 undef)).toNat) ?_ ?_
      · refine ⟨0, [], undef, undef, undef, undef, undef, undef, ⟨by omega, ?_, h2, h3, trivial⟩, rfl⟩
        rw [bl_congr (h := fun s => decide ((s : Int) ∈ l)) (fun s _ => by simp)]
        exact h1
      clear cS h1 h2 h3
      rintro a' wr ⟨k, ds, p6, p26, p27, p28, p29, p47, ⟨hk, h1, h2, h3, h4⟩, rfl⟩
      have cS : wr.cell? ⟨B2, 0, none⟩ = some (.slice (some ⟨B1, 0, none⟩) M M) := h2.cell rfl
      by_cases hkM : k < M
      · have hki : (k : Int) < M := by omega
        gi_wp2_with (gi_at_call 53; refine (callsIn_wide.2 (bits_any k _)).mono ?_; rintro e w' ⟨rfl, rfl⟩)
        gi_wp2
        obtain ⟨P, hP⟩ : ∃ P, P = wr.heap.size := ⟨_, rfl⟩
        rw [← hP]
        obtain ⟨W0, hW0⟩ : ∃ W0, (wr.alloc (.cells #[.int .i64 k] 3)).alloc (.cells #[.int .i64 k] 23) = W0 := ⟨_, rfl⟩
        have hsz := h3.size
        have l1 := h1.lt
        have l2 := h2.lt
        have e1 : Blk W0 B1 (bl M fun s => if s < k then cl l s else decide ((s : Int) ∈ l)) 4 := by rw [← hW0]; exact (h1.alloc _).alloc _
        have e2 : Blk W0 B2 [.slice (some ⟨B1, 0, none⟩) M M] 67 := by rw [← hW0]; exact (h2.alloc _).alloc _
        have e3 : Blk W0 P [.int .i64 k] 3 := by rw [← hW0]; exact (Blk.new_at _ _ _ hP).alloc _
        have e4 : Blk W0 (P + 1) [.int .i64 k] 23 := by rw [← hW0]; exact Blk.new_at _ _ _ (by rw [hP]; simp)
        have e5 : Below B w W0 := by rw [← hW0]; exact h3.trans (((Below.refl B wr).alloc (by rw [HB.out]; exact hsz) _).alloc (by rw [HB.out]; simp; omega) _)
        have e6 : Marks B ds W0 := by rw [← hW0]; exact h4.keepD ((KeepD.alloc _ _).trans (KeepD.alloc _ _))
        have e7 : W0.heap.size = P + 2 := by rw [← hW0, hP]; simp
        have hBP : B1 < P ∧ B2 < P ∧ B1 ≠ B2 ∧ B < B1 ∧ B < B2 := ⟨by omega, by omega, by have := HB1.out; have := HB2.out; omega, by have := HB1.out; omega, by have := HB2.out; omega⟩
        rw [hW0]
        clear hW0 h1 h2 h3 h4 hP l1 l2 cS
        refine wpIn_rangeFunc_ownF rfl (by decide) (gf := 71) (lb := #[.pointer (some ⟨P + 1, 0, none⟩)]) rfl trivial (enters_of Try.func71 (by kernel_rfl) rfl)
          (bits1_stops 3 (by decide) (P + 1) k (by omega) W0 (by omega) (e4.cell rfl)) KpB.trans (fun W l o o' _ h ho _ => KpB.put W l o o' h ho) (Below.refl _ _) (fun _ => rfl)
          (fun pre W => (Blk W B1 (bl M fun s => if s = k then (decide ((k : Int) ∈ l) || pre.any fun x => cl l (diff k (2 ^ x.1))) else if s < k then cl l s else decide ((s : Int) ∈ l)) 4 ∧ Blk W B2 [.slice (some ⟨B1, 0, none⟩) M M] 67 ∧ Blk W P [.int .i64 k] 3) ∧ (Below B w W ∧ KeepD W0 W))
          (fun _ _ _ => False) ((ownFrom_blk.and (ownFrom_blk.and ownFrom_blk)).and ((ownFrom_below (by rw [HB.out]; exact Nat.le_refl _) (by omega)).and ownFrom_keepD)) (fun _ => ownFrom_false)
          ⟨⟨by rw [bl_congr (h := fun s => if s < k then cl l s else decide ((s : Int) ∈ l)) (fun s _ => by by_cases e : s = k <;> simp [e])]; exact e1, e2, e3⟩, e5, KeepD.refl _⟩
          (fun x => { tmps := #[.agg #[.int .i64 n, .int .i64 may, .slice sa l.length cap], .pointer (some ⟨B, 0, none⟩), .slice none 0 0, .pointer (some ⟨B2, 0, none⟩), undef, u5, .pointer (some ⟨P, 0, none⟩), .int .i64 (x.1 : Int), .pointer (some ⟨B, 0, none⟩), .int .i64 n, .int .i64 M, .slice (some ⟨B1, 0, none⟩) M M, .pointer (some ⟨B, 2, none⟩), .slice sa l.length cap, .int .i64 l.length, .int .i64 l.length, .bool false, u17, u18, u19, u20, u21, u22, .slice (some ⟨B1, 0, none⟩) M M, .int .i64 M, .int .i64 (k : Int), .bool true, .int .i64 (k : Int), .int .i64 (k : Int), .func (.func 71) #[] #[.pointer (some ⟨P + 1, 0, none⟩)], .int .i64 (x.1 : Int), undef, undef, undef, undef, undef, undef, undef, undef, undef, undef, undef, undef, undef, undef, undef, undef, p47, undef], defers := [] }) ?assign ?body ?done ?stop
        case assign =>
          intro _ x W K hK
          gi_wp2
          exact hK
        case body =>
          rintro _ pre x W ⟨⟨k1, k2, k3⟩, k4, k5⟩ hlt
          have hd : diff k (2 ^ x.1) < k := diff_lt (by omega) x.2.2
          obtain ⟨d, hdd⟩ : ∃ d, d = diff k (2 ^ x.1) := ⟨_, rfl⟩
          have hx2 : 2 ^ x.1 < 65536 := Nat.pow_lt_pow_right (n := 16) (by omega) x.2.1
          have hand : bits .andNot .i64 (k : Int) (wrap64 ((2 : Int) ^ x.1)) = (d : Int) := by
            rw [wrap_pow (by have := x.2.1; omega), Go.Ib.b_andNot k (2 ^ x.1) (by omega) (by omega), hdd]
          have HS : Hid ((pre ++ [x]).any (fun x => cl l (diff k (2 ^ x.1))) = (pre.any (fun x => cl l (diff k (2 ^ x.1))) || cl l d)) := Lib.hid (by rw [List.any_append, hdd]; simp)
          rw [← hdd] at hd
          have HD := Lib.hid hdd; clear hdd
          obtain ⟨b, hb⟩ : ∃ b, b = (decide ((k : Int) ∈ l) || pre.any fun x => cl l (diff k (2 ^ x.1))) := ⟨_, rfl⟩
          rw [← hb] at k1
          have HBb := Lib.hid hb; clear hb
          have cO : W.cell? ⟨B1, k, none⟩ = some (.bool b) := k1.cell (by rw [bl_get _ hkM, if_pos rfl])
          have cD : W.cell? ⟨B1, d, none⟩ = some (.bool (cl l d)) := k1.cell (by rw [bl_get _ (by omega), if_neg (by omega), if_pos hd])
          have cF : W.frozen? ⟨B1, k, none⟩ = false := k1.frozen k
          have cS : W.cell? ⟨B2, 0, none⟩ = some (.slice (some ⟨B1, 0, none⟩) M M) := k2.cell rfl
          have cK : W.cell? ⟨P, 0, none⟩ = some (.int .i64 k) := k3.cell rfl
          have hdi : (d : Int) < M := by omega
          obtain ⟨c, hc⟩ : ∃ c, c = cl l d := ⟨_, rfl⟩
          rw [← hc] at cD
          have HC := Lib.hid hc; clear hc
          cases b with
          | true =>
            gi_wp2
            refine SqC.wpIn_region_tail 15 (by kernel_rfl) (by kernel_rfl) (by kernel_rfl) ?_
            simp only [List.take_succ_cons, List.take_zero, List.drop_succ_cons, List.drop_zero]
            repeat (go_big_quiet_step (fail))
            refine wpQuiet_nil ?_
            intro nq2
            go_wp2
            refine ⟨(keepsOthers_drewN W nq2).trans (KeepsOthers.setCell _ _ _), KpB.set _ _ _ (by simp; omega), ⟨⟨?_, (k2.drewN nq2).set_ne _ (by simp; omega), (k3.drewN nq2).set_ne _ (by simp; omega)⟩, below_set (below_drewN k4 nq2) (by rw [HB.out]; exact Nat.le_refl _) (by omega) _ _, k5.others ((keepsOthers_drewN W nq2).trans (KeepsOthers.setCell _ _ _))⟩⟩
            have := (k1.drewN nq2).set k (.bool true)
            rw [bl_set hkM] at this
            rw [bl_congr (h := fun s => if s = k then true else if s = k then true else if s < k then cl l s else decide ((s : Int) ∈ l))]
            · exact this
            · intro s _
              by_cases e : s = k
              · rw [if_pos e, if_pos e, HS.out, ← Bool.or_assoc, ← HBb.out, Bool.true_or]
              · rw [if_neg e, if_neg e, if_neg e]
          | false =>
            gi_wp2
            refine SqC.wpIn_region_tail 15 (by kernel_rfl) (by kernel_rfl) (by kernel_rfl) ?_
            simp only [List.take_succ_cons, List.take_zero, List.drop_succ_cons, List.drop_zero]
            repeat (go_big_quiet_step (fail))
            refine wpQuiet_nil ?_
            intro nq2
            go_wp2
            refine ⟨(keepsOthers_drewN W nq2).trans (KeepsOthers.setCell _ _ _), KpB.set _ _ _ (by simp; omega), ⟨⟨?_, (k2.drewN nq2).set_ne _ (by simp; omega), (k3.drewN nq2).set_ne _ (by simp; omega)⟩, below_set (below_drewN k4 nq2) (by rw [HB.out]; exact Nat.le_refl _) (by omega) _ _, k5.others ((keepsOthers_drewN W nq2).trans (KeepsOthers.setCell _ _ _))⟩⟩
            have := (k1.drewN nq2).set k (.bool c)
            rw [bl_set hkM] at this
            rw [bl_congr (h := fun s => if s = k then c else if s = k then false else if s < k then cl l s else decide ((s : Int) ∈ l))]
            · exact this
            · intro s _
              by_cases e : s = k
              · rw [if_pos e, if_pos e, HS.out, ← Bool.or_assoc, ← HBb.out, Bool.false_or, HC.out]
              · rw [if_neg e, if_neg e, if_neg e]
        case done =>
          rintro D ys W hD rfl ⟨⟨k1, k2, k3⟩, k4, k5⟩ hK
          gi_wp2
          refine ⟨⟨k + 1, _, _, _, _, _, _, _, ⟨by omega, ?_, k2, k4, Marks.cons e6 (e6.keepD k5) hD (by omega) hK _⟩, rfl⟩, by simp [vInt]; omega⟩
          rw [bl_congr (h := fun s => if s = k then (decide ((k : Int) ∈ l) || (els k 16).any fun x => cl l (diff k (2 ^ x.1))) else if s < k then cl l s else decide ((s : Int) ∈ l))]
          · exact k1
          · intro s _
            by_cases e : s = k
            · rw [if_pos e, e, if_pos (by omega), hstep.out k hkM]
            · rw [if_neg e]
              by_cases e2 : s < k
              · rw [if_pos e2, if_pos (by omega)]
              · rw [if_neg e2, if_neg (by omega)]
        case stop =>
          rintro D c pre W _ _ h _
          exact h.elim
      · obtain rfl : k = M := by omega
        gi_wp2
        rw [bl_congr (h := cl l) (fun s hs => if_pos hs)] at h1
        have hBe := HB.out
        have hB1e := HB1.out
        refine leaves_marks (B := B) (fun W => Blk W B1 (bl k (cl l)) 4 ∧ Below B w W) (fun W D hJ hD hK => ⟨hJ.1.kept (grownBy_putObj' W D _) (fun r e => by cases e; exact ⟨_, hK, rfl⟩), ?_⟩) (fun W hJ => ⟨_, results_tmp rfl _ _ _, B1, by omega, rfl, hJ.1, ?_⟩) ds wr h4 ⟨h1, h3⟩
        · have := hJ.2.trans (belowK_b (w := w) (n₀ := B) (by omega) W D _ (.deferred none) (by omega) hK rfl rfl)
          exact this
        · rw [← hBe]; exact hJ.2
end Go.Proofs.Ytnkglahiagigoaa

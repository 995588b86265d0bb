/- theory: all theories. -/
import Derived.Test.YtkccmpikeekceaaGreatTQ05
/- theory: all theories. -/
section
namespace Go.Theory
open Go.RowKit Go.Own Go.Ib
theorem els_mem {s x : Nat} (hx : x < 16) (h : s.testBit x = true) : (⟨x, hx, h⟩ : El s) ∈ els s 16 := by
  unfold els
  rw [List.mem_filterMap]
  exact ⟨x, List.mem_range.2 hx, by rw [dif_pos ⟨hx, h⟩]⟩
theorem thy_eq {n may s : Nat} {l : List Int} (hn : n ≤ 16) (hm : may < 2 ^ n) : decide (theory n may l s) = (!cl l s && sub s may && (els (diff may s) 16).all fun x => cl l (s ||| 2 ^ x.1)) := by
  have hp := pow16 hn
  rw [Bool.eq_iff_iff, decide_eq_true_iff, Bool.and_eq_true, Bool.and_eq_true, List.all_eq_true, Bool.not_eq_true', cl_fst, decide_eq_false_iff_not]
  have hcl : ∀ k, cl l k = decide (0 ≤ fst l k) := fun k => cl_fst
  unfold theory
  constructor
  · rintro ⟨h1, h2, h3⟩
    refine ⟨⟨by omega, h1⟩, fun x _ => ?_⟩
    have hb := x.2.2
    rw [diff_bit may s _ (by omega), Bool.and_eq_true, Bool.not_eq_true'] at hb
    rw [hcl, decide_eq_true_iff]
    exact h3 x.1 (bits_of_lt hm hb.1) hb.1 hb.2
  · rintro ⟨⟨h1, h2⟩, h3⟩
    refine ⟨h2, by omega, fun k hk h4 h5 => ?_⟩
    have hd : (diff may s).testBit k = true := by rw [diff_bit may s _ (by omega), h4, h5]; rfl
    have := h3 ⟨k, by omega, hd⟩ (els_mem (by omega) hd)
    rw [hcl, decide_eq_true_iff] at this
    exact this
end Go.Theory
namespace Go.Proofs.YtkccmpikeekceaaGreat
open Go.RowKit Go.Own Go.Theory Go.BigFrame Go.Shelf
open Go.Ib (diff)
attribute [local go_sem] Oper.semAt_some SqC.wide_fn SqC.wide_round_fn
set_option maxRecDepth 100000 in
set_option maxHeartbeats 1600000 in
theorem ptheories_any (n may : Nat) (l : List Int) (sa : Option Addr) (cap : Nat) (hv : valid n may l) (w : World) (hl : Sl w 1 (.slice sa l.length cap) l.length (l.map (.int .i64))) :
    Calls Tryz.prog 15 #[.agg #[.int .i64 n, .int .i64 may, .slice sa l.length cap]] w fun e w' => ∃ v, e = .returned v ∧ w'.ownsRow w.heap.size 23 1 v (theories n may l).length ((theories n may l).map fun (j : Nat) => .int .i64 j) ∧ Below w.heap.size w w' := by
  have hn16 : n ≤ 16 := by have := hv.2.1; omega
  have hp2 := pow16 hn16
  have hmay : may < 2 ^ n := by
    have h := hv.2.2.2.2.1
    rw [show ((2 : Int) ^ (n : Int).toNat) = ((2 ^ n : Nat) : Int) by simp] at h
    omega
  have heq := fun s => thy_eq (s := s) (l := l) hn16 hmay
  have hor : ∀ s x, s < 2 ^ n → may.testBit x = true → s ||| 2 ^ x < 2 ^ n := fun s x hs hx => Nat.or_lt_two_pow hs (Nat.pow_lt_pow_right (by decide) (bits_of_lt hmay hx))
  have hth : theories n may l = theoriesTo n may l (2 ^ n) := rfl
  have hc := fun W h => clashes_any n may l sa cap hv W h
  obtain ⟨M, hM⟩ : ∃ M, M = 2 ^ n := ⟨_, rfl⟩
  rw [← hM] at hp2 hmay hth
  simp only [← hM] at hor hc
  have HTH := Lib.hid hth; clear hth
  have HEQ := Lib.hid heq; clear heq
  have HOR := Lib.hid hor; clear hor
  clear hM hv
  obtain ⟨W1, hW1⟩ : ∃ W1, w.alloc (.cells #[.int .i64 n, .int .i64 may, .slice sa l.length cap] 48) = W1 := ⟨_, rfl⟩
  have b1 : Below w.heap.size w W1 := by rw [← hW1]; exact alloc_below _ _
  have k1 : Blk W1 w.heap.size [.int .i64 n, .int .i64 may, .slice sa l.length cap] 48 := by rw [← hW1]; exact Blk.new _ _ _
  have hC : Cells W1 w.heap.size 0 [.int .i64 n, .int .i64 may, .slice sa l.length cap] := k1.cells 0 _ rfl
  have hsz : w.heap.size < W1.heap.size := k1.lt
  refine (callsIn_wide (n := 4)).1 ?_
  refine callsIn_of_wp_marks Tryz.func15 rfl trivial ?_ rfl
  simp only [Tryz.ntmps15, List.size_toArray, List.length_cons, List.length_nil, Nat.reduceAdd, Nat.reduceSub, Array.replicate_succ, Array.replicate_zero, List.push_toArray, List.append_toArray, List.nil_append, List.cons_append]
  refine wpIn_wide.2 ?_
  go_wp2_with (refine wpList_load_agg [.int .i64 n, .int .i64 may, .slice sa l.length cap] hC rfl rfl rfl aggBase infoBase ?_)
  refine (hc W1 (hl.below b1)).mono ?_
  clear hc hC
  rintro e W2 ⟨g, hg, rfl, k2, b2⟩
  have b12 := b1.trans (b2.mono (Nat.le_of_lt hsz))
  have k12 := k1.below b2 hsz
  go_wp2
  obtain ⟨B, hB⟩ : ∃ B, B = w.heap.size := ⟨_, rfl⟩
  obtain ⟨C, hC⟩ : ∃ C, C = W2.heap.size := ⟨_, rfl⟩
  rw [← hB] at k12 b12 ⊢
  rw [← hC]
  obtain ⟨W3, hW3⟩ : ∃ W3, W2.alloc (.cells #[.slice (some ⟨g, 0, none⟩) M M] 66) = W3 := ⟨_, rfl⟩
  have a1 : Blk W3 B [.int .i64 n, .int .i64 may, .slice sa l.length cap] 48 := by rw [← hW3]; exact k12.alloc _
  have a2 : Blk W3 g (bl M (cl l)) 4 := by rw [← hW3]; exact k2.alloc _
  have a3 : Blk W3 C [.slice (some ⟨g, 0, none⟩) M M] 66 := by rw [← hW3]; exact Blk.new_at _ _ _ hC
  have a4 : Below B w W3 := by rw [← hW3]; exact b12.trans (((Below.refl _ W2).alloc (Nat.le_refl _) _).mono (by have := b12.size; omega))
  have a5 : B < W3.heap.size ∧ g < W3.heap.size ∧ C < W3.heap.size := ⟨a1.lt, a2.lt, a3.lt⟩
  rw [hW3]
  have HBw := Lib.hid hB; clear hB
  clear hW3 hC k12 k2 b12 b2 b1 k1 hsz hW1 hg
  refine wp_loop (fun a' w' => ∃ (k : Nat) (ds : List Deferred) (L : List Nat) (v p5 p6 p7 p8 p15 p16 p17 p18 p19 p20 p21 p22 p23 p24 p25 p26 p27 p28 p29 p30 p31 p32 p44 p45 p46 p47 p48 p49 : Value), (k ≤ M ∧ L = theoriesTo n may l k ∧ Below W3.heap.size W3 w' ∧ w'.ownsRow W3.heap.size 23 1 v L.length (L.map fun (j : Nat) => .int .i64 j) ∧ Marks W3.heap.size ds w') ∧ a' = { tmps := #[.agg #[.int .i64 n, .int .i64 may, .slice sa l.length cap], .pointer (some ⟨B, 0, none⟩), .slice none 0 0, .pointer (some ⟨C, 0, none⟩), v, p5, p6, p7, p8, undef, .agg #[.int .i64 n, .int .i64 may, .slice sa l.length cap], .slice (some ⟨g, 0, none⟩) M M, .slice (some ⟨g, 0, none⟩) M M, .int .i64 M, .int .i64 (k : Int), p15, p16, p17, p18, p19, p20, p21, p22, p23, p24, p25, p26, p27, p28, p29, p30, p31, p32, undef, undef, undef, undef, undef, undef, undef, undef, undef, undef, undef, p44, p45, p46, p47, p48, p49, undef], defers := ds })
    (fun a' _ => M - (vInt (a'.tmps.getD 14 undef)).toNat) ?_ ?_
  · exact ⟨0, [], [], _, undef, undef, undef, undef, undef, undef, undef, undef, undef, undef, undef, undef, undef, undef, undef, undef, undef, undef, undef, undef, undef, undef, undef, undef, undef, undef, undef, undef, ⟨by omega, rfl, Below.refl _ _, World.ownsRow_nil _ _ _ _, trivial⟩, rfl⟩
  rintro a' wr ⟨k, ds, L, v, p5, p6, p7, p8, p15, p16, p17, p18, p19, p20, p21, p22, p23, p24, p25, p26, p27, p28, p29, p30, p31, p32, p44, p45, p46, p47, p48, p49, ⟨hk, hL, h1, h2, h3⟩, rfl⟩
  have hLl : L.length ≤ k := by rw [hL]; exact theoriesTo_len _ _ _ _
  have q1 := a1.below h1 a5.1
  have q2 := a2.below h1 a5.2.1
  have q3 := a3.below h1 a5.2.2
  by_cases hkM : k < M
  · have hki : (k : Int) < M := by omega
    have hs := theoriesTo_succ n may l k
    rw [← hL, HEQ.out k] at hs
    have HS := Lib.hid hs; clear hs
    have HL := Lib.hid hL; clear hL
    have cB : wr.cell? ⟨g, k, none⟩ = some (.bool (cl l k)) := q2.cell (bl_get _ hkM)
    have cM : wr.cell? ⟨B, 1, none⟩ = some (.int .i64 may) := q1.cell rfl
    have hR := h1.size
    obtain ⟨R, hR0⟩ : ∃ R, wr.heap.size = R := ⟨_, rfl⟩
    obtain ⟨Wa, hWa⟩ : ∃ Wa, wr.alloc (.cells #[.int .i64 k] 23) = Wa := ⟨_, rfl⟩
    have ha1 : Blk Wa B [.int .i64 n, .int .i64 may, .slice sa l.length cap] 48 := by rw [← hWa]; exact q1.alloc _
    have ha2 : Blk Wa R [.int .i64 k] 23 := by rw [← hWa, ← hR0]; exact Blk.new _ _ _
    have ha3 : Below R wr Wa := by rw [← hWa, ← hR0]; exact alloc_below _ _
    have sz1 : Wa.heap.size = R + 1 := by rw [← hWa, ← hR0]; simp
    have cMa : Wa.cell? ⟨B, 1, none⟩ = some (.int .i64 may) := ha1.cell rfl
    have cKa : Wa.cell? ⟨R, 0, none⟩ = some (.int .i64 k) := ha2.cell rfl
    have h1a : Below W3.heap.size W3 Wa := h1.trans (ha3.mono (by omega))
    have h2a : Wa.ownsRow W3.heap.size 23 1 v L.length (L.map fun (j : Nat) => .int .i64 j) := own_below h2 (by rw [hR0]; exact ha3)
    have h3a : Marks W3.heap.size ds Wa := h3.keepD (by rw [← hWa]; exact KeepD.alloc _ _)
    cases hbad : cl l k with
    | true =>
      rw [hbad] at cB
      go_wp2
      refine ⟨⟨k + 1, ds, L, _, _, _, _, _, _, _, _, _, _, _, _, _, _, _, _, _, _, _, _, _, _, _, _, _, _, _, _, _, ⟨by omega, ?_, h1a, h2a, h3a⟩, rfl⟩, by simp [vInt]; omega⟩
      rw [HS.out, hbad]; simp
    | false =>
      rw [hbad] at cB
      go_wp2_with (fail)
      refine (contains_any _ _ Wa).mono ?_
      rintro e w' ⟨rfl, rfl⟩
      cases hsub : sub k may with
      | false =>
        go_wp2
        refine ⟨⟨k + 1, ds, L, _, _, _, _, _, _, _, _, _, _, _, _, _, _, _, _, _, _, _, _, _, _, _, _, _, _, _, _, _, ⟨by omega, ?_, h1a, h2a, h3a⟩, rfl⟩, by simp [vInt]; omega⟩
        rw [HS.out, hsub]; simp
      | true =>
        obtain ⟨Wb, hWb⟩ : ∃ Wb, w'.alloc (.cells #[.bool true] 4) = Wb := ⟨_, rfl⟩
        have sz2 : Wb.heap.size = R + 1 + 1 := by rw [← hWb]; simp [sz1]
        have hb1 : Blk Wb B [.int .i64 n, .int .i64 may, .slice sa l.length cap] 48 := by rw [← hWb]; exact ha1.alloc _
        have hb2 : Blk Wb R [.int .i64 k] 23 := by rw [← hWb]; exact ha2.alloc _
        have hb3 : Blk Wb (R + 1) [.bool true] 4 := by rw [← hWb]; exact Blk.new_at _ _ _ sz1.symm
        have hb4 : Below R wr Wb := by rw [← hWb]; exact ha3.alloc (by omega) _
        have cMb : Wb.cell? ⟨B, 1, none⟩ = some (.int .i64 may) := hb1.cell rfl
        have cKb : Wb.cell? ⟨R, 0, none⟩ = some (.int .i64 k) := hb2.cell rfl
        have hand : bits .andNot .i64 (may : Int) (k : Int) = ((diff may k : Nat) : Int) := Go.Ib.b_andNot may k (by omega) (by omega)
        obtain ⟨m, hm⟩ : ∃ m, m = diff may k := ⟨_, rfl⟩
        have hmle : m < 65536 := by rw [hm]; exact Nat.lt_of_le_of_lt (Go.Ib.diff_le _ _) (by omega)
        have hmb : ∀ x, m.testBit x = true → may.testBit x = true := fun x hx => by rw [hm, Go.Ib.diff_bit _ _ _ (by omega)] at hx; exact (Bool.and_eq_true_iff.1 hx).1
        rw [← hm] at hand
        have HM := Lib.hid hm; clear hm
        go_wp2_with (fail)
        refine (bits_any _ Wb).mono ?_
        rintro e w2 ⟨rfl, rfl⟩
        go_wp2
        obtain ⟨W0, hW0⟩ : ∃ W0, Wb.alloc (.cells #[.int .i64 m] 23) = W0 := ⟨_, rfl⟩
        have e1 : Blk W0 B [.int .i64 n, .int .i64 may, .slice sa l.length cap] 48 := by rw [← hW0]; exact hb1.alloc _
        have e2 : Blk W0 R [.int .i64 k] 23 := by rw [← hW0]; exact hb2.alloc _
        have e3 : Blk W0 (R + 1) [.bool true] 4 := by rw [← hW0]; exact hb3.alloc _
        have e4 : Blk W0 (R + 1 + 1) [.int .i64 m] 23 := by rw [← hW0]; exact Blk.new_at _ _ _ sz2.symm
        have e5 : Below R wr W0 := by rw [← hW0]; exact hb4.alloc (by omega) _
        have sz3 : W0.heap.size = R + 3 := by rw [← hW0]; simp [sz2]
        have e6 := q2.below (hR0 ▸ e5) (by omega)
        have e7 := q3.below (hR0 ▸ e5) (by omega)
        rw [hW0]
        clear hW0 hb1 hb2 hb3 hb4 ha1 ha2 ha3 cMa cKa cMb cKb h1a h2a h3a hWa hWb q1 q2 q3 cB cM sz1 sz2
        refine (wpIn_wide (n := 4)).1 ?_
        refine wpIn_rangeFunc_ownF rfl (by decide) (gf := 72) (lb := #[.pointer (some ⟨R + 1 + 1, 0, none⟩)]) rfl trivial (enters_of Tryz.func72 (by kernel_rfl) rfl)
          (bits1_stops 3 (by decide) (R + 1 + 1) m hmle W0 (by omega) (e4.cell rfl)) KpB.trans (fun W l o o' _ h ho _ => KpB.put W l o o' h ho) (Below.refl _ _) (fun _ => rfl)
          (fun pre W => Blk W (R + 1) [.bool (pre.all fun x => cl l (k ||| 2 ^ x.1))] 4 ∧ Below (R + 1) W0 W)
          (fun _ _ _ => False) (ownFrom_blk.and (ownFrom_below (by omega) (by omega))) (fun _ => ownFrom_false)
          ⟨e3, Below.refl _ _⟩
          (fun x => { tmps := #[.agg #[.int .i64 n, .int .i64 may, .slice sa l.length cap], .pointer (some ⟨B, 0, none⟩), .slice none 0 0, .pointer (some ⟨C, 0, none⟩), v, .int .i64 (k : Int), .bool false, .pointer (some ⟨R, 0, none⟩), .pointer (some ⟨R + 1, 0, none⟩), .int .i64 (x.1 : Int), .agg #[.int .i64 n, .int .i64 may, .slice sa l.length cap], .slice (some ⟨g, 0, none⟩) M M, .slice (some ⟨g, 0, none⟩) M M, .int .i64 M, .int .i64 (k : Int), .bool true, .int .i64 (k : Int), .pointer (some ⟨g, k, none⟩), .bool false, .int .i64 (k : Int), .bool false, .bool false, .pointer (some ⟨B, 1, none⟩), .int .i64 may, .int .i64 (k : Int), .bool true, .bool false, .bool false, .pointer (some ⟨B, 1, none⟩), .int .i64 may, .int .i64 (k : Int), .int .i64 (m : Int), .func (.func 72) #[] #[.pointer (some ⟨R + 1 + 1, 0, none⟩)], .int .i64 (x.1 : Int), undef, undef, undef, undef, undef, undef, undef, undef, undef, undef, p44, p45, p46, p47, p48, p49, undef], defers := [] }) ?assign ?body ?done ?stop
        case assign =>
          intro _ x W K hK
          gi_wp2
          exact hK
        case body =>
          rintro _ pre x W ⟨z1, z2⟩ hlt
          have hx2 : 2 ^ x.1 < 65536 := Nat.pow_lt_pow_right (n := 16) (by omega) x.2.1
          have hdM : k ||| 2 ^ x.1 < M := HOR.out k x.1 hkM (hmb x.1 x.2.2)
          obtain ⟨d, hdd⟩ : ∃ d, d = k ||| 2 ^ x.1 := ⟨_, rfl⟩
          have hor2 : bits .or .i64 (k : Int) (wrap64 ((2 : Int) ^ x.1)) = (d : Int) := by
            rw [wrap_pow (by have := x.2.1; omega), Go.Ib.b_or k (2 ^ x.1) (by omega) (by omega), hdd]
          have HS2 : Hid ((pre ++ [x]).all (fun x => cl l (k ||| 2 ^ x.1)) = (pre.all (fun x => cl l (k ||| 2 ^ x.1)) && cl l d)) := Lib.hid (by rw [List.all_append, hdd]; simp)
          rw [← hdd] at hdM
          have HD := Lib.hid hdd; clear hdd
          obtain ⟨b, hb⟩ : ∃ b, b = (pre.all fun x => cl l (k ||| 2 ^ x.1)) := ⟨_, rfl⟩
          rw [← hb] at z1
          have HBb := Lib.hid hb; clear hb
          have z3 := e6.below z2 (by omega)
          have z4 := e7.below z2 (by omega)
          have z5 := e2.below z2 (by omega)
          have cO : W.cell? ⟨R + 1, 0, none⟩ = some (.bool b) := z1.cell rfl
          have cF : W.frozen? ⟨R + 1, 0, none⟩ = false := z1.frozen 0
          have cD : W.cell? ⟨g, d, none⟩ = some (.bool (cl l d)) := z3.cell (bl_get _ hdM)
          have cS : W.cell? ⟨C, 0, none⟩ = some (.slice (some ⟨g, 0, none⟩) M M) := z4.cell rfl
          have cK : W.cell? ⟨R, 0, none⟩ = some (.int .i64 k) := z5.cell rfl
          have hdi : (d : Int) < M := by omega
          obtain ⟨c, hc⟩ : ∃ c, c = cl l d := ⟨_, rfl⟩
          rw [← hc] at cD
          have HC := Lib.hid hc; clear hc
          cases b with
          | true =>
            gi_wp2
            refine SqC.wpIn_region_tail 10 (by kernel_rfl) (by kernel_rfl) (by kernel_rfl) ?_
            simp only [List.take_succ_cons, List.take_zero, List.drop_succ_cons, List.drop_zero]
            repeat (go_big_quiet_step (fail))
            refine wpQuiet_nil ?_
            intro nq2
            go_wp2
            refine ⟨(keepsOthers_drewN W nq2).trans (KeepsOthers.setCell _ _ _), KpB.set _ _ _ (by simp), ?_, below_set (below_drewN z2 nq2) (by omega) (by omega) _ _⟩
            rw [HS2.out, ← HBb.out, Bool.true_and, ← HC.out]
            exact (z1.drewN nq2).set 0 _
          | false =>
            gi_wp2
            refine SqC.wpIn_region_tail 10 (by kernel_rfl) (by kernel_rfl) (by kernel_rfl) ?_
            simp only [List.take_succ_cons, List.take_zero, List.drop_succ_cons, List.drop_zero]
            repeat (go_big_quiet_step (fail))
            refine wpQuiet_nil ?_
            intro nq2
            go_wp2
            refine ⟨(keepsOthers_drewN W nq2).trans (KeepsOthers.setCell _ _ _), KpB.set _ _ _ (by simp), ?_, below_set (below_drewN z2 nq2) (by omega) (by omega) _ _⟩
            rw [HS2.out, ← HBb.out, Bool.false_and]
            exact (z1.drewN nq2).set 0 _
        case done =>
          rintro D ys W hD rfl ⟨z1, z2⟩ hK
          have z3 : Below R wr W := e5.trans (z2.mono (by omega))
          have h1z : Below W3.heap.size W3 W := h1.trans (z3.mono (by omega))
          have h2z : W.ownsRow W3.heap.size 23 1 v L.length (L.map fun (j : Nat) => .int .i64 j) := own_below h2 (by rw [hR0]; exact z3)
          have h3z : Marks W3.heap.size ds W := h3.mono fun D' _ hD' => (z3.block D' (by have := (Array.getElem?_eq_some_iff.1 hD').1; omega)).trans hD'
          have h4z := Marks.cons (h3.mono (W' := W0) fun D' _ hD' => (e5.block D' (by have := (Array.getElem?_eq_some_iff.1 hD').1; omega)).trans hD') h3z hD (by omega) hK #[]
          have z5 := e2.below z2 (by omega)
          have cO : W.cell? ⟨R + 1, 0, none⟩ = some (.bool ((els m 16).all fun x => cl l (k ||| 2 ^ x.1))) := z1.cell rfl
          have cK : W.cell? ⟨R, 0, none⟩ = some (.int .i64 k) := z5.cell rfl
          have hWs : R < W.heap.size := z5.lt
          have HF := HS.out
          rw [hbad, hsub, ← HM.out] at HF
          obtain ⟨f, hf⟩ : ∃ f, f = ((els m 16).all fun x => cl l (k ||| 2 ^ x.1)) := ⟨_, rfl⟩
          rw [← hf] at cO
          rw [Bool.not_false, Bool.true_and, Bool.true_and, ← hf] at HF
          have HF2 := Lib.hid HF; clear HF hf
          cases f with
          | false =>
            go_wp2
            refine ⟨⟨k + 1, _, L, _, _, _, _, _, _, _, _, _, _, _, _, _, _, _, _, _, _, _, _, _, _, _, _, _, _, _, _, _, ⟨by omega, ?_, h1z, h2z, h4z⟩, rfl⟩, by simp [vInt]; omega⟩
            rw [HF2.out]; simp
          | true =>
            have HOW := h2z.alloc (.cells #[.int .i64 k] 23)
            go_wp2_with (refine wpList_append_sl rfl _ _ 24 rfl W3.heap.size 23 (.int .i64 0) 1 8 hTset infoSet rfl (by decide) _ L.length _ rfl HOW _ 1 [.int .i64 k] rfl (sl_new _ _ _ 1 rfl (by decide)) (by intro u hu; simp at hu; rw [hu]; rfl) (by unfold maxLen; omega) (by omega) (by simp; omega) ?_)
            intro v' w' g1 g2
            have k9 := (KeepsOthers.alloc W (.cells #[.int .i64 k] 23)).trans (own_keeps HOW g2)
            have h9 : Below W3.heap.size W3 w' := grown_below (h1z.trans ((alloc_below W _).mono h1z.size)) HOW g2 (by simp; omega)
            have m9 := h4z.mono (W' := w') fun D' _ hD' => k9.same D' _ hD' rfl
            go_wp2
            refine ⟨⟨k + 1, _, L ++ [k], _, _, _, _, _, _, _, _, _, _, _, _, _, _, _, _, _, _, _, _, _, _, _, _, _, _, _, _, _, ⟨by omega, ?_, h9, ?_, m9⟩, rfl⟩, by simp [vInt]; omega⟩
            · rw [HF2.out]; simp
            · rw [List.length_append, List.map_append]; exact g1
        case stop =>
          rintro D c pre W _ _ h _
          exact h.elim
  · obtain rfl : k = M := by omega
    have HE : Hid (L = theories n may l) := Lib.hid (by rw [hL, HTH.out])
    clear hL
    go_wp2
    have hBe := HBw.out
    have a6 := a4.size
    refine leaves_marks (B := W3.heap.size) (fun W => W.ownsRow W3.heap.size 23 1 v L.length (L.map fun (j : Nat) => .int .i64 j) ∧ Below W3.heap.size W3 W) (fun W D hJ hD hK => ⟨own_put _ hJ.1 hK rfl, ?_⟩) (fun W hJ => ⟨_, results_tmp rfl _ _ _, _, rfl, ?_, ?_⟩) ds wr h3 ⟨h2, h1⟩
    · have := hJ.2.trans (belowK_b (w := W3) (n₀ := W3.heap.size) (Nat.le_refl _) W D _ (.deferred none) hD hK rfl rfl)
      exact this
    · rw [← HE.out]; exact own_weaken hJ.1 (by omega)
    · rw [← hBe]; exact a4.trans (hJ.2.mono (by omega))
end Go.Proofs.YtkccmpikeekceaaGreat
end
/- theory: All. -/
section
namespace Go.Proofs.YtkccmpikeekceaaGreat
open Go.RowKit Go.Own Go.Theory Go.BigFrame Go.Shelf
set_option maxRecDepth 100000 in
theorem pall_bad (n may : Int) (l : List Int) (sa : Option Addr) (cap : Nat) (hn : rg n) (hm : rg may) (hv : ¬ valid n may l) (w : World) (hl : Sl w 1 (.slice sa l.length cap) l.length (l.map (.int .i64))) (hll : l.length ≤ 1000000) (hr : ∀ z ∈ l, rg z) :
    Calls Tryz.prog 5 #[.int .i64 n, .int .i64 may, .slice sa l.length cap] w fun e w' => e = .returned (.tuple #[.slice none 0 0, .int .i64 1]) ∧ Below w.heap.size w w' := by
  obtain ⟨W1, hW1⟩ : ∃ W1, w.alloc (.cells #[.int .i64 n, .int .i64 may, .slice sa l.length cap] 48) = W1 := ⟨_, rfl⟩
  have b1 : Below w.heap.size w W1 := by rw [← hW1]; exact alloc_below _ _
  have h := pvalid_any n may l sa cap hn hm W1 (hl.below b1) hll hr
  rw [decide_eq_false hv] at h
  have k1 : Blk W1 w.heap.size [.int .i64 n, .int .i64 may, .slice sa l.length cap] 48 := by rw [← hW1]; exact Blk.new _ _ _
  have hC : Cells W1 w.heap.size 0 [.int .i64 n, .int .i64 may, .slice sa l.length cap] := k1.cells 0 _ rfl
  go_enter Tryz.func5, Tryz.ntmps5
  go_wp2_with (refine wpList_load_agg [.int .i64 n, .int .i64 may, .slice sa l.length cap] hC rfl rfl rfl aggBase infoBase ?_)
  refine h.mono ?_
  rintro e w2 ⟨rfl, hb⟩
  go_wp2
  go_ret2
  exact ⟨rfl, b1.trans (hb.mono b1.size)⟩
set_option maxRecDepth 100000 in
theorem pall_any (n may : Nat) (l : List Int) (sa : Option Addr) (cap : Nat) (hv : valid n may l) (w : World) (hl : Sl w 1 (.slice sa l.length cap) l.length (l.map (.int .i64))) (hr : ∀ z ∈ l, rg z) :
    Calls Tryz.prog 5 #[.int .i64 n, .int .i64 may, .slice sa l.length cap] w fun e w' => ∃ v, e = .returned (.tuple #[v, .int .i64 0]) ∧ w'.ownsRow w.heap.size 23 1 v (theories n may l).length ((theories n may l).map fun (j : Nat) => .int .i64 j) ∧ Below w.heap.size w w' := by
  have hn16 : n ≤ 16 := by have := hv.2.1; omega
  have hp2 := pow16 hn16
  have hmay : may < 65536 := by
    have h := hv.2.2.2.2.1
    rw [show ((2 : Int) ^ (n : Int).toNat) = ((2 ^ n : Nat) : Int) by simp] at h
    omega
  have hll : l.length ≤ 1000000 := by have := hv.2.2.1; omega
  obtain ⟨W1, hW1⟩ : ∃ W1, w.alloc (.cells #[.int .i64 n, .int .i64 may, .slice sa l.length cap] 48) = W1 := ⟨_, rfl⟩
  have b1 : Below w.heap.size w W1 := by rw [← hW1]; exact alloc_below _ _
  have k1 : Blk W1 w.heap.size [.int .i64 n, .int .i64 may, .slice sa l.length cap] 48 := by rw [← hW1]; exact Blk.new _ _ _
  have hC : Cells W1 w.heap.size 0 [.int .i64 n, .int .i64 may, .slice sa l.length cap] := k1.cells 0 _ rfl
  have h := pvalid_any n may l sa cap (by unfold rg; omega) (rg_nat hmay) W1 (hl.below b1) hll hr
  rw [decide_eq_true hv] at h
  have ht := fun W h => ptheories_any n may l sa cap hv W h
  clear hv hp2
  go_enter Tryz.func5, Tryz.ntmps5
  go_wp2_with (refine wpList_load_agg [.int .i64 n, .int .i64 may, .slice sa l.length cap] hC rfl rfl rfl aggBase infoBase ?_)
  refine h.mono ?_
  clear h hC
  rintro e w2 ⟨rfl, hb⟩
  have b2 : Below w.heap.size w w2 := b1.trans (hb.mono b1.size)
  have ht2 := ht w2 (hl.below b2)
  have k2 := k1.below hb k1.lt
  have hC2 : Cells w2 w.heap.size 0 [.int .i64 n, .int .i64 may, .slice sa l.length cap] := k2.cells 0 _ rfl
  clear ht hW1
  go_wp2_with (refine wpList_load_agg [.int .i64 n, .int .i64 may, .slice sa l.length cap] hC2 rfl rfl rfl aggBase infoBase ?_)
  refine ht2.mono ?_
  clear ht2
  rintro e w3 ⟨v, rfl, ho, hb3⟩
  go_wp2
  go_ret2
  have := b2.size
  exact ⟨v, rfl, own_weaken ho this, b2.trans (hb3.mono this)⟩
end Go.Proofs.YtkccmpikeekceaaGreat
end
/- top: each consistent part of may lies in a theory (out of a text of theory). -/
section
namespace Go.Theory
open Go.RowKit Go.Own Go.Ib
theorem mem_theories {n may s : Nat} {l : List Int} (hs : s < 2 ^ n) (h : theory n may l s) : s ∈ theories n may l := by
  unfold theories theoriesTo
  exact List.mem_filter.2 ⟨List.mem_range.2 hs, decide_eq_true h⟩
theorem lt_or_bit {s k : Nat} (h : s.testBit k = false) : s < s ||| 2 ^ k := by
  have h1 : s ≤ s ||| 2 ^ k := Nat.left_le_or
  have h2 : s ≠ s ||| 2 ^ k := fun e => by
    have := congrArg (fun x => x.testBit k) e
    simp [h] at this
  omega
theorem sub_bits {s may : Nat} (hs : s < 65536) (hm : may < 65536) : sub s may = true ↔ ∀ k, s.testBit k = true → may.testBit k = true := subN (by omega) (by omega)
/-- Each part of may without a conflict is contained in a theory. -/
theorem ext_theory {n may : Nat} {l : List Int} (hn : n ≤ 16) (hm : may < 2 ^ n) : ∀ (d s : Nat), 2 ^ n - s ≤ d → s < 2 ^ n → (∀ k, s.testBit k = true → may.testBit k = true) → cl l s = false → ∃ t ∈ theories n may l, ∀ k, s.testBit k = true → t.testBit k = true
  | 0, s, hd, hs, _, _ => by omega
  | d + 1, s, hd, hs, hb, hc => by
    have hp := pow16 hn
    by_cases ht : theory n may l s
    · exact ⟨s, mem_theories hs ht, fun _ h => h⟩
    · have hf : fst l s < 0 := by
        have := cl_fst (l := l) (s := s)
        rw [hc] at this
        have := (decide_eq_false_iff_not.1 this.symm)
        omega
      have : ∃ k, k < n ∧ may.testBit k = true ∧ s.testBit k = false ∧ cl l (s ||| 2 ^ k) = false := by
        apply Classical.byContradiction
        intro hno
        refine ht ⟨(sub_bits (by omega) (by omega)).2 hb, hf, fun k hk h1 h2 => ?_⟩
        cases hcl : cl l (s ||| 2 ^ k) with
        | false => exact absurd ⟨k, hk, h1, h2, hcl⟩ hno
        | true =>
          rw [cl_fst] at hcl
          exact of_decide_eq_true hcl
      obtain ⟨k, hk, h1, h2, h3⟩ := this
      have hlt := lt_or_bit h2
      have hs2 : s ||| 2 ^ k < 2 ^ n := Nat.or_lt_two_pow hs (Nat.pow_lt_pow_right (by decide) hk)
      obtain ⟨t, ht1, ht2⟩ := ext_theory hn hm d (s ||| 2 ^ k) (by omega) hs2 (fun j hj => by
        rw [Nat.testBit_or, Nat.testBit_two_pow] at hj
        by_cases e : k = j
        · subst e; exact h1
        · simp [e] at hj; exact hb j hj) h3
      refine ⟨t, ht1, fun j hj => ht2 j ?_⟩
      rw [Nat.testBit_or, hj]; rfl
theorem cl_zero {l : List Int} {M : Nat} (hM : M ≤ 65536) (hv : ∀ c ∈ l, 1 ≤ c ∧ c < (M : Int)) : cl l 0 = false := by
  unfold cl
  rw [List.any_eq_false]
  intro c hc h
  obtain ⟨m, rfl⟩ : ∃ m : Nat, c = m := ⟨c.toNat, by have := hv c hc; omega⟩
  have hc2 := hv _ hc
  have h2 := (subN (m := m) (s := 0) (by omega) (by omega)).1 h
  have : m = 0 := Nat.eq_of_testBit_eq fun k => by
    cases hk : m.testBit k with
    | false => simp
    | true => have := h2 k hk; simp at this
  omega
theorem valid_nat {n may : Nat} {l : List Int} (hv : valid n may l) : n ≤ 16 ∧ may < 2 ^ n ∧ l.length ≤ 1024 ∧ ∀ c ∈ l, 1 ≤ c ∧ c < ((2 ^ n : Nat) : Int) := by
  obtain ⟨_, h2, h3, _, h5, h6⟩ := hv
  rw [show ((2 : Int) ^ (n : Int).toNat) = ((2 ^ n : Nat) : Int) by simp] at h5 h6
  exact ⟨by omega, by omega, h3, h6⟩
theorem theories_ne {n may : Nat} {l : List Int} (hv : valid n may l) : theories n may l ≠ [] := by
  obtain ⟨h1, h2, _, h4⟩ := valid_nat hv
  obtain ⟨t, ht, _⟩ := ext_theory (l := l) h1 h2 (2 ^ n) 0 (by omega) (Nat.two_pow_pos n) (fun k h => by simp at h) (cl_zero (pow16 h1) h4)
  exact List.ne_nil_of_mem ht
end Go.Theory
end
/- theory: the reference's Check. -/
section
namespace Go.Theory
open Go.RowKit Go.Own Go.Ib
/-- the numbers below k that may has and s lacks -/
def needs (may s k : Nat) : List Nat := (List.range k).filter fun j => may.testBit j && !s.testBit j
/-- what Check finds for the numbers below k -/
def founds (l : List Int) (may s k : Nat) : List Int := (needs may s k).map fun j => fst l ((s ||| 2 ^ j : Nat) : Int)
def chk (n may : Nat) (l : List Int) (s : Nat) : List Int × Int :=
  if 0 ≤ fst l s then ([], 15) else if (founds l may s n).all (fun x => decide (0 ≤ x)) then (founds l may s n, 0) else ([], 10)
theorem founds_no {l : List Int} {may s k : Nat} (h : (may.testBit k && !s.testBit k) = false) : founds l may s (k + 1) = founds l may s k := by
  unfold founds needs
  rw [List.range_succ, List.filter_append]
  simp [h]
theorem founds_yes {l : List Int} {may s k : Nat} (h : (may.testBit k && !s.testBit k) = true) : founds l may s (k + 1) = founds l may s k ++ [fst l ((s ||| 2 ^ k : Nat) : Int)] := by
  unfold founds needs
  rw [List.range_succ, List.filter_append]
  simp [h]
theorem founds_len (l : List Int) (may s k : Nat) : (founds l may s k).length ≤ k := by
  unfold founds needs
  rw [List.length_map]
  have := List.length_filter_le (fun j => may.testBit j && !s.testBit j) (List.range k)
  rwa [List.length_range] at this
theorem founds_pre (l : List Int) (may s : Nat) : ∀ (d k : Nat), founds l may s k <+: founds l may s (k + d)
  | 0, _ => List.prefix_refl _
  | d + 1, k => by
    refine (founds_pre l may s d k).trans ?_
    rw [← Nat.add_assoc]
    cases h : (may.testBit (k + d) && !s.testBit (k + d)) with
    | false => rw [founds_no h]; exact List.prefix_refl _
    | true => rw [founds_yes h]; exact List.prefix_append _ _
theorem founds_bad {l : List Int} {may s k n : Nat} (hk : k < n) (h : (may.testBit k && !s.testBit k) = true) (hf : fst l ((s ||| 2 ^ k : Nat) : Int) < 0) : (founds l may s n).all (fun x => decide (0 ≤ x)) = false := by
  obtain ⟨t, ht⟩ := founds_pre l may s (n - (k + 1)) (k + 1)
  rw [show k + 1 + (n - (k + 1)) = n by omega, founds_yes h] at ht
  rw [← ht]
  simp; omega
end Go.Theory
namespace Go.Proofs.YtkccmpikeekceaaGreat
open Go.RowKit Go.Own Go.Theory Go.BigFrame Go.Shelf
theorem infoInt : (Tryz.prog.info? 3).map (fun i => (i.zero, i.size, i.bytes)) = some (some (.int .i64 0), 1, 8) := by kernel_rfl
theorem hTint : Tryz.prog.underlying 22 = some (.slice 3) := by kernel_rfl
end Go.Proofs.YtkccmpikeekceaaGreat
end

/- label: the program's Labels. -/
import Derived.Test.YtcbmifaobdamhaaA17
namespace Go.Proofs.Ytcbmifaobdamhaa
open Go.RowKit Go.Own Go.Theory Go.BigFrame Go.Ib Go.Label Go.Shelf
theorem mk_sets (n : Nat) (hn : n ≤ 1000000) (u : World) : (Instr.makeSlice 36 (.int .i64 n) (.int .i64 n)).run Try.prog u = .ok (.slice (some ⟨u.heap.size, 0, none⟩) n n) (u.alloc (.cells (Array.replicate n (.slice none 0 0)) 37)) :=
  run_make_one (.slice none 0 0) 24 (by kernel_rfl) (by kernel_rfl) rfl n (by omega) (by unfold maxLen; omega) u
theorem infoSet : (Try.prog.info? 26).map (fun i => (i.zero, i.size, i.bytes)) = some (some (.int .i64 0), 1, 8) := by kernel_rfl
theorem hTset : Try.prog.underlying 37 = some (.slice 26) := by kernel_rfl
theorem prtP (s B : Nat) (w : World) (hB : B < w.heap.size) (hc : w.cell? ⟨B, 0, none⟩ = some (.int .i64 s)) :
    PredAt Try.prog 46 #[.pointer (some ⟨B, 0, none⟩)] (Value.int .i64) (fun x => bits .and .i64 x s == x) w := fun W x hb => by
  have hcW : W.cell? ⟨B, 0, none⟩ = some (.int .i64 s) := (hb.cell (p := ⟨B, 0, none⟩) hB).trans hc
  show Calls Try.prog 46 #[.int .i64 x, .pointer (some ⟨B, 0, none⟩)] W _
  go_enter Try.func46, Try.ntmps46
  go_wp2
  go_ret
  exact ⟨rfl, 0, rfl⟩
/-- whether a row has a part of the set in a box -/
theorem cpart_any (l : List Nat) (s B : Nat) (sa : Option Addr) (cap : Nat) (w : World) (hB : B < w.heap.size) (hc : w.cell? ⟨B, 0, none⟩ = some (.int .i64 s)) (hl : Sl w 1 (.slice sa l.length cap) l.length (ints l)) (hll : l.length ≤ 1000000) (hr : ∀ t ∈ l, t < 65536) (hs : s < 65536) :
    Calls Try.prog 47 #[.slice sa l.length cap, .func (.func 46) #[] #[.pointer (some ⟨B, 0, none⟩)]] w fun e w' => e = .returned (.bool (l.any fun x => prt x s)) ∧ ∃ q, w' = w.drewN q := by
  rw [← any_prt hr hs]
  rw [ints_map] at hl
  have h := cf_any Try.lc47 (fun x => bits .and .i64 x s == x) 46 #[.pointer (some ⟨B, 0, none⟩)] (enters_of Try.func46 (by kernel_rfl) rfl) (l.map fun (j : Nat) => (j : Int)) sa cap w (prtP s B w hB hc) (by rw [List.length_map]; exact hl) (by rw [List.length_map]; omega)
  rw [List.length_map] at h
  exact h
attribute [local go_sem] Oper.semAt_some SqC.wide_fn SqC.wide_round_fn run_store_func
attribute [local irreducible] SqC.SqW
set_option maxRecDepth 100000 in
set_option maxHeartbeats 4000000 in
theorem plabels_any (b : Lg) (F : Nat) (sa sr : Option Addr) (ca cr : Nat) (bs : List Value) (hrg : LgRg b) (w : World) (h : LgAt w b sa sr ca cr bs) (ok : Ok b) (hF : b.facts = F) (h8 : b.assume.length ≤ 8) :
    Calls Try.prog 17 #[lgV b sa sr ca cr] w fun e w' => ∃ P vs vb, e = .returned (.tuple #[.slice (some ⟨P, 0, none⟩) F F, vb, .int .i64 0]) ∧ Blk w' P (rm F vs) 37 ∧
      (∀ f, f < F → Sl w' 1 (vs f) ((lfold b ((ords b.assume.length (b.assume.length + 1)).map (·.1))).lab f).length (ints ((lfold b ((ords b.assume.length (b.assume.length + 1)).map (·.1))).lab f))) ∧
      Sl w' 1 vb (lfold b ((ords b.assume.length (b.assume.length + 1)).map (·.1))).bad.length (ints (lfold b ((ords b.assume.length (b.assume.length + 1)).map (·.1))).bad) ∧ Below w.heap.size w w' := by
  have hlgV : lgV b sa sr ca cr = .agg #[.int .i64 F, .slice sa b.assume.length ca, .slice sr b.rules.length cr] := by unfold lgV; rw [hF]
  have hbox := box_new w b sa sr ca cr 25
  rw [hF] at hbox
  obtain ⟨W1, hW1⟩ : ∃ W1, W1 = w.alloc (.cells #[.int .i64 F, .slice sa b.assume.length ca, .slice sr b.rules.length cr] 25) := ⟨_, rfl⟩
  have hblk : Blk W1 w.heap.size [.int .i64 F, .slice sa b.assume.length ca, .slice sr b.rules.length cr] 25 := by rw [hW1]; exact Blk.new w #[.int .i64 F, .slice sa b.assume.length ca, .slice sr b.rules.length cr] 25
  rw [← hW1] at hbox
  have hH := h.below hbox.b1
  have hv := pvalid_any b sa sr ca cr bs hrg W1 hH trivial
  rw [hlgV] at hv ⊢
  rw [valE_ok.2 ok] at hv
  have HBLK := Lib.hid hblk; clear hblk
  have HBOX := Lib.hid hbox; clear hbox
  have HH := Lib.hid hH; clear hH h
  have HW1 := Lib.hid hW1; clear hW1
  have HV := Lib.hid hv; clear hv hrg
  have HLV := Lib.hid hlgV; clear hlgV
  have HOK := Lib.hid ok
  have hf64 := ok.f64
  rw [hF] at hf64
  have r64 := ok.r64
  clear ok
  have HFe := Lib.hid hF
  have hF64 : F ≤ 64 := by omega
  clear hF
  refine (callsIn_wide (n := 4)).1 ?_
  refine callsIn_of_wp_marks Try.func17 rfl trivial ?_ rfl
  simp only [Try.ntmps17, List.size_toArray, List.length_cons, List.length_nil, Nat.reduceAdd, Nat.reduceSub, Array.replicate_succ, Array.replicate_zero, List.push_toArray, List.append_toArray, List.nil_append, List.cons_append]
  refine wpIn_wide.2 ?_
  go_wp2_with (fail)
  rw [← HW1.out]
  refine HV.out.mono ?_
  clear HV
  rintro e w2 ⟨rfl, b2⟩
  obtain ⟨c0, c1, c2⟩ := HBOX.out.cell w2 b2
  rw [HFe.out] at c0
  obtain ⟨P, hP⟩ : ∃ P, P = w2.heap.size := ⟨_, rfl⟩
  have z1 := HBOX.out.z1
  have zP : W1.heap.size ≤ P := by rw [hP]; exact b2.size
  have hmk := mk_sets F (by omega)
  obtain ⟨W3, hW3⟩ : ∃ W3, W3 = ((w2.alloc (.cells (Array.replicate F (.slice none 0 0)) 37)).alloc (.cells #[.slice (some ⟨P, 0, none⟩) F F] 36)).alloc (.cells #[.slice none 0 0] 37) := ⟨_, rfl⟩
  have b3 : Below W1.heap.size W1 W3 := by rw [hW3]; exact ((b2.alloc b2.size _).alloc (by have := b2.size; simp; omega) _).alloc (by have := b2.size; simp; omega) _
  have sz3 : W3.heap.size = P + 3 := by rw [hW3]; simp [hP]
  have k1 : Blk W3 P (rm F fun _ => .slice none 0 0) 37 := by
    have := blk_make w2 F (.slice none 0 0) 37
    rw [rm_rep, ← hP] at this
    rw [hW3]
    exact (this.alloc _).alloc _
  have k2 : Blk W3 (P + 1) [.slice (some ⟨P, 0, none⟩) F F] 36 := by rw [hW3]; exact (Blk.new_at _ _ _ (by simp [hP])).alloc _
  have k3 : Blk W3 (P + 2) [.slice none 0 0] 37 := by rw [hW3]; exact Blk.new_at _ _ _ (by simp [hP])
  have hmk2 := masks_any b sa sr ca cr bs HOK.out W3 (HH.out.below b3)
  rw [HLV.out] at hmk2
  obtain ⟨d0, d1, d2⟩ := HBOX.out.cell W3 b3
  have HB3 := Lib.hid b3; clear b3 b2
  have K1 := Lib.hid k1; clear k1
  have K2 := Lib.hid k2; clear k2
  have K3 := Lib.hid k3; clear k3
  have HM2 := Lib.hid hmk2; clear hmk2
  rw [hP] at hW3
  have HW3 := Lib.hid hW3; clear hW3
  have zz : w.heap.size < w2.heap.size := by omega
  have zz1 : w.heap.size < w2.heap.size + 1 := by omega
  have zz2 : w.heap.size < w2.heap.size + 1 + 1 := by omega
  have zz3 : w.heap.size < w2.heap.size + 1 + 1 + 1 := by omega
  clear d0 d1 d2
  go_wp2_with (fail)
  rw [← HW3.out]
  clear zz zz1 zz2 zz3
  simp only [← hP]
  rw [show P + 1 + 1 = P + 2 from rfl]
  have HP := Lib.hid hP; clear hP
  refine HM2.out.mono ?_
  clear HM2 c0 c1 c2 hmk
  rintro e w4 ⟨G, hG, rfl, hg, b4⟩
  have z4 : P + 3 ≤ w4.heap.size := by have := b4.size; omega
  have hg4 : G < w4.heap.size := hg.lt
  have b4' : Below W1.heap.size W1 w4 := HB3.out.trans (b4.mono HB3.out.size)
  obtain ⟨c0, c1, c2⟩ := HBOX.out.cell w4 b4'
  have zw4 : w.heap.size < w4.heap.size := by omega
  obtain ⟨Q, hQ⟩ : ∃ Q, Q = w4.heap.size := ⟨_, rfl⟩
  obtain ⟨n, hn⟩ : ∃ n, n = b.assume.length := ⟨_, rfl⟩
  obtain ⟨nr, hnr⟩ : ∃ nr, nr = b.rules.length := ⟨_, rfl⟩
  obtain ⟨W0, hW0⟩ : ∃ W0, W0 = (w4.alloc (.cells #[.slice (some ⟨G, 0, none⟩) b.rules.length b.rules.length] 57)).alloc (.cells #[.int .i64 b.assume.length] 3) := ⟨_, rfl⟩
  have o1 : Below w4.heap.size w4 W0 := by rw [hW0]; exact (alloc_below _ _).alloc (by simp) _
  have sz0 : W0.heap.size = Q + 2 := by rw [hW0]; simp [hQ]
  have oQ : Blk W0 Q [.slice (some ⟨G, 0, none⟩) b.rules.length b.rules.length] 57 := by rw [hW0, hQ]; exact (Blk.new _ _ _).alloc _
  have oN : Blk W0 (Q + 1) [.int .i64 b.assume.length] 3 := by rw [hW0]; exact Blk.new_at _ _ _ (by simp [hQ])
  have oG := hg.below o1 hg.lt
  have o4 : Below P.succ.succ.succ W3 W0 := (b4.mono (by omega)).trans (o1.mono (by omega))
  have oP : Blk W0 P (rm F fun _ => .slice none 0 0) 37 := K1.out.below o4 (by omega)
  have oP1 : Blk W0 (P + 1) [.slice (some ⟨P, 0, none⟩) F F] 36 := K2.out.below o4 (by omega)
  have oP2 : Blk W0 (P + 2) [.slice none 0 0] 37 := K3.out.below o4 (by omega)
  have ob : Below W1.heap.size W1 W0 := b4'.trans (o1.mono (by omega))
  have oL : LabM 37 26 W0 W0 P F (fun _ => []) [] (fun _ => .slice none 0 0) (.slice none 0 0) :=
    ⟨by omega, oP, oP2, fun f hf => World.ownsRow_nil _ _ _ _, World.ownsRow_nil _ _ _ _, (fun _ _ k _ _ _ h => by cases h), (fun _ k _ h => by cases h), Chg.refl _ _⟩
  rw [← hn, ← hnr] at hW0
  have HW0 := Lib.hid hW0; clear hW0
  have OQ := Lib.hid oQ; clear oQ
  have ON := Lib.hid oN; clear oN
  have OG := Lib.hid oG; clear oG hg
  have OP1 := Lib.hid oP1; clear oP1 oP oP2 o4
  have OB := Lib.hid ob; clear ob
  have OL := Lib.hid oL; clear oL
  clear b4 b4' o1 K1 K2 K3 HB3 HW3
  have HNR := Lib.hid hnr
  have HN := Lib.hid hn
  rw [← hn] at c1 h8 ⊢
  rw [← hnr] at c2 r64 ⊢
  clear hn hnr
  go_wp2_with (fail)
  refine (sets_any (n : Int) _).mono ?_
  rintro e w5 ⟨rfl, rfl⟩
  rw [← HW0.out]
  simp only [World.size_alloc, ← hQ]
  have HQ := Lib.hid hQ; clear hQ HW0 HP c0 c1 c2
  go_wp2
  refine (wpIn_wide (n := 4)).1 ?_
  obtain ⟨Ac, hAc⟩ : ∃ Ac : Nat → Int → Act, Ac = fun N x => { tmps := #[.agg #[.int .i64 F, .slice sa n ca, .slice sr nr cr], .pointer (some ⟨w.heap.size, 0, none⟩), .slice none 0 0, .slice none 0 0, .int .i64 0, .int .i64 0, .pointer (some ⟨P + 1, 0, none⟩), .pointer (some ⟨P + 2, 0, none⟩), .pointer (some ⟨Q, 0, none⟩), .pointer (some ⟨N, 0, none⟩), undef, undef, undef, undef, .agg #[.int .i64 F, .slice sa n ca, .slice sr nr cr], .int .i64 0, .int .i64 0, .bool false, undef, .pointer (some ⟨w.heap.size, 0, none⟩), .int .i64 F, .slice (some ⟨P, 0, none⟩) F F, .agg #[.int .i64 F, .slice sa n ca, .slice sr nr cr], .slice (some ⟨G, 0, none⟩) nr nr, .pointer (some ⟨w.heap.size, 1, none⟩), .slice sa n ca, .int .i64 n, .func (.func 64) #[] #[.pointer (some ⟨Q + 1, 0, none⟩)], .int .i64 x, undef, undef, undef, undef, undef, undef, undef, undef, undef, undef, undef, undef, undef, undef, undef, undef, undef, undef, undef, undef, undef, undef, undef, undef, undef, undef, undef, undef, undef, undef, undef, undef, undef, undef, undef, undef, undef, undef, undef, undef, undef, undef, undef, undef, undef, undef, undef, undef, undef, undef], defers := [] } := ⟨_, rfl⟩
  have HAc := Lib.hid hAc; clear hAc
  have hon := ON.out
  rw [← HN.out] at hon
  refine wpIn_rangeFunc_ownH rfl (by decide) (gf := 64) (lb := #[.pointer (some ⟨Q + 1, 0, none⟩)]) rfl trivial (enters_of Try.func64 (by kernel_rfl) rfl)
    (sets1_stops 3 (by decide) (Q + 1) n h8 W0 (by omega) (hon.cell rfl)) KpB.trans (fun W l o o' _ h ho _ => KpB.put W l o o' h ho) (Below.refl _ _) (fun _ => rfl)
    (fun pre W => ∃ vs vb, LabM 37 26 W0 W P F (lfold b (pre.map (·.1))).lab (lfold b (pre.map (·.1))).bad vs vb)
    (fun _ _ _ => False) ?hI (fun _ => ownFrom_false) ⟨_, _, OL.out⟩
    (fun x a' W => ∃ N vs0 vb0, W0.heap.size ≤ N ∧ Blk W N [.int .i64 (x.1 : Int)] 26 ∧ Blk W P (rm F vs0) 37 ∧ Blk W (P + 2) [vb0] 37 ∧ (∀ f k, f < F → (vs0 f).ownBlock = some k → k ≠ N) ∧ a' = Ac N x.1) ?hAx ?assign ?body ?done ?stop
  case hI =>
    rintro pre W W' row ⟨vs, vb, hL⟩ hg hr
    exact ⟨vs, vb, hL.kept hg hr⟩
  case hAx =>
    rintro x a' u W W' row ⟨N, vs0, vb0, hN, bN, q1, q2, q3, e⟩ hg hr
    exact ⟨N, vs0, vb0, hN, bN.kept hg fun r e => (hr r e).2, q1.kept hg fun r e => (hr r e).2, q2.kept hg fun r e => (hr r e).2, q3, e⟩
  case assign =>
    rintro l pre x W K ⟨vs, vb, hL⟩ hK
    gi_wp2
    refine hK _ _ ((KeepsOthers.alloc _ _).from _) (KpB.below (alloc_below _ _) (by have := hL.size; omega)) ⟨vs, vb, hL.alloc _⟩ ⟨W.heap.size, vs, vb, hL.size, Blk.new W #[.int .i64 (x.1 : Int)] 26, hL.lb.alloc _, hL.bb.alloc _, (fun f k hf hk e => by have := (own_lt (hL.own f hf) hk).2; omega), ?_⟩
    rw [HAc.out]
  case body =>
    rintro l pre x a' W hl0 hrec ⟨vs, vb, hL⟩ ⟨N, vs0, vb0, hN, bN, q1, q2, q3, rfl⟩ hlt
    have hdN : ∀ f k, f < F → (vs f).ownBlock = some k → k ≠ N := fun f k hf hk => q3 f k hf (by rw [← rm_inj (blk_same hL.lb q1) hf]; exact hk)
    clear q1 q2 q3
    have HDN := Lib.hid hdN; clear hdN
    rw [HAc.out]
    have hmem := lfold_mem b (pre.map (·.1))
    have hlen := lfold_len b (pre.map (·.1))
    have hM : ∀ t ∈ pre.map (·.1), t < 65536 := fun t ht => by
      obtain ⟨y, _, rfl⟩ := List.mem_map.1 ht
      have := y.2
      have := pow16 (n := n) (by omega)
      omega
    have hx : x.1 < 65536 := by have := x.2; have := pow16 (n := n) (by omega); omega
    have hfold : lfold b ((pre ++ [x]).map (·.1)) = lstep b (lfold b (pre.map (·.1))) x.1 := by rw [List.map_append, List.map_singleton, lfold_snoc]
    rw [List.length_map] at hlen
    obtain ⟨S, hS⟩ : ∃ S, S = lfold b (pre.map (·.1)) := ⟨_, rfl⟩
    rw [← hS] at hmem hlen hfold hL
    have hbm : ∀ t ∈ S.bad, t < 65536 := fun t ht => hM t (hmem.2 t ht)
    have hlm : ∀ f, ∀ t ∈ S.lab f, t < 65536 := fun f t ht => hM t (hmem.1 f t ht)
    have hbl : S.bad.length ≤ 4096 := by omega
    have hll : ∀ f, (S.lab f).length ≤ 4096 := fun f => by have := hlen.1 f; omega
    have HFO := Lib.hid hfold; clear hfold hS hmem hlen hM
    have HBM := Lib.hid hbm; clear hbm
    have HLM := Lib.hid hlm; clear hlm
    have HLL := Lib.hid hll; clear hll
    obtain ⟨s, hs⟩ : ∃ s, s = x.1 := ⟨_, rfl⟩
    rw [← hs] at hx bN HFO ⊢
    have HS := Lib.hid hs; clear hs
    have HL := Lib.hid hL
    obtain ⟨sb, cb, rfl, _⟩ := own_slice hL.ownb
    have c7 : W.cell? ⟨P + 2, 0, none⟩ = some (.slice sb S.bad.length cb) := hL.bb.cell rfl
    have cN : W.cell? ⟨N, 0, none⟩ = some (.int .i64 s) := bN.cell rfl
    have hcp := cpart_any S.bad s N sb cb W bN.lt cN (Sl.of_owns hL.ownb) (by omega) HBM.out hx
    have BN := Lib.hid bN; clear bN
    cases hany : S.bad.any (fun y => prt y s) with
    | true =>
      rw [hany] at hcp
      have HCP := Lib.hid hcp; clear hcp hL
      have e1 : lstep b S s = S := by unfold lstep; rw [if_pos hany]
      have E1 := Lib.hid e1; clear e1 hany
      gi_wp2_with (gi_at_call 47; refine (CallsIn.inRound l (callsIn_wide.2 HCP.out)).mono ?_; rintro e w6 ⟨rfl, q, rfl⟩)
      gi_wp2
      refine ⟨(keepsOthers_drewN W q).from _, KpB.below (below_drewN (Below.refl W.heap.size W) q) (by have := HL.out.size; omega), vs, .slice sb S.bad.length cb, ?_⟩
      rw [HFO.out, E1.out]
      exact HL.out.drewN q
    | false =>
      rw [hany] at hcp
      have HCP := Lib.hid hcp; clear hcp hL
      have HANY := Lib.hid hany; clear hany
      gi_wp2_with (gi_at_call 47; refine (CallsIn.inRound l (callsIn_wide.2 HCP.out)).mono ?_; rintro e w6 ⟨rfl, q, rfl⟩)
      gi_wp2
      have hbase : Below W1.heap.size W1 W := HL.out.low OB.out zP
      have zQ : P + 3 ≤ Q := by have := HQ.out; omega
      have zG : P + 3 ≤ G := by have := hG; omega
      have zGQ : G < Q := by have := HQ.out; omega
      have hU1 : ∀ U, Below W.heap.size W U → Blk U w.heap.size [.int .i64 F, .slice sa n ca, .slice sr nr cr] 25 := fun U hU => by
        have h := HBLK.out.below (hbase.trans (hU.mono hbase.size)) HBLK.out.lt
        rwa [← HN.out, ← HNR.out] at h
      have hU2 : ∀ U, Below W.heap.size W U → Blk U Q [.slice (some ⟨G, 0, none⟩) nr nr] 57 := fun U hU => by
        have h1 := HL.out.blk OQ.out (by omega) (by omega)
        have h := h1.below hU h1.lt
        rwa [← HNR.out] at h
      have hU3 : ∀ U, Below W.heap.size W U → Blk U N [.int .i64 (s : Int)] 26 := fun U hU => BN.out.below hU BN.out.lt
      have hU4 : ∀ U, Below W.heap.size W U → LgAt U b sa sr ca cr bs := fun U hU => HH.out.below (hbase.trans (hU.mono hbase.size))
      have hU5 : ∀ U, Below W.heap.size W U → Sl U 1 (.slice (some ⟨G, 0, none⟩) b.rules.length b.rules.length) b.rules.length (b.rules.map fun r => .int .u64 (msk r.body : Nat)) := fun U hU => by
        have h1 := HL.out.blk OG.out (by omega) (by omega)
        have h := h1.below hU h1.lt
        have h64 := HOK.out.r64
        exact ⟨by simp, .inr ⟨G, 0, _, rfl, Nat.le_refl _, by unfold maxLen; omega, h.cells0, h.lt⟩⟩
      have eX : Below W.heap.size W (W.drewN q).drew := (below_drewN (Below.refl _ _) q).drew
      haveI : Nonempty (SqC.Come fun U => Below W.heap.size W U) := ⟨⟨_, eX⟩⟩
      refine SqC.wpIn_region_sqc 11 [4, 5] (fun U => Below W.heap.size W U) (by kernel_rfl) (by kernel_rfl) (by kernel_rfl) (by kernel_rfl) eX ?_
      obtain ⟨wd, hwd⟩ : ∃ wd : World, wd = (W.drewN q).drew := ⟨_, rfl⟩
      rw [← hwd] at eX ⊢
      clear hwd
      refine SqC.value (.agg #[.int .i64 F, .slice sa n ca, .slice sr nr cr]) rfl rfl (by intro U hU; exact load_agg_exec rfl rfl (run_load_agg (P := Try.prog) (ty := 25) (hU1 U hU).cells0 aggB infoB)) ?_
      simp only [Act.put, List.setIfInBounds_toArray, List.set_cons_zero, List.set_cons_succ]
      refine SqC.value (.slice (some ⟨G, 0, none⟩) nr nr) rfl rfl (by intro U hU; have cx : U.cell? ⟨Q, 0, none⟩ = some (.slice (some ⟨G, 0, none⟩) nr nr) := (hU2 U hU).cell rfl; go_simp) ?_
      simp only [Act.put, List.setIfInBounds_toArray, List.set_cons_zero, List.set_cons_succ]
      refine SqC.value (.agg #[.int .i64 F, .slice sa n ca, .slice sr nr cr]) rfl rfl (by intro U hU; exact load_agg_exec rfl rfl (run_load_agg (P := Try.prog) (ty := 25) (hU1 U hU).cells0 aggB infoB)) ?_
      simp only [Act.put, List.setIfInBounds_toArray, List.set_cons_zero, List.set_cons_succ]
      refine SqC.value (.int .i64 (s : Int)) rfl rfl (by intro U hU; have cx : U.cell? ⟨N, 0, none⟩ = some (.int .i64 (s : Int)) := (hU3 U hU).cell rfl; go_simp) ?_
      simp only [Act.put, List.setIfInBounds_toArray, List.set_cons_zero, List.set_cons_succ]
      refine SqC.effect rfl rfl ?_
      have hcg := given_any b s sa sr ca cr bs HOK.out hx wd (hU4 wd eX)
      rw [HLV.out, ← HN.out, ← HNR.out] at hcg
      refine yields_call rfl (by kernel_rfl) rfl rfl (hcg.mono ?_)
      rintro e w7 ⟨rfl, b7⟩
      have e7 : Below W.heap.size W w7 := eX.trans (b7.mono eX.size)
      refine ⟨_, rfl, fun _ => e7, ?_⟩
      simp only [Act.put, List.setIfInBounds_toArray, List.set_cons_zero, List.set_cons_succ]
      refine SqC.effect rfl rfl ?_
      have hcc := closed_any b s sa sr (some ⟨G, 0, none⟩) ca cr b.rules.length bs HOK.out w7 (hU4 w7 e7) (hU5 w7 e7)
      rw [HLV.out, ← HN.out, ← HNR.out] at hcc
      refine yields_call rfl (by kernel_rfl) rfl rfl (hcc.mono ?_)
      rintro e w8 ⟨rfl, b8⟩
      have e8 : Below W.heap.size W w8 := e7.trans (b8.mono e7.size)
      refine ⟨_, rfl, fun _ => e8, ?_⟩
      simp only [Act.put, List.setIfInBounds_toArray, List.set_cons_zero, List.set_cons_succ]
      iterate 5 (refine SqC.quiet rfl rfl ?_; go_big_quiet_step (fail); refine wpQuiet_nil ?_)
      refine SqC.nil ?_
      clear eX e7 b7 b8 hcg hcc hU1 hU2 hU4 hU5
      have hL8 := HL.out.below e8
      have hN8 := hU3 w8 e8
      clear hU3
      have k8 : KeepsOthers W w8 := below_others e8
      have kp8 : KpB (Q + 1) W w8 := KpB.below e8 (by have := HL.out.size; omega)
      have HL8 := Lib.hid hL8
      have HN8 := Lib.hid hN8
      have HK8 := Lib.hid k8; clear k8
      have HP8 := Lib.hid kp8; clear kp8
      have c7 : w8.cell? ⟨P + 2, 0, none⟩ = some (.slice sb S.bad.length cb) := hL8.bb.cell rfl
      have cN : w8.cell? ⟨N, 0, none⟩ = some (.int .i64 s) := hN8.cell rfl
      have c6 : w8.cell? ⟨P + 1, 0, none⟩ = some (.slice (some ⟨P, 0, none⟩) F F) := (hL8.blk OP1.out (by omega) (by omega)).cell rfl
      have z8 : P + 2 < w8.heap.size := hL8.bb.lt
      have zN8 : N < w8.heap.size := hN8.lt
      clear hL8 hN8
      obtain ⟨K, hK⟩ : ∃ K, K = fol b s := ⟨_, rfl⟩
      have hK64 := (fol_spec HOK.out s).1
      rw [← hK] at hK64 ⊢
      have HKK := Lib.hid hK; clear hK
      cases hbad : badS b s with
      | true =>
        have e1 : lstep b S s = { S with bad := S.bad ++ [s] } := by unfold lstep; rw [if_neg (by rw [HANY.out]; exact Bool.false_ne_true), if_pos hbad]
        have E1 := Lib.hid e1; clear e1 hbad
        have HOW := HL8.out.ownb.alloc (.cells #[.int .i64 (s : Int)] 26)
        have zs8 := HL8.out.size
        gi_wp2_with (gi_at_builtin; refine SqC.wpListIn_only _ (by kernel_rfl) _ _ ?_)
        obtain ⟨i, hi1, hi2, hi3, hi4⟩ := info_parts infoSet
        go_wp2_with (refine wpList_append_lies _ rfl _ _ 37 rfl W0.heap.size 26 i (.int .i64 0) 1 8 hTset hi1 hi2 hi3 hi4 rfl (by decide) _ S.bad.length _ rfl HOW ⟨w8.heap.size, 0, none⟩ 1 1 [.int .i64 s] rfl rfl (World.news_of_block (Blk.new w8 #[.int .i64 (s : Int)] 26)) (by intro u hu; simp at hu; rw [hu]; rfl) (by decide) (by unfold maxLen; omega) (by omega) (by simp; omega) _ rfl ?_)
        intro g cap w9 g1 g2 g3 g4
        rw [← sz0] at g1
        have hL9 := HL8.out.alloc (.cells #[.int .i64 (s : Int)] 26)
        have hL10 := hL9.putb g2 g1 (by rw [World.size_alloc]; exact g3)
        have hvb : ∀ k, (Value.slice sb S.bad.length cb).ownBlock = some k → W0.heap.size ≤ k := fun k hk => (own_lt hL9.ownb hk).1
        have t9 := hL9.bb.grown g2 (fun e => by have := hvb _ e.symm; have := hL9.lt; omega)
        have c79 : w9.cell? ⟨P + 2, 0, none⟩ = some (.slice sb S.bad.length cb) := t9.cell rfl
        have f79 : w9.frozen? ⟨P + 2, 0, none⟩ = false := t9.frozen 0
        have kk : KeepsOthers W w9 := (HK8.out.trans (KeepsOthers.alloc w8 (.cells #[.int .i64 (s : Int)] 26))).trans (own_keeps HOW g2)
        have kp : KpB (Q + 1) W (w9.setCell ⟨P + 2, 0, none⟩ (.slice (some ⟨g, 0, none⟩) (S.bad.length + 1) cap)) := fun v hv => (World.cell?_of_block (HL.out.keep hL10 (k := Q + 1) (by omega) (by omega) (by omega))).trans hv
        have HL10 := Lib.hid hL10; clear hL10 hL9 t9
        have KK := Lib.hid kk; clear kk
        have KP := Lib.hid kp; clear kp
        clear c7 cN c6
        go_wp2
        apply_assumption
        gi_wp2
        refine ⟨(KK.out.trans (KeepsOthers.setCell _ _ _)).from _, KP.out, vs, .slice (some ⟨g, 0, none⟩) (S.bad.length + 1) cap, ?_⟩
        rw [HFO.out, E1.out]
        exact HL10.out
      | false =>
        have e1 : lstep b S s = { S with lab := fun f => upd K s f (S.lab f) } := by
          unfold lstep
          rw [if_neg (by rw [HANY.out]; exact Bool.false_ne_true), if_neg (by rw [hbad]; exact Bool.false_ne_true), ← HKK.out]
        have E1 := Lib.hid e1; clear e1 hbad
        gi_wp2
        gi_loopw [49] (fun vi wq => ∃ f : Nat, f ≤ F ∧ vi = .int .i64 f ∧ ∃ vs', LabM 37 26 W0 wq P F (labF K s S.lab f) S.bad vs' (.slice sb S.bad.length cb) ∧ (∀ j k, j < F → (vs' j).ownBlock = some k → k ≠ N) ∧ Blk wq N [.int .i64 (s : Int)] 26 ∧ KeepsOthers W wq)
          (fun vi _ => F - (vInt vi).toNat)
        case atStart => exact ⟨0, by omega, rfl, vs, by rw [show labF K s S.lab 0 = S.lab from funext fun j => by unfold labF; rw [if_neg (by omega)]]; exact HL8.out, HDN.out, HN8.out, HK8.out⟩
        case round =>
          clear c7 cN c6 z8 zN8
          obtain ⟨f, hf, rfl, vs', hL, hd, hn, hk⟩ := hrel
          have c6 : wr.cell? ⟨P + 1, 0, none⟩ = some (.slice (some ⟨P, 0, none⟩) F F) := (hL.blk OP1.out (by omega) (by omega)).cell rfl
          have HL' := Lib.hid hL
          have HD := Lib.hid hd; clear hd
          have HN' := Lib.hid hn
          have HK' := Lib.hid hk; clear hk
          have zs := hL.size
          have cN : wr.cell? ⟨N, 0, none⟩ = some (.int .i64 s) := hn.cell rfl
          have zN := hn.lt
          clear hn
          by_cases h1 : f < F
          · have h1' : (f : Int) < F := by omega
            have hown := hL.own f h1
            rw [labF_at] at hown
            have clb : wr.cell? ⟨P, f, none⟩ = some (vs' f) := hL.lb.cell (rm_get h1)
            have flb : wr.frozen? ⟨P, f, none⟩ = false := hL.lb.frozen f
            obtain ⟨sv, cv, hvf, _⟩ := own_slice hown
            rw [hvf] at clb hown
            have hll := HLL.out f
            have hcp := cpart_any (S.lab f) s N sv cv wr zN cN (Sl.of_owns hown) (by omega) (HLM.out f) hx
            have hand := bu_and1 (K := K) (k := f) hK64
            have HVF := Lib.hid hvf; clear hvf
            have HOWN := Lib.hid hown; clear hown hL
            cases htb : K.testBit f with
            | false =>
              rw [htb, if_neg Bool.false_ne_true] at hand
              have hu : upd K s f (S.lab f) = S.lab f := by unfold upd; rw [htb]; rfl
              have HU := Lib.hid (labF_same hu); clear hu htb hcp
              gi_wp2
              go_roundw
              case rel => exact ⟨f + 1, by omega, by simp, vs', by rw [HU.out]; exact HL'.out, HD.out, HN'.out, HK'.out⟩
              case measure => simp [vInt]; omega
            | true =>
              rw [htb, if_pos rfl] at hand
              cases han : (S.lab f).any fun y => prt y s with
              | true =>
                rw [han] at hcp
                have HCP2 := Lib.hid hcp; clear hcp
                have hu : upd K s f (S.lab f) = S.lab f := by unfold upd; rw [htb, han]; rfl
                have HU := Lib.hid (labF_same hu); clear hu htb han
                gi_wp2_with (gi_at_call 47; refine (CallsIn.inRound l (callsIn_wide.2 HCP2.out)).mono ?_; rintro e w9 ⟨rfl, q9, rfl⟩)
                gi_wp2
                go_roundw
                case rel => exact ⟨f + 1, by omega, by simp, vs', by rw [HU.out]; exact HL'.out.drewN q9, HD.out, HN'.out.drewN q9, HK'.out.trans (keepsOthers_drewN wr q9)⟩
                case measure => simp [vInt]; omega
              | false =>
                rw [han] at hcp
                have HCP2 := Lib.hid hcp; clear hcp
                have hu : upd K s f (S.lab f) = S.lab f ++ [s] := by unfold upd; rw [htb, han]; rfl
                have HU := Lib.hid (labF_more hu); clear hu htb han
                gi_wp2_with (gi_at_call 47; refine (CallsIn.inRound l (callsIn_wide.2 HCP2.out)).mono ?_; rintro e w9 ⟨rfl, q9, rfl⟩)
                gi_wp2
                clear HCP2
                have hL2 := (HL'.out.drewN q9).drewN 1
                have hn2 := (HN'.out.drewN q9).drewN 1
                have hk2 : KeepsOthers W ((wr.drewN q9).drewN 1) := (HK'.out.trans (keepsOthers_drewN wr q9)).trans (keepsOthers_drewN _ 1)
                have e1 : (wr.drewN q9).drew = (wr.drewN q9).drewN 1 := rfl
                have eX : (fun U : World => U.cell? ⟨P + 1, 0, none⟩ = some (.slice (some ⟨P, 0, none⟩) F F) ∧ U.cell? ⟨P, f, none⟩ = some (.slice sv (S.lab f).length cv) ∧ U.cell? ⟨N, 0, none⟩ = some (.int .i64 s)) (wr.drewN q9).drew := ⟨c6, clb, cN⟩
                haveI : Nonempty (SqC.Come fun U : World => U.cell? ⟨P + 1, 0, none⟩ = some (.slice (some ⟨P, 0, none⟩) F F) ∧ U.cell? ⟨P, f, none⟩ = some (.slice sv (S.lab f).length cv) ∧ U.cell? ⟨N, 0, none⟩ = some (.int .i64 s)) := ⟨⟨_, eX⟩⟩
                refine SqC.wpIn_region_sqc 11 [7, 8, 10] (fun U : World => U.cell? ⟨P + 1, 0, none⟩ = some (.slice (some ⟨P, 0, none⟩) F F) ∧ U.cell? ⟨P, f, none⟩ = some (.slice sv (S.lab f).length cv) ∧ U.cell? ⟨N, 0, none⟩ = some (.int .i64 s)) (by kernel_rfl) (by kernel_rfl) (by kernel_rfl) (by kernel_rfl) eX ?_
                rw [e1] at eX ⊢
                obtain ⟨wd, hwd⟩ : ∃ wd : World, wd = (wr.drewN q9).drewN 1 := ⟨_, rfl⟩
                rw [← hwd] at eX hL2 hn2 hk2 ⊢
                clear hwd e1 c6 clb cN flb zN zs
                refine SqC.value (.slice (some ⟨P, 0, none⟩) F F) rfl rfl (by intro U hU; have cx := hU.1; go_simp) ?_
                simp only [Act.put, List.setIfInBounds_toArray, List.set_cons_zero, List.set_cons_succ]
                refine SqC.quiet rfl rfl ?_; go_big_quiet_step (fail); refine wpQuiet_nil ?_
                refine SqC.value (.slice (some ⟨P, 0, none⟩) F F) rfl rfl (by intro U hU; have cx := hU.1; go_simp) ?_
                simp only [Act.put, List.setIfInBounds_toArray, List.set_cons_zero, List.set_cons_succ]
                iterate 2 (refine SqC.quiet rfl rfl ?_; go_big_quiet_step (fail); refine wpQuiet_nil ?_)
                refine SqC.value (.slice sv (S.lab f).length cv) rfl rfl (by intro U hU; have cx := hU.2.1; go_simp) ?_
                simp only [Act.put, List.setIfInBounds_toArray, List.set_cons_zero, List.set_cons_succ]
                refine SqC.value (.int .i64 (s : Int)) rfl rfl (by intro U hU; have cx := hU.2.2; go_simp) ?_
                simp only [Act.put, List.setIfInBounds_toArray, List.set_cons_zero, List.set_cons_succ]
                obtain ⟨wb, hwb⟩ : ∃ wb, wb = wd.alloc (.cells #[.int .i64 (s : Int)] 26) := ⟨_, rfl⟩
                have hL3 : LabM 37 26 W0 wb P F (labF K s S.lab f) S.bad vs' (.slice sb S.bad.length cb) := by rw [hwb]; exact hL2.alloc _
                have hn3 : Blk wb N [.int .i64 (s : Int)] 26 := by rw [hwb]; exact hn2.alloc _
                have hk3 : KeepsOthers W wb := by rw [hwb]; exact hk2.trans (KeepsOthers.alloc _ _)
                have hnew : Blk wb wd.heap.size [.int .i64 (s : Int)] 26 := by rw [hwb]; exact Blk.new wd #[.int .i64 (s : Int)] 26
                have zb : wb.heap.size = wd.heap.size + 1 := by rw [hwb]; simp
                have ex3 : wb.cell? ⟨P + 1, 0, none⟩ = some (.slice (some ⟨P, 0, none⟩) F F) ∧ wb.cell? ⟨P, f, none⟩ = some (.slice sv (S.lab f).length cv) ∧ wb.cell? ⟨N, 0, none⟩ = some (.int .i64 s) := ⟨(hL3.blk OP1.out (by omega) (by omega)).cell rfl, (hL3.lb.cell (rm_get h1)).trans (by rw [HVF.out]), hn3.cell rfl⟩
                have zP3 : P + 2 < wd.heap.size := hL2.bb.lt
                have zn3 : N < wd.heap.size := hn2.lt
                have HWB := Lib.hid hwb; clear hwb
                refine SqC.effectW rfl rfl ?_
                go_wp2
                rw [← HWB.out]
                refine SqC.here rfl (fun _ => ex3) ?_
                have hown3 := hL3.own f h1
                rw [labF_at, HVF.out] at hown3
                have HOW := hown3
                obtain ⟨i, hi1, hi2, hi3, hi4⟩ := info_parts infoSet
                have hsz3 := hL3.size
                refine SqC.effectW rfl rfl ?_
                refine wpList_append_lies _ rfl _ _ 37 rfl W0.heap.size 26 i (.int .i64 0) 1 8 hTset hi1 hi2 hi3 hi4 rfl (by decide) _ (S.lab f).length _ rfl HOW ⟨wd.heap.size, 0, none⟩ 1 1 [.int .i64 s] rfl rfl (World.news_of_block hnew) (by intro u hu; simp at hu; rw [hu]; rfl) (by decide) (by unfold maxLen; omega) (by omega) hsz3 _ rfl ?_
                intro g cap w9 g1 g2 g3 g4
                have hfF := h1
                have hvf3 : (vs' f).ownBlock = (Value.slice sv (S.lab f).length cv).ownBlock := by rw [HVF.out]
                have hPo : ∀ k, (Value.slice sv (S.lab f).length cv).ownBlock = some k → P + 2 < k ∧ k ≠ N := fun k hk => by
                  have h1 := (own_lt hown3 hk).1
                  have h2 := hL3.lt
                  exact ⟨by omega, HD.out f k hfF (by rw [hvf3]; exact hk)⟩
                have hL4 := hL3.put (f := f) (s := s) (g := g) (cap := cap) (W' := w9) h1 (by rw [hvf3]; exact g2) (by rw [labF_at]; exact g1) (by rw [hvf3]; exact g3)
                have t9 := hL3.lb.grown g2 (fun e => by have := (hPo P e.symm).1; omega)
                have n9 := hn3.grown g2 (fun e => (hPo N e.symm).2 rfl)
                have u9 : Blk w9 (P + 1) [.slice (some ⟨P, 0, none⟩) F F] 36 := (hL3.blk OP1.out (by omega) (by omega)).grown g2 (fun e => by have := (hPo (P + 1) e.symm).1; omega)
                have cx9 : w9.cell? ⟨P, f, none⟩ = some (.slice sv (S.lab f).length cv) := (t9.cell (rm_get h1)).trans (by rw [HVF.out])
                have f9 : w9.frozen? ⟨P, f, none⟩ = false := t9.frozen f
                have hk9 : KeepsOthers W w9 := hk3.trans (own_keeps HOW g2)
                have n10 : Blk (w9.setCell ⟨P, f, none⟩ (.slice (some ⟨g, 0, none⟩) ((S.lab f).length + 1) cap)) N [.int .i64 (s : Int)] 26 := n9.set_ne _ (by simp; omega)
                have hu4 := HU.out
                rw [labF_at] at hu4 hL4
                rw [← hu4] at hL4
                have hd4 : ∀ j k, j < F → (if j = f then Value.slice (some ⟨g, 0, none⟩) ((S.lab f).length + 1) cap else vs' j).ownBlock = some k → k ≠ N := fun j k hj hk => by
                  by_cases e : j = f
                  · rw [if_pos e] at hk
                    have e1 : some g = some k := hk
                    injection e1 with e1
                    subst e1
                    rcases g3 with g3 | g3
                    · exact (hPo g g3).2
                    · omega
                  · rw [if_neg e] at hk
                    exact HD.out j k hj hk
                have HL4 := Lib.hid hL4; clear hL4 hu4
                have HD4 := Lib.hid hd4; clear hd4
                have HN10 := Lib.hid n10; clear n10
                have HK9 := Lib.hid (hk9.trans (KeepsOthers.setCell w9 ⟨P, f, none⟩ (.slice (some ⟨g, 0, none⟩) ((S.lab f).length + 1) cap))); clear hk9
                refine SqC.here rfl (fun _ => ⟨u9.cell rfl, cx9, n9.cell rfl⟩) ?_
                simp only [Act.put, List.setIfInBounds_toArray, List.set_cons_zero, List.set_cons_succ]
                refine SqC.quiet rfl rfl ?_; go_big_quiet_step (fail); refine wpQuiet_nil ?_
                clear t9 n9 u9 g1 g2 g3 g4 hPo hL2 hn2 hk2 hL3 hn3 hk3 hnew hown3
                refine SqC.effectW rfl rfl ?_
                go_wp2
                refine SqC.here rfl (by intro h; first | exact h.elim | exact absurd rfl h) (SqC.nil ?_)
                apply_assumption
                gi_wp2
                go_roundw
                case rel => exact ⟨f + 1, by omega, by simp, _, HL4.out, HD4.out, HN10.out, HK9.out⟩
                case measure => simp [vInt]; omega
          · have h1' : (F : Int) ≤ f := by omega
            obtain rfl : f = F := by omega
            clear hL
            gi_wp2
            refine ⟨HK'.out.from _, ?_, vs', .slice sb S.bad.length cb, ?_⟩
            · exact fun v hv => (World.cell?_of_block (HL.out.keep HL'.out (k := Q + 1) (by omega) (by omega) (by omega))).trans hv
            · rw [HFO.out, E1.out]
              exact HL'.out.congr fun j hj => by unfold labF; rw [if_pos hj]
  case done =>
    rintro D ys W hD rfl ⟨vs, vb, hL⟩ hK
    obtain ⟨S, hS⟩ : ∃ S, S = lfold b ((ords n (n + 1)).map (·.1)) := ⟨_, rfl⟩
    rw [← hS] at hL
    obtain ⟨sb, cb, rfl, _⟩ := own_slice hL.ownb
    have zQ : P + 3 ≤ Q := by have := HQ.out; omega
    have c7 : W.cell? ⟨P + 2, 0, none⟩ = some (.slice sb S.bad.length cb) := hL.bb.cell rfl
    have c6 : W.cell? ⟨P + 1, 0, none⟩ = some (.slice (some ⟨P, 0, none⟩) F F) := (hL.blk OP1.out (by omega) (by omega)).cell rfl
    have HL := Lib.hid hL; clear hL
    have HSS := Lib.hid hS; clear hS
    gi_wp2
    go_wp2
    go_big_quiet (fail)
    go_wp2
    have hK' : (W.drewN nq).heap[D]? = some (.deferred (some [])) := hK
    refine ⟨by simp, .inl ⟨_, _, rfl, run_takeDeferred hK', ?_⟩⟩
    refine ⟨_, results_tmp3 rfl _ _ _, ?_⟩
    have hL2 := (HL.out.drewN nq).kept (grownBy_putObj' (W.drewN nq) D (.deferred none)) (fun r e => by cases e; exact ⟨hD, _, hK', rfl⟩)
    rw [← HN.out, ← HSS.out]
    refine ⟨P, vs, _, rfl, hL2.lb, fun f hf => Sl.of_owns (hL2.own f hf), Sl.of_owns hL2.ownb, HBOX.out.below (hL2.low OB.out zP)⟩
  case stop =>
    rintro D c pre W _ _ h _
    exact h.elim
set_option maxRecDepth 100000 in
theorem plabels_bad (b : Lg) (sa sr : Option Addr) (ca cr : Nat) (bs : List Value) (hrg : LgRg b) (w : World) (h : LgAt w b sa sr ca cr bs) (hal : True) (hv : valE b ≠ 0) :
    Calls Try.prog 17 #[lgV b sa sr ca cr] w fun e w' => e = .returned (.tuple #[.slice none 0 0, .slice none 0 0, .int .i64 (valE b)]) ∧ Below w.heap.size w w' := by
  have hlgV : lgV b sa sr ca cr = .agg #[.int .i64 b.facts, .slice sa b.assume.length ca, .slice sr b.rules.length cr] := rfl
  have hbox := box_new w b sa sr ca cr 25
  obtain ⟨W1, hW1⟩ : ∃ W1, W1 = w.alloc (.cells #[.int .i64 b.facts, .slice sa b.assume.length ca, .slice sr b.rules.length cr] 25) := ⟨_, rfl⟩
  rw [← hW1] at hbox
  have hc := pvalid_any b sa sr ca cr bs hrg W1 (h.below hbox.b1) hal
  rw [hlgV] at hc ⊢
  have HBOX := Lib.hid hbox; clear hbox
  have HW1 := Lib.hid hW1; clear hW1 h
  have HC := Lib.hid hc; clear hc hrg
  obtain ⟨E, hE⟩ : ∃ E, E = valE b := ⟨_, rfl⟩
  rw [← hE] at hv HC ⊢
  clear hE
  have hv2 : (E != 0) = true := by simpa using hv
  have hv3 : (E = 0) = False := eq_false hv
  refine (callsIn_wide (n := 4)).1 ?_
  refine callsIn_of_wp_marks Try.func17 rfl trivial ?_ rfl
  simp only [Try.ntmps17, List.size_toArray, List.length_cons, List.length_nil, Nat.reduceAdd, Nat.reduceSub, Array.replicate_succ, Array.replicate_zero, List.push_toArray, List.append_toArray, List.nil_append, List.cons_append]
  refine wpIn_wide.2 ?_
  go_wp2_with (fail)
  rw [← HW1.out]
  refine HC.out.mono ?_
  rintro e w2 ⟨rfl, b2⟩
  have HB := Lib.hid (HBOX.out.below b2); clear b2 hv
  go_wp2
  refine ⟨_, results_tmp3 rfl _ _ _, ?_⟩
  exact ⟨rfl, HB.out⟩
end Go.Proofs.Ytcbmifaobdamhaa

/- The walk over Stream.Sum. -/
import Derived.Test.YtcdgpkhfflehjaaDoorA5
namespace Go.Proofs.YtcdgpkhfflehjaaDoor
open Go.RowKit Go.Sha Go.Own
attribute [local go_sem high] op_add op_xor op_and op_or op_not op_shl op_shr op_shl_lit op_shr_lit byte_mod op_str_eql op_str_neq
attribute [local go_sem] setCell_twice str_size
def zero24 : List Value := (List.replicate 32 (0 : UInt8)).map byv
theorem zeroValue24 (w : World) : (zeroValue 24).run Tryd.prog w = .ok (.agg zero24.toArray) w := by kernel_rfl
theorem conv22 (w : World) (v : Value) (bs : List UInt8) (h : Sl w 1 v bs.length (bs.map byv)) : (convert 22 9 v).run Tryd.prog w = .ok (str bs) w :=
  run_bytes_str Tryd.underlying22 Tryd.underlying5 Tryd.underlying9 h
theorem info5 : (Tryd.prog.info? 5).map (fun i => (i.zero, i.size, i.bytes)) = some (some (.int .u8 0), 1, 1) := by kernel_rfl
/-- While the zeros are appended. -/
structure PRel (w : World) (cs : List Value) (v : Value) (bs : List UInt8) (wr : World) : Prop where
  own : wr.ownsRow (w.heap.size + 2) 5 1 v bs.length (bs.map byv)
  b1 : Blk wr w.heap.size cs 34
  b2 : Blk wr (w.heap.size + 1) zero24 24
  below : Below w.heap.size w wr
theorem PRel.size {w wr : World} {cs : List Value} {v : Value} {bs : List UInt8} (h : PRel w cs v bs wr) : w.heap.size + 2 ≤ wr.heap.size := h.b2.lt
theorem PRel.append {w wr w' : World} {cs : List Value} {v v' : Value} {bs news : List UInt8} (h : PRel w cs v bs wr) (o : Obj) (hown : w'.ownsRow (w.heap.size + 2) 5 1 v' (bs.length + news.length) (bs.map byv ++ news.map byv))
    (hg : (wr.alloc o).grownBy w' v.ownBlock) : PRel w cs v' (bs ++ news) w' := by
  have hne : ∀ k, k < w.heap.size + 2 → some k ≠ v.ownBlock := fun k hk he => by
    have := (h.own.lt k he.symm).1; omega
  refine ⟨by simpa using hown, (h.b1.alloc o).grown hg (hne _ (by omega)), (h.b2.alloc o).grown hg (hne _ (by omega)), ?_⟩
  have hb : Below (w.heap.size + 2) wr (wr.alloc o) := (Below.refl _ _).alloc h.size o
  exact h.below.trans ((grown_below hb (h.own.alloc o) hg (by simp; have := h.size; omega)).mono (by omega))
set_option maxHeartbeats 1600000 in
set_option maxRecDepth 100000 in
theorem ssum_any (m : List UInt8) (cs : List Value) (hs : StreamOf m cs) (hlen : m.length ≤ 549755813888) (w : World) (hK : Cells w 1 0 (Kt.map U)) (h1 : 1 < w.heap.size) :
    Calls Tryd.prog 17 #[.agg cs.toArray] w fun e w' => e = .returned (.agg ((sha m).map byv).toArray) ∧ Below w.heap.size w w' := by
  have HK := Lib.hid hK; clear hK
  have hl := hs.length
  have HL := Lib.hid hl; clear hl
  have Hs := Lib.hid hs; clear hs
  have hz24 := fun W => zeroValue24 W
  go_enter Tryd.func17, Tryd.ntmps17
  have c72 : ∀ W, Blk W w.heap.size cs 34 → W.cell? ⟨w.heap.size, 72, none⟩ = some (.int .u64 (m.length : Int)) := fun W hB => hB.cell (by
    obtain ⟨blk, k1, k2, k3⟩ := Hs.out
    rw [k3, List.getElem?_append_right (by simp [k1, St.list])]; simp [k1, St.list])
  have c0 := c72 ((w.alloc (.cells cs.toArray 34)).alloc (.cells zero24.toArray 24)) ((Blk.new _ _ _).alloc _)
  have HC := Lib.hid c72; clear c72
  go_wp2
  clear c0
  go_loopw [4] (fun v wr => ∃ j, Hid (∀ i, i < j → (m.length + (1 + i)) % 64 ≠ 56) ∧ j ≤ 64 ∧ PRel w cs v (128 :: List.replicate j 0) wr) (fun v _ => 66 - sLen v)
  case atStart => exact ⟨0, fun i h => absurd h (by omega), by omega, (own_new_at ((w.alloc _).alloc _) #[byv 128] 5 1 (w.heap.size + 2) _ (by simp) rfl (by decide) (by simp)), ((Blk.new _ _ _).alloc _).alloc _, (Blk.new_at _ _ _ (by simp)).alloc _, (((Below.refl _ _).alloc (Nat.le_refl _) _).alloc (by simp) _).alloc (by rw [World.size_alloc, World.size_alloc]; omega) _⟩
  case round =>
    obtain ⟨j, Hj, hj, hp⟩ := hrel
    have hz := hp.size
    have c72 := HC.out wr hp.b1
    have hlenv : (128 :: List.replicate j (0 : UInt8)).length = j + 1 := by simp
    have how := hp.own
    rw [hlenv] at how
    obtain ⟨hv1, ⟨rfl, hv2⟩ | ⟨g, cap, cur, rfl, hv⟩⟩ := id how
    · omega
    have HV := Lib.hid hv; clear hv
    have HV1 := Lib.hid hv1; clear hv1
    by_cases hc : (m.length + (1 + j)) % 64 = 56
    · have hcond : (((m.length : Int) + ((j : Int) + 1)) % 64 != 56) = false := by simp; omega
      have hjz := Lib.hid (zeros_least m.length j hc Hj.out)
      have HCN := Lib.hid hc; clear hc
      go_wp2
      go_loopw [23, 4] (fun c v wx => ∃ i : Nat, i ≤ 8 ∧ c = .int .i64 i ∧ PRel w cs v (128 :: List.replicate j 0 ++ (be64 (8 * m.length)).take i) wx) (fun c _ _ => 8 - (intOf c).toNat)
      case atStart => exact ⟨0, by omega, rfl, by simpa using hp⟩
      case round =>
        clear hp c72 how HV HV1 hz
        obtain ⟨i, hi, rfl, hp⟩ := hrel
        have hz := hp.size
        have hlenv : (128 :: List.replicate j (0 : UInt8) ++ (be64 (8 * m.length)).take i).length = j + 1 + i := by simp [be64]; omega
        have how := hp.own
        rw [hlenv] at how
        by_cases hi8 : i < 8
        · obtain ⟨q, Hq⟩ : ∃ q, Hid (q = 56 - 8 * i) := ⟨_, rfl⟩
          have hq : 56 - 8 * (i : Int) = (q : Int) := by have := Hq.out; omega
          have hq2 : q ≤ 64 := by have := Hq.out; omega
          go_wp2_with (refine wpList_append_sl rfl _ _ 22 rfl (w.heap.size + 2) 5 (.int .u8 0) 1 1 Tryd.underlying22 info5 rfl (by decide) _ (j + 1 + i) _ rfl (how.alloc _) _ 1 [.int .u8 (8 * (m.length : Int) / 2 ^ q % 256)] rfl (sl_new _ _ _ 1 rfl (by decide)) (by simp [Value.oneCell']) (by unfold maxLen; omega) (by omega) (by simp; omega) ?_)
          intro v' w' hown' hg
          go_wp2
          go_roundw
          case rel =>
            refine ⟨i + 1, by omega, by go_num, ?_⟩
            have e : (be64 (8 * m.length)).take (i + 1) = (be64 (8 * m.length)).take i ++ [UInt8.ofNat (8 * m.length / 2 ^ q)] := by
              have hb8 : i < (be64 (8 * m.length)).length := by simp [be64, hi8]
              rw [List.take_succ_eq_append_getElem hb8]
              simp [be64, Hq.out]
            have e2 : byv (UInt8.ofNat (8 * m.length / 2 ^ q)) = .int .u8 (8 * (m.length : Int) / 2 ^ q % 256) := by
              unfold byv; rw [byte_of]; simp
            rw [e, ← List.append_assoc]
            refine hp.append _ ?_ hg
            rw [hlenv]
            simpa [e2] using hown'
          case measure => simp [intOf]; omega
        · obtain rfl : i = 8 := by omega
          have hbs : (128 :: List.replicate j (0 : UInt8) ++ (be64 (8 * m.length)).take 8) = tailF m.length := by
            rw [tailF, hjz.out, List.take_of_length_le (by simp [be64])]
          have hsl := Sl.of_owns hp.own
          rw [hbs] at hsl
          have hcv := conv22 wr u4 (tailF m.length) hsl
          have hb1 := hp.b1
          have hb2 := hp.b2
          have hbw := hp.below
          clear how hsl hbs hlenv hp
          go_wp2_with (first | (refine wpList_load_cells (ty := 34) (n := 73) hb1.cells0 rfl rfl rfl Tryd.underlying34 rfl (by kernel_rfl) HL.out ?_) | (go_at_call 15; refine (add_any m (tailF m.length) cs Hs.out ?hl2 _ (HK.out.below hbw h1) ?h12).mono ?_))
          case hl2 => rw [tailF_length]; unfold zeros; omega
          case h12 => omega
          rintro e w3 ⟨cs3, rfl, hs3, hb3⟩
          have hl3 := Lib.hid hs3.length
          have hone3 := hs3.oneCell
          have HS3 := Lib.hid hs3; clear hs3
          have hb1' := hb1.below hb3 hb1.lt
          have hb2' := hb2.below hb3 hb2.lt
          have hbw3 := hbw.trans (hb3.mono (by omega))
          clear hcv hb1 hb2 hbw
          go_wp2_with (refine wpList_store_blk (ty := 34) (n := 73) (vs := cs3) hb1' rfl rfl rfl rfl rfl (by kernel_rfl) hl3.out (by have := HL.out; omega) hone3 ?_)
          intro w4 hb4 ho4
          have hd : List.drop 73 cs = [] := List.drop_of_length_le (by have := HL.out; omega)
          have hb4' : Blk w4 w.heap.size cs3 34 := by simpa [hd] using hb4
          have hb24 := ho4.blk (by omega) hb2'
          have hbw4 := ho4.below hbw3 (Nat.le_refl _)
          clear hb4 hd hb1' hb2' hbw3 ho4 hb3 hone3
          go_wp2
          obtain ⟨st, blk, hpt, hcs3⟩ := HS3.out.parts
          have hst := hpt.st
          have hsha : outF st = sha m := by rw [sha, hst]
          have HSHA := Lib.hid hsha; clear hsha hst hpt
          have HCS := Lib.hid hcs3; clear hcs3
          have hz4 := hb4'.lt
          have hz24' := hb24.lt
          go_loopw [40] (fun c wx => ∃ i : Nat, i ≤ 32 ∧ c = .int .i64 i ∧ Blk wx w4.heap.size (outPart st i) 24 ∧ Blk wx w.heap.size cs3 34 ∧ Blk wx (w.heap.size + 1) zero24 24 ∧ Below w.heap.size w wx) (fun c _ => 32 - (intOf c).toNat)
          case atStart => exact ⟨0, by omega, rfl, by rw [outPart_zero]; exact Blk.new _ _ _, hb4'.alloc _, hb24.alloc _, hbw4.alloc (by omega) _⟩
          case round =>
            clear hb4' hb24 hbw4
            obtain ⟨i, hi, rfl, hb6, hb1, hb2, hbw⟩ := hrel
            have hf6 := hb6.frozen
            have hf2 := hb2.frozen
            by_cases hi32 : i < 32
            · obtain ⟨q, Hq⟩ : ∃ q, Hid (q = 24 - 8 * (i % 4)) := ⟨_, rfl⟩
              have hq : 24 - 8 * ((i : Int) % 4) = (q : Int) := by have := Hq.out; omega
              obtain ⟨x, Hx⟩ : ∃ x, Hid (x = st.list.getD (i / 4) 0) := ⟨_, rfl⟩
              have cx : wr.cell? ⟨w.heap.size, i / 4, none⟩ = some (U x) := hb1.cell (by
                have h8 : i / 4 < (st.list.map U).length := by simp [St.list]; omega
                rw [HCS.out, Parts.cells, List.append_assoc, List.getElem?_append_left h8, Hx.out]
                have h9 : i / 4 < st.list.length := by simpa using h8
                simp [h9])
              obtain ⟨y0, c6⟩ : ∃ y, wr.cell? ⟨w4.heap.size, i, none⟩ = some y := ⟨_, hb6.cellD undef (by rw [outPart_length _ _ hi]; exact hi32)⟩
              go_wp2
              go_roundw
              case rel =>
                refine ⟨i + 1, by omega, by go_num, ?_, hb1.set_ne _ (by simp; omega), hb2.set_ne _ (by simp; omega), hbw.setCell (by simp; omega) _⟩
                have h := hb6.set i (byv (UInt8.ofNat (shr32 x q)))
                rw [Hx.out, Hq.out, outPart_next _ _ hi32] at h
                have e2 : byv (UInt8.ofNat (shr32 x q)) = .int .u8 ((shr32 x q : Nat) % 256) := by unfold byv; rw [byte_of]
                rw [← e2, Hx.out, Hq.out]; exact h
              case measure => simp [intOf]; omega
            · obtain rfl : i = 32 := by omega
              have hb6' : Blk wr w4.heap.size ((sha m).map byv) 24 := by rw [← HSHA.out, ← outPart_end]; exact hb6
              clear hb6
              have hl6 : ((sha m).map byv).length = 32 := by simp [sha_length]
              have HL6 := Lib.hid hl6; clear hl6
              go_wp2_with (first | (refine wpList_load_cells (ty := 24) (n := 32) hb6'.cells0 rfl rfl rfl Tryd.underlying24 rfl (by kernel_rfl) HL6.out ?_) | (refine wpList_store_blk (ty := 24) (n := 32) (vs := (sha m).map byv) hb2 rfl rfl rfl rfl rfl (by kernel_rfl) HL6.out (by simp [zero24]) (bytes_oneCell _) ?_))
              intro w9 hb9 ho9
              have hd9 : List.drop 32 zero24 = [] := by rfl
              have hb9' : Blk w9 (w.heap.size + 1) ((sha m).map byv) 24 := by simpa [hd9] using hb9
              clear hb9 hd9
              go_wp2
              refine bodyPost_ret (results_blk rfl hb9' rfl Tryd.underlying24 rfl ?_) rfl ⟨rfl, ho9.below hbw (by omega)⟩
              rw [HL6.out]; kernel_rfl
    · have hcond : (((m.length : Int) + ((j : Int) + 1)) % 64 != 56) = true := by simp; omega
      have hjl : j < 64 := by
        rcases Nat.lt_or_ge j 64 with h | h
        · exact h
        · exact absurd (zeros_spec m.length) (Hj.out _ (by unfold zeros; omega))
      have HCN := Lib.hid hc; clear hc
      go_wp2_with (refine wpList_append_sl rfl _ _ 22 rfl (w.heap.size + 2) 5 (.int .u8 0) 1 1 Tryd.underlying22 info5 rfl (by decide) _ (j + 1) _ rfl (how.alloc _) _ 1 [byv 0] rfl (sl_new _ _ _ 1 rfl (by decide)) (by simp [Value.oneCell']) (by unfold maxLen; omega) (by omega) (by simp; omega) ?_)
      intro v' w' hown' hg
      go_wp2
      go_roundw
      case rel =>
        refine ⟨j + 1, fun i hi => ?_, by omega, ?_⟩
        · rcases Nat.lt_or_ge i j with h | h
          · exact Hj.out i h
          · obtain rfl : i = j := by omega
            exact HCN.out
        · have e : (128 :: List.replicate (j + 1) (0 : UInt8)) = (128 :: List.replicate j 0) ++ [0] := by rw [List.replicate_succ']; rfl
          rw [e]
          exact hp.append _ (by rw [hlenv]; simpa using hown') hg
      case measure =>
        rw [own_len hown']; simp [sLen]; omega
end Go.Proofs.YtcdgpkhfflehjaaDoor

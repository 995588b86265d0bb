/- The walks over the streams: Begin, Add. -/
import Derived.Test.YtcdgpkhfflehjaaDoorA4
import Derived.Test.YtcdgpkhfflehjaaDoorSpec2
namespace Go.Proofs.YtcdgpkhfflehjaaDoor
open Go.RowKit Go.Sha Go.Own
attribute [local go_sem high] op_add op_xor op_and op_or op_not op_shl op_shr op_shl_lit op_shr_lit byte_mod op_str_eql op_str_neq
attribute [local go_sem] setCell_twice str_size
/-- The cells of the zero Stream. -/
def zero34 : List Value := (List.replicate 8 0).map U ++ (List.replicate 64 (0 : UInt8)).map byv ++ [.int .u64 0]
theorem zeroValue34 (w : World) : (zeroValue 34).run Tryd.prog w = .ok (.agg zero34.toArray) w := by kernel_rfl
attribute [local go_sem] zeroValue34
/-- The cells of the empty stream. -/
def begin34 : List Value := iv.list.map U ++ (List.replicate 64 (0 : UInt8)).map byv ++ [.int .u64 0]
theorem build34 (w : World) : (Instr.build 34 #[(0, .agg #[.int .u32 1779033703, .int .u32 3144134277, .int .u32 1013904242, .int .u32 2773480762, .int .u32 1359893119, .int .u32 2600822924, .int .u32 528734635, .int .u32 1541459225])]).run Tryd.prog w = .ok (.agg begin34.toArray) w := by kernel_rfl
attribute [local go_sem ↓ high] build34
set_option maxHeartbeats 800000 in
set_option maxRecDepth 100000 in
theorem begin_any (w : World) : Calls Tryd.prog 14 #[] w fun e w' => ∃ cs, e = .returned (.agg cs.toArray) ∧ StreamOf [] cs ∧ Below w.heap.size w w' := by
  have hb := fun W => build34 W
  go_enter Tryd.func14, Tryd.ntmps14
  go_wp2_with (refine wpList_store_blk (ty := 34) (n := 73) (vs := begin34) (Blk.new _ _ _) rfl rfl rfl rfl rfl (by kernel_rfl) rfl (by simp; decide) ?h1 ?_)
  case h1 => decide
  intro w9 hb9 ho9
  have hd : List.drop 73 zero34 = [] := by rfl
  rw [hd, List.append_nil] at hb9
  clear hd
  go_wp2
  refine bodyPost_ret (results_blk rfl hb9 rfl Tryd.underlying34 rfl (by kernel_rfl)) rfl ?_
  exact ⟨_, rfl, ⟨List.replicate 64 0, rfl, rfl, rfl⟩, ho9.below ((Below.refl _ _).alloc (Nat.le_refl _) _) (Nat.le_refl _)⟩
def strLen : Value → Nat | .string s => s.size | _ => 0
theorem slice9 (W : World) (bs : List UInt8) (k : Nat) (hk : k ≤ bs.length) : (Instr.slice 9 (str bs) (some (.int .i64 (k : Int))) none none).run Tryd.prog W = .ok (str (bs.drop k)) W := by
  rw [run_slice_string_l (ht := Tryd.underlying9) (h0 := by omega) (h1 := by rw [str_size]; omega)]
  congr 2
  apply ByteArray.ext
  simp [ByteArray.size]
  exact List.take_of_length_le (by simp)
set_option maxHeartbeats 1600000 in
set_option maxRecDepth 100000 in
theorem add_any (m text : List UInt8) (cs : List Value) (hs : StreamOf m cs) (hlen : m.length + text.length ≤ 1099511627776) (w : World) (hK : Cells w 1 0 (Kt.map U)) (h1 : 1 < w.heap.size) :
    Calls Tryd.prog 15 #[.agg cs.toArray, str text] w fun e w' => ∃ cs', e = .returned (.agg cs'.toArray) ∧ StreamOf (m ++ text) cs' ∧ Below w.heap.size w w' := by
  have HK := Lib.hid hK; clear hK
  have Hlen := Lib.hid hlen; clear hlen
  have Hs := Lib.hid hs; clear hs
  have hz := fun W => zeroValue34 W
  go_enter Tryd.func15, Tryd.ntmps15
  go_wp2
  go_loopw [1] (fun v wr => ∃ m' rest cs', Hid (m' ++ rest = m ++ text) ∧ v = str rest ∧ Hid (StreamOf m' cs') ∧ Blk wr w.heap.size cs' 34 ∧ Blk wr (w.heap.size + 1) zero34 34 ∧ Below w.heap.size w wr) (fun v _ => strLen v)
  case atStart => exact ⟨m, text, cs, rfl, rfl, Hs.out, (Blk.new _ _ _).alloc _, Blk.new_at _ _ _ (by simp), ((Below.refl _ _).alloc (Nat.le_refl _) _).alloc (by simp) _⟩
  case round =>
    obtain ⟨m', rest, cs', Hm, rfl, Hs', hB, hB2, hb⟩ := hrel
    have hlm : m'.length + rest.length ≤ 1099511627776 := by
      have h1 := Hlen.out
      have h2 := congrArg List.length Hm.out
      simp at h2; omega
    by_cases hr : rest = []
    · subst hr
      have hl := Hs'.out.length
      have hone := Hs'.out.oneCell
      have HL := Lib.hid hl; clear hl
      go_wp2_with (first | (refine wpList_load_cells (ty := 34) (n := 73) hB.cells0 rfl rfl rfl Tryd.underlying34 rfl (by kernel_rfl) HL.out ?_) | (refine wpList_store_blk (ty := 34) (n := 73) (vs := cs') hB2 rfl rfl rfl rfl rfl (by kernel_rfl) HL.out (by decide) hone ?_))
      intro w9 hb9 ho9
      have hd : List.drop 73 zero34 = [] := by rfl
      have hb9' : Blk w9 (w.heap.size + 1) cs' 34 := by simpa [hd] using hb9
      clear hb9 hd
      go_wp2
      refine bodyPost_ret (results_blk rfl hb9' rfl Tryd.underlying34 rfl ?_) rfl ?_
      · rw [HL.out]; kernel_rfl
      · refine ⟨_, rfl, ?_, ho9.below hb (by omega)⟩
        have := Hm.out
        rw [List.append_nil] at this
        rw [← this]; exact Hs'.out
    · obtain ⟨st, blk, hp, rfl⟩ := Hs'.out.parts
      have hbl := hp.len
      have HP := Lib.hid hp; clear hp Hs'
      have HBL := Lib.hid hbl; clear hbl
      have hne : (rest == []) = false := by simp [hr]
      have hpos : 0 < rest.length := List.length_pos_iff.2 hr
      have c72 : wr.cell? ⟨w.heap.size, 72, none⟩ = some (.int .u64 (m'.length : Int)) := hB.cell (by
        have h8 : (st.list.map U).length = 8 := rfl
        have h64 : (blk.map byv).length = 64 := by simp [HBL.out]
        rw [Parts.cells, List.getElem?_append_right (by simp [h8, HBL.out, St.list])]; simp [HBL.out, St.list])
      obtain ⟨p, hp⟩ : ∃ p, Hid (p = m'.length % 64) := ⟨_, rfl⟩
      have hp1 : p < 64 := by have := hp.out; omega
      have hp2 : (p : Int) ≤ 64 := by omega
      have hmod : (m'.length : Int) % 64 = (p : Int) := by have := hp.out; omega
      obtain ⟨k, hk⟩ : ∃ k, Hid (k = min rest.length (64 - p)) := ⟨_, rfl⟩
      have hk1 : k ≤ rest.length := by have := hk.out; omega
      have hk2 : p + k ≤ 64 := by have := hk.out; omega
      have hk3 : 0 < k := by have := hk.out; omega
      have hsl := fun W => slice9 W rest k hk1
      have hf := hB.frozen
      go_wp2_with (refine wpList_copy_str hB rfl rfl rfl rfl Tryd.underlying22 (by kernel_rfl) k ?hk ?hfit ?_)
      case hk => exact hk.out
      case hfit => simp [Parts.cells, St.list, HBL.out]; omega
      intro w1 hb1 ho1
      obtain ⟨B', HB'⟩ : ∃ B', Hid (B' = blk.take p ++ rest.take k ++ blk.drop (p + k)) := ⟨_, rfl⟩
      have hb1' : Blk w1 w.heap.size (st.list.map U ++ B'.map byv ++ [.int .u64 (m'.length : Int)]) 34 := by
        have e := splice_blk (st.list.map U) rfl blk rest HBL.out (.int .u64 (m'.length : Int)) p k hk2
        rw [List.append_assoc (List.take (8 + p) _), List.map_take] at e
        rw [HB'.out, ← e]; exact hb1
      have hB2' := ho1.blk (by omega) hB2
      have hbw := ho1.below hb (Nat.le_refl _)
      have HBL' : Hid (B'.length = 64) := by show B'.length = 64; rw [HB'.out, hp.out]; exact blk_len (by have := hp.out; omega) hk1 HBL.out
      clear hb1 hB hB2 c72 hf
      have hf := hb1'.frozen
      have c72 : w1.cell? ⟨w.heap.size, 72, none⟩ = some (.int .u64 (m'.length : Int)) := hb1'.cell (by
        rw [List.getElem?_append_right (by simp [HBL'.out, St.list])]; simp [HBL'.out, St.list])
      have hnew : Blk (w1.setCell ⟨w.heap.size, 72, none⟩ (.int .u64 ((m'.length : Int) + (k : Int)))) w.heap.size (st.list.map U ++ B'.map byv ++ [.int .u64 ((m' ++ rest.take k).length : Int)]) 34 := by
        have e := hb1'.set 72 (.int .u64 ((m'.length : Int) + (k : Int)))
        rw [List.set_append_right _ _ (by simp [HBL'.out, St.list])] at e
        rw [show ((m' ++ rest.take k).length : Int) = (m'.length : Int) + (k : Int) by simp; omega]
        simpa [HBL'.out, St.list] using e
      have hnew2 := hB2'.set_ne (a := ⟨w.heap.size, 72, none⟩) (.int .u64 ((m'.length : Int) + (k : Int))) (by simp)
      have hbw2 := hbw.setCell (p := ⟨w.heap.size, 72, none⟩) (Nat.le_refl _) (.int .u64 ((m'.length : Int) + (k : Int)))
      have hjoin : m' ++ rest.take k ++ rest.drop k = m ++ text := by rw [List.append_assoc, List.take_append_drop]; exact Hm.out
      have HJ := Lib.hid hjoin; clear hjoin
      have hml : (strLen (str (rest.drop k))) < strLen (str rest) := by simp [strLen, str_size]; omega
      by_cases hfull : p + k = 64
      · have hfe : ((p : Int) + (k : Int) == 64) = true := by simp; omega
        have HF := Lib.hid hfull; clear hfull
        have s0 : w1.cell? ⟨w.heap.size, 0, none⟩ = some (U st.a) := hb1'.cell rfl
        have s1 : w1.cell? ⟨w.heap.size, 1, none⟩ = some (U st.b) := hb1'.cell rfl
        have s2 : w1.cell? ⟨w.heap.size, 2, none⟩ = some (U st.c) := hb1'.cell rfl
        have s3 : w1.cell? ⟨w.heap.size, 3, none⟩ = some (U st.d) := hb1'.cell rfl
        have s4 : w1.cell? ⟨w.heap.size, 4, none⟩ = some (U st.e) := hb1'.cell rfl
        have s5 : w1.cell? ⟨w.heap.size, 5, none⟩ = some (U st.f) := hb1'.cell rfl
        have s6 : w1.cell? ⟨w.heap.size, 6, none⟩ = some (U st.g) := hb1'.cell rfl
        have s7 : w1.cell? ⟨w.heap.size, 7, none⟩ = some (U st.h) := hb1'.cell rfl
        go_wp2
        refine wp_region_tail 4 (by kernel_rfl) (by kernel_rfl) ?_
        simp only [List.take_succ_cons, List.take_zero, List.drop_succ_cons, List.drop_zero]
        repeat (go_big_quiet_step (fail))
        refine wpQuiet_nil ?_
        intro nq2
        clear s0 s1 s2 s3 s4 s5 s6 s7
        go_wp2_with fail
        refine (compress_any st B' w.heap.size 8 64 1 _ HBL'.out (by omega) (by omega) ?_ ?_ ?_).mono ?_
        · exact (hnew.drewN nq2).cells 8 _ (by simp [St.list, HBL'.out])
        · exact HK.out.below (below_drewN hbw2 nq2) h1
        · simp; have := hbw2.size; simp at this; omega
        rintro e w3 ⟨rfl, hb3⟩
        have hsz2 : w.heap.size + 1 < w1.heap.size := hB2'.lt
        have hnew3 := (hnew.drewN nq2).below hb3 (by simp; omega)
        have hnew4 := (hnew2.drewN nq2).below hb3 (by simp; omega)
        have hbw3 := (below_drewN hbw2 nq2).trans (hb3.mono (by simp; omega))
        have hz3 := hnew3.lt
        clear hnew hnew2 hbw2 hb3 hB2' hb1' hbw c72 hf
        go_wp2_with (refine wpList_store_blk (ty := 30) (n := 8) (vs := (comp st B').list.map U) hnew3 rfl rfl rfl rfl rfl (by kernel_rfl) rfl (by simp [St.list]) (by simp [St.list, Value.oneCell']) ?_)
        intro w4 hb4 ho4
        go_wp2
        go_roundw
        case rel =>
          refine ⟨m' ++ rest.take k, rest.drop k, Parts.cells (m' ++ rest.take k) (comp st B') B', HJ, rfl, ?_, hb4, ho4.blk (by omega) hnew4, ho4.below hbw3 (Nat.le_refl _)⟩
          have h := HP.out.full (k := k) (r := rest) (by have := HF.out; have := hp.out; omega) hk1
          rw [← hp.out, ← HB'.out] at h
          exact h.stream
        case measure => exact hml
      · have hfe : ((p : Int) + (k : Int) == 64) = false := by simp; omega
        have HF := Lib.hid hfull; clear hfull
        go_wp2
        go_roundw
        case rel =>
          refine ⟨m' ++ rest.take k, rest.drop k, _, HJ, rfl, ?_, hnew, hnew2, hbw2⟩
          have h := HP.out.part (k := k) (r := rest) (by have := HF.out; have := hp.out; omega) hk1
          rw [← hp.out, ← HB'.out] at h
          exact h.stream
        case measure => exact hml
end Go.Proofs.YtcdgpkhfflehjaaDoor

/- SHA-256 of whole messages; what a stream holds. Plain functions. -/
import Derived.Test.YtbmnbdkbgpajeaaGreatDoorFR00
import Derived.Test.YtbmnbdkbgpajeaaGreatDoorFR04
import Derived.Test.YtbmnbdkbgpajeaaGreatDoorFR01
/- SHA-256 of whole messages; what a stream holds. Plain functions. -/
section
namespace Go.Sha
open Go.Own
def iv : St := ⟨1779033703, 3144134277, 1013904242, 2773480762, 1359893119, 2600822924, 528734635, 1541459225⟩
def chunk (l : List UInt8) (k : Nat) : List UInt8 := (l.drop (64 * k)).take 64
def absorb (s : St) (l : List UInt8) : Nat → St
  | 0 => s
  | k + 1 => comp (absorb s l k) (chunk l k)
/-- The state of a stream whose message is m, as cells: the words, the last block, the length. -/
def StreamOf (m : List UInt8) (cs : List Value) : Prop :=
  ∃ blk : List UInt8, blk.length = 64 ∧ blk.take (m.length % 64) = m.drop (64 * (m.length / 64)) ∧
    cs = (absorb iv m (m.length / 64)).list.map U ++ blk.map byv ++ [.int .u64 (m.length : Int)]
theorem StreamOf.length {m : List UInt8} {cs : List Value} (h : StreamOf m cs) : cs.length = 73 := by
  obtain ⟨blk, h1, _, rfl⟩ := h
  simp [St.list, h1]
theorem StreamOf.oneCell {m : List UInt8} {cs : List Value} (h : StreamOf m cs) : ∀ v ∈ cs, v.oneCell' = true := by
  obtain ⟨blk, h1, _, rfl⟩ := h
  intro v hv
  simp only [List.mem_append, List.mem_map, List.mem_singleton] at hv
  rcases hv with (⟨x, _, rfl⟩ | ⟨x, _, rfl⟩) | rfl <;> rfl
theorem absorb_append (s : St) (m t : List UInt8) : ∀ k, 64 * k ≤ m.length → absorb s (m ++ t) k = absorb s m k
  | 0, _ => rfl
  | k + 1, h => by
    rw [absorb, absorb, absorb_append s m t k (by omega)]
    congr 1
    unfold chunk
    rw [List.drop_append_of_le_length (by omega), List.take_append_of_le_length (by simp; omega)]
end Go.Sha
namespace Go.Sha
open Go.Own
theorem splice_blk (A : List Value) (hA : A.length = 8) (blk r : List UInt8) (hb : blk.length = 64) (x : Value) (at_ k : Nat) (h1 : at_ + k ≤ 64) :
    (A ++ blk.map byv ++ [x]).take (8 + at_) ++ (r.take k).map byv ++ (A ++ blk.map byv ++ [x]).drop (8 + at_ + k) = A ++ (blk.take at_ ++ r.take k ++ blk.drop (at_ + k)).map byv ++ [x] := by
  have e1 : (A ++ blk.map byv ++ [x]).take (8 + at_) = A ++ (blk.take at_).map byv := by
    rw [List.append_assoc, List.take_append, List.take_of_length_le (by omega), hA, show 8 + at_ - 8 = at_ by omega, List.take_append_of_le_length (by simp; omega), List.map_take]
  have e2 : (A ++ blk.map byv ++ [x]).drop (8 + at_ + k) = (blk.drop (at_ + k)).map byv ++ [x] := by
    rw [List.append_assoc, List.drop_append, List.drop_of_length_le (by omega), hA, show 8 + at_ + k - 8 = at_ + k by omega, List.nil_append, List.drop_append_of_le_length (by simp; omega), List.map_drop]
  rw [e1, e2]
  simp
/-- A stream's parts: the message, the hash value, the last block. -/
structure Parts (m : List UInt8) (st : St) (blk : List UInt8) : Prop where
  len : blk.length = 64
  blk : blk.take (m.length % 64) = m.drop (64 * (m.length / 64))
  st : st = absorb iv m (m.length / 64)
def Parts.cells (m : List UInt8) (st : St) (blk : List UInt8) : List Value := st.list.map U ++ blk.map byv ++ [.int .u64 (m.length : Int)]
theorem StreamOf.parts {m : List UInt8} {cs : List Value} (h : StreamOf m cs) : ∃ st blk, Parts m st blk ∧ cs = Parts.cells m st blk := by
  obtain ⟨blk, h1, h2, h3⟩ := h
  exact ⟨_, blk, ⟨h1, h2, rfl⟩, h3⟩
theorem Parts.stream {m : List UInt8} {st : St} {blk : List UInt8} (h : Parts m st blk) : StreamOf m (Parts.cells m st blk) := ⟨blk, h.len, h.blk, by rw [Parts.cells, h.st]⟩

theorem take_blk {m r blk : List UInt8} {k : Nat} (hk : m.length % 64 + k ≤ 64) (hkr : k ≤ r.length) (hl : blk.length = 64) (hb : blk.take (m.length % 64) = m.drop (64 * (m.length / 64))) :
    (blk.take (m.length % 64) ++ r.take k ++ blk.drop (m.length % 64 + k)).take (m.length % 64 + k) = (m ++ r.take k).drop (64 * (m.length / 64)) := by
  rw [List.take_append_of_le_length (by simp; omega), List.take_of_length_le (by simp; omega), hb, List.drop_append_of_le_length (by omega)]
theorem blk_len {m r blk : List UInt8} {k : Nat} (hk : m.length % 64 + k ≤ 64) (hkr : k ≤ r.length) (hl : blk.length = 64) : (blk.take (m.length % 64) ++ r.take k ++ blk.drop (m.length % 64 + k)).length = 64 := by
  simp; omega
theorem Parts.part {m r blk : List UInt8} {st : St} {k : Nat} (h : Parts m st blk) (hk : m.length % 64 + k < 64) (hkr : k ≤ r.length) :
    Parts (m ++ r.take k) st (blk.take (m.length % 64) ++ r.take k ++ blk.drop (m.length % 64 + k)) := by
  have hlen : (m ++ r.take k).length = m.length + k := by simp; omega
  have e1 : (m.length + k) % 64 = m.length % 64 + k := by omega
  have e2 : (m.length + k) / 64 = m.length / 64 := by omega
  refine ⟨blk_len (by omega) hkr h.len, ?_, ?_⟩
  · rw [hlen, e1, e2]; exact take_blk (by omega) hkr h.len h.blk
  · rw [hlen, e2, absorb_append _ _ _ _ (by omega)]; exact h.st
theorem take2 (X : List UInt8) (h : X.length = 64) : X = (X.take 64).take 64 := by
  rw [List.take_of_length_le (l := X) (by omega), List.take_of_length_le (by omega)]
theorem Parts.full {m r blk : List UInt8} {st : St} {k : Nat} (h : Parts m st blk) (hk : m.length % 64 + k = 64) (hkr : k ≤ r.length) :
    Parts (m ++ r.take k) (comp st (blk.take (m.length % 64) ++ r.take k ++ blk.drop (m.length % 64 + k))) (blk.take (m.length % 64) ++ r.take k ++ blk.drop (m.length % 64 + k)) := by
  have hlen : (m ++ r.take k).length = m.length + k := by simp; omega
  have e1 : (m.length + k) % 64 = 0 := by omega
  have e2 : (m.length + k) / 64 = m.length / 64 + 1 := by omega
  have hb := take_blk (by omega) hkr h.len h.blk (r := r)
  refine ⟨blk_len (by omega) hkr h.len, ?_, ?_⟩
  · rw [hlen, e1, e2, List.take_zero, List.drop_of_length_le (by rw [hlen]; omega)]
  · rw [hlen, e2, absorb, absorb_append _ _ _ _ (by omega), ← h.st]
    congr 1
    unfold chunk
    rw [← hb, hk]
    exact take2 _ (by have := blk_len (m := m) (r := r) (blk := blk) (k := k) (by omega) hkr h.len; rw [hk] at this; exact this)
end Go.Sha
namespace Go.Sha
open Go.Own
def zeros (n : Nat) : Nat := (119 - n % 64) % 64
def be64 (x : Nat) : List UInt8 := (List.range 8).map fun i => UInt8.ofNat (x / 2 ^ (56 - 8 * i))
def tailF (n : Nat) : List UInt8 := 128 :: List.replicate (zeros n) 0 ++ be64 (8 * n)
def outF (s : St) : List UInt8 := (List.range 32).map fun i => UInt8.ofNat (shr32 (s.list.getD (i / 4) 0) (24 - 8 * (i % 4)))
/-- SHA-256. -/
def sha (m : List UInt8) : List UInt8 := outF (absorb iv (m ++ tailF m.length) ((m ++ tailF m.length).length / 64))
theorem outF_length (s : St) : (outF s).length = 32 := by simp [outF]
theorem sha_length (m : List UInt8) : (sha m).length = 32 := outF_length _
theorem zeros_spec (n : Nat) : (n + (1 + zeros n)) % 64 = 56 := by unfold zeros; omega
theorem zeros_least (n j : Nat) (h : (n + (1 + j)) % 64 = 56) (hj : ∀ i, i < j → (n + (1 + i)) % 64 ≠ 56) : j = zeros n := by
  have h1 := zeros_spec n
  have h2 : zeros n < 64 := by unfold zeros; omega
  rcases Nat.lt_trichotomy j (zeros n) with h3 | h3 | h3
  · have : j < 64 := by omega
    omega
  · exact h3
  · exact absurd h1 (hj _ h3)
theorem tailF_length (n : Nat) : (tailF n).length = 9 + zeros n := by simp [tailF, be64]; omega
theorem byte_of (n : Nat) : ((UInt8.ofNat n).toNat : Int) = (n : Int) % 256 := by simp
end Go.Sha
namespace Go.Sha
open Go.Own
/-- The output while its bytes are written. -/
def outPart (s : St) (i : Nat) : List Value := ((outF s).take i).map byv ++ (List.replicate (32 - i) (0 : UInt8)).map byv
theorem outPart_zero (s : St) : outPart s 0 = (List.replicate 32 (0 : UInt8)).map byv := by simp [outPart]
theorem outPart_end (s : St) : outPart s 32 = (outF s).map byv := by simp [outPart, outF_length, List.take_of_length_le]
theorem outPart_length (s : St) (i : Nat) (h : i ≤ 32) : (outPart s i).length = 32 := by simp [outPart, outF_length]; omega
theorem outPart_next (s : St) (i : Nat) (h : i < 32) : (outPart s i).set i (byv (UInt8.ofNat (shr32 (s.list.getD (i / 4) 0) (24 - 8 * (i % 4))))) = outPart s (i + 1) := by
  have hl : ((outF s).take i).length = i := by simp [outF_length]; omega
  have e : (outF s).take (i + 1) = (outF s).take i ++ [UInt8.ofNat (shr32 (s.list.getD (i / 4) 0) (24 - 8 * (i % 4)))] := by
    rw [List.take_succ_eq_append_getElem (by rw [outF_length]; exact h)]
    simp [outF]
  unfold outPart
  rw [List.set_append_right _ _ (by rw [List.length_map, hl]; exact Nat.le_refl _), e, show 32 - i = (32 - (i + 1)) + 1 by omega, List.replicate_succ]
  simp [outF_length, show min i 32 = i by omega]
end Go.Sha
namespace Go.Sha
open Go.Own
theorem pad_mod (n : Nat) : (n + (tailF n).length) % 64 = 0 := by
  rw [tailF_length]
  have := zeros_spec n
  omega
theorem pad_len (m : List UInt8) : (m ++ tailF m.length).length % 64 = 0 := by
  rw [List.length_append]; exact pad_mod _
theorem chunk_length (l : List UInt8) (k : Nat) (h : 64 * (k + 1) ≤ l.length) : (chunk l k).length = 64 := by simp [chunk]; omega
theorem ch_comm (e f g : Nat) : xor32 (and32 e f) (and32 (xor32 e 4294967295) g) = chF e f g := by rw [chF, xor32_comm e]
end Go.Sha
namespace Go.Own
theorem Sl.oth {w w' : World} {size n g : Nat} {v : Value} {vs : List Value} (h : Sl w size v n vs) (ho : Oth g w w') (hne : ∀ b, v.ownBlock = some b → b ≠ g) : Sl w' size v n vs := by
  obtain ⟨h1, h2 | ⟨b, off, cap, rfl, h4, h5, h6, h7⟩⟩ := h
  · exact ⟨h1, .inl h2⟩
  · exact ⟨h1, .inr ⟨b, off, cap, rfl, h4, h5, h6.oth ho (hne b rfl), by rw [ho.size]; exact h7⟩⟩
end Go.Own
namespace Go.Own
open Go.RowKit
theorem _root_.Go.World.ownsRow.below {w w' : World} {base size n : Nat} {e : TypeId} {v : Value} {xs : List Value} (h : w.ownsRow base e size v n xs) (hb : Below w.heap.size w w') : w'.ownsRow base e size v n xs := by
  obtain ⟨h1, h2 | ⟨g, cap, cur, h3, h4, h5, h6⟩⟩ := h
  · exact ⟨h1, .inl h2⟩
  · have hlt : g < w.heap.size := by
      rcases Nat.lt_or_ge g w.heap.size with h' | h'
      · exact h'
      · rw [Array.getElem?_eq_none h'] at h5; cases h5
    exact ⟨h1, .inr ⟨g, cap, cur, h3, h4, (hb.block g hlt).trans h5, h6⟩⟩
end Go.Own
end
/- The walks over the streams: Begin, Add. -/
section
namespace Go.Proofs.YtbmnbdkbgpajeaaGreatDoor
open Go.RowKit Go.Sha Go.Own
attribute [local go_sem high] op_add op_xor op_and op_or op_not op_shl op_shr op_shl_lit op_shr_lit byte_mod op_str_eql op_str_neq
attribute [local go_sem] setCell_twice str_size
/-- The cells of the zero Stream. -/
def zero34 : List Value := (List.replicate 8 0).map U ++ (List.replicate 64 (0 : UInt8)).map byv ++ [.int .u64 0]
theorem zeroValue34 (w : World) : (zeroValue 148).run Tryz.prog w = .ok (.agg zero34.toArray) w := by kernel_rfl
attribute [local go_sem] zeroValue34
/-- The cells of the empty stream. -/
def begin34 : List Value := iv.list.map U ++ (List.replicate 64 (0 : UInt8)).map byv ++ [.int .u64 0]
theorem build34 (w : World) : (Instr.build 148 #[(0, .agg #[.int .u32 1779033703, .int .u32 3144134277, .int .u32 1013904242, .int .u32 2773480762, .int .u32 1359893119, .int .u32 2600822924, .int .u32 528734635, .int .u32 1541459225])]).run Tryz.prog w = .ok (.agg begin34.toArray) w := by kernel_rfl
attribute [local go_sem ↓ high] build34
set_option maxHeartbeats 800000 in
set_option maxRecDepth 100000 in
theorem begin_any (w : World) : Calls Tryz.prog 92 #[] w fun e w' => ∃ cs, e = .returned (.agg cs.toArray) ∧ StreamOf [] cs ∧ Below w.heap.size w w' := by
  have hb := fun W => build34 W
  go_enter Tryz.func92, Tryz.ntmps92
  have hz : Tryz.zeroCells148.toList = zero34 := by kernel_rfl
  go_wp2_with (refine wpList_store_blk (ty := 148) (n := 73) (vs := begin34) (g := w.heap.size) (off := 0) (l := Tryz.zeroCells148.toList) (Blk.new _ _ _) rfl rfl rfl rfl (by kernel_rfl) (by kernel_rfl) rfl (by rw [hz]; decide) ?h1 ?_)
  case h1 => decide
  rw [hz]
  intro w9 hb9 ho9
  have hd : List.drop 73 zero34 = [] := by rfl
  rw [hd, List.append_nil] at hb9
  clear hd
  go_wp2
  refine bodyPost_ret (results_blk rfl hb9 rfl Tryz.underlying148 rfl (by kernel_rfl)) rfl ?_
  exact ⟨_, rfl, ⟨List.replicate 64 0, rfl, rfl, rfl⟩, ho9.below ((Below.refl _ _).alloc (Nat.le_refl _) _) (Nat.le_refl _)⟩
def strLen : Value → Nat | .string s => s.size | _ => 0
theorem slice9 (W : World) (bs : List UInt8) (k : Nat) (hk : k ≤ bs.length) : (Instr.slice 9 (str bs) (some (.int .i64 (k : Int))) none none).run Tryz.prog W = .ok (str (bs.drop k)) W := by
  rw [run_slice_string_l (ht := Tryz.underlying9) (h0 := by omega) (h1 := by rw [str_size]; omega)]
  congr 2
  apply ByteArray.ext
  simp [ByteArray.size]
  exact List.take_of_length_le (by simp)
set_option maxHeartbeats 1600000 in
set_option maxRecDepth 100000 in
theorem add_any (m text : List UInt8) (cs : List Value) (hs : StreamOf m cs) (hlen : m.length + text.length ≤ 1099511627776) (w : World) (hK : Cells w 2 0 (Kt.map U)) (h1 : 2 < w.heap.size) :
    Calls Tryz.prog 93 #[.agg cs.toArray, str text] w fun e w' => ∃ cs', e = .returned (.agg cs'.toArray) ∧ StreamOf (m ++ text) cs' ∧ Below w.heap.size w w' := by
  have HK := Lib.hid hK; clear hK
  have Hlen := Lib.hid hlen; clear hlen
  have Hs := Lib.hid hs; clear hs
  have hz := fun W => zeroValue34 W
  go_enter Tryz.func93, Tryz.ntmps93
  go_wp2
  go_loopw [1] (fun v wr => ∃ m' rest cs', Hid (m' ++ rest = m ++ text) ∧ v = str rest ∧ Hid (StreamOf m' cs') ∧ Blk wr w.heap.size cs' 148 ∧ Blk wr (w.heap.size + 1) zero34 148 ∧ Below w.heap.size w wr) (fun v _ => strLen v)
  case atStart => exact ⟨m, text, cs, rfl, rfl, Hs.out, (Blk.new _ _ _).alloc _, Blk.new_at _ _ _ (by simp), ((Below.refl _ _).alloc (Nat.le_refl _) _).alloc (by simp) _⟩
  case round =>
    obtain ⟨m', rest, cs', Hm, rfl, Hs', hB, hB2, hb⟩ := hrel
    have hlm : m'.length + rest.length ≤ 1099511627776 := by
      have h1 := Hlen.out
      have h2 := congrArg List.length Hm.out
      simp at h2; omega
    by_cases hr : rest = []
    · subst hr
      have hl := Hs'.out.length
      have hone := Hs'.out.oneCell
      have HL := Lib.hid hl; clear hl
      go_wp2_with (first | (refine wpList_load_cells (ty := 148) (n := 73) hB.cells0 rfl rfl rfl Tryz.underlying148 rfl (by kernel_rfl) HL.out ?_) | (refine wpList_store_blk (ty := 148) (n := 73) (vs := cs') hB2 rfl rfl rfl rfl rfl (by kernel_rfl) HL.out (by decide) hone ?_))
      intro w9 hb9 ho9
      have hd : List.drop 73 zero34 = [] := by rfl
      have hb9' : Blk w9 (w.heap.size + 1) cs' 148 := by simpa [hd] using hb9
      clear hb9 hd
      go_wp2
      refine bodyPost_ret (results_blk rfl hb9' rfl Tryz.underlying148 rfl ?_) rfl ?_
      · rw [HL.out]; kernel_rfl
      · refine ⟨_, rfl, ?_, ho9.below hb (by omega)⟩
        have := Hm.out
        rw [List.append_nil] at this
        rw [← this]; exact Hs'.out
    · obtain ⟨st, blk, hp, rfl⟩ := Hs'.out.parts
      have hbl := hp.len
      have HP := Lib.hid hp; clear hp Hs'
      have HBL := Lib.hid hbl; clear hbl
      have hne : (rest == []) = false := by simp [hr]
      have hpos : 0 < rest.length := List.length_pos_iff.2 hr
      have c72 : wr.cell? ⟨w.heap.size, 72, none⟩ = some (.int .u64 (m'.length : Int)) := hB.cell (by
        have h8 : (st.list.map U).length = 8 := rfl
        have h64 : (blk.map byv).length = 64 := by simp [HBL.out]
        rw [Parts.cells, List.getElem?_append_right (by simp [HBL.out, St.list])]; simp [HBL.out, St.list])
      obtain ⟨p, hp⟩ : ∃ p, Hid (p = m'.length % 64) := ⟨_, rfl⟩
      have hp1 : p < 64 := by have := hp.out; omega
      have hp2 : (p : Int) ≤ 64 := by omega
      have hmod : (m'.length : Int) % 64 = (p : Int) := by have := hp.out; omega
      obtain ⟨k, hk⟩ : ∃ k, Hid (k = min rest.length (64 - p)) := ⟨_, rfl⟩
      have hk1 : k ≤ rest.length := by have := hk.out; omega
      have hk2 : p + k ≤ 64 := by have := hk.out; omega
      have hk3 : 0 < k := by have := hk.out; omega
      have hsl := fun W => slice9 W rest k hk1
      have hf := hB.frozen
      go_wp2_with (refine wpList_copy_str hB rfl rfl rfl rfl Tryz.underlying81 (by kernel_rfl) k ?hk ?hfit ?_)
      case hk => exact hk.out
      case hfit => simp [Parts.cells, St.list, HBL.out]; omega
      intro w1 hb1 ho1
      obtain ⟨B', HB'⟩ : ∃ B', Hid (B' = blk.take p ++ rest.take k ++ blk.drop (p + k)) := ⟨_, rfl⟩
      have hb1' : Blk w1 w.heap.size (st.list.map U ++ B'.map byv ++ [.int .u64 (m'.length : Int)]) 148 := by
        have e := splice_blk (st.list.map U) rfl blk rest HBL.out (.int .u64 (m'.length : Int)) p k hk2
        rw [List.append_assoc (List.take (8 + p) _), List.map_take] at e
        rw [HB'.out, ← e]; exact hb1
      have hB2' := ho1.blk (by omega) hB2
      have hbw := ho1.below hb (Nat.le_refl _)
      have HBL' : Hid (B'.length = 64) := by show B'.length = 64; rw [HB'.out, hp.out]; exact blk_len (by have := hp.out; omega) hk1 HBL.out
      clear hb1 hB hB2 c72 hf
      have hf := hb1'.frozen
      have c72 : w1.cell? ⟨w.heap.size, 72, none⟩ = some (.int .u64 (m'.length : Int)) := hb1'.cell (by
        rw [List.getElem?_append_right (by simp [HBL'.out, St.list])]; simp [HBL'.out, St.list])
      have hnew : Blk (w1.setCell ⟨w.heap.size, 72, none⟩ (.int .u64 ((m'.length : Int) + (k : Int)))) w.heap.size (st.list.map U ++ B'.map byv ++ [.int .u64 ((m' ++ rest.take k).length : Int)]) 148 := by
        have e := hb1'.set 72 (.int .u64 ((m'.length : Int) + (k : Int)))
        rw [List.set_append_right _ _ (by simp [HBL'.out, St.list])] at e
        rw [show ((m' ++ rest.take k).length : Int) = (m'.length : Int) + (k : Int) by simp; omega]
        simpa [HBL'.out, St.list] using e
      have hnew2 := hB2'.set_ne (a := ⟨w.heap.size, 72, none⟩) (.int .u64 ((m'.length : Int) + (k : Int))) (by simp)
      have hbw2 := hbw.setCell (p := ⟨w.heap.size, 72, none⟩) (Nat.le_refl _) (.int .u64 ((m'.length : Int) + (k : Int)))
      have hjoin : m' ++ rest.take k ++ rest.drop k = m ++ text := by rw [List.append_assoc, List.take_append_drop]; exact Hm.out
      have HJ := Lib.hid hjoin; clear hjoin
      have hml : (strLen (str (rest.drop k))) < strLen (str rest) := by simp [strLen, str_size]; omega
      by_cases hfull : p + k = 64
      · have hfe : ((p : Int) + (k : Int) == 64) = true := by simp; omega
        have HF := Lib.hid hfull; clear hfull
        have s0 : w1.cell? ⟨w.heap.size, 0, none⟩ = some (U st.a) := hb1'.cell rfl
        have s1 : w1.cell? ⟨w.heap.size, 1, none⟩ = some (U st.b) := hb1'.cell rfl
        have s2 : w1.cell? ⟨w.heap.size, 2, none⟩ = some (U st.c) := hb1'.cell rfl
        have s3 : w1.cell? ⟨w.heap.size, 3, none⟩ = some (U st.d) := hb1'.cell rfl
        have s4 : w1.cell? ⟨w.heap.size, 4, none⟩ = some (U st.e) := hb1'.cell rfl
        have s5 : w1.cell? ⟨w.heap.size, 5, none⟩ = some (U st.f) := hb1'.cell rfl
        have s6 : w1.cell? ⟨w.heap.size, 6, none⟩ = some (U st.g) := hb1'.cell rfl
        have s7 : w1.cell? ⟨w.heap.size, 7, none⟩ = some (U st.h) := hb1'.cell rfl
        go_wp2
        refine wp_region_tail 4 (by kernel_rfl) (by kernel_rfl) ?_
        simp only [List.take_succ_cons, List.take_zero, List.drop_succ_cons, List.drop_zero]
        repeat (go_big_quiet_step (fail))
        refine wpQuiet_nil ?_
        intro nq2
        clear s0 s1 s2 s3 s4 s5 s6 s7
        go_wp2_with fail
        refine (compress_any st B' w.heap.size 8 64 1 _ HBL'.out (by omega) (by omega) ?_ ?_ ?_).mono ?_
        · exact (hnew.drewN nq2).cells 8 _ (by simp [St.list, HBL'.out])
        · exact HK.out.below (below_drewN hbw2 nq2) h1
        · simp; have := hbw2.size; simp at this; omega
        rintro e w3 ⟨rfl, hb3⟩
        have hsz2 : w.heap.size + 1 < w1.heap.size := hB2'.lt
        have hnew3 := (hnew.drewN nq2).below hb3 (by simp; omega)
        have hnew4 := (hnew2.drewN nq2).below hb3 (by simp; omega)
        have hbw3 := (below_drewN hbw2 nq2).trans (hb3.mono (by simp; omega))
        have hz3 := hnew3.lt
        clear hnew hnew2 hbw2 hb3 hB2' hb1' hbw c72 hf
        go_wp2_with (refine wpList_store_blk (ty := 146) (n := 8) (vs := (comp st B').list.map U) hnew3 rfl rfl rfl rfl rfl (by kernel_rfl) rfl (by simp [St.list]) (by simp [St.list, Value.oneCell']) ?_)
        intro w4 hb4 ho4
        go_wp2
        go_roundw
        case rel =>
          refine ⟨m' ++ rest.take k, rest.drop k, Parts.cells (m' ++ rest.take k) (comp st B') B', HJ, rfl, ?_, hb4, ho4.blk (by omega) hnew4, ho4.below hbw3 (Nat.le_refl _)⟩
          have h := HP.out.full (k := k) (r := rest) (by have := HF.out; have := hp.out; omega) hk1
          rw [← hp.out, ← HB'.out] at h
          exact h.stream
        case measure => exact hml
      · have hfe : ((p : Int) + (k : Int) == 64) = false := by simp; omega
        have HF := Lib.hid hfull; clear hfull
        go_wp2
        go_roundw
        case rel =>
          refine ⟨m' ++ rest.take k, rest.drop k, _, HJ, rfl, ?_, hnew, hnew2, hbw2⟩
          have h := HP.out.part (k := k) (r := rest) (by have := HF.out; have := hp.out; omega) hk1
          rw [← hp.out, ← HB'.out] at h
          exact h.stream
        case measure => exact hml
end Go.Proofs.YtbmnbdkbgpajeaaGreatDoor
end
/- The walk over Stream.Sum. -/
section
namespace Go.Proofs.YtbmnbdkbgpajeaaGreatDoor
open Go.RowKit Go.Sha Go.Own
attribute [local go_sem high] op_add op_xor op_and op_or op_not op_shl op_shr op_shl_lit op_shr_lit byte_mod op_str_eql op_str_neq
attribute [local go_sem] setCell_twice str_size
def zero24 : List Value := (List.replicate 32 (0 : UInt8)).map byv
theorem zeroValue24 (w : World) : (zeroValue 125).run Tryz.prog w = .ok (.agg zero24.toArray) w := by kernel_rfl
theorem conv22 (w : World) (v : Value) (bs : List UInt8) (h : Sl w 1 v bs.length (bs.map byv)) : (convert 81 9 v).run Tryz.prog w = .ok (str bs) w :=
  run_bytes_str Tryz.underlying81 Tryz.underlying5 Tryz.underlying9 h
theorem info5 : (Tryz.prog.info? 5).map (fun i => (i.zero, i.size, i.bytes)) = some (some (.int .u8 0), 1, 1) := by kernel_rfl
/-- While the zeros are appended. -/
structure PRel (w : World) (cs : List Value) (v : Value) (bs : List UInt8) (wr : World) : Prop where
  own : wr.ownsRow (w.heap.size + 2) 5 1 v bs.length (bs.map byv)
  b1 : Blk wr w.heap.size cs 148
  b2 : Blk wr (w.heap.size + 1) zero24 125
  below : Below w.heap.size w wr
theorem PRel.size {w wr : World} {cs : List Value} {v : Value} {bs : List UInt8} (h : PRel w cs v bs wr) : w.heap.size + 2 ≤ wr.heap.size := h.b2.lt
theorem PRel.append {w wr w' : World} {cs : List Value} {v v' : Value} {bs news : List UInt8} (h : PRel w cs v bs wr) (o : Obj) (hown : w'.ownsRow (w.heap.size + 2) 5 1 v' (bs.length + news.length) (bs.map byv ++ news.map byv))
    (hg : (wr.alloc o).grownBy w' v.ownBlock) : PRel w cs v' (bs ++ news) w' := by
  have hne : ∀ k, k < w.heap.size + 2 → some k ≠ v.ownBlock := fun k hk he => by
    have := (h.own.lt k he.symm).1; omega
  refine ⟨by simpa using hown, (h.b1.alloc o).grown hg (hne _ (by omega)), (h.b2.alloc o).grown hg (hne _ (by omega)), ?_⟩
  have hb : Below (w.heap.size + 2) wr (wr.alloc o) := (Below.refl _ _).alloc h.size o
  exact h.below.trans ((grown_below hb (h.own.alloc o) hg (by simp; have := h.size; omega)).mono (by omega))
set_option maxHeartbeats 1600000 in
set_option maxRecDepth 100000 in
theorem ssum_any (m : List UInt8) (cs : List Value) (hs : StreamOf m cs) (hlen : m.length ≤ 549755813888) (w : World) (hK : Cells w 2 0 (Kt.map U)) (h1 : 2 < w.heap.size) :
    Calls Tryz.prog 94 #[.agg cs.toArray] w fun e w' => e = .returned (.agg ((sha m).map byv).toArray) ∧ Below w.heap.size w w' := by
  have HK := Lib.hid hK; clear hK
  have hl := hs.length
  have HL := Lib.hid hl; clear hl
  have Hs := Lib.hid hs; clear hs
  have hz24 := fun W => zeroValue24 W
  go_enter Tryz.func94, Tryz.ntmps94
  have c72 : ∀ W, Blk W w.heap.size cs 148 → W.cell? ⟨w.heap.size, 72, none⟩ = some (.int .u64 (m.length : Int)) := fun W hB => hB.cell (by
    obtain ⟨blk, k1, k2, k3⟩ := Hs.out
    rw [k3, List.getElem?_append_right (by simp [k1, St.list])]; simp [k1, St.list])
  have c0 := c72 ((w.alloc (.cells cs.toArray 148)).alloc (.cells zero24.toArray 125)) ((Blk.new _ _ _).alloc _)
  have HC := Lib.hid c72; clear c72
  go_wp2
  clear c0
  go_loopw [4] (fun v wr => ∃ j, Hid (∀ i, i < j → (m.length + (1 + i)) % 64 ≠ 56) ∧ j ≤ 64 ∧ PRel w cs v (128 :: List.replicate j 0) wr) (fun v _ => 66 - sLen v)
  case atStart => exact ⟨0, fun i h => absurd h (by omega), by omega, (own_new_at ((w.alloc _).alloc _) #[byv 128] 5 1 (w.heap.size + 2) _ (by simp) rfl (by decide) (by simp)), ((Blk.new _ _ _).alloc _).alloc _, (Blk.new_at _ _ _ (by simp)).alloc _, (((Below.refl _ _).alloc (Nat.le_refl _) _).alloc (by simp) _).alloc (by rw [World.size_alloc, World.size_alloc]; omega) _⟩
  case round =>
    obtain ⟨j, Hj, hj, hp⟩ := hrel
    have hz := hp.size
    have c72 := HC.out wr hp.b1
    have hlenv : (128 :: List.replicate j (0 : UInt8)).length = j + 1 := by simp
    have how := hp.own
    rw [hlenv] at how
    obtain ⟨hv1, ⟨rfl, hv2⟩ | ⟨g, cap, cur, rfl, hv⟩⟩ := id how
    · omega
    have HV := Lib.hid hv; clear hv
    have HV1 := Lib.hid hv1; clear hv1
    by_cases hc : (m.length + (1 + j)) % 64 = 56
    · have hcond : (((m.length : Int) + ((j : Int) + 1)) % 64 != 56) = false := by simp; omega
      have hjz := Lib.hid (zeros_least m.length j hc Hj.out)
      have HCN := Lib.hid hc; clear hc
      go_wp2
      go_loopw [23, 4] (fun c v wx => ∃ i : Nat, i ≤ 8 ∧ c = .int .i64 i ∧ PRel w cs v (128 :: List.replicate j 0 ++ (be64 (8 * m.length)).take i) wx) (fun c _ _ => 8 - (Go.RowKit.intOf c).toNat)
      case atStart => exact ⟨0, by omega, rfl, by simpa using hp⟩
      case round =>
        clear hp c72 how HV HV1 hz
        obtain ⟨i, hi, rfl, hp⟩ := hrel
        have hz := hp.size
        have hlenv : (128 :: List.replicate j (0 : UInt8) ++ (be64 (8 * m.length)).take i).length = j + 1 + i := by simp [be64]; omega
        have how := hp.own
        rw [hlenv] at how
        by_cases hi8 : i < 8
        · obtain ⟨q, Hq⟩ : ∃ q, Hid (q = 56 - 8 * i) := ⟨_, rfl⟩
          have hq : 56 - 8 * (i : Int) = (q : Int) := by have := Hq.out; omega
          have hq2 : q ≤ 64 := by have := Hq.out; omega
          go_wp2_with (refine wpList_append_sl rfl _ _ 81 rfl (w.heap.size + 2) 5 (.int .u8 0) 1 1 Tryz.underlying81 info5 rfl (by decide) _ (j + 1 + i) _ rfl (how.alloc _) _ 1 [.int .u8 (8 * (m.length : Int) / 2 ^ q % 256)] rfl (sl_new _ _ _ 1 rfl (by decide)) (by simp [Value.oneCell']) (by unfold maxLen; omega) (by omega) (by simp; omega) ?_)
          intro v' w' hown' hg
          go_wp2
          go_roundw
          case rel =>
            refine ⟨i + 1, by omega, by go_num, ?_⟩
            have e : (be64 (8 * m.length)).take (i + 1) = (be64 (8 * m.length)).take i ++ [UInt8.ofNat (8 * m.length / 2 ^ q)] := by
              have hb8 : i < (be64 (8 * m.length)).length := by simp [be64, hi8]
              rw [List.take_succ_eq_append_getElem hb8]
              simp [be64, Hq.out]
            have e2 : byv (UInt8.ofNat (8 * m.length / 2 ^ q)) = .int .u8 (8 * (m.length : Int) / 2 ^ q % 256) := by
              unfold byv; rw [byte_of]; simp
            rw [e, ← List.append_assoc]
            refine hp.append _ ?_ hg
            rw [hlenv]
            simpa [e2] using hown'
          case measure => simp [Go.RowKit.intOf]; omega
        · obtain rfl : i = 8 := by omega
          have hbs : (128 :: List.replicate j (0 : UInt8) ++ (be64 (8 * m.length)).take 8) = tailF m.length := by
            rw [tailF, hjz.out, List.take_of_length_le (by simp [be64])]
          have hsl := Sl.of_owns hp.own
          rw [hbs] at hsl
          have hcv := conv22 wr u4 (tailF m.length) hsl
          have hb1 := hp.b1
          have hb2 := hp.b2
          have hbw := hp.below
          clear how hsl hbs hlenv hp
          go_wp2_with (first | (refine wpList_load_cells (ty := 148) (n := 73) hb1.cells0 rfl rfl rfl Tryz.underlying148 rfl (by kernel_rfl) HL.out ?_) | (go_at_call 93; refine (add_any m (tailF m.length) cs Hs.out ?hl2 _ (HK.out.below hbw h1) ?h12).mono ?_))
          case hl2 => rw [tailF_length]; unfold zeros; omega
          case h12 => omega
          rintro e w3 ⟨cs3, rfl, hs3, hb3⟩
          have hl3 := Lib.hid hs3.length
          have hone3 := hs3.oneCell
          have HS3 := Lib.hid hs3; clear hs3
          have hb1' := hb1.below hb3 hb1.lt
          have hb2' := hb2.below hb3 hb2.lt
          have hbw3 := hbw.trans (hb3.mono (by omega))
          clear hcv hb1 hb2 hbw
          go_wp2_with (refine wpList_store_blk (ty := 148) (n := 73) (vs := cs3) hb1' rfl rfl rfl rfl rfl (by kernel_rfl) hl3.out (by have := HL.out; omega) hone3 ?_)
          intro w4 hb4 ho4
          have hd : List.drop 73 cs = [] := List.drop_of_length_le (by have := HL.out; omega)
          have hb4' : Blk w4 w.heap.size cs3 148 := by simpa [hd] using hb4
          have hb24 := ho4.blk (by omega) hb2'
          have hbw4 := ho4.below hbw3 (Nat.le_refl _)
          clear hb4 hd hb1' hb2' hbw3 ho4 hb3 hone3
          go_wp2
          obtain ⟨st, blk, hpt, hcs3⟩ := HS3.out.parts
          have hst := hpt.st
          have hsha : outF st = sha m := by rw [sha, hst]
          have HSHA := Lib.hid hsha; clear hsha hst hpt
          have HCS := Lib.hid hcs3; clear hcs3
          have hz4 := hb4'.lt
          have hz24' := hb24.lt
          go_loopw [40] (fun c wx => ∃ i : Nat, i ≤ 32 ∧ c = .int .i64 i ∧ Blk wx w4.heap.size (outPart st i) 125 ∧ Blk wx w.heap.size cs3 148 ∧ Blk wx (w.heap.size + 1) zero24 125 ∧ Below w.heap.size w wx) (fun c _ => 32 - (Go.RowKit.intOf c).toNat)
          case atStart => exact ⟨0, by omega, rfl, by rw [outPart_zero]; exact Blk.new _ _ _, hb4'.alloc _, hb24.alloc _, hbw4.alloc (by omega) _⟩
          case round =>
            clear hb4' hb24 hbw4
            obtain ⟨i, hi, rfl, hb6, hb1, hb2, hbw⟩ := hrel
            have hf6 := hb6.frozen
            have hf2 := hb2.frozen
            by_cases hi32 : i < 32
            · obtain ⟨q, Hq⟩ : ∃ q, Hid (q = 24 - 8 * (i % 4)) := ⟨_, rfl⟩
              have hq : 24 - 8 * ((i : Int) % 4) = (q : Int) := by have := Hq.out; omega
              obtain ⟨x, Hx⟩ : ∃ x, Hid (x = st.list.getD (i / 4) 0) := ⟨_, rfl⟩
              have cx : wr.cell? ⟨w.heap.size, i / 4, none⟩ = some (U x) := hb1.cell (by
                have h8 : i / 4 < (st.list.map U).length := by simp [St.list]; omega
                rw [HCS.out, Parts.cells, List.append_assoc, List.getElem?_append_left h8, Hx.out]
                have h9 : i / 4 < st.list.length := by simpa using h8
                simp [h9])
              obtain ⟨y0, c6⟩ : ∃ y, wr.cell? ⟨w4.heap.size, i, none⟩ = some y := ⟨_, hb6.cellD undef (by rw [outPart_length _ _ hi]; exact hi32)⟩
              go_wp2
              go_roundw
              case rel =>
                refine ⟨i + 1, by omega, by go_num, ?_, hb1.set_ne _ (by simp; omega), hb2.set_ne _ (by simp; omega), hbw.setCell (by simp; omega) _⟩
                have h := hb6.set i (byv (UInt8.ofNat (shr32 x q)))
                rw [Hx.out, Hq.out, outPart_next _ _ hi32] at h
                have e2 : byv (UInt8.ofNat (shr32 x q)) = .int .u8 ((shr32 x q : Nat) % 256) := by unfold byv; rw [byte_of]
                rw [← e2, Hx.out, Hq.out]; exact h
              case measure => simp [Go.RowKit.intOf]; omega
            · obtain rfl : i = 32 := by omega
              have hb6' : Blk wr w4.heap.size ((sha m).map byv) 125 := by rw [← HSHA.out, ← outPart_end]; exact hb6
              clear hb6
              have hl6 : ((sha m).map byv).length = 32 := by simp [sha_length]
              have HL6 := Lib.hid hl6; clear hl6
              go_wp2_with (first | (refine wpList_load_cells (ty := 125) (n := 32) hb6'.cells0 rfl rfl rfl Tryz.underlying125 rfl (by kernel_rfl) HL6.out ?_) | (refine wpList_store_blk (ty := 125) (n := 32) (vs := (sha m).map byv) hb2 rfl rfl rfl rfl rfl (by kernel_rfl) HL6.out (by simp [zero24]) (bytes_oneCell _) ?_))
              intro w9 hb9 ho9
              have hd9 : List.drop 32 zero24 = [] := by rfl
              have hb9' : Blk w9 (w.heap.size + 1) ((sha m).map byv) 125 := by simpa [hd9] using hb9
              clear hb9 hd9
              go_wp2
              refine bodyPost_ret (results_blk rfl hb9' rfl Tryz.underlying125 rfl ?_) rfl ⟨rfl, ho9.below hbw (by omega)⟩
              rw [HL6.out]; kernel_rfl
    · have hcond : (((m.length : Int) + ((j : Int) + 1)) % 64 != 56) = true := by simp; omega
      have hjl : j < 64 := by
        rcases Nat.lt_or_ge j 64 with h | h
        · exact h
        · exact absurd (zeros_spec m.length) (Hj.out _ (by unfold zeros; omega))
      have HCN := Lib.hid hc; clear hc
      go_wp2_with (refine wpList_append_sl rfl _ _ 81 rfl (w.heap.size + 2) 5 (.int .u8 0) 1 1 Tryz.underlying81 info5 rfl (by decide) _ (j + 1) _ rfl (how.alloc _) _ 1 [byv 0] rfl (sl_new _ _ _ 1 rfl (by decide)) (by simp [Value.oneCell']) (by unfold maxLen; omega) (by omega) (by simp; omega) ?_)
      intro v' w' hown' hg
      go_wp2
      go_roundw
      case rel =>
        refine ⟨j + 1, fun i hi => ?_, by omega, ?_⟩
        · rcases Nat.lt_or_ge i j with h | h
          · exact Hj.out i h
          · obtain rfl : i = j := by omega
            exact HCN.out
        · have e : (128 :: List.replicate (j + 1) (0 : UInt8)) = (128 :: List.replicate j 0) ++ [0] := by rw [List.replicate_succ']; rfl
          rw [e]
          exact hp.append _ (by rw [hlenv]; simpa using hown') hg
      case measure =>
        rw [own_len hown']; simp [sLen]; omega
end Go.Proofs.YtbmnbdkbgpajeaaGreatDoor
end
/- The walk over the reference's padded. -/
section
namespace Go.Proofs.YtbmnbdkbgpajeaaGreatDoor
open Go.RowKit Go.Sha Go.Own
attribute [local go_sem high] op_add op_xor op_and op_or op_not op_shl op_shr op_shl_lit op_shr_lit byte_mod op_str_eql op_str_neq
attribute [local go_sem] setCell_twice str_size
/-- A row of bytes that the call owns; nothing before has turned. -/
structure BRel (w : World) (v : Value) (bs : List UInt8) (wr : World) : Prop where
  own : wr.ownsRow w.heap.size 5 1 v bs.length (bs.map byv)
  below : Below w.heap.size w wr
theorem BRel.append {w wr w' : World} {v v' : Value} {bs news : List UInt8} (h : BRel w v bs wr) (o : Obj) (hown : w'.ownsRow w.heap.size 5 1 v' (bs.length + news.length) (bs.map byv ++ news.map byv))
    (hg : (wr.alloc o).grownBy w' v.ownBlock) : BRel w v' (bs ++ news) w' := by
  refine ⟨by simpa using hown, ?_⟩
  have hb : Below w.heap.size wr (wr.alloc o) := (Below.refl _ _).alloc h.below.size o
  exact h.below.trans (grown_below hb (h.own.alloc o) hg (by simp; have := h.below.size; omega))
theorem BRel.append0 {w wr w' : World} {v v' : Value} {bs news : List UInt8} (h : BRel w v bs wr) (hown : w'.ownsRow w.heap.size 5 1 v' (bs.length + news.length) (bs.map byv ++ news.map byv))
    (hg : wr.grownBy w' v.ownBlock) : BRel w v' (bs ++ news) w' :=
  ⟨by simpa using hown, h.below.trans (grown_below (Below.refl _ _) h.own hg h.below.size)⟩
set_option maxHeartbeats 1600000 in
set_option maxRecDepth 100000 in
theorem padded_any (m : List UInt8) (sa : Option Addr) (cap : Nat) (w : World) (hsl : Sl w 1 (.slice sa m.length cap) m.length (m.map byv)) (hlen : m.length ≤ 549755813888) :
    Calls Tryz.prog 104 #[.slice sa m.length cap] w fun e w' => ∃ v', e = .returned v' ∧ BRel w v' (m ++ tailF m.length) w' := by
  have HSL := Lib.hid hsl; clear hsl
  go_enter Tryz.func104, Tryz.ntmps104
  have H0 : BRel w (.slice (some ⟨w.heap.size, 0, none⟩) 0 0) [] (w.alloc (.cells #[] 5)) := ⟨own_new _ _ _ 0 _ rfl (by decide) (Nat.le_refl _), (Below.refl _ _).alloc (Nat.le_refl _) _⟩
  go_wp2_with (refine wpList_append_sl rfl _ _ 81 rfl w.heap.size 5 (.int .u8 0) 1 1 Tryz.underlying81 info5 rfl (by decide) _ 0 _ rfl H0.own _ m.length _ rfl (HSL.out.alloc _) (bytes_oneCell _) (by unfold maxLen; omega) (by omega) (by simp) ?_)
  intro v1 w1 hown1 hg1
  have H1 : BRel w v1 m w1 := by simpa using H0.append0 (news := m) (by simpa using hown1) hg1
  clear H0 hown1 hg1
  have hz1 := H1.below.size
  have hn : Hid (1 = [(128 : UInt8)].length) := rfl
  go_wp2_with (refine wpList_append_sl rfl _ _ 81 rfl w.heap.size 5 (.int .u8 0) 1 1 Tryz.underlying81 info5 rfl (by decide) _ m.length _ rfl (H1.own.alloc _) _ 1 [byv 128] rfl (sl_new _ _ _ 1 rfl (by decide)) (by simp [Value.oneCell']) (by unfold maxLen; omega) (by omega) (by simp; omega) ?_)
  intro v2 w2 hown2 hg2
  have H2 : BRel w v2 (m ++ 128 :: List.replicate 0 0) w2 := H1.append (news := [128]) _ (by simpa using hown2) hg2
  clear H1 hown2 hg2 hz1
  go_wp2
  go_loopw [3] (fun v wr => ∃ j, Hid (∀ i, i < j → (m.length + (1 + i)) % 64 ≠ 56) ∧ j ≤ 64 ∧ BRel w v (m ++ 128 :: List.replicate j 0) wr) (fun v _ => m.length + 66 - sLen v)
  case atStart => exact ⟨0, fun i h => absurd h (by omega), by omega, H2⟩
  case round =>
    clear H2
    obtain ⟨j, Hj, hj, hp⟩ := hrel
    have hz := hp.below.size
    have hlenv : (m ++ 128 :: List.replicate j (0 : UInt8)).length = m.length + (j + 1) := by simp
    have how := hp.own
    rw [hlenv] at how
    by_cases hc : (m.length + (1 + j)) % 64 = 56
    · obtain ⟨hv1, ⟨hv2, hv3⟩ | ⟨g, cap1, cur, hv2, hv⟩⟩ := id how
      · omega
      have HV := Lib.hid hv; clear hv
      have HV1 := Lib.hid hv1; clear hv1
      have hcond : (((m.length : Int) + ((j : Int) + 1)) % 64 != 56) = false := by simp; omega
      have hjz := Lib.hid (zeros_least m.length j hc Hj.out)
      have HCN := Lib.hid hc; clear hc
      subst hv2
      go_wp2
      go_loopw [5, 3] (fun c v wx => ∃ i : Nat, i ≤ 8 ∧ c = .int .i64 i ∧ BRel w v (m ++ 128 :: List.replicate j 0 ++ (be64 (8 * m.length)).take i) wx) (fun c _ _ => 8 - (Go.RowKit.intOf c).toNat)
      case atStart => exact ⟨0, by omega, rfl, by simpa using hp⟩
      case round =>
        clear hp how HV HV1 hz
        obtain ⟨i, hi, rfl, hp⟩ := hrel
        have hz := hp.below.size
        have hlenv : (m ++ 128 :: List.replicate j (0 : UInt8) ++ (be64 (8 * m.length)).take i).length = m.length + (j + 1) + i := by simp [be64]; omega
        have how := hp.own
        rw [hlenv] at how
        by_cases hi8 : i < 8
        · obtain ⟨q, Hq⟩ : ∃ q, Hid (q = 56 - 8 * i) := ⟨_, rfl⟩
          have hq : 56 - 8 * (i : Int) = (q : Int) := by have := Hq.out; omega
          have hq2 : q ≤ 64 := by have := Hq.out; omega
          go_wp2_with (refine wpList_append_sl rfl _ _ 81 rfl w.heap.size 5 (.int .u8 0) 1 1 Tryz.underlying81 info5 rfl (by decide) _ (m.length + (j + 1) + i) _ rfl (how.alloc _) _ 1 [.int .u8 (8 * (m.length : Int) / 2 ^ q % 256)] rfl (sl_new _ _ _ 1 rfl (by decide)) (by simp [Value.oneCell']) (by unfold maxLen; omega) (by omega) (by simp; omega) ?_)
          intro v' w' hown' hg
          go_wp2
          go_roundw
          case rel =>
            refine ⟨i + 1, by omega, by go_num, ?_⟩
            have e : (be64 (8 * m.length)).take (i + 1) = (be64 (8 * m.length)).take i ++ [UInt8.ofNat (8 * m.length / 2 ^ q)] := by
              have hb8 : i < (be64 (8 * m.length)).length := by simp [be64, hi8]
              rw [List.take_succ_eq_append_getElem hb8]
              simp [be64, Hq.out]
            have e2 : byv (UInt8.ofNat (8 * m.length / 2 ^ q)) = .int .u8 (8 * (m.length : Int) / 2 ^ q % 256) := by
              unfold byv; rw [byte_of]; simp
            rw [e, ← List.append_assoc]
            refine hp.append _ ?_ hg
            rw [hlenv]
            simpa [e2] using hown'
          case measure => simp [Go.RowKit.intOf]; omega
        · obtain rfl : i = 8 := by omega
          have hbs : (m ++ 128 :: List.replicate j (0 : UInt8) ++ (be64 (8 * m.length)).take 8) = m ++ tailF m.length := by
            rw [tailF, hjz.out, List.take_of_length_le (by simp [be64])]; simp
          rw [hbs] at hp
          clear how hlenv hbs
          go_wp2
          go_ret
          exact ⟨_, rfl, hp⟩
    · obtain ⟨hv1, ⟨hv2, hv3⟩ | ⟨g, cap1, cur, hv2, hv⟩⟩ := id how
      · omega
      have HV := Lib.hid hv; clear hv
      have HV1 := Lib.hid hv1; clear hv1
      have hcond : (((m.length : Int) + ((j : Int) + 1)) % 64 != 56) = true := by simp; omega
      have hjl : j < 64 := by
        rcases Nat.lt_or_ge j 64 with h | h
        · exact h
        · exact absurd (zeros_spec m.length) (Hj.out _ (by unfold zeros; omega))
      have HCN := Lib.hid hc; clear hc
      subst hv2
      go_wp2_with (refine wpList_append_sl rfl _ _ 81 rfl w.heap.size 5 (.int .u8 0) 1 1 Tryz.underlying81 info5 rfl (by decide) _ (m.length + (j + 1)) _ rfl (how.alloc _) _ 1 [byv 0] rfl (sl_new _ _ _ 1 rfl (by decide)) (by simp [Value.oneCell']) (by unfold maxLen; omega) (by omega) (by simp; omega) ?_)
      intro v' w' hown' hg
      go_wp2
      go_roundw
      case rel =>
        refine ⟨j + 1, fun i hi => ?_, by omega, ?_⟩
        · rcases Nat.lt_or_ge i j with h | h
          · exact Hj.out i h
          · obtain rfl : i = j := by omega
            exact HCN.out
        · have e : (m ++ 128 :: List.replicate (j + 1) (0 : UInt8)) = (m ++ 128 :: List.replicate j 0) ++ [0] := by rw [List.replicate_succ']; simp
          rw [e]
          exact hp.append _ (by rw [hlenv]; simpa using hown') hg
      case measure =>
        rw [own_len hown']; simp [sLen]; omega
end Go.Proofs.YtbmnbdkbgpajeaaGreatDoor
end

/- SHA-256 of whole messages; what a stream holds. Plain functions. -/
import Derived.Test.YtcdgpkhfflehjaaDoorSpec
import Derived.Test.YtcdgpkhfflehjaaDoorOwn
namespace Go.Sha
open Go.Own
def iv : St := ⟨1779033703, 3144134277, 1013904242, 2773480762, 1359893119, 2600822924, 528734635, 1541459225⟩
def chunk (l : List UInt8) (k : Nat) : List UInt8 := (l.drop (64 * k)).take 64
def absorb (s : St) (l : List UInt8) : Nat → St
  | 0 => s
  | k + 1 => comp (absorb s l k) (chunk l k)
/-- The state of a stream whose message is m, as cells: the words, the last block, the length. -/
def StreamOf (m : List UInt8) (cs : List Value) : Prop :=
  ∃ blk : List UInt8, blk.length = 64 ∧ blk.take (m.length % 64) = m.drop (64 * (m.length / 64)) ∧
    cs = (absorb iv m (m.length / 64)).list.map U ++ blk.map byv ++ [.int .u64 (m.length : Int)]
theorem StreamOf.length {m : List UInt8} {cs : List Value} (h : StreamOf m cs) : cs.length = 73 := by
  obtain ⟨blk, h1, _, rfl⟩ := h
  simp [St.list, h1]
theorem StreamOf.oneCell {m : List UInt8} {cs : List Value} (h : StreamOf m cs) : ∀ v ∈ cs, v.oneCell' = true := by
  obtain ⟨blk, h1, _, rfl⟩ := h
  intro v hv
  simp only [List.mem_append, List.mem_map, List.mem_singleton] at hv
  rcases hv with (⟨x, _, rfl⟩ | ⟨x, _, rfl⟩) | rfl <;> rfl
theorem absorb_append (s : St) (m t : List UInt8) : ∀ k, 64 * k ≤ m.length → absorb s (m ++ t) k = absorb s m k
  | 0, _ => rfl
  | k + 1, h => by
    rw [absorb, absorb, absorb_append s m t k (by omega)]
    congr 1
    unfold chunk
    rw [List.drop_append_of_le_length (by omega), List.take_append_of_le_length (by simp; omega)]
end Go.Sha
namespace Go.Sha
open Go.Own
theorem splice_blk (A : List Value) (hA : A.length = 8) (blk r : List UInt8) (hb : blk.length = 64) (x : Value) (at_ k : Nat) (h1 : at_ + k ≤ 64) :
    (A ++ blk.map byv ++ [x]).take (8 + at_) ++ (r.take k).map byv ++ (A ++ blk.map byv ++ [x]).drop (8 + at_ + k) = A ++ (blk.take at_ ++ r.take k ++ blk.drop (at_ + k)).map byv ++ [x] := by
  have e1 : (A ++ blk.map byv ++ [x]).take (8 + at_) = A ++ (blk.take at_).map byv := by
    rw [List.append_assoc, List.take_append, List.take_of_length_le (by omega), hA, show 8 + at_ - 8 = at_ by omega, List.take_append_of_le_length (by simp; omega), List.map_take]
  have e2 : (A ++ blk.map byv ++ [x]).drop (8 + at_ + k) = (blk.drop (at_ + k)).map byv ++ [x] := by
    rw [List.append_assoc, List.drop_append, List.drop_of_length_le (by omega), hA, show 8 + at_ + k - 8 = at_ + k by omega, List.nil_append, List.drop_append_of_le_length (by simp; omega), List.map_drop]
  rw [e1, e2]
  simp
/-- A stream's parts: the message, the hash value, the last block. -/
structure Parts (m : List UInt8) (st : St) (blk : List UInt8) : Prop where
  len : blk.length = 64
  blk : blk.take (m.length % 64) = m.drop (64 * (m.length / 64))
  st : st = absorb iv m (m.length / 64)
def Parts.cells (m : List UInt8) (st : St) (blk : List UInt8) : List Value := st.list.map U ++ blk.map byv ++ [.int .u64 (m.length : Int)]
theorem StreamOf.parts {m : List UInt8} {cs : List Value} (h : StreamOf m cs) : ∃ st blk, Parts m st blk ∧ cs = Parts.cells m st blk := by
  obtain ⟨blk, h1, h2, h3⟩ := h
  exact ⟨_, blk, ⟨h1, h2, rfl⟩, h3⟩
theorem Parts.stream {m : List UInt8} {st : St} {blk : List UInt8} (h : Parts m st blk) : StreamOf m (Parts.cells m st blk) := ⟨blk, h.len, h.blk, by rw [Parts.cells, h.st]⟩

theorem take_blk {m r blk : List UInt8} {k : Nat} (hk : m.length % 64 + k ≤ 64) (hkr : k ≤ r.length) (hl : blk.length = 64) (hb : blk.take (m.length % 64) = m.drop (64 * (m.length / 64))) :
    (blk.take (m.length % 64) ++ r.take k ++ blk.drop (m.length % 64 + k)).take (m.length % 64 + k) = (m ++ r.take k).drop (64 * (m.length / 64)) := by
  rw [List.take_append_of_le_length (by simp; omega), List.take_of_length_le (by simp; omega), hb, List.drop_append_of_le_length (by omega)]
theorem blk_len {m r blk : List UInt8} {k : Nat} (hk : m.length % 64 + k ≤ 64) (hkr : k ≤ r.length) (hl : blk.length = 64) : (blk.take (m.length % 64) ++ r.take k ++ blk.drop (m.length % 64 + k)).length = 64 := by
  simp; omega
theorem Parts.part {m r blk : List UInt8} {st : St} {k : Nat} (h : Parts m st blk) (hk : m.length % 64 + k < 64) (hkr : k ≤ r.length) :
    Parts (m ++ r.take k) st (blk.take (m.length % 64) ++ r.take k ++ blk.drop (m.length % 64 + k)) := by
  have hlen : (m ++ r.take k).length = m.length + k := by simp; omega
  have e1 : (m.length + k) % 64 = m.length % 64 + k := by omega
  have e2 : (m.length + k) / 64 = m.length / 64 := by omega
  refine ⟨blk_len (by omega) hkr h.len, ?_, ?_⟩
  · rw [hlen, e1, e2]; exact take_blk (by omega) hkr h.len h.blk
  · rw [hlen, e2, absorb_append _ _ _ _ (by omega)]; exact h.st
theorem take2 (X : List UInt8) (h : X.length = 64) : X = (X.take 64).take 64 := by
  rw [List.take_of_length_le (l := X) (by omega), List.take_of_length_le (by omega)]
theorem Parts.full {m r blk : List UInt8} {st : St} {k : Nat} (h : Parts m st blk) (hk : m.length % 64 + k = 64) (hkr : k ≤ r.length) :
    Parts (m ++ r.take k) (comp st (blk.take (m.length % 64) ++ r.take k ++ blk.drop (m.length % 64 + k))) (blk.take (m.length % 64) ++ r.take k ++ blk.drop (m.length % 64 + k)) := by
  have hlen : (m ++ r.take k).length = m.length + k := by simp; omega
  have e1 : (m.length + k) % 64 = 0 := by omega
  have e2 : (m.length + k) / 64 = m.length / 64 + 1 := by omega
  have hb := take_blk (by omega) hkr h.len h.blk (r := r)
  refine ⟨blk_len (by omega) hkr h.len, ?_, ?_⟩
  · rw [hlen, e1, e2, List.take_zero, List.drop_of_length_le (by rw [hlen]; omega)]
  · rw [hlen, e2, absorb, absorb_append _ _ _ _ (by omega), ← h.st]
    congr 1
    unfold chunk
    rw [← hb, hk]
    exact take2 _ (by have := blk_len (m := m) (r := r) (blk := blk) (k := k) (by omega) hkr h.len; rw [hk] at this; exact this)
end Go.Sha
namespace Go.Sha
open Go.Own
def zeros (n : Nat) : Nat := (119 - n % 64) % 64
def be64 (x : Nat) : List UInt8 := (List.range 8).map fun i => UInt8.ofNat (x / 2 ^ (56 - 8 * i))
def tailF (n : Nat) : List UInt8 := 128 :: List.replicate (zeros n) 0 ++ be64 (8 * n)
def outF (s : St) : List UInt8 := (List.range 32).map fun i => UInt8.ofNat (shr32 (s.list.getD (i / 4) 0) (24 - 8 * (i % 4)))
/-- SHA-256. -/
def sha (m : List UInt8) : List UInt8 := outF (absorb iv (m ++ tailF m.length) ((m ++ tailF m.length).length / 64))
theorem outF_length (s : St) : (outF s).length = 32 := by simp [outF]
theorem sha_length (m : List UInt8) : (sha m).length = 32 := outF_length _
theorem zeros_spec (n : Nat) : (n + (1 + zeros n)) % 64 = 56 := by unfold zeros; omega
theorem zeros_least (n j : Nat) (h : (n + (1 + j)) % 64 = 56) (hj : ∀ i, i < j → (n + (1 + i)) % 64 ≠ 56) : j = zeros n := by
  have h1 := zeros_spec n
  have h2 : zeros n < 64 := by unfold zeros; omega
  rcases Nat.lt_trichotomy j (zeros n) with h3 | h3 | h3
  · have : j < 64 := by omega
    omega
  · exact h3
  · exact absurd h1 (hj _ h3)
theorem tailF_length (n : Nat) : (tailF n).length = 9 + zeros n := by simp [tailF, be64]; omega
theorem byte_of (n : Nat) : ((UInt8.ofNat n).toNat : Int) = (n : Int) % 256 := by simp
end Go.Sha
namespace Go.Own
open Go.RowKit
theorem sl_new (w : World) (c : Array Value) (t : TypeId) (n : Nat) (hn : c.size = n) (hm : n ≤ maxLen) : Sl (w.alloc (.cells c t)) 1 (.slice (some ⟨w.heap.size, 0, none⟩) n n) n c.toList :=
  ⟨by simp [hn], .inr ⟨_, 0, n, rfl, Nat.le_refl _, hm, (Blk.new w c t).cells0, by simp⟩⟩
theorem Sl.alloc {w : World} {size n : Nat} {v : Value} {vs : List Value} (h : Sl w size v n vs) (o : Obj) : Sl (w.alloc o) size v n vs := h.below ((Below.refl _ _).alloc (Nat.le_refl _) _)
theorem own_new (w : World) (c : Array Value) (t : TypeId) (n base : Nat) (hn : c.size = n) (hm : n ≤ maxLen) (hb : base ≤ w.heap.size) : (w.alloc (.cells c t)).ownsRow base t 1 (.slice (some ⟨w.heap.size, 0, none⟩) n n) n c.toList :=
  ⟨by simp [hn], .inr ⟨_, n, c, rfl, hb, heap_alloc_new _ _, Nat.le_refl _, hm, by simp [hn], List.take_of_length_le (by simp [hn])⟩⟩
end Go.Own
namespace Go.Own
/-- A slice value's length. -/
def sLen : Value → Nat | .slice _ n _ => n | _ => 0
theorem own_len {w : World} {base size n : Nat} {e : TypeId} {v : Value} {xs : List Value} (h : w.ownsRow base e size v n xs) : sLen v = n := by
  obtain ⟨_, ⟨rfl, rfl⟩ | ⟨g, cap, cur, rfl, _⟩⟩ := h <;> rfl
end Go.Own
namespace Go.Own
theorem own_new_at (w : World) (c : Array Value) (t : TypeId) (n base g : Nat) (hg : g = w.heap.size) (hn : c.size = n) (hm : n ≤ maxLen) (hb : base ≤ w.heap.size) : (w.alloc (.cells c t)).ownsRow base t 1 (.slice (some ⟨g, 0, none⟩) n n) n c.toList := by
  subst hg; exact own_new w c t n base hn hm hb
theorem sl_new_at (w : World) (c : Array Value) (t : TypeId) (n g : Nat) (hg : g = w.heap.size) (hn : c.size = n) (hm : n ≤ maxLen) : Sl (w.alloc (.cells c t)) 1 (.slice (some ⟨g, 0, none⟩) n n) n c.toList := by
  subst hg; exact sl_new w c t n hn hm
end Go.Own
namespace Go.Sha
open Go.Own
/-- The output while its bytes are written. -/
def outPart (s : St) (i : Nat) : List Value := ((outF s).take i).map byv ++ (List.replicate (32 - i) (0 : UInt8)).map byv
theorem outPart_zero (s : St) : outPart s 0 = (List.replicate 32 (0 : UInt8)).map byv := by simp [outPart]
theorem outPart_end (s : St) : outPart s 32 = (outF s).map byv := by simp [outPart, outF_length, List.take_of_length_le]
theorem outPart_length (s : St) (i : Nat) (h : i ≤ 32) : (outPart s i).length = 32 := by simp [outPart, outF_length]; omega
theorem outPart_next (s : St) (i : Nat) (h : i < 32) : (outPart s i).set i (byv (UInt8.ofNat (shr32 (s.list.getD (i / 4) 0) (24 - 8 * (i % 4))))) = outPart s (i + 1) := by
  have hl : ((outF s).take i).length = i := by simp [outF_length]; omega
  have e : (outF s).take (i + 1) = (outF s).take i ++ [UInt8.ofNat (shr32 (s.list.getD (i / 4) 0) (24 - 8 * (i % 4)))] := by
    rw [List.take_succ_eq_append_getElem (by rw [outF_length]; exact h)]
    simp [outF]
  unfold outPart
  rw [List.set_append_right _ _ (by rw [List.length_map, hl]; exact Nat.le_refl _), e, show 32 - i = (32 - (i + 1)) + 1 by omega, List.replicate_succ]
  simp [outF_length, show min i 32 = i by omega]
end Go.Sha
namespace Go.Sha
open Go.Own
theorem pad_mod (n : Nat) : (n + (tailF n).length) % 64 = 0 := by
  rw [tailF_length]
  have := zeros_spec n
  omega
theorem pad_len (m : List UInt8) : (m ++ tailF m.length).length % 64 = 0 := by
  rw [List.length_append]; exact pad_mod _
theorem chunk_length (l : List UInt8) (k : Nat) (h : 64 * (k + 1) ≤ l.length) : (chunk l k).length = 64 := by simp [chunk]; omega
theorem ch_comm (e f g : Nat) : xor32 (and32 e f) (and32 (xor32 e 4294967295) g) = chF e f g := by rw [chF, xor32_comm e]
end Go.Sha
namespace Go.Own
theorem Sl.oth {w w' : World} {size n g : Nat} {v : Value} {vs : List Value} (h : Sl w size v n vs) (ho : Oth g w w') (hne : ∀ b, v.ownBlock = some b → b ≠ g) : Sl w' size v n vs := by
  obtain ⟨h1, h2 | ⟨b, off, cap, rfl, h4, h5, h6, h7⟩⟩ := h
  · exact ⟨h1, .inl h2⟩
  · exact ⟨h1, .inr ⟨b, off, cap, rfl, h4, h5, h6.oth ho (hne b rfl), by rw [ho.size]; exact h7⟩⟩
end Go.Own
namespace Go.Own
open Go.RowKit
theorem _root_.Go.World.ownsRow.below {w w' : World} {base size n : Nat} {e : TypeId} {v : Value} {xs : List Value} (h : w.ownsRow base e size v n xs) (hb : Below w.heap.size w w') : w'.ownsRow base e size v n xs := by
  obtain ⟨h1, h2 | ⟨g, cap, cur, h3, h4, h5, h6⟩⟩ := h
  · exact ⟨h1, .inl h2⟩
  · have hlt : g < w.heap.size := by
      rcases Nat.lt_or_ge g w.heap.size with h' | h'
      · exact h'
      · rw [Array.getElem?_eq_none h'] at h5; cases h5
    exact ⟨h1, .inr ⟨g, cap, cur, h3, h4, (hb.block g hlt).trans h5, h6⟩⟩
end Go.Own

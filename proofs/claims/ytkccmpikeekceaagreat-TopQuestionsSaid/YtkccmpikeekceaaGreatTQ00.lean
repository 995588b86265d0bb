/- Words of 64 bits with a sign, as sets: and, or, andNot at numbers that are not negative; laws at any word. -/
import Derived.Lib.QuoteBits
import Derived.StillTail
import Derived.Deep.QuietTactic
import Derived.BigQuiet
import Derived.WalkKit
import Derived.WalkSpells
import Derived.WalkLawsBesides
import Derived.Lib.Hide
import Derived.Laws.AppendOwnNone
import Derived.Lib.AppendStr
import Derived.Lib.ConvBytes
import Derived.Laws.BytesArg
/- Words of 64 bits with a sign, as sets: and, or, andNot at numbers that are not negative; laws at any word. -/
section
namespace Go.Ib
open Go.Lib
abbrev B (z : Int) : BitVec 64 := BitVec.ofInt 64 z
theorem B_nat (a : Nat) (h : a < 18446744073709551616) : (B (a : Int)).toNat = a := ofInt_u64 a h
theorem b_and (a b : Nat) (ha : a < 9223372036854775808) (hb : b < 9223372036854775808) : bits .and .i64 (a : Int) (b : Int) = ((a &&& b : Nat) : Int) := by
  show IntKind.i64.wrap ((BitVec.ofInt 64 (a : Int) &&& BitVec.ofInt 64 (b : Int)).toNat : Int) = _
  rw [BitVec.toNat_and, ofInt_u64 a (by omega), ofInt_u64 b (by omega)]
  exact wrap_i64_small _ (Nat.lt_of_le_of_lt Nat.and_le_left ha)
theorem b_or (a b : Nat) (ha : a < 9223372036854775808) (hb : b < 9223372036854775808) : bits .or .i64 (a : Int) (b : Int) = ((a ||| b : Nat) : Int) := by
  show IntKind.i64.wrap ((BitVec.ofInt 64 (a : Int) ||| BitVec.ofInt 64 (b : Int)).toNat : Int) = _
  rw [BitVec.toNat_or, ofInt_u64 a (by omega), ofInt_u64 b (by omega)]
  exact wrap_i64_small _ (Nat.or_lt_two_pow (n := 63) ha hb)
/-- the numbers of a that are not in b -/
def diff (a b : Nat) : Nat := a &&& (18446744073709551615 ^^^ b)
theorem diff_bit (a b k : Nat) (ha : a < 9223372036854775808) : (diff a b).testBit k = (a.testBit k && !b.testBit k) := by
  unfold diff
  rw [Nat.testBit_and, Nat.testBit_xor]
  by_cases hk : k < 64
  · rw [show (18446744073709551615 : Nat) = 2 ^ 64 - 1 from rfl, Nat.testBit_two_pow_sub_one]; simp [hk]
  · rw [Nat.testBit_lt_two_pow (i := k) (x := a) (Nat.lt_of_lt_of_le ha (by rw [show (9223372036854775808 : Nat) = 2 ^ 63 from rfl]; exact Nat.pow_le_pow_right (by omega) (by omega)))]; simp
theorem diff_le (a b : Nat) : diff a b ≤ a := Nat.and_le_left
theorem b_andNot (a b : Nat) (ha : a < 9223372036854775808) (hb : b < 9223372036854775808) : bits .andNot .i64 (a : Int) (b : Int) = ((diff a b : Nat) : Int) := by
  show IntKind.i64.wrap ((BitVec.ofInt 64 (a : Int) &&& ~~~BitVec.ofInt 64 (b : Int)).toNat : Int) = _
  have e : (BitVec.ofInt 64 (a : Int) &&& ~~~BitVec.ofInt 64 (b : Int)).toNat = diff a b := by
    rw [← BitVec.xor_allOnes, BitVec.toNat_and, BitVec.toNat_xor, ofInt_u64 a (by omega), ofInt_u64 b (by omega), Nat.xor_comm]
    rfl
  rw [e]
  exact wrap_i64_small _ (Nat.lt_of_le_of_lt (diff_le a b) ha)
/-- a word's bits at any operands -/
theorem B_wrap (x : BitVec 64) : B (IntKind.i64.wrap (x.toNat : Int)) = x := by
  apply BitVec.eq_of_toInt_eq
  rw [BitVec.toInt_ofInt]
  have h := x.isLt
  simp only [IntKind.wrap, IntKind.bits, IntKind.signed, BitVec.toInt_eq_toNat_cond, Int.bmod]
  simp
  split <;> split <;> split <;> omega
theorem B_and (a b : Int) : B (bits .and .i64 a b) = B a &&& B b := B_wrap _
theorem B_or (a b : Int) : B (bits .or .i64 a b) = B a ||| B b := B_wrap _
theorem B_andNot (a b : Int) : B (bits .andNot .i64 a b) = B a &&& ~~~B b := B_wrap _
theorem B_inj {a b : Int} (ha : -9223372036854775808 ≤ a ∧ a ≤ 9223372036854775807) (hb : -9223372036854775808 ≤ b ∧ b ≤ 9223372036854775807) (h : B a = B b) : a = b := by
  have h2 := congrArg BitVec.toInt h
  rw [BitVec.toInt_ofInt, BitVec.toInt_ofInt, Int.bmod_eq_of_le (by omega) (by omega), Int.bmod_eq_of_le (by omega) (by omega)] at h2
  exact h2
theorem sub_iff (p s : BitVec 64) : (p &&& ~~~s = 0#64) ↔ (p ||| s = s) := by
  constructor
  · intro h
    apply BitVec.eq_of_getLsbD_eq
    intro i hi
    have := congrArg (fun x => x.getLsbD i) h
    simp [hi] at this ⊢
    intro hp; exact this hp
  · intro h
    apply BitVec.eq_of_getLsbD_eq
    intro i hi
    have := congrArg (fun x => x.getLsbD i) h
    simp [hi] at this ⊢
    intro hp; exact this hp
end Go.Ib
end
/- A region that draws its order: a head of operations that only read (in a class of worlds), then operations that come in one forced order. One walk in the order of the text serves. -/
section
namespace Go.Own
section
variable {P : Program} {ops : Array Oper} {md : Region.Mode} {C : World → Prop}

/-- Some number of operations of the head come up, in whatever order; behind them L. -/
def HeadAny (P : Program) (md : Region.Mode) (ops : Array Oper) (C : World → Prop) (n : Nat) (L : Array Bool → Act → Prop) : Nat → Array Bool → Act → Prop
  | 0, listed, a => L listed a
  | f + 1, listed, a => Region.ready md ops listed ≠ [] ∧
      ∀ i ∈ Region.ready md ops listed, i < n ∧ qOp P ops C i (HeadAny P md ops C n L f (listed.setIfInBounds i true)) a

theorem any_of_headAny {n g : Nat} {L : Array Bool → Act → Prop} {Q : Exit → Act → World → Prop}
    (hL : ∀ listed a w, C w → L listed a → wpAny P md ops Q g listed a w) (f : Nat) : ∀ (listed : Array Bool) (a : Act) (w : World), C w →
    HeadAny P md ops C n L f listed a → wpAny P md ops Q (f + g) listed a w := by
  induction f with
  | zero => intro listed a w hw h; rw [Nat.zero_add]; exact hL _ _ _ hw h
  | succ f ih =>
    intro listed a w hw h
    rw [Nat.add_right_comm]
    exact ⟨fun h0 => absurd h0 h.1, fun i hi => wpOp_of_qOp hw (fun a' w' hw' h' => ih _ a' w' hw' h') (h.2 i hi).2⟩

theorem headAny_first {n i : Nat} {oi : Oper} {v : Value} {L : Array Bool → Act → Prop} (hi : ops[i]? = some oi)
    (hsel : ∀ (j : Nat) (o : Oper) cs b, ops[j]? = some o → o.op ≠ .select cs b)
    (hs : Region.sinkB md ops n = true) (hc : Region.chainB md ops n = true) (hn : n < ops.size) (hin : i < n)
    (hdone : ∀ listed a, L listed a → ∀ j ∈ Region.ready md ops listed, n ≤ j) (f : Nat) : ∀ (listed : Array Bool) (a : Act), HeadInv md ops n listed →
      (∀ j oj, ops[j]? = some oj → j ≠ i → listed.getD j true = false → (∀ e ∈ oj.after, Region.binds md e = true → e.on ≠ i) → oi.apart ops oj = true) →
      i ∈ Region.ready md ops listed → YieldsIn P ops C oi v a →
      HeadAny P md ops C n L f (listed.setIfInBounds i true) (a.put oi.dst v) → HeadAny P md ops C n L (f + 1) listed a := by
  have below : ∀ listed, HeadInv md ops n listed → i ∈ Region.ready md ops listed → ∀ j ∈ Region.ready md ops listed, j < n := fun listed inv hr j hj =>
    (Nat.lt_or_ge j n).resolve_right fun h => absurd hj (tail_waits hs hc hn inv _ i rfl hin (mem_ready.1 hr).1 j h)
  induction f with
  | zero =>
    intro listed a inv _ hr hy H
    refine ⟨List.ne_nil_of_mem hr, fun j hj => ⟨below listed inv hr j hj, ?_⟩⟩
    by_cases hji : j = i
    · subst hji; exact hy.qOp hi H
    · exact absurd (below listed inv hr j hj) (Nat.not_lt.2 (hdone _ _ H j (ready_mono hj hji)))
  | succ f ih =>
    intro listed a inv hfree hr hy H
    refine ⟨List.ne_nil_of_mem hr, fun j hj => ⟨below listed inv hr j hj, ?_⟩⟩
    by_cases hji : j = i
    · subst hji; exact hy.qOp hi H
    · obtain ⟨hjun, oj, hoj, hall⟩ := mem_ready.1 hj
      have hun := getD_both (mem_ready.1 hr).1
      have hno : ∀ e ∈ oj.after, Region.binds md e = true → e.on ≠ i := fun e he hb heq => by
        have h1 := hall e he hb
        rw [heq, hun] at h1
        cases h1
      have h2 := qOp_put hoj (hfree j oj hoj hji hjun hno) (fun cs b => hsel i oi cs b hi) (fun cs b => hsel j oj cs b hoj) hy (H.2 j (ready_mono hj hji)).2
      refine qOp_mono (fun a' h3 => ih _ a' (inv.set hj (below listed inv hr j hj)) (fun k ok hk hki hu hn' => hfree k ok hk hki ?_ hn') (ready_mono hr (Ne.symm hji)) h3.1 ?_) h2
      · by_cases hjk : j = k
        · subst hjk; exact hjun
        · rwa [getD_set_ne true hjk] at hu
      · rw [Array.setIfInBounds_comm _ _ hji]; exact h3.2

theorem headAny_lex {n g : Nat} {Lq : Act → Prop} (hsel : Region.noSelect ops = true) (hs : Region.sinkB md ops n = true) (hc : Region.chainB md ops n = true) (hn : n < ops.size)
    (l : List Oper) : ∀ (k : Nat) (listed : Array Bool) (a : Act), (∀ j, j < l.length → l[j]? = ops[k + j]?) → k + l.length = n → HeadInv md ops n listed →
    Region.lexHead md ops g l.length k listed = true → wpQuiet P ops C Lq l a →
    HeadAny P md ops C n (fun listed' a' => Region.seqB md ops g n listed' = true ∧ Lq a') l.length listed a := by
  induction l with
  | nil =>
    intro k listed a _ hk _ hB h
    obtain rfl : k = n := by simpa using hk
    exact ⟨by simpa [Region.lexHead] using hB, h⟩
  | cons o l ih =>
    intro k listed a hl hk inv hB h
    have h0 : ops[k]? = some o := by simpa using (hl 0 (by simp)).symm
    simp only [List.length_cons, Region.lexHead, Bool.and_eq_true] at hB hk
    obtain ⟨⟨hr, hf⟩, hB'⟩ := hB
    have hkn : k < n := by omega
    have hr' : k ∈ Region.ready md ops listed := by simpa using hr
    have hq : qOp P ops C k (wpQuiet P ops C Lq l) a := by unfold qOp; simp only [h0]; exact h
    obtain ⟨v, hy, hK⟩ := yieldsIn_of_qOp h0 hq
    refine headAny_first h0 (Region.noSelect_spec hsel) hs hc hn hkn (fun _ _ hL => seqB_ready hL.1) l.length listed a inv (Region.free_spec h0 hf) hr' hy ?_
    refine ih (k + 1) _ _ (fun j hj => ?_) (by omega) (inv.set hr' hkn) hB' hK
    have := hl (j + 1) (by simp; omega)
    rw [Nat.add_assoc, Nat.add_comm 1 j]
    simpa using this

/-- A quiet head of n operations in the class C, then a tail in one forced order. -/
theorem wp_region_quiet_tail {id : Nat} {Q : Exit → Act → World → Prop} {a : Act} {w : World} {l : List Oper} (C : World → Prop) (n : Nat) (hm : P.follows .mixedOrders = true)
    (hB : Region.lexTailB .any l.toArray n = true) (hC : C w.drew)
    (h : wpQuiet P l.toArray C (fun a' => ∀ w', C w' → wpList P l.toArray Q (l.drop n) a' w') (l.take n) a) : (Code.region id l.toArray true).wp P Q a w := by
  simp only [Region.lexTailB, Bool.and_eq_true, decide_eq_true_eq] at hB
  obtain ⟨⟨⟨⟨hsel, hn⟩, hs⟩, hc⟩, hlex⟩ := hB
  have hn' : n < l.length := by simpa using hn
  have ht : (l.take n).length = n := by simp; omega
  have hd : (l.drop n).length = l.toArray.size - n := by simp
  have inv0 : HeadInv .any l.toArray n (Array.replicate l.toArray.size false) :=
    ⟨by simp, fun j oj _ hl => (by rw [getD_replicate_false] at hl; cases hl), fun t _ h' => getD_in (by simpa using h') (getD_replicate_false _ _)⟩
  have H := headAny_lex (md := .any) (g := l.toArray.size - n) hsel hs hc hn (l.take n) 0 _ a
    (fun j hj => by rw [ht] at hj; simp [hj]) (by simpa using ht) inv0 (by rw [ht]; exact hlex) h
  refine wp_region_any hm ?_
  have := any_of_headAny (Q := Q) (g := l.toArray.size - n) (fun listed a' w' hw' hL => by
    have := wpAny_of_seq (md := .any) (Q' := Q) (l.drop n) n listed a' w' (fun j => by simp [List.getElem?_drop]) (by rw [hd]; exact hL.1) (hL.2 w' hw')
    rwa [hd] at this) _ _ _ _ hC H
  rw [ht, show n + (l.toArray.size - n) = l.toArray.size by omega] at this
  exact this

/-- The same in the class of worlds that differ by draws alone: the form that the walk of a quiet head takes. -/
theorem wp_region_tail {id : Nat} {Q : Exit → Act → World → Prop} {a : Act} {w : World} {l : List Oper} (n : Nat) (hm : P.follows .mixedOrders = true)
    (hB : Region.lexTailB .any l.toArray n = true)
    (h : wpQuiet P l.toArray (fun w' => ∃ m, w' = w.drewN m) (fun a' => ∀ m, wpList P l.toArray Q (l.drop n) a' (w.drewN m)) (l.take n) a) : (Code.region id l.toArray true).wp P Q a w := by
  refine wp_region_quiet_tail (fun w' => ∃ m, w' = w.drewN m) n hm hB ⟨1, rfl⟩ ?_
  have e : (fun a' => ∀ m, wpList P l.toArray Q (l.drop n) a' (w.drewN m)) = (fun a' => ∀ w', (∃ m, w' = w.drewN m) → wpList P l.toArray Q (l.drop n) a' w') := by
    funext a'; exact propext ⟨fun h w' ⟨m, hw⟩ => hw ▸ h m, fun h m => h _ ⟨m, rfl⟩⟩
  rw [← e]; exact h
end
/-- A contract that draws, met behind other draws; and one that leaves the world alone, in both places. -/
theorem qcall_add {P : Program} {f : FuncId} {args : Array Value} {w : World} {a n : Nat} {v : Value}
    (h : Calls P f args (w.drewN (a + n)) fun e w' => e = .returned v ∧ ∃ m, w' = (w.drewN (a + n)).drewN m) :
    Calls P f args (w.drewN (a + n)) fun e w' => e = .returned v ∧ ∃ m, w' = w.drewN (a + m) :=
  h.mono fun _ _ ⟨he, m, hm⟩ => ⟨he, n + m, by rw [hm, World.drewN_drewN, Nat.add_assoc]⟩
theorem qcall_same_add {P : Program} {f : FuncId} {args : Array Value} {w : World} {a n : Nat} {v : Value}
    (h : Calls P f args (w.drewN (a + n)) fun e w' => e = .returned v ∧ w.drewN (a + n) = w') :
    Calls P f args (w.drewN (a + n)) fun e w' => e = .returned v ∧ ∃ m, w' = w.drewN (a + m) :=
  h.mono fun _ _ ⟨he, hm⟩ => ⟨he, n, hm.symm⟩
theorem qcall_same {P : Program} {f : FuncId} {args : Array Value} {w : World} {n : Nat} {v : Value}
    (h : Calls P f args (w.drewN n) fun e w' => e = .returned v ∧ w.drewN n = w') : Calls P f args (w.drewN n) fun e w' => e = .returned v ∧ ∃ m, w' = w.drewN m :=
  h.mono fun _ _ ⟨he, hm⟩ => ⟨he, n, hm.symm⟩
end Go.Own
end
/- Blocks of cells known whole, in a world that is a variable: small laws. -/
section
namespace Go.Own
open Go.RowKit

/-- Block g of the world holds just these cells, of element type t, and is not frozen. -/
def Blk (w : World) (g : Nat) (l : List Value) (t : TypeId) : Prop := w.heap[g]? = some (.cells l.toArray t (0, 0))

variable {w : World} {g : Nat} {l : List Value} {t : TypeId}

theorem Blk.lt (h : Blk w g l t) : g < w.heap.size := by
  rcases Nat.lt_or_ge g w.heap.size with h' | h'
  · exact h'
  · unfold Blk at h; rw [Array.getElem?_eq_none h'] at h; cases h
theorem Blk.cell {i : Nat} {v : Value} (h : Blk w g l t) (hi : l[i]? = some v) : w.cell? ⟨g, i, none⟩ = some v := by
  rw [cell_of_row w g i _ t (0, 0) h]; simpa using hi
theorem Blk.cellD {i : Nat} (d : Value) (h : Blk w g l t) (hi : i < l.length) : w.cell? ⟨g, i, none⟩ = some (l.getD i d) :=
  h.cell (by simp [hi])
theorem Blk.frozen (h : Blk w g l t) (i : Nat) : w.frozen? ⟨g, i, none⟩ = false := frozen_of_row w g i _ t h
theorem Blk.set (h : Blk w g l t) (i : Nat) (v : Value) : Blk (w.setCell ⟨g, i, none⟩ v) g (l.set i v) t := by
  unfold Blk
  rw [heap_setCell_same w g i _ t v h]
  simp
theorem Blk.set_ne (h : Blk w g l t) {a : Addr} (v : Value) (hne : g ≠ a.block) : Blk (w.setCell a v) g l t := by
  unfold Blk; rw [heap_setCell_other w a g v hne]; exact h
theorem Blk.alloc (h : Blk w g l t) (o : Obj) : Blk (w.alloc o) g l t := by
  have := h.lt
  unfold Blk at *; rw [show (w.alloc o).heap[g]? = w.heap[g]? from Below.heap_alloc w o g this]; exact h
theorem Blk.new (w : World) (c : Array Value) (t : TypeId) : Blk (w.alloc (.cells c t)) w.heap.size c.toList t := by
  unfold Blk; rw [heap_alloc_new]
theorem Blk.new_at (w : World) (c : Array Value) (t : TypeId) {n : Nat} (hn : n = w.heap.size) : Blk (w.alloc (.cells c t)) n c.toList t := by
  subst hn; exact Blk.new w c t
theorem Blk.drew (h : Blk w g l t) : Blk w.drew g l t := h
theorem Blk.drewN (h : Blk w g l t) (n : Nat) : Blk (w.drewN n) g l t := by
  unfold Blk at *; simpa using h
theorem Blk.below {w' : World} {B : Nat} (h : Blk w g l t) (hb : Below B w w') (hg : g < B) : Blk w' g l t := by
  unfold Blk; rw [hb.block g hg]; exact h
theorem below_drewN {B : Nat} {w w' : World} (h : Below B w w') (n : Nat) : Below B w (w'.drewN n) := ⟨h.os, h.tape, h.output, h.size, h.block⟩
theorem setCell_twice (w : World) (b o : Nat) (u v : Value) : (w.setCell ⟨b, o, none⟩ u).setCell ⟨b, o, none⟩ v = w.setCell ⟨b, o, none⟩ v := by
  unfold World.setCell
  simp only [Option.isSome_none, Bool.false_eq_true, if_false]
  congr 1
  apply Array.ext_getElem?
  intro i
  simp only [Array.getElem?_modify]
  split
  · cases w.heap[i]? with
    | none => rfl
    | some o => cases o <;> simp
  · rfl
/-- All but block g is as it was. -/
structure Oth (g : Nat) (w w' : World) : Prop where
  os : w'.os = w.os
  tape : w'.tape = w.tape
  output : w'.output = w.output
  size : w'.heap.size = w.heap.size
  block : ∀ k, k ≠ g → w'.heap[k]? = w.heap[k]?
theorem Oth.below {w w' : World} {g B : Nat} {W : World} (h : Oth g w w') (hb : Below B W w) (hg : B ≤ g) : Below B W w' :=
  hb.trans ⟨h.os, h.tape, h.output, by rw [h.size]; exact Nat.le_refl _, fun k hk => h.block k (by omega)⟩
theorem Oth.blk {w w' : World} {g k : Nat} {l : List Value} {t : TypeId} (h : Oth g w w') (hk : k ≠ g) (hb : Blk w k l t) : Blk w' k l t := by
  unfold Blk; rw [h.block k hk]; exact hb
theorem Oth.cell {w w' : World} {g : Nat} (h : Oth g w w') {p : Addr} (hk : p.block ≠ g) : w'.cell? p = w.cell? p := World.cell?_of_block (w := w) (h.block p.block hk)

/-- From place off of block g on the cells hold these values. -/
def Cells (w : World) (g off : Nat) (vs : List Value) : Prop := ∀ i v, vs[i]? = some v → w.cell? ⟨g, off + i, none⟩ = some v
theorem Blk.cells {w : World} {g : Nat} {l : List Value} {t : TypeId} (h : Blk w g l t) (off : Nat) (vs : List Value) (hv : (l.drop off).take vs.length = vs) : Cells w g off vs := fun i v hi => by
  have hlt : i < vs.length := (List.getElem?_eq_some_iff.1 hi).1
  rw [← hv, List.getElem?_take_of_lt hlt, List.getElem?_drop] at hi
  exact h.cell hi
theorem Blk.cells0 {w : World} {g : Nat} {l : List Value} {t : TypeId} (h : Blk w g l t) : Cells w g 0 l := h.cells 0 l (by simp)
theorem Cells.below {w w' : World} {g off B : Nat} {vs : List Value} (h : Cells w g off vs) (hb : Below B w w') (hg : g < B) : Cells w' g off vs := fun i v hi => (hb.cell (p := ⟨g, off + i, none⟩) hg).trans (h i v hi)
theorem Cells.oth {w w' : World} {g k off : Nat} {vs : List Value} (h : Cells w g off vs) (hb : Oth k w w') (hg : g ≠ k) : Cells w' g off vs := fun i v hi => (hb.cell (p := ⟨g, off + i, none⟩) hg).trans (h i v hi)
theorem Cells.drewN {w : World} {g off : Nat} {vs : List Value} (h : Cells w g off vs) (n : Nat) : Cells (w.drewN n) g off vs := h
theorem Cells.drew {w : World} {g off : Nat} {vs : List Value} (h : Cells w g off vs) : Cells w.drew g off vs := h
theorem Cells.alloc {w : World} {g off : Nat} {vs : List Value} (h : Cells w g off vs) (o : Obj) : Cells (w.alloc o) g off vs := fun i v hi => by
  have h1 := h i v hi
  rw [World.cell?_alloc_lt _ _ _ (World.block_lt_of_cell? _ _ h1)]; exact h1
theorem Cells.at {w : World} {g off : Nat} {vs : List Value} (h : Cells w g off vs) {i : Nat} {v : Value} (hi : vs[i]? = some v) : w.cell? ⟨g, off + i, none⟩ = some v := h i v hi
theorem Cells.sub {w : World} {g off : Nat} {vs : List Value} (h : Cells w g off vs) (a n : Nat) : Cells w g (off + a) ((vs.drop a).take n) := fun i v hi => by
  have hlt : i < ((vs.drop a).take n).length := (List.getElem?_eq_some_iff.1 hi).1
  rw [List.getElem?_take_of_lt (by simp at hlt; omega), List.getElem?_drop] at hi
  rw [Nat.add_assoc]; exact h _ _ hi

section
variable {P : Program}
theorem run_loadVar_cells {w : World} {g off n : Nat} {vs : List Value} {ty : TypeId} {d : TypeDesc} (hC : Cells w g off vs)
    (hu : P.underlying ty = some d) (hd : (match d with | .struct _ | .array _ _ => true | _ => false) = true) (hi : (P.info? ty).map (·.size) = some n) (hn : vs.length = n) :
    (loadVar ty ⟨g, off, none⟩).run P w = .ok (.agg vs.toArray) w := by
  have hl := run_loadCells_list (P := P) w ⟨g, off, none⟩ vs (fun j v hv => by rw [Addr.add_lit]; exact hC j v hv)
  rw [hn] at hl
  cases hq : P.info? ty with
  | none => simp [hq] at hi
  | some i =>
    have hs : i.size = n := by simpa [hq] using hi
    have hagg : (isAgg ty).run P w = .ok true w := by
      unfold isAgg
      rw [Sem.run_bind, run_underlying hu w]
      cases d <;> simp_all
    simp [loadVar, Sem.run_bind, hagg, sizeOf, typeInfo, hq, hs, hl]
theorem wpList_load_cells {ops : Array Oper} {rest : List Oper} {o : Oper} {a : Act} {w : World} {Q : Exit → Act → World → Prop} {g off n : Nat} {vs : List Value} {ty : TypeId} {d : TypeDesc} {x : Operand}
    (hC : Cells w g off vs) (hgd : o.guard = none) (ho : o.op = .load ty x) (hx : a.eval x = .pointer (some ⟨g, off, none⟩))
    (hu : P.underlying ty = some d) (hd : (match d with | .struct _ | .array _ _ => true | _ => false) = true) (hi : (P.info? ty).map (·.size) = some n) (hn : vs.length = n)
    (h : wpList P ops Q rest (a.put o.dst (.agg vs.toArray)) w) : wpList P ops Q (o :: rest) a w :=
  wpList_plain hgd fun _ hK => by
    unfold Oper.wp execOp
    simp only [ho, hx, Instr.loadAt, Instr.sureAddr, Sem.run_bind, Sem.run_pure, Result.andThen_ok, run_loadVar_cells hC hu hd hi hn]
    exact hK _ _ h
theorem run_loadVar_blk {w : World} {g off n : Nat} {l : List Value} {t ty : TypeId} {d : TypeDesc} (hB : Blk w g l t)
    (hu : P.underlying ty = some d) (hd : (match d with | .struct _ | .array _ _ => true | _ => false) = true) (hi : (P.info? ty).map (·.size) = some n) (hfit : off + n ≤ l.length) :
    (loadVar ty ⟨g, off, none⟩).run P w = .ok (.agg ((l.drop off).take n).toArray) w := by
  have hlen : ((l.drop off).take n).length = n := by simp; omega
  have hl := run_loadCells_list (P := P) w ⟨g, off, none⟩ ((l.drop off).take n) (fun j v hv => by
    have hadd : (⟨g, off, none⟩ : Addr).add j = ⟨g, off + j, none⟩ := Addr.add_lit _ _ _
    rw [hadd]
    refine hB.cell ?_
    have hj : j < n := by have := (List.getElem?_eq_some_iff.1 hv).1; omega
    rw [List.getElem?_take_of_lt hj, List.getElem?_drop] at hv
    exact hv)
  rw [hlen] at hl
  cases hq : P.info? ty with
  | none => simp [hq] at hi
  | some i =>
    have hs : i.size = n := by simpa [hq] using hi
    have hagg : (isAgg ty).run P w = .ok true w := by
      unfold isAgg
      rw [Sem.run_bind, run_underlying hu w]
      cases d <;> simp_all
    simp [loadVar, Sem.run_bind, hagg, sizeOf, typeInfo, hq, hs, hl]

theorem oth_setRow {w : World} {g : Nat} {cs : Array Value} : Oth g w (w.setRow g cs) :=
  ⟨rfl, rfl, rfl, size_setRow _ _ _, fun k hk => setRow_other w g k cs hk⟩
theorem blk_setRow {w : World} {g : Nat} {l l' : List Value} {t : TypeId} (hB : Blk w g l t) : Blk (w.setRow g l'.toArray) g l' t := setRow_heap w g _ _ t _ hB

theorem run_storeVar_blk {w : World} {g off n : Nat} {l vs : List Value} {t ty : TypeId} (hB : Blk w g l t)
    (hi : (P.info? ty).map (·.size) = some n) (hn : vs.length = n) (hfit : off + n ≤ l.length) (h1 : ∀ v ∈ vs, v.oneCell' = true) :
    (storeVar ty ⟨g, off, none⟩ (.agg vs.toArray)).run P w = .ok () (w.setRow g (l.take off ++ vs ++ l.drop (off + n)).toArray) := by
  have h := run_storeCells_at P g off t vs 0 l.toArray w hB (by simp; omega) h1
  cases hq : P.info? ty with
  | none => simp [hq] at hi
  | some i =>
    have hs : i.size = n := by simpa [hq] using hi
    simp only [Nat.add_zero, hn] at h
    simp [storeVar, Sem.run_bind, sizeOf, typeInfo, hq, hs, Value.cells, hn, h]

theorem wpList_load_blk {ops : Array Oper} {rest : List Oper} {o : Oper} {a : Act} {w : World} {Q : Exit → Act → World → Prop} {g off n : Nat} {l : List Value} (vs : List Value) {t ty : TypeId} {d : TypeDesc} {x : Operand}
    (hB : Blk w g l t) (hvs : (l.drop off).take n = vs) (hgd : o.guard = none) (ho : o.op = .load ty x) (hx : a.eval x = .pointer (some ⟨g, off, none⟩))
    (hu : P.underlying ty = some d) (hd : (match d with | .struct _ | .array _ _ => true | _ => false) = true) (hi : (P.info? ty).map (·.size) = some n) (hfit : off + n ≤ l.length)
    (h : wpList P ops Q rest (a.put o.dst (.agg vs.toArray)) w) : wpList P ops Q (o :: rest) a w :=
  wpList_plain hgd fun _ hK => by
    unfold Oper.wp execOp
    simp only [ho, hx, Instr.loadAt, Instr.sureAddr, Sem.run_bind, Sem.run_pure, Result.andThen_ok, run_loadVar_blk hB hu hd hi hfit, hvs]
    exact hK _ _ h

theorem wpList_store_blk {ops : Array Oper} {rest : List Oper} {o : Oper} {a : Act} {w : World} {Q : Exit → Act → World → Prop} {g off n : Nat} {l vs : List Value} {t ty : TypeId} {x y : Operand}
    (hB : Blk w g l t) (hgd : o.guard = none) (ho : o.op = .store ty x y) (hdst : o.dst = none) (hx : a.eval x = .pointer (some ⟨g, off, none⟩)) (hy : a.eval y = .agg vs.toArray)
    (hi : (P.info? ty).map (·.size) = some n) (hn : vs.length = n) (hfit : off + n ≤ l.length) (h1 : ∀ v ∈ vs, v.oneCell' = true)
    (h : ∀ w', Blk w' g (l.take off ++ vs ++ l.drop (off + n)) t → Oth g w w' → wpList P ops Q rest a w') : wpList P ops Q (o :: rest) a w :=
  wpList_plain hgd fun _ hK => by
    unfold Oper.wp execOp
    simp only [ho, hx, hy, Instr.storeAt, Instr.sureAddr, Sem.run_bind, Sem.run_pure, Result.andThen_ok, run_storeVar_blk hB hi hn hfit h1]
    have := h _ (blk_setRow hB) oth_setRow
    simp only [Oper.upon_skip, hdst, Act.put]
    exact hK _ _ this

theorem results_blk {fn : Func} {p : Tmp} {ty : TypeId} (h : fn.results = #[.cell p ty]) {tmps : Array Value} {w : World} {g : Nat} {t : TypeId} {l : List Value} {d : TypeDesc}
    (hg : Blk w g l t) (hp : tmps.getD p undef = .pointer (some ⟨g, 0, none⟩))
    (hu : P.underlying ty = some d) (hd : (match d with | .struct _ | .array _ _ => true | _ => false) = true) (hi : (P.info? ty).map (·.size) = some l.length) :
    (results fn tmps).run P w = .ok (.agg l.toArray) w :=
  results_cell_row h tmps w g t l.toArray (0, 0) d hp hg hu hd (by simpa using hi)
end
theorem ret_of {a b : Value} (h : a = b) : Ending.returned a = .returned b := by rw [h]
end Go.Own
end
/- A region that draws its order, whose head makes memory and calls: each operation of the head leaves what it says of its value, in whatever order they come; then a tail in one forced order. -/
section
namespace Go.Own
open Go.RowKit

theorem count_set_true : ∀ (l : List Bool) (i : Nat), l[i]? = some false → (l.set i true).count false + 1 = l.count false
  | [], i, h => by simp at h
  | b :: l, 0, h => by simp at h; subst h; simp
  | b :: l, i + 1, h => by
    have := count_set_true l i (by simpa using h)
    cases b <;> simp [← this]

/-- Every edge leads to an operation before. -/
def edgesB (ops : Array Oper) : Bool := (List.range ops.size).all fun i => match ops[i]? with | some o => o.after.all fun e => !Region.binds .any e || decide (e.on < i) | none => true
/-- The temporaries that the first n operations write: each by one alone, and no guard stands. -/
def dstsB (ops : Array Oper) (n N : Nat) : Bool := (List.range n).all fun i => match ops[i]? with
  | some o => o.guard.isNone && (match o.dst with | some d => decide (d < N) | none => false) && (List.range n).all fun j => i == j || (match ops[j]? with | some o' => o'.dst != o.dst | none => true)
  | none => false

/-- The frame with the values of the first n operations in their temporaries. -/
def putAll (ops : List Oper) (a : Act) (vs : Nat → Value) : Nat → Act
  | 0 => a
  | k + 1 => (putAll ops a vs k).put ((ops[k]?).bind (·.dst)) (vs k)

theorem getD_both' {listed : Array Bool} {i : Nat} (h : listed.getD i true = true) (hi : i < listed.size) : listed.getD i false = true := by
  simpa [hi] using h

section
variable {P : Program} {ops : Array Oper} {n : Nat}

theorem put_getD (a : Act) (d : Tmp) (v : Value) (t : Nat) (ht : t < a.tmps.size) : (a.put (some d) v).tmps.getD t undef = if d = t then v else a.tmps.getD t undef := by
  simp only [Act.put, Array.getD_eq_getD_getElem?, Array.getElem?_setIfInBounds]
  by_cases h : d = t
  · subst h; simp [ht]
  · simp [h]
theorem put_size (a : Act) (d : Option Tmp) (v : Value) : (a.put d v).tmps.size = a.tmps.size := by cases d <;> simp [Act.put]
theorem put_defers (a : Act) (d : Option Tmp) (v : Value) : (a.put d v).defers = a.defers := by cases d <;> rfl
theorem putAll_size (l : List Oper) (a : Act) (vs : Nat → Value) (k : Nat) : (putAll l a vs k).tmps.size = a.tmps.size := by
  induction k with
  | zero => rfl
  | succ k ih => rw [putAll, put_size, ih]
theorem putAll_defers (l : List Oper) (a : Act) (vs : Nat → Value) (k : Nat) : (putAll l a vs k).defers = a.defers := by
  induction k with
  | zero => rfl
  | succ k ih => rw [putAll, put_defers, ih]

structure RgInv (ops : Array Oper) (n : Nat) (Post : Nat → Value → World → Prop) (a0 : Act) (w0 : World) (listed : Array Bool) (a : Act) (w : World) : Prop where
  size : a.tmps.size = a0.tmps.size
  defers : a.defers = a0.defers
  frame : ∀ t, (∀ i o, i < n → ops[i]? = some o → o.dst ≠ some t) → a.tmps.getD t undef = a0.tmps.getD t undef
  below : Below w0.heap.size w0 w
  post : ∀ i o d, i < n → listed.getD i false = true → ops[i]? = some o → o.dst = some d → Post i (a.tmps.getD d undef) w

theorem dstsB_spec {N : Nat} (h : dstsB ops n N = true) {i : Nat} (hi : i < n) : ∃ o d, ops[i]? = some o ∧ o.guard = none ∧ o.dst = some d ∧ d < N ∧ ∀ j o', j < n → ops[j]? = some o' → i ≠ j → o'.dst ≠ some d := by
  have h1 := List.all_eq_true.1 h i (List.mem_range.2 hi)
  cases ho : ops[i]? with
  | none => simp [ho] at h1
  | some o =>
    simp only [ho, Bool.and_eq_true, Option.isNone_iff_eq_none] at h1
    obtain ⟨⟨hg, hd'⟩, hall⟩ := h1
    obtain ⟨d, hd⟩ : ∃ d, o.dst = some d := by cases h : o.dst with
      | none => rw [h] at hd'; cases hd'
      | some d => exact ⟨d, rfl⟩
    have hdN : d < N := by rw [hd] at hd'; simpa using hd'
    refine ⟨o, d, rfl, hg, hd, hdN, fun j o' hj ho' hne => ?_⟩
    have h2 := List.all_eq_true.1 hall j (List.mem_range.2 hj)
    simp only [ho', Bool.or_eq_true, beq_iff_eq, hne, false_or, bne_iff_ne, ne_eq, hd] at h2
    exact h2

theorem edgesB_spec (h : edgesB ops = true) {i : Nat} {o : Oper} (ho : ops[i]? = some o) : ∀ e ∈ o.after, Region.binds .any e = true → e.on < i := by
  have hi := (Array.getElem?_eq_some_iff.1 ho).1
  have h1 := List.all_eq_true.1 h i (List.mem_range.2 hi)
  simp only [ho] at h1
  intro e he hb
  have h2 := Array.all_eq_true_iff_forall_mem.1 h1 e he
  rw [hb] at h2
  simpa using h2

/-- The least operation that has not come up is ready. -/
theorem ready_least (he : edgesB ops = true) {listed : Array Bool} (hs : listed.size = ops.size) {i : Nat} (hi : i < ops.size) (hun : listed.getD i true = false) (hl : ∀ j, j < i → listed.getD j true = true) : i ∈ Region.ready .any ops listed := by
  rw [mem_ready]
  have ho : ops[i]? = some ops[i] := by simp [hi]
  refine ⟨hun, _, ho, fun e hem hb => ?_⟩
  have h1 := edgesB_spec he ho e hem hb
  have h2 := hl _ h1
  have h3 : e.on < listed.size := by omega
  simpa [h3] using h2

theorem rg_any (Post : Nat → Value → World → Prop) (stable : ∀ i v w w', Post i v w → Below w.heap.size w w' → Post i v w') (a0 : Act) (w0 : World) {Q : Exit → Act → World → Prop} {g : Nat}
    (he : edgesB ops = true) (hd : dstsB ops n a0.tmps.size = true) (hs : Region.sinkB .any ops n = true) (hc : Region.chainB .any ops n = true) (hn : n < ops.size)
    (hop : ∀ i o a w, i < n → ops[i]? = some o → a.tmps.size = a0.tmps.size → Below w0.heap.size w0 w →
      (∀ t, (∀ i o, i < n → ops[i]? = some o → o.dst ≠ some t) → a.tmps.getD t undef = a0.tmps.getD t undef) →
      (∀ e ∈ o.after, Region.binds .any e = true → ∀ oj d, ops[e.on]? = some oj → oj.dst = some d → Post e.on (a.tmps.getD d undef) w) →
      o.wp P a w (fun a' w' => ∃ v, a' = a.put o.dst v ∧ Post i v w' ∧ Below w.heap.size w w') Q)
    (hend : ∀ listed a w, listed.size = ops.size → (∀ i, i < n → listed.getD i true = true) → (∀ t, n ≤ t → t < ops.size → listed.getD t true = false) →
      RgInv ops n Post a0 w0 listed a w → wpAny P .any ops Q g listed a w) (f : Nat) :
    ∀ (listed : Array Bool) (a : Act) (w : World), HeadInv .any ops n listed → RgInv ops n Post a0 w0 listed a w → ((listed.toList.take n).count false = f) → wpAny P .any ops Q (f + g) listed a w := by
  induction f with
  | zero =>
    intro listed a w inv rg hf
    rw [Nat.zero_add]
    refine hend listed a w inv.size (fun i hi => ?_) inv.tail rg
    have hlt : i < listed.size := by rw [inv.size]; omega
    have h0 := List.count_eq_zero.1 hf
    have h1 : listed[i] ∈ listed.toList.take n := by
      rw [List.mem_take_iff_getElem]
      exact ⟨i, by simp; omega, by simp⟩
    cases hb : listed[i] with
    | true => simp [hlt, hb]
    | false => rw [hb] at h1; exact absurd h1 h0
  | succ f ih =>
    intro listed a w inv rg hf
    have hex : ∃ i, i < n ∧ listed.getD i true = false := by
      have : false ∈ listed.toList.take n := List.count_pos_iff.1 (by omega)
      rw [List.mem_take_iff_getElem] at this
      obtain ⟨i, hi, hb⟩ := this
      simp only [Array.length_toList] at hi
      exact ⟨i, by omega, by simp [show i < listed.size by omega]; simpa using hb⟩
    obtain ⟨i0, hi0, hun0⟩ := hex
    have hne : Region.ready .any ops listed ≠ [] := by
      -- the least one
      have key : ∀ m, m < n → listed.getD m true = false → ∃ k, k ≤ m ∧ listed.getD k true = false ∧ ∀ j, j < k → listed.getD j true = true := by
        intro m
        induction m using Nat.strongRecOn with
        | _ m ihm =>
          intro hm hu
          by_cases hx : ∃ j, j < m ∧ listed.getD j true = false
          · obtain ⟨j, hj, hju⟩ := hx
            obtain ⟨k, hk, h⟩ := ihm j hj (by omega) hju
            exact ⟨k, by omega, h⟩
          · exact ⟨m, Nat.le_refl _, hu, fun j hj => by
              cases hb : listed.getD j true with
              | true => rfl
              | false => exact absurd ⟨j, hj, hb⟩ hx⟩
      obtain ⟨k, hk, hu, hl⟩ := key i0 hi0 hun0
      exact List.ne_nil_of_mem (ready_least he inv.size (by omega) hu hl)
    rw [Nat.add_right_comm]
    refine ⟨fun h0 => absurd h0 hne, fun i hi => ?_⟩
    have hin : i < n := (Nat.lt_or_ge i n).resolve_right fun h => absurd hi (tail_waits hs hc hn inv _ i0 rfl hi0 hun0 i h)
    obtain ⟨o, d, ho, hg, hdst, hdN, huniq⟩ := dstsB_spec hd hin
    obtain ⟨hun, o', ho', hall⟩ := mem_ready.1 hi
    obtain rfl : o = o' := Option.some.inj (ho.symm.trans ho')
    have hlt : i < listed.size := by rw [inv.size]; omega
    have hw := hop i o a w hin ho rg.size rg.below rg.frame (fun e hem hb oj dj hoj hdj => rg.post e.on oj dj (by have := edgesB_spec he ho e hem hb; omega) (hall e hem hb) hoj hdj)
    unfold wpOp
    simp only [ho]
    rw [if_pos (by simp [Region.wanted, hg])]
    refine .inl (Oper.wp_mono ?_ hw)
    rintro a' w' ⟨v, rfl, hpost, hbelow⟩
    refine ih _ _ _ (inv.set hi hin) ⟨?_, ?_, ?_, ?_, ?_⟩ ?_
    · rw [put_size]; exact rg.size
    · rw [put_defers]; exact rg.defers
    · intro t ht
      rw [← rg.frame t ht, hdst]
      by_cases htl : t < a.tmps.size
      · rw [put_getD _ _ _ _ htl, if_neg (fun h => ht i o hin ho (by rw [hdst, h]))]
      · simp [Act.put, show ¬ t < a.tmps.size from htl]
    · exact rg.below.trans (hbelow.mono rg.below.size)
    · intro k ok dk hk hl hok hdk
      by_cases hki : k = i
      · subst hki
        obtain rfl : ok = o := Option.some.inj (hok.symm.trans ho)
        obtain rfl : dk = d := Option.some.inj (hdk.symm.trans hdst)
        rw [hdst]
        rw [put_getD _ _ _ _ (by rw [rg.size]; exact hdN), if_pos rfl]; exact hpost
      · have hne : dk ≠ d := fun h => huniq k ok hk hok (Ne.symm hki) (by rw [hdk, h])
        have hl' : listed.getD k false = true := by
          rw [getD_set_ne false (Ne.symm hki)] at hl; exact hl
        have h1 := stable _ _ _ _ (rg.post k ok dk hk hl' hok hdk) hbelow
        rw [hdst]
        by_cases htl : dk < a.tmps.size
        · rw [put_getD _ _ _ _ htl, if_neg (Ne.symm hne)]; exact h1
        · simpa [Act.put, Array.getElem?_eq_none (Nat.le_of_not_lt htl), show ¬ dk < a.tmps.size from htl] using h1
    · have h1 : (listed.toList.take n)[i]? = some false := by
        rw [List.getElem?_take_of_lt hin]
        simp only [Array.getElem?_toList]
        simp [hlt] at hun ⊢
        exact hun
      have h2 := count_set_true _ _ h1
      rw [Array.toList_setIfInBounds, List.take_set]
      omega

theorem putAll_other (l : List Oper) (a0 : Act) (vs : Nat → Value) (t : Nat) (ht : t < a0.tmps.size) : ∀ k, (∀ i o, i < k → l[i]? = some o → o.dst ≠ some t) → (putAll l a0 vs k).tmps.getD t undef = a0.tmps.getD t undef := by
  intro k
  induction k with
  | zero => intro _; rfl
  | succ k ih =>
    intro h
    rw [putAll, ← ih (fun i o hi ho => h i o (by omega) ho)]
    cases hk : (l[k]?).bind (·.dst) with
    | none => rfl
    | some d =>
      obtain ⟨o, ho, hd⟩ := Option.bind_eq_some_iff.1 hk
      rw [put_getD _ _ _ _ (by rw [putAll_size]; exact ht), if_neg (fun e => h k o (by omega) ho (by rw [hd, e]))]

theorem putAll_at (l : List Oper) (a0 : Act) (vs : Nat → Value) (m : Nat) (d : Tmp) (hd : d < a0.tmps.size) (o : Oper) (ho : l[m]? = some o) (hod : o.dst = some d) :
    ∀ k, m < k → (∀ j o', j < k → l[j]? = some o' → m ≠ j → o'.dst ≠ some d) → (putAll l a0 vs k).tmps.getD d undef = vs m := by
  intro k
  induction k with
  | zero => intro h; omega
  | succ k ih =>
    intro hm h
    rw [putAll]
    by_cases hmk : m = k
    · subst hmk
      simp only [ho, Option.bind_some, hod]
      rw [put_getD _ _ _ _ (by rw [putAll_size]; exact hd), if_pos rfl]
    · rw [← ih (by omega) (fun j o' hj ho' hne => h j o' (by omega) ho' hne)]
      cases hk : (l[k]?).bind (·.dst) with
      | none => rfl
      | some d' =>
        obtain ⟨o', ho', hd'⟩ := Option.bind_eq_some_iff.1 hk
        rw [put_getD _ _ _ _ (by rw [putAll_size]; exact hd), if_neg (fun e => h k o' (by omega) ho' hmk (by rw [hd', e]))]

theorem getD_ext {x y : Array Value} (hs : x.size = y.size) (h : ∀ t, t < y.size → x.getD t undef = y.getD t undef) : x = y := by
  apply Array.ext hs
  intro i h1 h2
  have := h i h2
  simpa [h1, h2] using this

/-- The closed facts on a region, in one Bool. -/
def rgB (ops : Array Oper) (n N : Nat) : Bool :=
  edgesB ops && dstsB ops n N && Region.sinkB .any ops n && Region.chainB .any ops n && decide (n < ops.size) && Region.seqB .any ops (ops.size - n) n ((List.replicate n true ++ List.replicate (ops.size - n) false).toArray)

theorem wp_region_rg {id : Nat} {Q : Exit → Act → World → Prop} {a : Act} {w : World} {l : List Oper} (n : Nat) (Post : Nat → Value → World → Prop)
    (stable : ∀ i v w w', Post i v w → Below w.heap.size w w' → Post i v w') (hm : P.follows .mixedOrders = true) (hB : rgB l.toArray n a.tmps.size = true)
    (hop : ∀ i o a1 w1, i < n → l[i]? = some o → a1.tmps.size = a.tmps.size → Below w.heap.size w.drew w1 →
      (∀ t, (∀ i o, i < n → l[i]? = some o → o.dst ≠ some t) → a1.tmps.getD t undef = a.tmps.getD t undef) →
      (∀ e ∈ o.after, Region.binds .any e = true → ∀ oj d, l[e.on]? = some oj → oj.dst = some d → Post e.on (a1.tmps.getD d undef) w1) →
      o.wp P a1 w1 (fun a' w' => ∃ v, a' = a1.put o.dst v ∧ Post i v w' ∧ Below w1.heap.size w1 w') Q)
    (hend : ∀ vs w', Below w.heap.size w.drew w' → (∀ i, i < n → Post i (vs i) w') → wpList P l.toArray Q (l.drop n) (putAll l a vs n) w') :
    (Code.region id l.toArray true).wp P Q a w := by
  simp only [rgB, Bool.and_eq_true, decide_eq_true_eq] at hB
  obtain ⟨⟨⟨⟨⟨he, hd⟩, hs⟩, hc⟩, hn⟩, hq⟩ := hB
  have hn' : n < l.length := by simpa using hn
  have hdl : (l.drop n).length = l.toArray.size - n := by simp
  have inv0 : HeadInv .any l.toArray n (Array.replicate l.toArray.size false) :=
    ⟨by simp, fun j oj _ hl => (by rw [getD_replicate_false] at hl; cases hl), fun t _ h' => getD_in (by simpa using h') (getD_replicate_false _ _)⟩
  refine wp_region_any hm ?_
  have H := rg_any (P := P) (ops := l.toArray) (n := n) Post stable a w.drew (Q := Q) (g := l.toArray.size - n) he hd hs hc hn
    (fun i o a1 w1 hi ho hsz hb hf hp => hop i o a1 w1 hi (by simpa using ho) hsz hb (fun t ht => hf t (fun i o hi ho => ht i o hi (by simpa using ho))) (fun e hem hbe oj dj hoj hdj => hp e hem hbe oj dj (by simpa using hoj) hdj))
    (fun listed a1 w1 hsz h1 h2 rg => ?_) n (Array.replicate l.toArray.size false) a w.drew inv0 ⟨rfl, rfl, fun _ _ => rfl, Below.refl _ _, fun i o d hi hl => (by rw [getD_replicate_false] at hl; cases hl)⟩ (by simp; omega)
  · rw [show n + (l.toArray.size - n) = l.toArray.size by omega] at H
    exact H
  · have hlisted : listed = (List.replicate n true ++ List.replicate (l.toArray.size - n) false).toArray := by
      apply Array.ext
      · simp [hsz]; omega
      · intro i hi1 hi2
        by_cases hin : i < n
        · have := h1 i hin
          simp only [Array.getD_eq_getD_getElem?, Array.getElem?_eq_getElem hi1, Option.getD_some] at this
          rw [this]
          simp [hin]
        · have := h2 i (by omega) (by omega)
          simp only [Array.getD_eq_getD_getElem?, Array.getElem?_eq_getElem hi1, Option.getD_some] at this
          rw [this]
          simp [List.getElem_append, hin]
    let vs : Nat → Value := fun i => match (l[i]?).bind (·.dst) with | some d => a1.tmps.getD d undef | none => undef
    have hvs : ∀ i o d, l[i]? = some o → o.dst = some d → vs i = a1.tmps.getD d undef := fun i o d ho hd' => by simp only [vs, ho, Option.bind_some, hd']
    have ha1 : a1 = putAll l a vs n := by
      have ht : a1.tmps = (putAll l a vs n).tmps := by
        refine getD_ext (by rw [putAll_size, rg.size]) fun t ht => ?_
        rw [putAll_size] at ht
        by_cases hx : ∃ i o, i < n ∧ l[i]? = some o ∧ o.dst = some t
        · obtain ⟨i, o, hi, ho, hot⟩ := hx
          obtain ⟨o', d, ho', _, hd', _, hu⟩ := dstsB_spec hd hi
          obtain rfl : o = o' := Option.some.inj (ho.symm.trans (by simpa using ho'))
          obtain rfl : t = d := Option.some.inj (hot.symm.trans hd')
          rw [putAll_at l a vs i t ht o ho hot n hi (fun j o' hj ho' hne => hu j o' hj (by simpa using ho') hne), hvs i o t ho hot]
        · have hno : ∀ i o, i < n → l[i]? = some o → o.dst ≠ some t := fun i o hi ho hot => hx ⟨i, o, hi, ho, hot⟩
          rw [putAll_other l a vs t ht n hno]
          exact rg.frame t (fun i o hi ho => hno i o hi (by simpa using ho))
      have hdf : a1.defers = (putAll l a vs n).defers := by rw [putAll_defers, rg.defers]
      cases a1
      cases hp : putAll l a vs n
      rw [hp] at ht hdf
      simp only at ht hdf
      rw [ht, hdf]
    have hfin := hend vs w1 rg.below (fun i hi => by
      obtain ⟨o, d, ho, _, hd', _, _⟩ := dstsB_spec hd hi
      rw [hvs i o d (by simpa using ho) hd']
      exact rg.post i o d hi (getD_both' (h1 i hi) (by omega)) ho hd')
    rw [← ha1] at hfin
    have := wpAny_of_seq (md := .any) (Q' := Q) (l.drop n) n listed a1 w1 (fun j => by simp [List.getElem?_drop]) (by rw [hdl, hlisted]; exact hq) hfin
    rwa [hdl] at this

/-- No operation of the head writes temporary t. -/
def keepsB (l : List Oper) (n t : Nat) : Bool := (List.range n).all fun i => match l[i]? with | some o => o.dst != some t | none => true
/-- o waits for operation j. -/
def waitsB (o : Oper) (j : Nat) : Bool := o.after.any fun e => Region.binds .any e && e.on == j

/-- What operation i of the head owes, in whatever frame and world of the region it comes up. -/
def Owes (P : Program) (Q : Exit → Act → World → Prop) (l : List Oper) (n : Nat) (Post : Nat → Value → World → Prop) (a : Act) (w : World) (i : Nat) : Prop :=
  ∀ o a1 w1, l[i]? = some o → Below w.heap.size w.drew w1 → (∀ t, keepsB l n t = true → a1.tmps.getD t undef = a.tmps.getD t undef) →
    (∀ j d, waitsB o j = true → (l[j]?).bind (·.dst) = some d → Post j (a1.tmps.getD d undef) w1) →
    o.wp P a1 w1 (fun a' w' => ∃ v, a' = a1.put o.dst v ∧ Post i v w' ∧ Below w1.heap.size w1 w') Q

theorem wp_region_rg' {id : Nat} {Q : Exit → Act → World → Prop} {a : Act} {w : World} {l : List Oper} (n : Nat) (Post : Nat → Value → World → Prop)
    (hm : P.follows .mixedOrders = true) (hB : rgB l.toArray n a.tmps.size = true)
    (stable : ∀ i v w w', Post i v w → Below w.heap.size w w' → Post i v w')
    (hop : ∀ i, i < n → Owes P Q l n Post a w i)
    (hend : ∀ vs w', Below w.heap.size w.drew w' → (∀ i, i < n → Post i (vs i) w') → wpList P l.toArray Q (l.drop n) (putAll l a vs n) w') :
    (Code.region id l.toArray true).wp P Q a w := by
  refine wp_region_rg n Post stable hm hB (fun i o a1 w1 hi ho _ hb hf hp => hop i hi o a1 w1 ho hb (fun t ht => hf t fun i o hi ho => ?_) fun j d hj hd => ?_) hend
  · have h1 := List.all_eq_true.1 ht i (List.mem_range.2 hi)
    simpa [ho] using h1
  · obtain ⟨e, he, hb⟩ := Array.any_eq_true'.1 hj
    simp only [Bool.and_eq_true, beq_iff_eq] at hb
    obtain ⟨oj, hoj, hdj⟩ := Option.bind_eq_some_iff.1 hd
    have := hp e he hb.1 oj d (by rw [hb.2]; exact hoj) hdj
    rwa [hb.2] at this

theorem owes_value {Q : Exit → Act → World → Prop} {o : Oper} {a : Act} {w w' : World} {v : Value} {R : Value → World → Prop} (h : (execOp a.eval o).run P w = .ok (.value v) w') (hR : R v w') (hb : Below w.heap.size w w') :
    o.wp P a w (fun a' w' => ∃ v, a' = a.put o.dst v ∧ R v w' ∧ Below w.heap.size w w') Q := by
  unfold Oper.wp
  rw [h]
  exact ⟨v, rfl, hR, hb⟩
theorem owes_call {Q : Exit → Act → World → Prop} {o : Oper} {a : Act} {w : World} {f : FuncId} {args : Array Value} {R : Value → World → Prop} (h : (execOp a.eval o).run P w = .ok (.enter f args) w)
    (hc : Calls P f args w fun e w' => ∃ v, e = .returned v ∧ R v w' ∧ Below w.heap.size w w') :
    o.wp P a w (fun a' w' => ∃ v, a' = a.put o.dst v ∧ R v w' ∧ Below w.heap.size w w') Q := by
  unfold Oper.wp
  rw [h]
  refine hc.mono ?_
  rintro e w' ⟨v, rfl, hR, hb⟩
  exact ⟨v, rfl, hR, hb⟩
end
end Go.Own
end
/- Slices that are read, slices that the call owns, strings as lists of bytes: laws for the walk. -/
section
namespace Go.Own
open Go.RowKit Go.Lib

/-- A slice value of n elements, size cells each, that reads as these cells. -/
def Sl (w : World) (size : Nat) (v : Value) (n : Nat) (vs : List Value) : Prop :=
  vs.length = n * size ∧ ((v = .slice none 0 0 ∧ n = 0) ∨ ∃ b off cap, v = .slice (some ⟨b, off, none⟩) n cap ∧ n ≤ cap ∧ cap ≤ maxLen ∧ Cells w b off vs ∧ b < w.heap.size)

theorem Sl.below {w w' : World} {size n : Nat} {v : Value} {vs : List Value} (h : Sl w size v n vs) (hb : Below w.heap.size w w') : Sl w' size v n vs := by
  obtain ⟨h1, h2 | ⟨b, off, cap, h3, h4, h5, h6, h7⟩⟩ := h
  · exact ⟨h1, .inl h2⟩
  · exact ⟨h1, .inr ⟨b, off, cap, h3, h4, h5, h6.below hb h7, Nat.lt_of_lt_of_le h7 hb.size⟩⟩
theorem Sl.drewN {w : World} {size n : Nat} {v : Value} {vs : List Value} (h : Sl w size v n vs) (k : Nat) : Sl (w.drewN k) size v n vs := h
theorem Sl.drew {w : World} {size n : Nat} {v : Value} {vs : List Value} (h : Sl w size v n vs) : Sl w.drew size v n vs := h

theorem Sl.of_owns {w : World} {base size n : Nat} {e : TypeId} {v : Value} {xs : List Value} (h : w.ownsRow base e size v n xs) : Sl w size v n xs := by
  obtain ⟨h1, ⟨h2, h3⟩ | ⟨g, cap, cur, h2, h3, h4, h5, h6, h7, h8⟩⟩ := h
  · exact ⟨h1, .inl ⟨h2, h3⟩⟩
  · have hg : g < w.heap.size := by
      rcases Nat.lt_or_ge g w.heap.size with h' | h'
      · exact h'
      · rw [Array.getElem?_eq_none h'] at h4; cases h4
    refine ⟨h1, .inr ⟨g, 0, cap, h2, h5, h6, fun i u hi => ?_, hg⟩⟩
    rw [Nat.zero_add, cell_of_row w g i cur e (0, 0) h4]
    have hlt : i < n * size := by have := (List.getElem?_eq_some_iff.1 hi).1; omega
    rw [← h8, List.getElem?_take_of_lt hlt] at hi
    simpa using hi

/-- 'append(s, x...)', s the call's own, x any slice that reads: nil, empty or not. -/
theorem wpList_append_sl {P : Program} {w : World} {ops : Array Oper} {rest : List Oper} {o : Oper} {a : Act} {Q : Exit → Act → World → Prop} (hgd : o.guard = none) (s x : Operand) (t : TypeId)
    (ho : o.op = .call { callee := .builtin .append, args := #[s, x], argTypes := #[t, t] })
    (base : Nat) (e : TypeId) (z : Value) (size bytes : Nat) (ht : P.underlying t = some (.slice e)) (hi : (P.info? e).map (fun i => (i.zero, i.size, i.bytes)) = some (some z, size, bytes))
    (hzs : z.cells.size = size) (hsz : 0 < size)
    (v : Value) (n : Nat) (xs : List Value) (hs : a.eval s = v) (hown : w.ownsRow base e size v n xs)
    (v2 : Value) (m : Nat) (news : List Value) (hx : a.eval x = v2) (hsl : Sl w size v2 m news) (h1 : ∀ u ∈ news, u.oneCell' = true)
    (h63 : n + m ≤ maxLen) (hbytes : (n + m) * bytes ≤ 140737488355328) (hbase : base ≤ w.heap.size)
    (h : ∀ v' w', w'.ownsRow base e size v' (n + m) (xs ++ news) → w.grownBy w' v.ownBlock → wpList P ops Q rest (a.put o.dst v') w') : wpList P ops Q (o :: rest) a w := by
  obtain ⟨i, hi1, hi2, hi3, hi4⟩ := info_parts hi
  obtain ⟨hl, ⟨rfl, rfl⟩ | ⟨b, off, cap, rfl, hc1, hc2, hC, hlt⟩⟩ := hsl
  · obtain rfl : news = [] := List.eq_nil_of_length_eq_zero (by simpa using hl)
    refine wpList_append_own_none hgd s x t ho base e i size ht hi1 v n xs hs hown hx ?_
    exact h v w (by simpa using hown) (World.grownBy.refl _ _)
  · exact wpList_append_own _ hgd s x t ho base e i z size bytes ht hi1 hi2 hi3 hi4 hzs hsz v n xs hs hown ⟨b, off, none⟩ m cap news hx hl (fun j u hj => by rw [Addr.add_lit]; exact hC j u hj) h1 h63 hbytes hbase
      fun v' w' k1 k2 _ => h v' w' k1 k2

theorem Cells.grown {w w' : World} {g off : Nat} {vs : List Value} {row : Option Nat} (h : Cells w g off vs) (hg : w.grownBy w' row) (hlt : g < w.heap.size) (hne : some g ≠ row) : Cells w' g off vs :=
  fun i v hi => (World.cell?_of_block (w := w) (hg.block g hlt hne)).trans (h i v hi)
theorem Blk.grown {w w' : World} {g : Nat} {l : List Value} {t : TypeId} {row : Option Nat} (h : Blk w g l t) (hg : w.grownBy w' row) (hne : some g ≠ row) : Blk w' g l t := by
  unfold Blk; rw [hg.block g h.lt hne]; exact h
theorem Sl.grown {w w' : World} {size n : Nat} {v : Value} {vs : List Value} {row : Option Nat} (h : Sl w size v n vs) (hg : w.grownBy w' row) (hne : ∀ b, v.ownBlock = some b → some b ≠ row) : Sl w' size v n vs := by
  obtain ⟨h1, h2 | ⟨b, off, cap, rfl, h4, h5, h6, h7⟩⟩ := h
  · exact ⟨h1, .inl h2⟩
  · exact ⟨h1, .inr ⟨b, off, cap, rfl, h4, h5, h6.grown hg h7 (hne b rfl), Nat.lt_of_lt_of_le h7 hg.size⟩⟩
/-- What was there when the call began is there behind an append to a row of the call's own. -/
theorem grown_below {w0 w w' : World} {base size n : Nat} {e : TypeId} {v : Value} {xs : List Value} (hb : Below base w0 w) (hown : w.ownsRow base e size v n xs) (hg : w.grownBy w' v.ownBlock) (hbase : base ≤ w.heap.size) : Below base w0 w' :=
  hb.grown hg hbase fun k hk => (hown.lt k hk).1

/-- A string of bytes. -/
abbrev str (bs : List UInt8) : Value := .string ⟨bs.toArray⟩
abbrev byv (b : UInt8) : Value := .int .u8 (b.toNat : Int)

theorem bytes_oneCell (bs : List UInt8) : ∀ u ∈ bs.map byv, u.oneCell' = true := by
  intro u hu; obtain ⟨_, _, rfl⟩ := List.mem_map.1 hu; rfl

/-- 'string(b)'. -/
theorem run_bytes_str {P : Program} {w : World} {src dst e : TypeId} (hs : P.underlying src = some (.slice e)) (he : P.underlying e = some (.int .u8)) (hd : P.underlying dst = some .string)
    {v : Value} {bs : List UInt8} (hsl : Sl w 1 v bs.length (bs.map byv)) : (convert src dst v).run P w = .ok (str bs) w := by
  obtain ⟨_, ⟨rfl, h0⟩ | ⟨b, off, cap, rfl, _, _, hC, _⟩⟩ := hsl
  · obtain rfl : bs = [] := List.eq_nil_of_length_eq_zero h0
    rw [run_convert_bytes_nil w src e hs he 0 0 dst hd]; rfl
  · rw [run_convert_bytes_arg w src e hs he b off bs.length cap (bs.map fun b => (b.toNat : Int)) (by simp) (fun i hi => by
      have := hC i (byv bs[i]) (by simp [hi])
      rw [this]; simp [hi]) dst hd]
    simp only [strOfNums, List.map_map]
    congr 4
    rw [show ((fun n : Int => UInt8.ofNat n.toNat) ∘ fun b : UInt8 => (b.toNat : Int)) = id from by funext b; simp]
    simp

/-- '[]byte(s)': a new block, in a world in which what was there is there. -/
theorem run_str_bytes {P : Program} {w : World} {src dst e : TypeId} (hs : P.underlying src = some .string) (hd : P.underlying dst = some (.slice e)) (he : P.underlying e = some (.int .u8)) (bs : List UInt8) (hm : bs.length ≤ 140737488355328) :
    ∃ v w', (convert src dst (str bs)).run P w = .ok v w' ∧ Sl w' 1 v bs.length (bs.map byv) ∧ Below w.heap.size w w' ∧ ∀ b, v.ownBlock = some b → w.heap.size ≤ b := by
  have hsz : (⟨bs.toArray⟩ : ByteArray).size = bs.length := by simp [ByteArray.size]
  have hcap : bs.length ≤ grownCap w bs.length 0 e ∧ grownCap w bs.length 0 e ≤ maxLen := by
    unfold grownCap Question.cut maxLen
    have := Nat.mod_lt (w.tape w.drawn (.appendCap bs.length 0 e)) (show 2 ^ 63 - bs.length > 0 by omega)
    simp only []
    omega
  have hr := Go.Lib.run_convert_string_bytes (P := P) w src dst e ⟨bs.toArray⟩ hs hd he
  rw [hsz] at hr
  refine ⟨_, _, hr, ⟨by simp, .inr ⟨_, 0, _, rfl, hcap.1, hcap.2, fun i u hi => ?_, by rw [bytesWorld_size]; omega⟩⟩, ⟨?_, ?_, ?_, ?_, ?_⟩, ?_⟩
  · have hlt : i < bs.length := by have := (List.getElem?_eq_some_iff.1 hi).1; simpa using this
    rw [Nat.zero_add, bytesWorld_cell w e _ i (by rw [hsz]; exact hlt)]
    simp [hlt] at hi ⊢
    exact hi
  · unfold bytesWorld World.freeze; rfl
  · unfold bytesWorld World.freeze; rfl
  · unfold bytesWorld World.freeze; rfl
  · rw [bytesWorld_size]; omega
  · intro k hk; exact bytesWorld_at_old w e _ k hk
  · intro b hb
    simp [Value.ownBlock] at hb; omega

theorem str_size (bs : List UInt8) : (⟨bs.toArray⟩ : ByteArray).size = bs.length := by simp [ByteArray.size]
theorem toList_loop (a : ByteArray) : ∀ (n i : Nat) (r : List UInt8), a.size - i = n → ByteArray.toList.loop a i r = r.reverse ++ a.data.toList.drop i := by
  intro n
  induction n with
  | zero =>
    intro i r h
    unfold ByteArray.toList.loop
    have hs : a.size = a.data.size := rfl
    rw [if_neg (by omega), List.drop_of_length_le (by simp; omega), List.append_nil]
  | succ n ih =>
    intro i r h
    unfold ByteArray.toList.loop
    have hs : a.size = a.data.size := rfl
    have hi : i < a.data.toList.length := by simp; omega
    rw [if_pos (by omega), ih (i + 1) _ (by omega), List.drop_eq_getElem_cons hi]
    have hg : a.get! i = a.data.toList[i] := by
      have hi' : i < a.data.size := by omega
      simp [ByteArray.get!, getElem!_pos a.data i hi']
    simp [hg]
theorem toList_mk (bs : List UInt8) : (⟨bs.toArray⟩ : ByteArray).toList = bs := by
  unfold ByteArray.toList
  rw [toList_loop _ _ 0 [] rfl]; simp
theorem op_str_eql (t : TypeId) (a b : List UInt8) : binOp .eql t (str a) (str b) = pure (.bool (a == b)) := by
  rw [binOp_string_eql, toList_mk, toList_mk]
theorem op_str_neq (t : TypeId) (a b : List UInt8) : binOp .neq t (str a) (str b) = pure (.bool (!(a == b))) := by
  rw [binOp_string_neq, toList_mk, toList_mk]
theorem str_append (a b : List UInt8) : (⟨a.toArray⟩ : ByteArray) ++ ⟨b.toArray⟩ = ⟨(a ++ b).toArray⟩ := by
  apply ByteArray.ext
  simp

theorem wpList_copy_str {P : Program} {ops : Array Oper} {rest : List Oper} {o : Oper} {a : Act} {w : World} {Q : Exit → Act → World → Prop} {g off dLen dCap : Nat} {l : List Value} {t dT sT e : TypeId} {x y : Operand} {bs : List UInt8}
    (hB : Blk w g l t) (hgd : o.guard = none) (ho : o.op = .call { callee := .builtin .copy, args := #[x, y], argTypes := #[dT, sT] }) (hx : a.eval x = .slice (some ⟨g, off, none⟩) dLen dCap) (hy : a.eval y = str bs)
    (hu : P.underlying dT = some (.slice e)) (hi : (P.info? e).map (·.size) = some 1) (k : Nat) (hk : k = min bs.length dLen) (hfit : off + k ≤ l.length)
    (h : ∀ w', Blk w' g (l.take off ++ (bs.take k).map byv ++ l.drop (off + k)) t → Oth g w w' → wpList P ops Q rest (a.put o.dst (.int .i64 k)) w') : wpList P ops Q (o :: rest) a w :=
  wpList_plain hgd fun K hK => by
    have hlen : ((bs.take k).map byv).length = k := by simp; omega
    have hst := run_storeCells_at P g off t ((bs.take k).map byv) 0 l.toArray w hB (by simp at hlen ⊢; omega) (bytes_oneCell _)
    simp only [Nat.add_zero, hlen] at hst
    obtain ⟨W, hW⟩ : ∃ W, W = w.setRow g ((l.take off ++ (bs.take k).map byv ++ l.drop (off + k)).toArray) := ⟨_, rfl⟩
    have hrun : (Builtin.copy_ #[dT, sT] o.type #[.slice (some ⟨g, off, none⟩) dLen dCap, str bs]).run P w = .ok (.int .i64 k) W := by
      cases hq : P.info? e with
      | none => simp [hq] at hi
      | some i =>
        have hs : i.size = 1 := by simpa [hq] using hi
        have hk' : Nat.min bs.length dLen = k := hk.symm
        simp only [Builtin.copy_]
        simp [run_underlying hu, Builtin.lenOf, Builtin.firstCells, sizeOf, typeInfo, hq, str_size, hk', -List.map_take]
        simp [-List.map_take] at hst
        rw [hst, hW]
        simp [goInt, -List.map_take]
    unfold Oper.wp
    simp [execOp, ho, resolve, invoke, builtin, hx, hy, hrun, Result.andThen]
    exact hK _ _ (h _ (hW ▸ blk_setRow hB) (hW ▸ oth_setRow))
end Go.Own
end

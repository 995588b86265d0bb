/- Words of 32 bits as natural numbers, and the laws by which the walk reckons with them. No conditions. -/
import Derived.WalkKit
import Derived.WalkSpells
import Derived.WalkLawsBesides
import Derived.BigQuiet
import Derived.Deep.QuietTactic
import Derived.Lib.Hide
import Derived.Test.YtbmnbdkbgpajeaaGreatDoorRows
import Derived.StillTail
/- Words of 32 bits as natural numbers, and the laws by which the walk reckons with them. No conditions. -/
section
namespace Go.Sha
open Go.RowKit

def add32 (a b : Nat) : Nat := (a + b) % 4294967296
def xor32 (a b : Nat) : Nat := (a ^^^ b) % 4294967296
def and32 (a b : Nat) : Nat := (a &&& b) % 4294967296
def or32 (a b : Nat) : Nat := (a ||| b) % 4294967296
def shl32 (a s : Nat) : Nat := (a * 2 ^ (min s 32)) % 4294967296
def shr32 (a s : Nat) : Nat := a / 2 ^ (min s 32)
/-- A word as a value. -/
abbrev U (n : Nat) : Value := .int .u32 (n : Int)


theorem mod_xor (a b : Nat) : (a % 4294967296) ^^^ (b % 4294967296) = (a ^^^ b) % 4294967296 := by
  rw [show 4294967296 = 2 ^ 32 from rfl, Nat.xor_mod_two_pow]
theorem mod_and (a b : Nat) : (a % 4294967296) &&& (b % 4294967296) = (a &&& b) % 4294967296 := by
  rw [show 4294967296 = 2 ^ 32 from rfl, Nat.and_mod_two_pow]
theorem mod_or (a b : Nat) : (a % 4294967296) ||| (b % 4294967296) = (a ||| b) % 4294967296 := by
  rw [show 4294967296 = 2 ^ 32 from rfl, Nat.or_mod_two_pow]
theorem ofInt_nat (n : Nat) : BitVec.ofInt 32 (n : Int) = BitVec.ofNat 32 n := by simp
theorem bits_xor (a b : Nat) : bits .xor .u32 (a : Int) (b : Int) = ((xor32 a b : Nat) : Int) := by
  have h : bits .xor .u32 (a : Int) (b : Int) = ((BitVec.ofInt 32 (a : Int) ^^^ BitVec.ofInt 32 (b : Int)).toNat : Int) % 4294967296 := by rw [← IntKind.wrap_u32]; rfl
  rw [h, ofInt_nat, ofInt_nat, BitVec.toNat_xor, BitVec.toNat_ofNat, BitVec.toNat_ofNat]
  show ((((a % 4294967296) ^^^ (b % 4294967296)) : Nat) : Int) % 4294967296 = _
  rw [mod_xor]; unfold xor32; omega
theorem bits_and (a b : Nat) : bits .and .u32 (a : Int) (b : Int) = ((and32 a b : Nat) : Int) := by
  have h : bits .and .u32 (a : Int) (b : Int) = ((BitVec.ofInt 32 (a : Int) &&& BitVec.ofInt 32 (b : Int)).toNat : Int) % 4294967296 := by rw [← IntKind.wrap_u32]; rfl
  rw [h, ofInt_nat, ofInt_nat, BitVec.toNat_and, BitVec.toNat_ofNat, BitVec.toNat_ofNat]
  show ((((a % 4294967296) &&& (b % 4294967296)) : Nat) : Int) % 4294967296 = _
  rw [mod_and]; unfold and32; omega
theorem bits_or (a b : Nat) : bits .or .u32 (a : Int) (b : Int) = ((or32 a b : Nat) : Int) := by
  have h : bits .or .u32 (a : Int) (b : Int) = ((BitVec.ofInt 32 (a : Int) ||| BitVec.ofInt 32 (b : Int)).toNat : Int) % 4294967296 := by rw [← IntKind.wrap_u32]; rfl
  rw [h, ofInt_nat, ofInt_nat, BitVec.toNat_or, BitVec.toNat_ofNat, BitVec.toNat_ofNat]
  show ((((a % 4294967296) ||| (b % 4294967296)) : Nat) : Int) % 4294967296 = _
  rw [mod_or]; unfold or32; omega

theorem op_add (t : TypeId) (a b : Nat) : binOp .add t (U a) (U b) = pure (U (add32 a b)) := by
  simp only [U, binOp_add, Op.intArith, IntKind.wrap_u32, add32]
  rfl
theorem op_xor (t : TypeId) (a b : Nat) : binOp .xor t (U a) (U b) = pure (U (xor32 a b)) := by
  have h := bits_xor a b
  simp only [U, ← h]
  simp [binOp, Op.intBits, bits]
theorem op_and (t : TypeId) (a b : Nat) : binOp .and t (U a) (U b) = pure (U (and32 a b)) := by
  have h := bits_and a b
  simp only [U, ← h]
  simp [binOp, Op.intBits, bits]
theorem op_or (t : TypeId) (a b : Nat) : binOp .or t (U a) (U b) = pure (U (or32 a b)) := by
  have h := bits_or a b
  simp only [U, ← h]
  simp [binOp, Op.intBits, bits]
theorem op_not (a : Nat) : Op.unary .xor (U a) = pure (U (xor32 4294967295 a)) := by
  have h := bits_xor 4294967295 a
  show _ = pure (Value.int .u32 ((xor32 4294967295 a : Nat) : Int))
  rw [← h]
  rfl
theorem op_shl (t : TypeId) (a s : Nat) (yk : IntKind) : binOp .shl t (U a) (.int yk (s : Int)) = pure (U (shl32 a s)) := by
  have e : ((a : Int) * 2 ^ (min s 32)) % 4294967296 = ((shl32 a s : Nat) : Int) := by rw [shl32, Int.natCast_emod, Int.natCast_mul, Int.natCast_pow]; rfl
  simp only [U, ← e]
  simp [binOp, Op.shift, IntKind.bits, IntKind.wrap_u32]
  intro h; omega
theorem op_shr (t : TypeId) (a s : Nat) (yk : IntKind) : binOp .shr t (U a) (.int yk (s : Int)) = pure (U (shr32 a s)) := by
  have e : ((a : Int).fdiv (2 ^ (min s 32))) = ((shr32 a s : Nat) : Int) := by
    rw [Int.fdiv_eq_ediv_of_nonneg _ (by apply Int.le_of_lt; exact Int.pow_pos (by decide)), shr32, Int.natCast_ediv, Int.natCast_pow]; rfl
  simp only [U, ← e]
  simp [binOp, Op.shift, IntKind.bits]
  intro h; omega
theorem op_shl_lit (t : TypeId) (a s : Nat) (yk : IntKind) : binOp .shl t (U a) (.int yk (no_index (OfNat.ofNat s))) = pure (U (shl32 a s)) := op_shl t a s yk
theorem op_shr_lit (t : TypeId) (a s : Nat) (yk : IntKind) : binOp .shr t (U a) (.int yk (no_index (OfNat.ofNat s))) = pure (U (shr32 a s)) := op_shr t a s yk
theorem or32_comm (a b : Nat) : or32 a b = or32 b a := by unfold or32; rw [Nat.or_comm]
theorem xor32_comm (a b : Nat) : xor32 a b = xor32 b a := by unfold xor32; rw [Nat.xor_comm]
theorem byte_mod (b : UInt8) : (b.toNat : Int) % 4294967296 = (b.toNat : Int) := by have := b.toNat_lt; omega
/-- A word turned right. -/
def rot (x n : Nat) : Nat := or32 (shr32 x n) (shl32 x (32 - n))
theorem wraps_u64' (n : Int) (h0 : 0 ≤ n) (h1 : n < 2 ^ 64) : IntKind.u64.wrap n = n := IntWalk.u64_in _ (by omega)
theorem mask31 (k : Int) (h1 : -31 ≤ k) (h2 : k ≤ -1) : bits .and .u64 (IntKind.u64.wrap k) 31 = ((32 - k.natAbs : Nat) : Int) := by
  have e : IntKind.u64.wrap k = k + 18446744073709551616 := by rw [IntKind.wrap_u64]; omega
  rw [e]
  have := bits_mask .u64 64 (by decide) wraps_u64' 5 (by decide) (k + 18446744073709551616) (by omega) (by omega)
  refine (show bits .and .u64 (k + 18446744073709551616) 31 = (k + 18446744073709551616) % 32 from this).trans ?_
  omega
end Go.Sha
end
/- The walks over the rotations. -/
section
namespace Go.Proofs.YtbmnbdkbgpajeaaGreatDoor
open Go.RowKit Go.Sha
attribute [local go_sem high] op_add op_xor op_and op_or op_not op_shl op_shr op_shl_lit op_shr_lit byte_mod
set_option maxHeartbeats 400000 in
theorem rl_any (x : Nat) (k : Int) (w : World) (h1 : -31 ≤ k) (h2 : k ≤ -1) :
    Calls Tryz.prog 123 #[U x, .int .i64 k] w fun e w' => e = .returned (U (rot x k.natAbs)) ∧ w = w' := by
  have hk := mask31 k h1 h2
  have h1 : IntKind.u64.wrap (32 - ((32 - k.natAbs : Nat) : Int)) = (k.natAbs : Int) := by rw [IntWalk.u64_in _ (by omega)]; omega
  go_enter Tryz.func123, Tryz.ntmps123
  go_wp2
  go_ret
  exact ⟨congrArg Ending.returned (congrArg U (or32_comm _ _)), rfl⟩
set_option maxHeartbeats 400000 in
theorem rotr_any (x : Nat) (k : Int) (w : World) (h0 : 0 ≤ k) (h1 : k ≤ 31) :
    Calls Tryz.prog 106 #[U x, .int .i64 k] w fun e w' => e = .returned (U (rot x k.toNat)) ∧ ∃ n, w' = w.drewN n := by
  obtain ⟨s, rfl⟩ := Int.eq_ofNat_of_zero_le h0
  have h2 : (32 : Int) - (s : Int) = ((32 - s : Nat) : Int) := by omega
  go_enter Tryz.func106, Tryz.ntmps106
  go_wp2
  go_quiet (fail)
  go_wp2
  go_ret
  exact ⟨rfl, _, rfl⟩
set_option maxHeartbeats 400000 in
theorem mix_any (x : Nat) (i j k : Int) (w : World) (hi : 1 ≤ i) (hj : 1 ≤ j) (hk : 1 ≤ k) (hi' : i ≤ 31) (hj' : j ≤ 31) (hk' : k ≤ 31) :
    Calls Tryz.prog 111 #[U x, .int .i64 i, .int .i64 j, .int .i64 k] w fun e w' => e = .returned (U (xor32 (xor32 (rot x i.natAbs) (rot x j.natAbs)) (rot x k.natAbs))) ∧ w = w' := by
  go_enter Tryz.func111, Tryz.ntmps111
  go_wp2_with (go_at_call 123; refine (rl_any _ _ _ (by omega) (by omega)).mono ?_; rintro e w' ⟨rfl, rfl⟩)
  go_ret
  exact ⟨by simp, rfl⟩
end Go.Proofs.YtbmnbdkbgpajeaaGreatDoor
end
/- Blocks of cells known whole, in a world that is a variable: small laws. -/
section
namespace Go.Own
open Go.RowKit

/-- Block g of the world holds just these cells, of element type t, and is not frozen. -/
def Blk (w : World) (g : Nat) (l : List Value) (t : TypeId) : Prop := w.heap[g]? = some (.cells l.toArray t (0, 0))

variable {w : World} {g : Nat} {l : List Value} {t : TypeId}

theorem Blk.lt (h : Blk w g l t) : g < w.heap.size := by
  rcases Nat.lt_or_ge g w.heap.size with h' | h'
  · exact h'
  · unfold Blk at h; rw [Array.getElem?_eq_none h'] at h; cases h
theorem Blk.cell {i : Nat} {v : Value} (h : Blk w g l t) (hi : l[i]? = some v) : w.cell? ⟨g, i, none⟩ = some v := by
  rw [cell_of_row w g i _ t (0, 0) h]; simpa using hi
theorem Blk.cellD {i : Nat} (d : Value) (h : Blk w g l t) (hi : i < l.length) : w.cell? ⟨g, i, none⟩ = some (l.getD i d) :=
  h.cell (by simp [hi])
theorem Blk.frozen (h : Blk w g l t) (i : Nat) : w.frozen? ⟨g, i, none⟩ = false := frozen_of_row w g i _ t h
theorem Blk.set (h : Blk w g l t) (i : Nat) (v : Value) : Blk (w.setCell ⟨g, i, none⟩ v) g (l.set i v) t := by
  unfold Blk
  rw [heap_setCell_same w g i _ t v h]
  simp
theorem Blk.set_ne (h : Blk w g l t) {a : Addr} (v : Value) (hne : g ≠ a.block) : Blk (w.setCell a v) g l t := by
  unfold Blk; rw [heap_setCell_other w a g v hne]; exact h
theorem Blk.alloc (h : Blk w g l t) (o : Obj) : Blk (w.alloc o) g l t := by
  have := h.lt
  unfold Blk at *; rw [show (w.alloc o).heap[g]? = w.heap[g]? from Below.heap_alloc w o g this]; exact h
theorem Blk.new (w : World) (c : Array Value) (t : TypeId) : Blk (w.alloc (.cells c t)) w.heap.size c.toList t := by
  unfold Blk; rw [heap_alloc_new]
theorem Blk.new_at (w : World) (c : Array Value) (t : TypeId) {n : Nat} (hn : n = w.heap.size) : Blk (w.alloc (.cells c t)) n c.toList t := by
  subst hn; exact Blk.new w c t
theorem Blk.drew (h : Blk w g l t) : Blk w.drew g l t := h
theorem Blk.drewN (h : Blk w g l t) (n : Nat) : Blk (w.drewN n) g l t := by
  unfold Blk at *; simpa using h
theorem Blk.below {w' : World} {B : Nat} (h : Blk w g l t) (hb : Below B w w') (hg : g < B) : Blk w' g l t := by
  unfold Blk; rw [hb.block g hg]; exact h
theorem below_drewN {B : Nat} {w w' : World} (h : Below B w w') (n : Nat) : Below B w (w'.drewN n) := ⟨h.os, h.tape, h.output, h.size, h.block⟩
theorem setCell_twice (w : World) (b o : Nat) (u v : Value) : (w.setCell ⟨b, o, none⟩ u).setCell ⟨b, o, none⟩ v = w.setCell ⟨b, o, none⟩ v := by
  unfold World.setCell
  simp only [Option.isSome_none, Bool.false_eq_true, if_false]
  congr 1
  apply Array.ext_getElem?
  intro i
  simp only [Array.getElem?_modify]
  split
  · cases w.heap[i]? with
    | none => rfl
    | some o => cases o <;> simp
  · rfl
/-- All but block g is as it was. -/
structure Oth (g : Nat) (w w' : World) : Prop where
  os : w'.os = w.os
  tape : w'.tape = w.tape
  output : w'.output = w.output
  size : w'.heap.size = w.heap.size
  block : ∀ k, k ≠ g → w'.heap[k]? = w.heap[k]?
theorem Oth.below {w w' : World} {g B : Nat} {W : World} (h : Oth g w w') (hb : Below B W w) (hg : B ≤ g) : Below B W w' :=
  hb.trans ⟨h.os, h.tape, h.output, by rw [h.size]; exact Nat.le_refl _, fun k hk => h.block k (by omega)⟩
theorem Oth.blk {w w' : World} {g k : Nat} {l : List Value} {t : TypeId} (h : Oth g w w') (hk : k ≠ g) (hb : Blk w k l t) : Blk w' k l t := by
  unfold Blk; rw [h.block k hk]; exact hb
theorem Oth.cell {w w' : World} {g : Nat} (h : Oth g w w') {p : Addr} (hk : p.block ≠ g) : w'.cell? p = w.cell? p := World.cell?_of_block (w := w) (h.block p.block hk)

/-- From place off of block g on the cells hold these values. -/
def Cells (w : World) (g off : Nat) (vs : List Value) : Prop := ∀ i v, vs[i]? = some v → w.cell? ⟨g, off + i, none⟩ = some v
theorem Blk.cells {w : World} {g : Nat} {l : List Value} {t : TypeId} (h : Blk w g l t) (off : Nat) (vs : List Value) (hv : (l.drop off).take vs.length = vs) : Cells w g off vs := fun i v hi => by
  have hlt : i < vs.length := (List.getElem?_eq_some_iff.1 hi).1
  rw [← hv, List.getElem?_take_of_lt hlt, List.getElem?_drop] at hi
  exact h.cell hi
theorem Blk.cells0 {w : World} {g : Nat} {l : List Value} {t : TypeId} (h : Blk w g l t) : Cells w g 0 l := h.cells 0 l (by simp)
theorem Cells.below {w w' : World} {g off B : Nat} {vs : List Value} (h : Cells w g off vs) (hb : Below B w w') (hg : g < B) : Cells w' g off vs := fun i v hi => (hb.cell (p := ⟨g, off + i, none⟩) hg).trans (h i v hi)
theorem Cells.oth {w w' : World} {g k off : Nat} {vs : List Value} (h : Cells w g off vs) (hb : Oth k w w') (hg : g ≠ k) : Cells w' g off vs := fun i v hi => (hb.cell (p := ⟨g, off + i, none⟩) hg).trans (h i v hi)
theorem Cells.drewN {w : World} {g off : Nat} {vs : List Value} (h : Cells w g off vs) (n : Nat) : Cells (w.drewN n) g off vs := h
theorem Cells.drew {w : World} {g off : Nat} {vs : List Value} (h : Cells w g off vs) : Cells w.drew g off vs := h
theorem Cells.alloc {w : World} {g off : Nat} {vs : List Value} (h : Cells w g off vs) (o : Obj) : Cells (w.alloc o) g off vs := fun i v hi => by
  have h1 := h i v hi
  rw [World.cell?_alloc_lt _ _ _ (World.block_lt_of_cell? _ _ h1)]; exact h1
theorem Cells.at {w : World} {g off : Nat} {vs : List Value} (h : Cells w g off vs) {i : Nat} {v : Value} (hi : vs[i]? = some v) : w.cell? ⟨g, off + i, none⟩ = some v := h i v hi
theorem Cells.sub {w : World} {g off : Nat} {vs : List Value} (h : Cells w g off vs) (a n : Nat) : Cells w g (off + a) ((vs.drop a).take n) := fun i v hi => by
  have hlt : i < ((vs.drop a).take n).length := (List.getElem?_eq_some_iff.1 hi).1
  rw [List.getElem?_take_of_lt (by simp at hlt; omega), List.getElem?_drop] at hi
  rw [Nat.add_assoc]; exact h _ _ hi

section
variable {P : Program}
theorem run_loadVar_cells {w : World} {g off n : Nat} {vs : List Value} {ty : TypeId} {d : TypeDesc} (hC : Cells w g off vs)
    (hu : P.underlying ty = some d) (hd : (match d with | .struct _ | .array _ _ => true | _ => false) = true) (hi : (P.info? ty).map (·.size) = some n) (hn : vs.length = n) :
    (loadVar ty ⟨g, off, none⟩).run P w = .ok (.agg vs.toArray) w := by
  have hl := run_loadCells_list (P := P) w ⟨g, off, none⟩ vs (fun j v hv => by rw [Addr.add_lit]; exact hC j v hv)
  rw [hn] at hl
  cases hq : P.info? ty with
  | none => simp [hq] at hi
  | some i =>
    have hs : i.size = n := by simpa [hq] using hi
    have hagg : (isAgg ty).run P w = .ok true w := by
      unfold isAgg
      rw [Sem.run_bind, run_underlying hu w]
      cases d <;> simp_all
    simp [loadVar, Sem.run_bind, hagg, sizeOf, typeInfo, hq, hs, hl]
theorem wpList_load_cells {ops : Array Oper} {rest : List Oper} {o : Oper} {a : Act} {w : World} {Q : Exit → Act → World → Prop} {g off n : Nat} {vs : List Value} {ty : TypeId} {d : TypeDesc} {x : Operand}
    (hC : Cells w g off vs) (hgd : o.guard = none) (ho : o.op = .load ty x) (hx : a.eval x = .pointer (some ⟨g, off, none⟩))
    (hu : P.underlying ty = some d) (hd : (match d with | .struct _ | .array _ _ => true | _ => false) = true) (hi : (P.info? ty).map (·.size) = some n) (hn : vs.length = n)
    (h : wpList P ops Q rest (a.put o.dst (.agg vs.toArray)) w) : wpList P ops Q (o :: rest) a w :=
  wpList_plain hgd fun _ hK => by
    unfold Oper.wp execOp
    simp only [ho, hx, Instr.loadAt, Instr.sureAddr, Sem.run_bind, Sem.run_pure, Result.andThen_ok, run_loadVar_cells hC hu hd hi hn]
    exact hK _ _ h
theorem run_loadVar_blk {w : World} {g off n : Nat} {l : List Value} {t ty : TypeId} {d : TypeDesc} (hB : Blk w g l t)
    (hu : P.underlying ty = some d) (hd : (match d with | .struct _ | .array _ _ => true | _ => false) = true) (hi : (P.info? ty).map (·.size) = some n) (hfit : off + n ≤ l.length) :
    (loadVar ty ⟨g, off, none⟩).run P w = .ok (.agg ((l.drop off).take n).toArray) w := by
  have hlen : ((l.drop off).take n).length = n := by simp; omega
  have hl := run_loadCells_list (P := P) w ⟨g, off, none⟩ ((l.drop off).take n) (fun j v hv => by
    have hadd : (⟨g, off, none⟩ : Addr).add j = ⟨g, off + j, none⟩ := Addr.add_lit _ _ _
    rw [hadd]
    refine hB.cell ?_
    have hj : j < n := by have := (List.getElem?_eq_some_iff.1 hv).1; omega
    rw [List.getElem?_take_of_lt hj, List.getElem?_drop] at hv
    exact hv)
  rw [hlen] at hl
  cases hq : P.info? ty with
  | none => simp [hq] at hi
  | some i =>
    have hs : i.size = n := by simpa [hq] using hi
    have hagg : (isAgg ty).run P w = .ok true w := by
      unfold isAgg
      rw [Sem.run_bind, run_underlying hu w]
      cases d <;> simp_all
    simp [loadVar, Sem.run_bind, hagg, sizeOf, typeInfo, hq, hs, hl]

theorem oth_setRow {w : World} {g : Nat} {cs : Array Value} : Oth g w (w.setRow g cs) :=
  ⟨rfl, rfl, rfl, size_setRow _ _ _, fun k hk => setRow_other w g k cs hk⟩
theorem blk_setRow {w : World} {g : Nat} {l l' : List Value} {t : TypeId} (hB : Blk w g l t) : Blk (w.setRow g l'.toArray) g l' t := setRow_heap w g _ _ t _ hB

theorem run_storeVar_blk {w : World} {g off n : Nat} {l vs : List Value} {t ty : TypeId} (hB : Blk w g l t)
    (hi : (P.info? ty).map (·.size) = some n) (hn : vs.length = n) (hfit : off + n ≤ l.length) (h1 : ∀ v ∈ vs, v.oneCell' = true) :
    (storeVar ty ⟨g, off, none⟩ (.agg vs.toArray)).run P w = .ok () (w.setRow g (l.take off ++ vs ++ l.drop (off + n)).toArray) := by
  have h := run_storeCells_at P g off t vs 0 l.toArray w hB (by simp; omega) h1
  cases hq : P.info? ty with
  | none => simp [hq] at hi
  | some i =>
    have hs : i.size = n := by simpa [hq] using hi
    simp only [Nat.add_zero, hn] at h
    simp [storeVar, Sem.run_bind, sizeOf, typeInfo, hq, hs, Value.cells, hn, h]

theorem wpList_load_blk {ops : Array Oper} {rest : List Oper} {o : Oper} {a : Act} {w : World} {Q : Exit → Act → World → Prop} {g off n : Nat} {l : List Value} (vs : List Value) {t ty : TypeId} {d : TypeDesc} {x : Operand}
    (hB : Blk w g l t) (hvs : (l.drop off).take n = vs) (hgd : o.guard = none) (ho : o.op = .load ty x) (hx : a.eval x = .pointer (some ⟨g, off, none⟩))
    (hu : P.underlying ty = some d) (hd : (match d with | .struct _ | .array _ _ => true | _ => false) = true) (hi : (P.info? ty).map (·.size) = some n) (hfit : off + n ≤ l.length)
    (h : wpList P ops Q rest (a.put o.dst (.agg vs.toArray)) w) : wpList P ops Q (o :: rest) a w :=
  wpList_plain hgd fun _ hK => by
    unfold Oper.wp execOp
    simp only [ho, hx, Instr.loadAt, Instr.sureAddr, Sem.run_bind, Sem.run_pure, Result.andThen_ok, run_loadVar_blk hB hu hd hi hfit, hvs]
    exact hK _ _ h

theorem wpList_store_blk {ops : Array Oper} {rest : List Oper} {o : Oper} {a : Act} {w : World} {Q : Exit → Act → World → Prop} {g off n : Nat} {l vs : List Value} {t ty : TypeId} {x y : Operand}
    (hB : Blk w g l t) (hgd : o.guard = none) (ho : o.op = .store ty x y) (hdst : o.dst = none) (hx : a.eval x = .pointer (some ⟨g, off, none⟩)) (hy : a.eval y = .agg vs.toArray)
    (hi : (P.info? ty).map (·.size) = some n) (hn : vs.length = n) (hfit : off + n ≤ l.length) (h1 : ∀ v ∈ vs, v.oneCell' = true)
    (h : ∀ w', Blk w' g (l.take off ++ vs ++ l.drop (off + n)) t → Oth g w w' → wpList P ops Q rest a w') : wpList P ops Q (o :: rest) a w :=
  wpList_plain hgd fun _ hK => by
    unfold Oper.wp execOp
    simp only [ho, hx, hy, Instr.storeAt, Instr.sureAddr, Sem.run_bind, Sem.run_pure, Result.andThen_ok, run_storeVar_blk hB hi hn hfit h1]
    have := h _ (blk_setRow hB) oth_setRow
    simp only [Oper.upon_skip, hdst, Act.put]
    exact hK _ _ this

theorem results_blk {fn : Func} {p : Tmp} {ty : TypeId} (h : fn.results = #[.cell p ty]) {tmps : Array Value} {w : World} {g : Nat} {t : TypeId} {l : List Value} {d : TypeDesc}
    (hg : Blk w g l t) (hp : tmps.getD p undef = .pointer (some ⟨g, 0, none⟩))
    (hu : P.underlying ty = some d) (hd : (match d with | .struct _ | .array _ _ => true | _ => false) = true) (hi : (P.info? ty).map (·.size) = some l.length) :
    (results fn tmps).run P w = .ok (.agg l.toArray) w :=
  results_cell_row h tmps w g t l.toArray (0, 0) d hp hg hu hd (by simpa using hi)
end
theorem ret_of {a b : Value} (h : a = b) : Ending.returned a = .returned b := by rw [h]
end Go.Own
end
/- SHA-256 as plain functions on lists of numbers. No program in sight. -/
section
namespace Go.Sha

/-- A byte as a value. -/
abbrev bv (b : UInt8) : Value := .int .u8 (b.toNat : Int)
open Go.Own in
theorem bytes_cells {w : World} {b off : Nat} {bs : List UInt8} {n : Nat} (hC : Cells w b off (bs.map bv)) (hl : bs.length = n) : ∀ i, i < n → w.cell? ⟨b, off + i, none⟩ = some (.int .u8 ((bs.getD i 0).toNat : Int)) := fun i hi =>
  hC.at (by have h : i < bs.length := by omega
            simp [h])
open Go.Own in
theorem cells_lt {w : World} {b off : Nat} {vs : List Value} (hC : Cells w b off vs) (h : 0 < vs.length) : b < w.heap.size :=
  World.block_lt_of_cell? _ _ (hC.at (i := 0) (List.getElem?_eq_getElem h))
def sig0 (p : Nat) : Nat := xor32 (xor32 (rot p 7) (rot p 18)) (shr32 p 3)
def sig1 (q : Nat) : Nat := xor32 (xor32 (rot q 17) (rot q 19)) (shr32 q 10)
/-- Four bytes as a word, as the program puts them together. -/
def push8 (a b : Nat) : Nat := or32 (shl32 a 8) b
def word (bs : List UInt8) (t : Nat) : Nat :=
  push8 (push8 (push8 (push8 0 (bs.getD (4 * t) 0).toNat) (bs.getD (4 * t + 1) 0).toNat) (bs.getD (4 * t + 2) 0).toNat) (bs.getD (4 * t + 3) 0).toNat
def next (bs : List UInt8) (l : List Nat) (t : Nat) : Nat :=
  if t < 16 then word bs t else add32 (add32 (add32 (l.getD (t - 16) 0) (sig0 (l.getD (t - 15) 0))) (l.getD (t - 7) 0)) (sig1 (l.getD (t - 2) 0))
def sched (bs : List UInt8) : Nat → List Nat
  | 0 => []
  | t + 1 => sched bs t ++ [next bs (sched bs t) t]
theorem sched_length (bs : List UInt8) (t : Nat) : (sched bs t).length = t := by
  induction t with
  | zero => rfl
  | succ t ih => simp [sched, ih]
end Go.Sha
namespace Go.Sha
/-- The eight words of a hash value. -/
structure St where
  a : Nat
  b : Nat
  c : Nat
  d : Nat
  e : Nat
  f : Nat
  g : Nat
  h : Nat
def St.list (s : St) : List Nat := [s.a, s.b, s.c, s.d, s.e, s.f, s.g, s.h]
def mix3 (x i j k : Nat) : Nat := xor32 (xor32 (rot x i) (rot x j)) (rot x k)
def chF (e f g : Nat) : Nat := xor32 (and32 e f) (and32 (xor32 4294967295 e) g)
def majF (a b c : Nat) : Nat := xor32 (xor32 (and32 a b) (and32 a c)) (and32 b c)
def xF (s : St) (k w : Nat) : Nat := add32 (add32 (add32 (add32 s.h (mix3 s.e 6 11 25)) (chF s.e s.f s.g)) k) w
def yF (s : St) : Nat := add32 (mix3 s.a 2 13 22) (majF s.a s.b s.c)
def rnd (s : St) (k w : Nat) : St := ⟨add32 (xF s k w) (yF s), s.a, s.b, s.c, add32 s.d (xF s k w), s.e, s.f, s.g⟩
/-- The round constants. -/
def Kt : List Nat := [1116352408, 1899447441, 3049323471, 3921009573, 961987163, 1508970993, 2453635748, 2870763221, 3624381080, 310598401, 607225278, 1426881987, 1925078388, 2162078206, 2614888103, 3248222580, 3835390401, 4022224774, 264347078, 604807628, 770255983, 1249150122, 1555081692, 1996064986, 2554220882, 2821834349, 2952996808, 3210313671, 3336571891, 3584528711, 113926993, 338241895, 666307205, 773529912, 1294757372, 1396182291, 1695183700, 1986661051, 2177026350, 2456956037, 2730485921, 2820302411, 3259730800, 3345764771, 3516065817, 3600352804, 4094571909, 275423344, 430227734, 506948616, 659060556, 883997877, 958139571, 1322822218, 1537002063, 1747873779, 1955562222, 2024104815, 2227730452, 2361852424, 2428436474, 2756734187, 3204031479, 3329325298]
theorem Kt_length : Kt.length = 64 := by decide
def rnds (ws : List Nat) (s : St) : Nat → St
  | 0 => s
  | t + 1 => rnd (rnds ws s t) (Kt.getD t 0) (ws.getD t 0)
def St.plus (s r : St) : St := ⟨add32 s.a r.a, add32 s.b r.b, add32 s.c r.c, add32 s.d r.d, add32 s.e r.e, add32 s.f r.f, add32 s.g r.g, add32 s.h r.h⟩
def comp (s : St) (bs : List UInt8) : St := s.plus (rnds (sched bs 64) s 64)
end Go.Sha
end
/- A region that draws its order: a head of operations that only read (in a class of worlds), then operations that come in one forced order. One walk in the order of the text serves. -/
section
namespace Go.Own
section
variable {P : Program} {ops : Array Oper} {md : Region.Mode} {C : World → Prop}

/-- Some number of operations of the head come up, in whatever order; behind them L. -/
def HeadAny (P : Program) (md : Region.Mode) (ops : Array Oper) (C : World → Prop) (n : Nat) (L : Array Bool → Act → Prop) : Nat → Array Bool → Act → Prop
  | 0, listed, a => L listed a
  | f + 1, listed, a => Region.ready md ops listed ≠ [] ∧
      ∀ i ∈ Region.ready md ops listed, i < n ∧ qOp P ops C i (HeadAny P md ops C n L f (listed.setIfInBounds i true)) a

theorem any_of_headAny {n g : Nat} {L : Array Bool → Act → Prop} {Q : Exit → Act → World → Prop}
    (hL : ∀ listed a w, C w → L listed a → wpAny P md ops Q g listed a w) (f : Nat) : ∀ (listed : Array Bool) (a : Act) (w : World), C w →
    HeadAny P md ops C n L f listed a → wpAny P md ops Q (f + g) listed a w := by
  induction f with
  | zero => intro listed a w hw h; rw [Nat.zero_add]; exact hL _ _ _ hw h
  | succ f ih =>
    intro listed a w hw h
    rw [Nat.add_right_comm]
    exact ⟨fun h0 => absurd h0 h.1, fun i hi => wpOp_of_qOp hw (fun a' w' hw' h' => ih _ a' w' hw' h') (h.2 i hi).2⟩

theorem headAny_first {n i : Nat} {oi : Oper} {v : Value} {L : Array Bool → Act → Prop} (hi : ops[i]? = some oi)
    (hsel : ∀ (j : Nat) (o : Oper) cs b, ops[j]? = some o → o.op ≠ .select cs b)
    (hs : Region.sinkB md ops n = true) (hc : Region.chainB md ops n = true) (hn : n < ops.size) (hin : i < n)
    (hdone : ∀ listed a, L listed a → ∀ j ∈ Region.ready md ops listed, n ≤ j) (f : Nat) : ∀ (listed : Array Bool) (a : Act), HeadInv md ops n listed →
      (∀ j oj, ops[j]? = some oj → j ≠ i → listed.getD j true = false → (∀ e ∈ oj.after, Region.binds md e = true → e.on ≠ i) → oi.apart ops oj = true) →
      i ∈ Region.ready md ops listed → YieldsIn P ops C oi v a →
      HeadAny P md ops C n L f (listed.setIfInBounds i true) (a.put oi.dst v) → HeadAny P md ops C n L (f + 1) listed a := by
  have below : ∀ listed, HeadInv md ops n listed → i ∈ Region.ready md ops listed → ∀ j ∈ Region.ready md ops listed, j < n := fun listed inv hr j hj =>
    (Nat.lt_or_ge j n).resolve_right fun h => absurd hj (tail_waits hs hc hn inv _ i rfl hin (mem_ready.1 hr).1 j h)
  induction f with
  | zero =>
    intro listed a inv _ hr hy H
    refine ⟨List.ne_nil_of_mem hr, fun j hj => ⟨below listed inv hr j hj, ?_⟩⟩
    by_cases hji : j = i
    · subst hji; exact hy.qOp hi H
    · exact absurd (below listed inv hr j hj) (Nat.not_lt.2 (hdone _ _ H j (ready_mono hj hji)))
  | succ f ih =>
    intro listed a inv hfree hr hy H
    refine ⟨List.ne_nil_of_mem hr, fun j hj => ⟨below listed inv hr j hj, ?_⟩⟩
    by_cases hji : j = i
    · subst hji; exact hy.qOp hi H
    · obtain ⟨hjun, oj, hoj, hall⟩ := mem_ready.1 hj
      have hun := getD_both (mem_ready.1 hr).1
      have hno : ∀ e ∈ oj.after, Region.binds md e = true → e.on ≠ i := fun e he hb heq => by
        have h1 := hall e he hb
        rw [heq, hun] at h1
        cases h1
      have h2 := qOp_put hoj (hfree j oj hoj hji hjun hno) (fun cs b => hsel i oi cs b hi) (fun cs b => hsel j oj cs b hoj) hy (H.2 j (ready_mono hj hji)).2
      refine qOp_mono (fun a' h3 => ih _ a' (inv.set hj (below listed inv hr j hj)) (fun k ok hk hki hu hn' => hfree k ok hk hki ?_ hn') (ready_mono hr (Ne.symm hji)) h3.1 ?_) h2
      · by_cases hjk : j = k
        · subst hjk; exact hjun
        · rwa [getD_set_ne true hjk] at hu
      · rw [Array.setIfInBounds_comm _ _ hji]; exact h3.2

theorem headAny_lex {n g : Nat} {Lq : Act → Prop} (hsel : Region.noSelect ops = true) (hs : Region.sinkB md ops n = true) (hc : Region.chainB md ops n = true) (hn : n < ops.size)
    (l : List Oper) : ∀ (k : Nat) (listed : Array Bool) (a : Act), (∀ j, j < l.length → l[j]? = ops[k + j]?) → k + l.length = n → HeadInv md ops n listed →
    Region.lexHead md ops g l.length k listed = true → wpQuiet P ops C Lq l a →
    HeadAny P md ops C n (fun listed' a' => Region.seqB md ops g n listed' = true ∧ Lq a') l.length listed a := by
  induction l with
  | nil =>
    intro k listed a _ hk _ hB h
    obtain rfl : k = n := by simpa using hk
    exact ⟨by simpa [Region.lexHead] using hB, h⟩
  | cons o l ih =>
    intro k listed a hl hk inv hB h
    have h0 : ops[k]? = some o := by simpa using (hl 0 (by simp)).symm
    simp only [List.length_cons, Region.lexHead, Bool.and_eq_true] at hB hk
    obtain ⟨⟨hr, hf⟩, hB'⟩ := hB
    have hkn : k < n := by omega
    have hr' : k ∈ Region.ready md ops listed := by simpa using hr
    have hq : qOp P ops C k (wpQuiet P ops C Lq l) a := by unfold qOp; simp only [h0]; exact h
    obtain ⟨v, hy, hK⟩ := yieldsIn_of_qOp h0 hq
    refine headAny_first h0 (Region.noSelect_spec hsel) hs hc hn hkn (fun _ _ hL => seqB_ready hL.1) l.length listed a inv (Region.free_spec h0 hf) hr' hy ?_
    refine ih (k + 1) _ _ (fun j hj => ?_) (by omega) (inv.set hr' hkn) hB' hK
    have := hl (j + 1) (by simp; omega)
    rw [Nat.add_assoc, Nat.add_comm 1 j]
    simpa using this

/-- A quiet head of n operations in the class C, then a tail in one forced order. -/
theorem wp_region_quiet_tail {id : Nat} {Q : Exit → Act → World → Prop} {a : Act} {w : World} {l : List Oper} (C : World → Prop) (n : Nat) (hm : P.follows .mixedOrders = true)
    (hB : Region.lexTailB .any l.toArray n = true) (hC : C w.drew)
    (h : wpQuiet P l.toArray C (fun a' => ∀ w', C w' → wpList P l.toArray Q (l.drop n) a' w') (l.take n) a) : (Code.region id l.toArray true).wp P Q a w := by
  simp only [Region.lexTailB, Bool.and_eq_true, decide_eq_true_eq] at hB
  obtain ⟨⟨⟨⟨hsel, hn⟩, hs⟩, hc⟩, hlex⟩ := hB
  have hn' : n < l.length := by simpa using hn
  have ht : (l.take n).length = n := by simp; omega
  have hd : (l.drop n).length = l.toArray.size - n := by simp
  have inv0 : HeadInv .any l.toArray n (Array.replicate l.toArray.size false) :=
    ⟨by simp, fun j oj _ hl => (by rw [getD_replicate_false] at hl; cases hl), fun t _ h' => getD_in (by simpa using h') (getD_replicate_false _ _)⟩
  have H := headAny_lex (md := .any) (g := l.toArray.size - n) hsel hs hc hn (l.take n) 0 _ a
    (fun j hj => by rw [ht] at hj; simp [hj]) (by simpa using ht) inv0 (by rw [ht]; exact hlex) h
  refine wp_region_any hm ?_
  have := any_of_headAny (Q := Q) (g := l.toArray.size - n) (fun listed a' w' hw' hL => by
    have := wpAny_of_seq (md := .any) (Q' := Q) (l.drop n) n listed a' w' (fun j => by simp [List.getElem?_drop]) (by rw [hd]; exact hL.1) (hL.2 w' hw')
    rwa [hd] at this) _ _ _ _ hC H
  rw [ht, show n + (l.toArray.size - n) = l.toArray.size by omega] at this
  exact this

/-- The same in the class of worlds that differ by draws alone: the form that the walk of a quiet head takes. -/
theorem wp_region_tail {id : Nat} {Q : Exit → Act → World → Prop} {a : Act} {w : World} {l : List Oper} (n : Nat) (hm : P.follows .mixedOrders = true)
    (hB : Region.lexTailB .any l.toArray n = true)
    (h : wpQuiet P l.toArray (fun w' => ∃ m, w' = w.drewN m) (fun a' => ∀ m, wpList P l.toArray Q (l.drop n) a' (w.drewN m)) (l.take n) a) : (Code.region id l.toArray true).wp P Q a w := by
  refine wp_region_quiet_tail (fun w' => ∃ m, w' = w.drewN m) n hm hB ⟨1, rfl⟩ ?_
  have e : (fun a' => ∀ m, wpList P l.toArray Q (l.drop n) a' (w.drewN m)) = (fun a' => ∀ w', (∃ m, w' = w.drewN m) → wpList P l.toArray Q (l.drop n) a' w') := by
    funext a'; exact propext ⟨fun h w' ⟨m, hw⟩ => hw ▸ h m, fun h m => h _ ⟨m, rfl⟩⟩
  rw [← e]; exact h
end
/-- A contract that draws, met behind other draws; and one that leaves the world alone, in both places. -/
theorem qcall_add {P : Program} {f : FuncId} {args : Array Value} {w : World} {a n : Nat} {v : Value}
    (h : Calls P f args (w.drewN (a + n)) fun e w' => e = .returned v ∧ ∃ m, w' = (w.drewN (a + n)).drewN m) :
    Calls P f args (w.drewN (a + n)) fun e w' => e = .returned v ∧ ∃ m, w' = w.drewN (a + m) :=
  h.mono fun _ _ ⟨he, m, hm⟩ => ⟨he, n + m, by rw [hm, World.drewN_drewN, Nat.add_assoc]⟩
theorem qcall_same_add {P : Program} {f : FuncId} {args : Array Value} {w : World} {a n : Nat} {v : Value}
    (h : Calls P f args (w.drewN (a + n)) fun e w' => e = .returned v ∧ w.drewN (a + n) = w') :
    Calls P f args (w.drewN (a + n)) fun e w' => e = .returned v ∧ ∃ m, w' = w.drewN (a + m) :=
  h.mono fun _ _ ⟨he, hm⟩ => ⟨he, n, hm.symm⟩
theorem qcall_same {P : Program} {f : FuncId} {args : Array Value} {w : World} {n : Nat} {v : Value}
    (h : Calls P f args (w.drewN n) fun e w' => e = .returned v ∧ w.drewN n = w') : Calls P f args (w.drewN n) fun e w' => e = .returned v ∧ ∃ m, w' = w.drewN m :=
  h.mono fun _ _ ⟨he, hm⟩ => ⟨he, n, hm.symm⟩
end Go.Own
end
/- The walk over hash.schedule. -/
section
namespace Go.Proofs.YtbmnbdkbgpajeaaGreatDoor
open Go.RowKit Go.Sha Go.Own
attribute [local go_sem high] op_add op_xor op_and op_or op_not op_shl op_shr op_shl_lit op_shr_lit byte_mod
attribute [local go_sem] setCell_twice
/-- What holds at the head of round t. -/
def SRel (bs : List UInt8) (w : World) (t : Nat) (wr : World) : Prop :=
  Blk wr (w.heap.size + 1) ((sched bs t ++ List.replicate (64 - t) 0).map U) 161 ∧ Blk wr w.heap.size ((List.replicate 64 0).map U) 161 ∧ Below w.heap.size w wr
theorem SRel.step {bs : List UInt8} {w wr : World} {t : Nat} (h : SRel bs w t wr) (ht : t < 64) (v : Nat) (hv : v = next bs (sched bs t) t) :
    SRel bs w (t + 1) (wr.setCell ⟨w.heap.size + 1, t, none⟩ (U v)) := by
  obtain ⟨h1, h2, h3⟩ := h
  refine ⟨?_, h2.set_ne _ (by simp), h3.setCell (by simp) _⟩
  have h4 := h1.set t (U v)
  have e : ((sched bs t ++ List.replicate (64 - t) 0).map U).set t (U v) = (sched bs (t + 1) ++ List.replicate (64 - (t + 1)) 0).map U := by
    rw [show 64 - t = (64 - (t + 1)) + 1 by omega, List.replicate_succ]
    simp only [sched, List.map_append, List.map_cons, List.append_assoc, List.cons_append, List.nil_append]
    rw [List.set_append_right _ _ (by simp [sched_length])]
    simp [sched_length, hv]
  rwa [e] at h4
theorem SRel.drewN {bs : List UInt8} {w wr : World} {t : Nat} (h : SRel bs w t wr) (n : Nat) : SRel bs w t (wr.drewN n) := ⟨h.1.drewN n, h.2.1.drewN n, below_drewN h.2.2 n⟩
theorem SRel.at {bs : List UInt8} {w wr : World} {t i : Nat} (h : SRel bs w t wr) (hi : i < t) : wr.cell? ⟨w.heap.size + 1, i, none⟩ = some (U ((sched bs t).getD i 0)) :=
  h.1.cell (by rw [List.map_append, List.getElem?_append_left (by simp [sched_length]; exact hi)]; simp [sched_length, hi])
set_option maxHeartbeats 400000 in
theorem schedule_any (bs : List UInt8) (b off cap : Nat) (w : World) (hl : bs.length = 64) (hcap : 64 ≤ cap) (hm : cap ≤ 9223372036854775807)
    (hC : Cells w b off (bs.map bv)) :
    Calls Tryz.prog 110 #[.slice (some ⟨b, off, none⟩) 64 cap] w fun e w' => e = .returned (.agg ((sched bs 64).map U).toArray) ∧ Below w.heap.size w w' := by
  have hlt := cells_lt hC (by simp; omega)
  have Hb := Lib.hid (bytes_cells hC hl); clear hC
  have Hl := Lib.hid hl; clear hl
  go_enter Tryz.func110, Tryz.ntmps110
  go_wp2
  go_loopw [11] (fun i wr => ∃ t : Nat, t ≤ 64 ∧ i = .int .i64 t ∧ SRel bs w t wr) (fun i _ => 64 - (intOf i).toNat)
  case atStart => exact ⟨0, by omega, rfl, Blk.new_at _ _ _ (by simp), (Blk.new _ _ _).alloc _, ((Below.refl _ _).alloc (Nat.le_refl _) _).alloc (by simp) _⟩
  case round =>
    obtain ⟨t, ht, rfl, h1, h2, h3⟩ := hrel
    have hz := h1.lt
    have hf := h1.frozen
    by_cases hlt64 : t < 64
    · by_cases h16 : t < 16
      · have hc0 := (h3.cell (p := ⟨b, off + 4 * t, none⟩) hlt).trans (Hb.out (4 * t) (by omega))
        have hc1 := (h3.cell (p := ⟨b, off + 4 * t + 1, none⟩) hlt).trans (Hb.out (4 * t + 1) (by omega))
        have hc2 := (h3.cell (p := ⟨b, off + 4 * t + 2, none⟩) hlt).trans (Hb.out (4 * t + 2) (by omega))
        have hc3 := (h3.cell (p := ⟨b, off + 4 * t + 3, none⟩) hlt).trans (Hb.out (4 * t + 3) (by omega))
        have hw0 : wr.cell? ⟨w.heap.size + 1, t, none⟩ = some (U 0) := h1.cell (by simp [sched_length, List.getElem?_append, List.getElem?_replicate]; omega)
        go_wp2
        refine wp_loop_rounds 5 ?_
        iterate 5 (rw [rounds_succ]; go_wp2)
        go_roundw
        case rel => exact ⟨t + 1, by omega, by go_num, SRel.step ⟨h1, h2, h3⟩ hlt64 _ (by simp [next, h16, word, push8])⟩
        case measure => simp [intOf]; omega
      · have hr : SRel bs w t wr := ⟨h1, h2, h3⟩
        have r2 := hr.at (i := t - 2) (by omega)
        have r15 := hr.at (i := t - 15) (by omega)
        have r16 := hr.at (i := t - 16) (by omega)
        have r7 := hr.at (i := t - 7) (by omega)
        have hw0 : ∃ v, wr.cell? ⟨w.heap.size + 1, t, none⟩ = some v := ⟨_, h1.cellD undef (by simp [sched_length]; omega)⟩
        obtain ⟨v0, hw0⟩ := hw0
        go_wp2
        go_quiet (fail)
        go_wp2_with (go_at_call 123; refine (rl_any _ _ _ (by omega) (by omega)).mono ?_; rintro e w' ⟨rfl, rfl⟩)
        refine wp_region_tail 15 (by kernel_rfl) (by kernel_rfl) ?_
        simp only [List.take_succ_cons, List.take_zero, List.drop_succ_cons, List.drop_zero]
        repeat (go_big_quiet_step (fail))
        refine wpQuiet_nil ?_
        intro nq2
        go_wp2
        go_roundw
        case rel => exact ⟨t + 1, by omega, by go_num, (hr.drewN _).step hlt64 _ (by simp [next, h16, sig0, sig1])⟩
        case measure => simp [intOf]; omega
    · have e : t = 64 := by omega
      subst e
      have hf2 := h2.frozen
      have hz2 := h2.lt
      have h1' : Blk wr (w.heap.size + 1) ((sched bs 64).map U) 161 := by simpa using h1
      have hl : ((sched bs 64).map U).length = 64 := by simp [sched_length]
      clear h1
      go_wp2_with (first | (refine wpList_load_blk ((sched bs 64).map U) (ty := 161) (n := 64) h1' (by rw [List.drop_zero]; exact List.take_of_length_le (by omega)) rfl rfl rfl Tryz.underlying161 rfl (by kernel_rfl) (by omega) ?_) | (refine wpList_store_blk (ty := 161) (n := 64) (vs := (sched bs 64).map U) h2 rfl rfl rfl rfl rfl (by kernel_rfl) (by omega) (by simp) ?h1 ?_))
      case h1 => intro v hv; obtain ⟨_, _, rfl⟩ := List.mem_map.1 hv; rfl
      intro w9 hb9 ho9
      go_wp2
      refine bodyPost_ret (results_blk rfl hb9 rfl Tryz.underlying161 rfl ?_) rfl ⟨?_, ho9.below h3 (Nat.le_refl _)⟩
      · rw [hl]; kernel_rfl
      · rfl
end Go.Proofs.YtbmnbdkbgpajeaaGreatDoor
end

/- Blocks of cells known whole, in a world that is a variable: small laws. -/
import Derived.WalkKit
import Derived.WalkSpells
import Derived.WalkLawsBesides
import Derived.BigQuiet
import Derived.Deep.QuietTactic
import Derived.Lib.Hide
namespace Go.Own
open Go.RowKit

/-- Block g of the world holds just these cells, of element type t, and is not frozen. -/
def Blk (w : World) (g : Nat) (l : List Value) (t : TypeId) : Prop := w.heap[g]? = some (.cells l.toArray t (0, 0))

variable {w : World} {g : Nat} {l : List Value} {t : TypeId}

theorem Blk.lt (h : Blk w g l t) : g < w.heap.size := by
  rcases Nat.lt_or_ge g w.heap.size with h' | h'
  · exact h'
  · unfold Blk at h; rw [Array.getElem?_eq_none h'] at h; cases h
theorem Blk.cell {i : Nat} {v : Value} (h : Blk w g l t) (hi : l[i]? = some v) : w.cell? ⟨g, i, none⟩ = some v := by
  rw [cell_of_row w g i _ t (0, 0) h]; simpa using hi
theorem Blk.cellD {i : Nat} (d : Value) (h : Blk w g l t) (hi : i < l.length) : w.cell? ⟨g, i, none⟩ = some (l.getD i d) :=
  h.cell (by simp [hi])
theorem Blk.frozen (h : Blk w g l t) (i : Nat) : w.frozen? ⟨g, i, none⟩ = false := frozen_of_row w g i _ t h
theorem Blk.set (h : Blk w g l t) (i : Nat) (v : Value) : Blk (w.setCell ⟨g, i, none⟩ v) g (l.set i v) t := by
  unfold Blk
  rw [heap_setCell_same w g i _ t v h]
  simp
theorem Blk.set_ne (h : Blk w g l t) {a : Addr} (v : Value) (hne : g ≠ a.block) : Blk (w.setCell a v) g l t := by
  unfold Blk; rw [heap_setCell_other w a g v hne]; exact h
theorem Blk.alloc (h : Blk w g l t) (o : Obj) : Blk (w.alloc o) g l t := by
  have := h.lt
  unfold Blk at *; rw [show (w.alloc o).heap[g]? = w.heap[g]? from Below.heap_alloc w o g this]; exact h
theorem Blk.new (w : World) (c : Array Value) (t : TypeId) : Blk (w.alloc (.cells c t)) w.heap.size c.toList t := by
  unfold Blk; rw [heap_alloc_new]
theorem Blk.new_at (w : World) (c : Array Value) (t : TypeId) {n : Nat} (hn : n = w.heap.size) : Blk (w.alloc (.cells c t)) n c.toList t := by
  subst hn; exact Blk.new w c t
theorem Blk.drew (h : Blk w g l t) : Blk w.drew g l t := h
theorem Blk.drewN (h : Blk w g l t) (n : Nat) : Blk (w.drewN n) g l t := by
  unfold Blk at *; simpa using h
theorem Blk.below {w' : World} {B : Nat} (h : Blk w g l t) (hb : Below B w w') (hg : g < B) : Blk w' g l t := by
  unfold Blk; rw [hb.block g hg]; exact h
theorem below_drewN {B : Nat} {w w' : World} (h : Below B w w') (n : Nat) : Below B w (w'.drewN n) := ⟨h.os, h.tape, h.output, h.size, h.block⟩
theorem setCell_twice (w : World) (b o : Nat) (u v : Value) : (w.setCell ⟨b, o, none⟩ u).setCell ⟨b, o, none⟩ v = w.setCell ⟨b, o, none⟩ v := by
  unfold World.setCell
  simp only [Option.isSome_none, Bool.false_eq_true, if_false]
  congr 1
  apply Array.ext_getElem?
  intro i
  simp only [Array.getElem?_modify]
  split
  · cases w.heap[i]? with
    | none => rfl
    | some o => cases o <;> simp
  · rfl
/-- All but block g is as it was. -/
structure Oth (g : Nat) (w w' : World) : Prop where
  os : w'.os = w.os
  tape : w'.tape = w.tape
  output : w'.output = w.output
  size : w'.heap.size = w.heap.size
  block : ∀ k, k ≠ g → w'.heap[k]? = w.heap[k]?
theorem Oth.below {w w' : World} {g B : Nat} {W : World} (h : Oth g w w') (hb : Below B W w) (hg : B ≤ g) : Below B W w' :=
  hb.trans ⟨h.os, h.tape, h.output, by rw [h.size]; exact Nat.le_refl _, fun k hk => h.block k (by omega)⟩
theorem Oth.blk {w w' : World} {g k : Nat} {l : List Value} {t : TypeId} (h : Oth g w w') (hk : k ≠ g) (hb : Blk w k l t) : Blk w' k l t := by
  unfold Blk; rw [h.block k hk]; exact hb
theorem Oth.cell {w w' : World} {g : Nat} (h : Oth g w w') {p : Addr} (hk : p.block ≠ g) : w'.cell? p = w.cell? p := World.cell?_of_block (w := w) (h.block p.block hk)

/-- From place off of block g on the cells hold these values. -/
def Cells (w : World) (g off : Nat) (vs : List Value) : Prop := ∀ i v, vs[i]? = some v → w.cell? ⟨g, off + i, none⟩ = some v
theorem Blk.cells {w : World} {g : Nat} {l : List Value} {t : TypeId} (h : Blk w g l t) (off : Nat) (vs : List Value) (hv : (l.drop off).take vs.length = vs) : Cells w g off vs := fun i v hi => by
  have hlt : i < vs.length := (List.getElem?_eq_some_iff.1 hi).1
  rw [← hv, List.getElem?_take_of_lt hlt, List.getElem?_drop] at hi
  exact h.cell hi
theorem Blk.cells0 {w : World} {g : Nat} {l : List Value} {t : TypeId} (h : Blk w g l t) : Cells w g 0 l := h.cells 0 l (by simp)
theorem Cells.below {w w' : World} {g off B : Nat} {vs : List Value} (h : Cells w g off vs) (hb : Below B w w') (hg : g < B) : Cells w' g off vs := fun i v hi => (hb.cell (p := ⟨g, off + i, none⟩) hg).trans (h i v hi)
theorem Cells.oth {w w' : World} {g k off : Nat} {vs : List Value} (h : Cells w g off vs) (hb : Oth k w w') (hg : g ≠ k) : Cells w' g off vs := fun i v hi => (hb.cell (p := ⟨g, off + i, none⟩) hg).trans (h i v hi)
theorem Cells.drewN {w : World} {g off : Nat} {vs : List Value} (h : Cells w g off vs) (n : Nat) : Cells (w.drewN n) g off vs := h
theorem Cells.drew {w : World} {g off : Nat} {vs : List Value} (h : Cells w g off vs) : Cells w.drew g off vs := h
theorem Cells.alloc {w : World} {g off : Nat} {vs : List Value} (h : Cells w g off vs) (o : Obj) : Cells (w.alloc o) g off vs := fun i v hi => by
  have h1 := h i v hi
  rw [World.cell?_alloc_lt _ _ _ (World.block_lt_of_cell? _ _ h1)]; exact h1
theorem Cells.at {w : World} {g off : Nat} {vs : List Value} (h : Cells w g off vs) {i : Nat} {v : Value} (hi : vs[i]? = some v) : w.cell? ⟨g, off + i, none⟩ = some v := h i v hi
theorem Cells.sub {w : World} {g off : Nat} {vs : List Value} (h : Cells w g off vs) (a n : Nat) : Cells w g (off + a) ((vs.drop a).take n) := fun i v hi => by
  have hlt : i < ((vs.drop a).take n).length := (List.getElem?_eq_some_iff.1 hi).1
  rw [List.getElem?_take_of_lt (by simp at hlt; omega), List.getElem?_drop] at hi
  rw [Nat.add_assoc]; exact h _ _ hi

section
variable {P : Program}
theorem run_loadVar_cells {w : World} {g off n : Nat} {vs : List Value} {ty : TypeId} {d : TypeDesc} (hC : Cells w g off vs)
    (hu : P.underlying ty = some d) (hd : (match d with | .struct _ | .array _ _ => true | _ => false) = true) (hi : (P.info? ty).map (·.size) = some n) (hn : vs.length = n) :
    (loadVar ty ⟨g, off, none⟩).run P w = .ok (.agg vs.toArray) w := by
  have hl := run_loadCells_list (P := P) w ⟨g, off, none⟩ vs (fun j v hv => by rw [Addr.add_lit]; exact hC j v hv)
  rw [hn] at hl
  cases hq : P.info? ty with
  | none => simp [hq] at hi
  | some i =>
    have hs : i.size = n := by simpa [hq] using hi
    have hagg : (isAgg ty).run P w = .ok true w := by
      unfold isAgg
      rw [Sem.run_bind, run_underlying hu w]
      cases d <;> simp_all
    simp [loadVar, Sem.run_bind, hagg, sizeOf, typeInfo, hq, hs, hl]
theorem wpList_load_cells {ops : Array Oper} {rest : List Oper} {o : Oper} {a : Act} {w : World} {Q : Exit → Act → World → Prop} {g off n : Nat} {vs : List Value} {ty : TypeId} {d : TypeDesc} {x : Operand}
    (hC : Cells w g off vs) (hgd : o.guard = none) (ho : o.op = .load ty x) (hx : a.eval x = .pointer (some ⟨g, off, none⟩))
    (hu : P.underlying ty = some d) (hd : (match d with | .struct _ | .array _ _ => true | _ => false) = true) (hi : (P.info? ty).map (·.size) = some n) (hn : vs.length = n)
    (h : wpList P ops Q rest (a.put o.dst (.agg vs.toArray)) w) : wpList P ops Q (o :: rest) a w :=
  wpList_plain hgd fun _ hK => by
    unfold Oper.wp execOp
    simp only [ho, hx, Instr.loadAt, Instr.sureAddr, Sem.run_bind, Sem.run_pure, Result.andThen_ok, run_loadVar_cells hC hu hd hi hn]
    exact hK _ _ h
theorem run_loadVar_blk {w : World} {g off n : Nat} {l : List Value} {t ty : TypeId} {d : TypeDesc} (hB : Blk w g l t)
    (hu : P.underlying ty = some d) (hd : (match d with | .struct _ | .array _ _ => true | _ => false) = true) (hi : (P.info? ty).map (·.size) = some n) (hfit : off + n ≤ l.length) :
    (loadVar ty ⟨g, off, none⟩).run P w = .ok (.agg ((l.drop off).take n).toArray) w := by
  have hlen : ((l.drop off).take n).length = n := by simp; omega
  have hl := run_loadCells_list (P := P) w ⟨g, off, none⟩ ((l.drop off).take n) (fun j v hv => by
    have hadd : (⟨g, off, none⟩ : Addr).add j = ⟨g, off + j, none⟩ := Addr.add_lit _ _ _
    rw [hadd]
    refine hB.cell ?_
    have hj : j < n := by have := (List.getElem?_eq_some_iff.1 hv).1; omega
    rw [List.getElem?_take_of_lt hj, List.getElem?_drop] at hv
    exact hv)
  rw [hlen] at hl
  cases hq : P.info? ty with
  | none => simp [hq] at hi
  | some i =>
    have hs : i.size = n := by simpa [hq] using hi
    have hagg : (isAgg ty).run P w = .ok true w := by
      unfold isAgg
      rw [Sem.run_bind, run_underlying hu w]
      cases d <;> simp_all
    simp [loadVar, Sem.run_bind, hagg, sizeOf, typeInfo, hq, hs, hl]

theorem oth_setRow {w : World} {g : Nat} {cs : Array Value} : Oth g w (w.setRow g cs) :=
  ⟨rfl, rfl, rfl, size_setRow _ _ _, fun k hk => setRow_other w g k cs hk⟩
theorem blk_setRow {w : World} {g : Nat} {l l' : List Value} {t : TypeId} (hB : Blk w g l t) : Blk (w.setRow g l'.toArray) g l' t := setRow_heap w g _ _ t _ hB

theorem run_storeVar_blk {w : World} {g off n : Nat} {l vs : List Value} {t ty : TypeId} (hB : Blk w g l t)
    (hi : (P.info? ty).map (·.size) = some n) (hn : vs.length = n) (hfit : off + n ≤ l.length) (h1 : ∀ v ∈ vs, v.oneCell' = true) :
    (storeVar ty ⟨g, off, none⟩ (.agg vs.toArray)).run P w = .ok () (w.setRow g (l.take off ++ vs ++ l.drop (off + n)).toArray) := by
  have h := run_storeCells_at P g off t vs 0 l.toArray w hB (by simp; omega) h1
  cases hq : P.info? ty with
  | none => simp [hq] at hi
  | some i =>
    have hs : i.size = n := by simpa [hq] using hi
    simp only [Nat.add_zero, hn] at h
    simp [storeVar, Sem.run_bind, sizeOf, typeInfo, hq, hs, Value.cells, hn, h]

theorem wpList_load_blk {ops : Array Oper} {rest : List Oper} {o : Oper} {a : Act} {w : World} {Q : Exit → Act → World → Prop} {g off n : Nat} {l : List Value} (vs : List Value) {t ty : TypeId} {d : TypeDesc} {x : Operand}
    (hB : Blk w g l t) (hvs : (l.drop off).take n = vs) (hgd : o.guard = none) (ho : o.op = .load ty x) (hx : a.eval x = .pointer (some ⟨g, off, none⟩))
    (hu : P.underlying ty = some d) (hd : (match d with | .struct _ | .array _ _ => true | _ => false) = true) (hi : (P.info? ty).map (·.size) = some n) (hfit : off + n ≤ l.length)
    (h : wpList P ops Q rest (a.put o.dst (.agg vs.toArray)) w) : wpList P ops Q (o :: rest) a w :=
  wpList_plain hgd fun _ hK => by
    unfold Oper.wp execOp
    simp only [ho, hx, Instr.loadAt, Instr.sureAddr, Sem.run_bind, Sem.run_pure, Result.andThen_ok, run_loadVar_blk hB hu hd hi hfit, hvs]
    exact hK _ _ h

theorem wpList_store_blk {ops : Array Oper} {rest : List Oper} {o : Oper} {a : Act} {w : World} {Q : Exit → Act → World → Prop} {g off n : Nat} {l vs : List Value} {t ty : TypeId} {x y : Operand}
    (hB : Blk w g l t) (hgd : o.guard = none) (ho : o.op = .store ty x y) (hdst : o.dst = none) (hx : a.eval x = .pointer (some ⟨g, off, none⟩)) (hy : a.eval y = .agg vs.toArray)
    (hi : (P.info? ty).map (·.size) = some n) (hn : vs.length = n) (hfit : off + n ≤ l.length) (h1 : ∀ v ∈ vs, v.oneCell' = true)
    (h : ∀ w', Blk w' g (l.take off ++ vs ++ l.drop (off + n)) t → Oth g w w' → wpList P ops Q rest a w') : wpList P ops Q (o :: rest) a w :=
  wpList_plain hgd fun _ hK => by
    unfold Oper.wp execOp
    simp only [ho, hx, hy, Instr.storeAt, Instr.sureAddr, Sem.run_bind, Sem.run_pure, Result.andThen_ok, run_storeVar_blk hB hi hn hfit h1]
    have := h _ (blk_setRow hB) oth_setRow
    simp only [Oper.upon_skip, hdst, Act.put]
    exact hK _ _ this

theorem results_blk {fn : Func} {p : Tmp} {ty : TypeId} (h : fn.results = #[.cell p ty]) {tmps : Array Value} {w : World} {g : Nat} {t : TypeId} {l : List Value} {d : TypeDesc}
    (hg : Blk w g l t) (hp : tmps.getD p undef = .pointer (some ⟨g, 0, none⟩))
    (hu : P.underlying ty = some d) (hd : (match d with | .struct _ | .array _ _ => true | _ => false) = true) (hi : (P.info? ty).map (·.size) = some l.length) :
    (results fn tmps).run P w = .ok (.agg l.toArray) w :=
  results_cell_row h tmps w g t l.toArray (0, 0) d hp hg hu hd (by simpa using hi)
end
theorem ret_of {a b : Value} (h : a = b) : Ending.returned a = .returned b := by rw [h]
end Go.Own

/- A script handed over, opened. -/
import Derived.Test.YtkffgmhaiodagaaR12
import Derived.Test.YtkffgmhaiodagaaOpn
import Derived.Test.YtkffgmhaiodagaaB0
namespace Go.Proofs.Ytkffgmhaiodagaa
open Go.ChangeShapes Go.WideShapes Go.ChangeAt Go.RowKit Go.Own Go.Disk
theorem list5 {α : Type} {l : List α} (h : l.length = 5) : ∃ a b c d e, l = [a, b, c, d, e] := by
  match l, h with
  | [a, b, c, d, e], _ => exact ⟨a, b, c, d, e, rfl⟩
theorem cellsInt : Try.prog.cellsOf 3 = 1 := by kernel_rfl
theorem cellsStr : Try.prog.cellsOf 9 = 1 := by kernel_rfl
theorem cellsInts : Try.prog.cellsOf 31 = 1 := by kernel_rfl
theorem cellsOp : Try.prog.cellsOf 33 = 5 := by kernel_rfl
theorem flatten_map {α β : Type} (f : α → List β) (l : List α) : (l.map f).flatten = l.flatMap f := rfl
section
variable {H : Type} {enc : TypeId × Value → H} {W : World}
set_option maxRecDepth 100000 in
theorem op_of_cells {fuel : Nat} {cs : List Value} {y : DataW H × List MemPlace} (hl : cs.length = 5) (h : DataW.trod enc Try.prog W 0 (fun _ => true) true fuel 33 cs = some y) :
    ∃ x : Opm, cs = opcells x ∧ (x.o.picks ≠ [] → Sl W 1 (.slice x.sp x.o.picks.length x.pc) x.o.picks.length (x.o.picks.map fun z => .int .i64 z)) ∧ (-9223372036854775808 ≤ x.o.i ∧ x.o.i ≤ 9223372036854775807) := by
  obtain ⟨c0, c1, c2, c3, c4, rfl⟩ := list5 hl
  obtain ⟨y0, y1, y2, y3, y4, n, h0, h1, h2, h3, h4⟩ := trod_struct5 Try.underlying33 h
  dsimp only at h0 h1 h2 h3 h4
  rw [cellsInt] at h0 h1 h2
  rw [cellsStr] at h3
  rw [cellsInts] at h4
  simp only [List.drop_zero, List.drop_succ_cons, List.take_succ_cons, List.take_zero] at h0 h1 h2 h3 h4
  obtain ⟨z0, rfl, w0⟩ := int_of_cell Try.underlying3 h0
  obtain ⟨z1, rfl, w1⟩ := int_of_cell Try.underlying3 h1
  obtain ⟨z2, rfl, w2⟩ := int_of_cell Try.underlying3 h2
  obtain ⟨s3, rfl, w3⟩ := string_of_cell Try.underlying9 h3
  obtain ⟨zs, sa, cap, rfl, hS, _, _⟩ := ints_of_cell Try.underlying31 Try.underlying3 cellsInt h4
  refine ⟨⟨⟨z0, z1, z2, s3, zs⟩, sa, cap⟩, rfl, hS, ?_⟩
  have := w1
  simp [Lit.wf, IntKind.min, IntKind.max, IntKind.signed, IntKind.bits] at this
  exact this
set_option maxRecDepth 100000 in
theorem scr_of {b0 : Nat} {r : Reach} {v : Value} {d : DataW H} {ps : List MemPlace} (hval : Value.okWide Try.prog W r b0 22 v) (h : DataW.Trod enc Try.prog W 0 (fun _ => true) true 22 v d ps) :
    ∃ (l : List Opm) (sa : Option Addr) (cap : Nat), v = .slice sa l.length cap ∧ ScrAt W (.slice sa l.length cap) l := by
  obtain ⟨L, h1, h2, h3⟩ := sl_of_structs Try.underlying22 cellsOp hval h
  obtain ⟨l, rfl, hl⟩ := choose_map (f := opcells) (p := fun x => (x.o.picks ≠ [] → Sl W 1 (.slice x.sp x.o.picks.length x.pc) x.o.picks.length (x.o.picks.map fun z => .int .i64 z)) ∧ (-9223372036854775808 ≤ x.o.i ∧ x.o.i ≤ 9223372036854775807)) (L := L) fun cs hcs => by
    obtain ⟨hl, n, y, hy⟩ := h3 cs hcs
    exact op_of_cells hl hy
  rw [List.length_map] at h1
  obtain ⟨sa, cap, rfl, _⟩ := sl_slice h1
  exact ⟨l, sa, cap, rfl, h1, fun x hx => (hl x hx).1, fun x hx => (hl x hx).2⟩
end
end Go.Proofs.Ytkffgmhaiodagaa

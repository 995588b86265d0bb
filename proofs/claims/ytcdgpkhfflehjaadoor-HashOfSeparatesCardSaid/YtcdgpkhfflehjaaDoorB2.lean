/- Rows of the laws that use both tables: what the condition gives, the door's own start. -/
import Derived.Test.YtcdgpkhfflehjaaDoorB0
import Derived.Test.YtcdgpkhfflehjaaDoorLaw
namespace Go.Proofs.YtcdgpkhfflehjaaDoor
open Go.ChangeShapes Go.WideShapes Go.ChangeAt Go.WideMaps Go.WideElems Go.RowKit Go.Sha Go.Own Go.ChangeMaps
abbrev lay2 : List (String × DataW Unit) := [("sherd/sherdref02.constants", Rows.laid_sherd_sherdref02_constants), ("sherd/hash.constants", Rows.laid_sherd_hash_constants)]
theorem door_met2 (os : Os) (args : Array Value) : laidMetH Tryd.prog lay2 ((World.doorLaid Tryd.prog 4000 os).forCall (fun _ _ => 0) ⟨#[], args, []⟩).memory :=
  laidMetH_of_parts3 (fuel := 8) (laidMet_of_run' 8 (by kernel_rfl) (by kernel_rfl)) (by kernel_rfl) (by kernel_rfl)
theorem of_laid2 {W : World} (h : laidMetH Tryd.prog lay2 W) : Cells W 0 0 (Kt.map U) ∧ Cells W 1 0 (Kt.map U) ∧ 1 < W.heap.size := by
  rw [MakeChecks.laidMetH_plain _ _ _ (by kernel_rfl)] at h
  unfold lay2 at h
  rw [laid_eq, laid_eq_ref] at h
  obtain ⟨ps, ⟨g0, t0, cs0, f0, p0, q0, hg0, ht0, hv0, hd0, ⟨g1, t1, cs1, f1, p1, q1, hg1, ht1, hv1, hd1, _, _⟩, _⟩, _, _⟩ := h
  obtain rfl := Option.some.inj (gRef.symm.trans hg0)
  obtain rfl := Option.some.inj (gHash.symm.trans hg1)
  obtain rfl := Option.some.inj (type0.symm.trans ht0)
  obtain rfl := Option.some.inj (type1.symm.trans ht1)
  have e0 := Lib.cells_of_tab Tryd.underlying54 Tryd.underlying29 (by kernel_rfl) (by kernel_rfl) hd0
  have e1 := Lib.cells_of_tab Tryd.underlying54 Tryd.underlying29 (by kernel_rfl) (by kernel_rfl) hd1
  have T0 : Lib.TabIs Tryd.prog W "sherd/sherdref02.constants" .u32 Kz := by unfold Lib.TabIs; rw [hv0, ← e0]
  have T1 : Lib.TabIs Tryd.prog W "sherd/hash.constants" .u32 Kz := by unfold Lib.TabIs; rw [hv1, ← e1]
  have c0 := tab_cells gRef T0
  have c1 := tab_cells gHash T1
  exact ⟨c0.1, c1.1, c1.2⟩
theorem cells5 : Tryd.prog.cellsOf 5 = 1 := by kernel_rfl
theorem cells9 : Tryd.prog.cellsOf 9 = 1 := by kernel_rfl
end Go.Proofs.YtcdgpkhfflehjaaDoor

/- What the rows' condition on the tables gives the walks; the door's own start. -/
import Derived.Test.YtcdgpkhfflehjaaDoorA16
import Derived.ProofKit
import Derived.LaidMore
import Derived.OpenShut
import Derived.Stop.Joined
import Derived.Lib.LaidTab
namespace Go.Proofs.YtcdgpkhfflehjaaDoor
open Go.ChangeShapes Go.WideShapes Go.ChangeAt Go.RowKit Go.Sha Go.Own
theorem ownK : ownKnob Tryd.prog.godebug = none := by kernel_rfl
theorem laidOutK : laidOutB Tryd.prog = true := by kernel_rfl
theorem gRef : Tryd.prog.globalNamed "sherd/sherdref02.constants" = some 0 := by kernel_rfl
theorem gHash : Tryd.prog.globalNamed "sherd/hash.constants" = some 1 := by kernel_rfl
def Kz : List Int := Kt.map fun n : Nat => (n : Int)
theorem laid_eq : (Rows.laid_sherd_hash_constants : DataW Unit) = Lib.tabData .u32 Kz := by kernel_rfl
theorem laid_eq_ref : (Rows.laid_sherd_sherdref02_constants : DataW Unit) = Lib.tabData .u32 Kz := by kernel_rfl
theorem tab_cells {W : World} {name : String} {g : Nat} (hg : Tryd.prog.globalNamed name = some g) (h : Lib.TabIs Tryd.prog W name .u32 Kz) : Cells W g 0 (Kt.map U) ∧ g < W.heap.size := by
  have hC : Cells W g 0 (Kt.map U) := fun i v hi => by
    rw [Nat.zero_add, World.var?_cell hg h i]
    rw [← hi]
    simp [Kz]
    rfl
  refine ⟨hC, ?_⟩
  have h0 := hC 0 _ (show (Kt.map U)[0]? = some (U 1116352408) by rfl)
  rcases Nat.lt_or_ge g W.heap.size with h' | h'
  · exact h'
  · unfold World.cell? at h0
    simp [Array.getElem?_eq_none h'] at h0
theorem type1 : (Tryd.prog.globals[1]?).map (·.type) = some 54 := by kernel_rfl
theorem type0 : (Tryd.prog.globals[0]?).map (·.type) = some 54 := by kernel_rfl
/-- The hash's own table alone is listed. -/
theorem of_laid1 {W : World} (h : laidMetH Tryd.prog [("sherd/hash.constants", Rows.laid_sherd_hash_constants)] W) : Cells W 1 0 (Kt.map U) ∧ 1 < W.heap.size := by
  rw [MakeChecks.laidMetH_plain _ _ _ (by kernel_rfl)] at h
  rw [laid_eq] at h
  exact tab_cells gHash (Lib.tabIs_of_head gHash type1 Tryd.underlying54 Tryd.underlying29 (by kernel_rfl) (by kernel_rfl) h)
end Go.Proofs.YtcdgpkhfflehjaaDoor

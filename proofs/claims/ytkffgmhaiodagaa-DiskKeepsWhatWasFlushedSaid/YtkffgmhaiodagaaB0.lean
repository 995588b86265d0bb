/- What the rows need of the program: closed facts. -/
import Derived.Test.YtkffgmhaiodagaaD18
import Derived.Test.YtkffgmhaiodagaaLaw
import Derived.ProofKit
import Derived.OpenShut
namespace Go.Proofs.Ytkffgmhaiodagaa
open Go.ChangeShapes Go.WideShapes Go.ChangeAt Go.RowKit Go.Own
theorem ownK : ownKnob Try.prog.godebug = none := by kernel_rfl
theorem laidOutK : laidOutB Try.prog = true := by kernel_rfl
end Go.Proofs.Ytkffgmhaiodagaa

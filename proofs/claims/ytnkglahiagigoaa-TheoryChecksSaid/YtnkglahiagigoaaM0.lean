/- What the rows need of the program: closed facts. -/
import Derived.Test.YtnkglahiagigoaaF19
import Derived.Test.YtnkglahiagigoaaLaw
import Derived.ProofKit
import Derived.OpenShut
namespace Go.Proofs.Ytnkglahiagigoaa
open Go.ChangeShapes Go.WideShapes Go.ChangeAt Go.RowKit Go.Own Go.Theory
theorem ownK : ownKnob Try.prog.godebug = none := by kernel_rfl
theorem laidOutK : laidOutB Try.prog = true := by kernel_rfl
theorem cellsInt : Try.prog.cellsOf 3 = 1 := by kernel_rfl
theorem rg_wf {z : Int} (h : (Lit.int .i64 z).wf = true) : rg z := by
  have e1 : IntKind.min .i64 = -9223372036854775808 := by decide
  have e2 : IntKind.max .i64 = 9223372036854775807 := by decide
  simp only [Lit.wf, e1, e2, Bool.and_eq_true, decide_eq_true_eq] at h
  exact h
end Go.Proofs.Ytnkglahiagigoaa

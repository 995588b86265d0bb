/-
  No cell of these rows narrows 'for every input' (looked for: loops, veiled, ifaces, maps, wideKeys, modest, calm, conditions, laid).
  DERIVED. THE GIVEN ROWS OF THIS SEAT. 6 by the template 'for every input the law returns true; each argument reads behind the call as it read before'; 0 by the template 'total and deterministic' (their statements: YtnkinjilnccmfaaTotals.lean).
  GIVEN WITH THE SEED: the statements are not yours to turn. If you find one false, say at which input.
  Laid BY PROGRAM, IN A SANDBOX (cutbox-rows.mjs): the forced cells as the released guide's own fill.sh prints them over the translation ec303f3f22e9d255… (all of the seat's roots in one cut). By AI agents, Wed Nov 11 2026. No macro, syntax, notation, axiom, sorry.
-/
import Derived.Test.YtnkinjilnccmfaaChecked
import GoSem.Claim
import GoSem.ClaimJoined
import GoSem.ClaimMapViews
import Derived.JoinedTies
import Derived.KernelRfl
namespace Go.Proofs.Ytnkinjilnccmfaa
/- THE CELL 'sum', in the pinned program and in every row, IS THE sha256 OF THE DUMP (.gsa) THAT YtnkinjilnccmfaaProg.lean LOADS. Nothing in Lean hashes anything: it is a label: what it is worth is what the hold of that sum in a sandbox is worth. -/
noncomputable def Try.pinned : Pinned := { name := "ytnkinjilnccmfaa", sum := "ec303f3f22e9d25548b5d088f79222d5cf987b66c39af7713d5ca7187e02344f", checked := Try.checked }
namespace Rows
def none {H : Type} : Left H := { results := [], args := [] }

/-- 'sherdlaw27.OrderFinds': WHATEVER THE INPUT: true; the input reads as it did. -/
def orderFindsSpec : ChangeSpec := { name := "orderFinds", fn := fun _ => fun
  | [d1, d2, d3] => { results := [.lit (.bool true)], args := [d1, d2, d3] }
  | _ => none }
def orderFindsRow : OpenClaim := { program := "ytnkinjilnccmfaa", sum := "ec303f3f22e9d25548b5d088f79222d5cf987b66c39af7713d5ca7187e02344f", func := "sherd/sherdlaw27.OrderFinds", spec := "orderFinds", unfollowed := true, recurses := true, apart := false }
def OrderFindsSaid : Prop := orderFindsRow.holds Try.pinned (OpenSpec.ofChange orderFindsSpec)

/-- ITS FALSE NEIGHBOUR: 'it returns false'. Refute it at one input. -/
def orderFindsWrong : ChangeSpec := { name := "orderFinds", fn := fun _ => fun
  | [d1, d2, d3] => { results := [.lit (.bool false)], args := [d1, d2, d3] }
  | _ => none }
def OrderFindsWrongFalsely : Prop := orderFindsRow.holds Try.pinned (OpenSpec.ofChange orderFindsWrong)

/-- 'sherdlaw27.OrderChecks': WHATEVER THE INPUT: true; the input reads as it did. -/
def orderChecksSpec : ChangeSpec := { name := "orderChecks", fn := fun _ => fun
  | [d1, d2, d3, d4, d5, d6] => { results := [.lit (.bool true)], args := [d1, d2, d3, d4, d5, d6] }
  | _ => none }
def orderChecksRow : OpenClaim := { program := "ytnkinjilnccmfaa", sum := "ec303f3f22e9d25548b5d088f79222d5cf987b66c39af7713d5ca7187e02344f", func := "sherd/sherdlaw27.OrderChecks", spec := "orderChecks", unfollowed := true, recurses := true, apart := false }
def OrderChecksSaid : Prop := orderChecksRow.holds Try.pinned (OpenSpec.ofChange orderChecksSpec)

/-- ITS FALSE NEIGHBOUR: 'it returns false'. Refute it at one input. -/
def orderChecksWrong : ChangeSpec := { name := "orderChecks", fn := fun _ => fun
  | [d1, d2, d3, d4, d5, d6] => { results := [.lit (.bool false)], args := [d1, d2, d3, d4, d5, d6] }
  | _ => none }
def OrderChecksWrongFalsely : Prop := orderChecksRow.holds Try.pinned (OpenSpec.ofChange orderChecksWrong)

/-- 'sherdlaw27.OrderLeast': WHATEVER THE INPUT: true; the input reads as it did. -/
def orderLeastSpec : ChangeSpec := { name := "orderLeast", fn := fun _ => fun
  | [d1, d2, d3, d4, d5] => { results := [.lit (.bool true)], args := [d1, d2, d3, d4, d5] }
  | _ => none }
def orderLeastRow : OpenClaim := { program := "ytnkinjilnccmfaa", sum := "ec303f3f22e9d25548b5d088f79222d5cf987b66c39af7713d5ca7187e02344f", func := "sherd/sherdlaw27.OrderLeast", spec := "orderLeast", unfollowed := true, recurses := true, apart := false }
def OrderLeastSaid : Prop := orderLeastRow.holds Try.pinned (OpenSpec.ofChange orderLeastSpec)

/-- ITS FALSE NEIGHBOUR: 'it returns false'. Refute it at one input. -/
def orderLeastWrong : ChangeSpec := { name := "orderLeast", fn := fun _ => fun
  | [d1, d2, d3, d4, d5] => { results := [.lit (.bool false)], args := [d1, d2, d3, d4, d5] }
  | _ => none }
def OrderLeastWrongFalsely : Prop := orderLeastRow.holds Try.pinned (OpenSpec.ofChange orderLeastWrong)

/-- 'sherdlaw27.OrderCosts': WHATEVER THE INPUT: true; the input reads as it did. -/
def orderCostsSpec : ChangeSpec := { name := "orderCosts", fn := fun _ => fun
  | [d] => { results := [.lit (.bool true)], args := [d] }
  | _ => none }
def orderCostsRow : OpenClaim := { program := "ytnkinjilnccmfaa", sum := "ec303f3f22e9d25548b5d088f79222d5cf987b66c39af7713d5ca7187e02344f", func := "sherd/sherdlaw27.OrderCosts", spec := "orderCosts", unfollowed := true, recurses := true, apart := false }
def OrderCostsSaid : Prop := orderCostsRow.holds Try.pinned (OpenSpec.ofChange orderCostsSpec)

/-- ITS FALSE NEIGHBOUR: 'it returns false'. Refute it at one input. -/
def orderCostsWrong : ChangeSpec := { name := "orderCosts", fn := fun _ => fun
  | [d] => { results := [.lit (.bool false)], args := [d] }
  | _ => none }
def OrderCostsWrongFalsely : Prop := orderCostsRow.holds Try.pinned (OpenSpec.ofChange orderCostsWrong)

/-- 'sherdlaw27.OrderTrees': WHATEVER THE INPUT: true; the input reads as it did. -/
def orderTreesSpec : ChangeSpec := { name := "orderTrees", fn := fun _ => fun
  | [d1, d2, d3] => { results := [.lit (.bool true)], args := [d1, d2, d3] }
  | _ => none }
def orderTreesRow : OpenClaim := { program := "ytnkinjilnccmfaa", sum := "ec303f3f22e9d25548b5d088f79222d5cf987b66c39af7713d5ca7187e02344f", func := "sherd/sherdlaw27.OrderTrees", spec := "orderTrees", unfollowed := true, recurses := true, apart := false }
def OrderTreesSaid : Prop := orderTreesRow.holds Try.pinned (OpenSpec.ofChange orderTreesSpec)

/-- ITS FALSE NEIGHBOUR: 'it returns false'. Refute it at one input. -/
def orderTreesWrong : ChangeSpec := { name := "orderTrees", fn := fun _ => fun
  | [d1, d2, d3] => { results := [.lit (.bool false)], args := [d1, d2, d3] }
  | _ => none }
def OrderTreesWrongFalsely : Prop := orderTreesRow.holds Try.pinned (OpenSpec.ofChange orderTreesWrong)

/-- 'sherdlaw27.OrderMore': WHATEVER THE INPUT: true; the input reads as it did. -/
def orderMoreSpec : ChangeSpec := { name := "orderMore", fn := fun _ => fun
  | [d1, d2, d3, d4, d5] => { results := [.lit (.bool true)], args := [d1, d2, d3, d4, d5] }
  | _ => none }
def orderMoreRow : OpenClaim := { program := "ytnkinjilnccmfaa", sum := "ec303f3f22e9d25548b5d088f79222d5cf987b66c39af7713d5ca7187e02344f", func := "sherd/sherdlaw27.OrderMore", spec := "orderMore", unfollowed := true, recurses := true, apart := false }
def OrderMoreSaid : Prop := orderMoreRow.holds Try.pinned (OpenSpec.ofChange orderMoreSpec)

/-- ITS FALSE NEIGHBOUR: 'it returns false'. Refute it at one input. -/
def orderMoreWrong : ChangeSpec := { name := "orderMore", fn := fun _ => fun
  | [d1, d2, d3, d4, d5] => { results := [.lit (.bool false)], args := [d1, d2, d3, d4, d5] }
  | _ => none }
def OrderMoreWrongFalsely : Prop := orderMoreRow.holds Try.pinned (OpenSpec.ofChange orderMoreWrong)

/- THE SECOND FORM. 'bulk': how many values and letters a reading holds, each counted each time it is reached (what is shared counts as often as it is met; a slice's spare places count too). A statement '..UptoSaid' is the law's where the arguments, and the package variables that the reading takes, are together of bulk at most 1048576: NARROWER than '..Said'. Prove '..Said' where nothing that the law and all that it calls make is longer than what came in: it says more and counts as full. Else prove '..UptoSaid'. A law counts once. -/
mutual
def uptoBulk {H : Type} : DataW H → Nat
  | .lit (.string bytes) => bytes.length + 1
  | .lit _ => 1
  | .nil => 1
  | .ptr d => uptoBulk d + 1
  | .slice elems spare => uptoBulkAll elems + uptoBulkAll spare + 1
  | .agg parts => uptoBulkAll parts + 1
  | .iface _ d => uptoBulk d + 1
  | .map entries => uptoBulkEntries entries + 1
  | .held _ => 1
def uptoBulkAll {H : Type} : List (DataW H) → Nat
  | [] => 0
  | d :: r => uptoBulk d + uptoBulkAll r
def uptoBulkEntries {H : Type} : List (Lit × DataW H) → Nat
  | [] => 0
  | x :: r => uptoBulkEntry x + uptoBulkEntries r
def uptoBulkEntry {H : Type} : Lit × DataW H → Nat
  | (.string bytes, d) => bytes.length + uptoBulk d + 1
  | (_, d) => uptoBulk d + 1
 end
def uptoSmall : (H : Type) → List (DataW H) → Bool := fun _ ds => decide (uptoBulkAll ds ≤ 1048576)
def OpenSpec.upto (s : _root_.Go.ChangeSpec) : _root_.Go.OpenSpec := { _root_.Go.OpenSpec.ofChange s with cond := some uptoSmall }

/-- 'sherdlaw27.OrderFinds', WHERE WHAT IT READS IS OF BULK AT MOST 1048576: true; the input reads as it did. -/
def orderFindsUptoRow : OpenClaim := { program := "ytnkinjilnccmfaa", sum := "ec303f3f22e9d25548b5d088f79222d5cf987b66c39af7713d5ca7187e02344f", func := "sherd/sherdlaw27.OrderFinds", spec := "orderFinds", unfollowed := true, recurses := true, apart := false, narrowed := true }
def OrderFindsUptoSaid : Prop := orderFindsUptoRow.holds Try.pinned (OpenSpec.upto orderFindsSpec)

/-- 'sherdlaw27.OrderChecks', WHERE WHAT IT READS IS OF BULK AT MOST 1048576: true; the input reads as it did. -/
def orderChecksUptoRow : OpenClaim := { program := "ytnkinjilnccmfaa", sum := "ec303f3f22e9d25548b5d088f79222d5cf987b66c39af7713d5ca7187e02344f", func := "sherd/sherdlaw27.OrderChecks", spec := "orderChecks", unfollowed := true, recurses := true, apart := false, narrowed := true }
def OrderChecksUptoSaid : Prop := orderChecksUptoRow.holds Try.pinned (OpenSpec.upto orderChecksSpec)

/-- 'sherdlaw27.OrderLeast', WHERE WHAT IT READS IS OF BULK AT MOST 1048576: true; the input reads as it did. -/
def orderLeastUptoRow : OpenClaim := { program := "ytnkinjilnccmfaa", sum := "ec303f3f22e9d25548b5d088f79222d5cf987b66c39af7713d5ca7187e02344f", func := "sherd/sherdlaw27.OrderLeast", spec := "orderLeast", unfollowed := true, recurses := true, apart := false, narrowed := true }
def OrderLeastUptoSaid : Prop := orderLeastUptoRow.holds Try.pinned (OpenSpec.upto orderLeastSpec)

/-- 'sherdlaw27.OrderCosts', WHERE WHAT IT READS IS OF BULK AT MOST 1048576: true; the input reads as it did. -/
def orderCostsUptoRow : OpenClaim := { program := "ytnkinjilnccmfaa", sum := "ec303f3f22e9d25548b5d088f79222d5cf987b66c39af7713d5ca7187e02344f", func := "sherd/sherdlaw27.OrderCosts", spec := "orderCosts", unfollowed := true, recurses := true, apart := false, narrowed := true }
def OrderCostsUptoSaid : Prop := orderCostsUptoRow.holds Try.pinned (OpenSpec.upto orderCostsSpec)

/-- 'sherdlaw27.OrderTrees', WHERE WHAT IT READS IS OF BULK AT MOST 1048576: true; the input reads as it did. -/
def orderTreesUptoRow : OpenClaim := { program := "ytnkinjilnccmfaa", sum := "ec303f3f22e9d25548b5d088f79222d5cf987b66c39af7713d5ca7187e02344f", func := "sherd/sherdlaw27.OrderTrees", spec := "orderTrees", unfollowed := true, recurses := true, apart := false, narrowed := true }
def OrderTreesUptoSaid : Prop := orderTreesUptoRow.holds Try.pinned (OpenSpec.upto orderTreesSpec)

/-- 'sherdlaw27.OrderMore', WHERE WHAT IT READS IS OF BULK AT MOST 1048576: true; the input reads as it did. -/
def orderMoreUptoRow : OpenClaim := { program := "ytnkinjilnccmfaa", sum := "ec303f3f22e9d25548b5d088f79222d5cf987b66c39af7713d5ca7187e02344f", func := "sherd/sherdlaw27.OrderMore", spec := "orderMore", unfollowed := true, recurses := true, apart := false, narrowed := true }
def OrderMoreUptoSaid : Prop := orderMoreUptoRow.holds Try.pinned (OpenSpec.upto orderMoreSpec)

end Rows
end Go.Proofs.Ytnkinjilnccmfaa

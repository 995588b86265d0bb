/-
  No cell of these rows narrows 'for every input' (looked for: loops, veiled, ifaces, maps, wideKeys, modest, calm, conditions, laid).
  DERIVED. THE GIVEN ROWS OF THIS SEAT. 8 by the template 'for every input the law returns true; each argument reads behind the call as it read before'; 0 by the template 'total and deterministic' (their statements: YtnkglahiagigoaaTotals.lean).
  GIVEN WITH THE SEED: the statements are not yours to turn. If you find one false, say at which input.
  Laid BY PROGRAM, IN A SANDBOX (cutbox-rows.mjs): the forced cells as the released guide's own fill.sh prints them over the translation 9982f36c0dba0d17… (all of the seat's roots in one cut). By AI agents, Wed Nov 11 2026. No macro, syntax, notation, axiom, sorry.
-/
import Derived.Test.YtnkglahiagigoaaChecked
import GoSem.Claim
import GoSem.ClaimJoined
import GoSem.ClaimMapViews
import Derived.JoinedTies
import Derived.KernelRfl
namespace Go.Proofs.Ytnkglahiagigoaa
/- THE CELL 'sum', in the pinned program and in every row, IS THE sha256 OF THE DUMP (.gsa) THAT YtnkglahiagigoaaProg.lean LOADS. Nothing in Lean hashes anything: it is a label: what it is worth is what the hold of that sum in a sandbox is worth. -/
noncomputable def Try.pinned : Pinned := { name := "ytnkglahiagigoaa", sum := "9982f36c0dba0d17da6428e0e98771bf27d80120be835c1a9138fe7bd6a4d487", checked := Try.checked }
namespace Rows
def none {H : Type} : Left H := { results := [], args := [] }

/-- 'sherdlaw18.TheoryAll': WHATEVER THE INPUT: true; the input reads as it did. -/
def theoryAllSpec : ChangeSpec := { name := "theoryAll", fn := fun _ => fun
  | [d1, d2, d3, d4] => { results := [.lit (.bool true)], args := [d1, d2, d3, d4] }
  | _ => none }
def theoryAllRow : OpenClaim := { program := "ytnkglahiagigoaa", sum := "9982f36c0dba0d17da6428e0e98771bf27d80120be835c1a9138fe7bd6a4d487", func := "sherd/sherdlaw18.TheoryAll", spec := "theoryAll", unfollowed := true, recurses := true, apart := false }
def TheoryAllSaid : Prop := theoryAllRow.holds Try.pinned (OpenSpec.ofChange theoryAllSpec)

/-- ITS FALSE NEIGHBOUR: 'it returns false'. Refute it at one input. -/
def theoryAllWrong : ChangeSpec := { name := "theoryAll", fn := fun _ => fun
  | [d1, d2, d3, d4] => { results := [.lit (.bool false)], args := [d1, d2, d3, d4] }
  | _ => none }
def TheoryAllWrongFalsely : Prop := theoryAllRow.holds Try.pinned (OpenSpec.ofChange theoryAllWrong)

/-- 'sherdlaw18.TheoryBest': WHATEVER THE INPUT: true; the input reads as it did. -/
def theoryBestSpec : ChangeSpec := { name := "theoryBest", fn := fun _ => fun
  | [d1, d2, d3, d4, d5] => { results := [.lit (.bool true)], args := [d1, d2, d3, d4, d5] }
  | _ => none }
def theoryBestRow : OpenClaim := { program := "ytnkglahiagigoaa", sum := "9982f36c0dba0d17da6428e0e98771bf27d80120be835c1a9138fe7bd6a4d487", func := "sherd/sherdlaw18.TheoryBest", spec := "theoryBest", unfollowed := true, recurses := true, apart := false }
def TheoryBestSaid : Prop := theoryBestRow.holds Try.pinned (OpenSpec.ofChange theoryBestSpec)

/-- ITS FALSE NEIGHBOUR: 'it returns false'. Refute it at one input. -/
def theoryBestWrong : ChangeSpec := { name := "theoryBest", fn := fun _ => fun
  | [d1, d2, d3, d4, d5] => { results := [.lit (.bool false)], args := [d1, d2, d3, d4, d5] }
  | _ => none }
def TheoryBestWrongFalsely : Prop := theoryBestRow.holds Try.pinned (OpenSpec.ofChange theoryBestWrong)

/-- 'sherdlaw18.TheoryChecks': WHATEVER THE INPUT: true; the input reads as it did. -/
def theoryChecksSpec : ChangeSpec := { name := "theoryChecks", fn := fun _ => fun
  | [d1, d2, d3, d4] => { results := [.lit (.bool true)], args := [d1, d2, d3, d4] }
  | _ => none }
def theoryChecksRow : OpenClaim := { program := "ytnkglahiagigoaa", sum := "9982f36c0dba0d17da6428e0e98771bf27d80120be835c1a9138fe7bd6a4d487", func := "sherd/sherdlaw18.TheoryChecks", spec := "theoryChecks", unfollowed := true, recurses := true, apart := false }
def TheoryChecksSaid : Prop := theoryChecksRow.holds Try.pinned (OpenSpec.ofChange theoryChecksSpec)

/-- ITS FALSE NEIGHBOUR: 'it returns false'. Refute it at one input. -/
def theoryChecksWrong : ChangeSpec := { name := "theoryChecks", fn := fun _ => fun
  | [d1, d2, d3, d4] => { results := [.lit (.bool false)], args := [d1, d2, d3, d4] }
  | _ => none }
def TheoryChecksWrongFalsely : Prop := theoryChecksRow.holds Try.pinned (OpenSpec.ofChange theoryChecksWrong)

/-- 'sherdlaw18.TheoryMaximal': WHATEVER THE INPUT: true; the input reads as it did. -/
def theoryMaximalSpec : ChangeSpec := { name := "theoryMaximal", fn := fun _ => fun
  | [d] => { results := [.lit (.bool true)], args := [d] }
  | _ => none }
def theoryMaximalRow : OpenClaim := { program := "ytnkglahiagigoaa", sum := "9982f36c0dba0d17da6428e0e98771bf27d80120be835c1a9138fe7bd6a4d487", func := "sherd/sherdlaw18.TheoryMaximal", spec := "theoryMaximal", unfollowed := true, recurses := true, apart := false }
def TheoryMaximalSaid : Prop := theoryMaximalRow.holds Try.pinned (OpenSpec.ofChange theoryMaximalSpec)

/-- ITS FALSE NEIGHBOUR: 'it returns false'. Refute it at one input. -/
def theoryMaximalWrong : ChangeSpec := { name := "theoryMaximal", fn := fun _ => fun
  | [d] => { results := [.lit (.bool false)], args := [d] }
  | _ => none }
def TheoryMaximalWrongFalsely : Prop := theoryMaximalRow.holds Try.pinned (OpenSpec.ofChange theoryMaximalWrong)

/-- 'sherdlaw18.TheoryHeaviest': WHATEVER THE INPUT: true; the input reads as it did. -/
def theoryHeaviestSpec : ChangeSpec := { name := "theoryHeaviest", fn := fun _ => fun
  | [d1, d2] => { results := [.lit (.bool true)], args := [d1, d2] }
  | _ => none }
def theoryHeaviestRow : OpenClaim := { program := "ytnkglahiagigoaa", sum := "9982f36c0dba0d17da6428e0e98771bf27d80120be835c1a9138fe7bd6a4d487", func := "sherd/sherdlaw18.TheoryHeaviest", spec := "theoryHeaviest", unfollowed := true, recurses := true, apart := false }
def TheoryHeaviestSaid : Prop := theoryHeaviestRow.holds Try.pinned (OpenSpec.ofChange theoryHeaviestSpec)

/-- ITS FALSE NEIGHBOUR: 'it returns false'. Refute it at one input. -/
def theoryHeaviestWrong : ChangeSpec := { name := "theoryHeaviest", fn := fun _ => fun
  | [d1, d2] => { results := [.lit (.bool false)], args := [d1, d2] }
  | _ => none }
def TheoryHeaviestWrongFalsely : Prop := theoryHeaviestRow.holds Try.pinned (OpenSpec.ofChange theoryHeaviestWrong)

/-- 'sherdlaw18.TheoryFewer': WHATEVER THE INPUT: true; the input reads as it did. -/
def theoryFewerSpec : ChangeSpec := { name := "theoryFewer", fn := fun _ => fun
  | [d1, d2, d3] => { results := [.lit (.bool true)], args := [d1, d2, d3] }
  | _ => none }
def theoryFewerRow : OpenClaim := { program := "ytnkglahiagigoaa", sum := "9982f36c0dba0d17da6428e0e98771bf27d80120be835c1a9138fe7bd6a4d487", func := "sherd/sherdlaw18.TheoryFewer", spec := "theoryFewer", unfollowed := true, recurses := true, apart := false }
def TheoryFewerSaid : Prop := theoryFewerRow.holds Try.pinned (OpenSpec.ofChange theoryFewerSpec)

/-- ITS FALSE NEIGHBOUR: 'it returns false'. Refute it at one input. -/
def theoryFewerWrong : ChangeSpec := { name := "theoryFewer", fn := fun _ => fun
  | [d1, d2, d3] => { results := [.lit (.bool false)], args := [d1, d2, d3] }
  | _ => none }
def TheoryFewerWrongFalsely : Prop := theoryFewerRow.holds Try.pinned (OpenSpec.ofChange theoryFewerWrong)

/-- 'sherdlaw18.TheoryCommon': WHATEVER THE INPUT: true; the input reads as it did. -/
def theoryCommonSpec : ChangeSpec := { name := "theoryCommon", fn := fun _ => fun
  | [d] => { results := [.lit (.bool true)], args := [d] }
  | _ => none }
def theoryCommonRow : OpenClaim := { program := "ytnkglahiagigoaa", sum := "9982f36c0dba0d17da6428e0e98771bf27d80120be835c1a9138fe7bd6a4d487", func := "sherd/sherdlaw18.TheoryCommon", spec := "theoryCommon", unfollowed := true, recurses := true, apart := false }
def TheoryCommonSaid : Prop := theoryCommonRow.holds Try.pinned (OpenSpec.ofChange theoryCommonSpec)

/-- ITS FALSE NEIGHBOUR: 'it returns false'. Refute it at one input. -/
def theoryCommonWrong : ChangeSpec := { name := "theoryCommon", fn := fun _ => fun
  | [d] => { results := [.lit (.bool false)], args := [d] }
  | _ => none }
def TheoryCommonWrongFalsely : Prop := theoryCommonRow.holds Try.pinned (OpenSpec.ofChange theoryCommonWrong)

/-- 'sherdlaw18.TheoryRepairs': WHATEVER THE INPUT: true; the input reads as it did. -/
def theoryRepairsSpec : ChangeSpec := { name := "theoryRepairs", fn := fun _ => fun
  | [d] => { results := [.lit (.bool true)], args := [d] }
  | _ => none }
def theoryRepairsRow : OpenClaim := { program := "ytnkglahiagigoaa", sum := "9982f36c0dba0d17da6428e0e98771bf27d80120be835c1a9138fe7bd6a4d487", func := "sherd/sherdlaw18.TheoryRepairs", spec := "theoryRepairs", unfollowed := true, recurses := true, apart := false }
def TheoryRepairsSaid : Prop := theoryRepairsRow.holds Try.pinned (OpenSpec.ofChange theoryRepairsSpec)

/-- ITS FALSE NEIGHBOUR: 'it returns false'. Refute it at one input. -/
def theoryRepairsWrong : ChangeSpec := { name := "theoryRepairs", fn := fun _ => fun
  | [d] => { results := [.lit (.bool false)], args := [d] }
  | _ => none }
def TheoryRepairsWrongFalsely : Prop := theoryRepairsRow.holds Try.pinned (OpenSpec.ofChange theoryRepairsWrong)

/- THE SECOND FORM. 'bulk': how many values and letters a reading holds, each counted each time it is reached (what is shared counts as often as it is met; a slice's spare places count too). A statement '..UptoSaid' is the law's where the arguments, and the package variables that the reading takes, are together of bulk at most 1048576: NARROWER than '..Said'. Prove '..Said' where nothing that the law and all that it calls make is longer than what came in: it says more and counts as full. Else prove '..UptoSaid'. A law counts once. -/
mutual
def uptoBulk {H : Type} : DataW H → Nat
  | .lit (.string bytes) => bytes.length + 1
  | .lit _ => 1
  | .nil => 1
  | .ptr d => uptoBulk d + 1
  | .slice elems spare => uptoBulkAll elems + uptoBulkAll spare + 1
  | .agg parts => uptoBulkAll parts + 1
  | .iface _ d => uptoBulk d + 1
  | .map entries => uptoBulkEntries entries + 1
  | .held _ => 1
def uptoBulkAll {H : Type} : List (DataW H) → Nat
  | [] => 0
  | d :: r => uptoBulk d + uptoBulkAll r
def uptoBulkEntries {H : Type} : List (Lit × DataW H) → Nat
  | [] => 0
  | x :: r => uptoBulkEntry x + uptoBulkEntries r
def uptoBulkEntry {H : Type} : Lit × DataW H → Nat
  | (.string bytes, d) => bytes.length + uptoBulk d + 1
  | (_, d) => uptoBulk d + 1
 end
def uptoSmall : (H : Type) → List (DataW H) → Bool := fun _ ds => decide (uptoBulkAll ds ≤ 1048576)
def OpenSpec.upto (s : _root_.Go.ChangeSpec) : _root_.Go.OpenSpec := { _root_.Go.OpenSpec.ofChange s with cond := some uptoSmall }

/-- 'sherdlaw18.TheoryAll', WHERE WHAT IT READS IS OF BULK AT MOST 1048576: true; the input reads as it did. -/
def theoryAllUptoRow : OpenClaim := { program := "ytnkglahiagigoaa", sum := "9982f36c0dba0d17da6428e0e98771bf27d80120be835c1a9138fe7bd6a4d487", func := "sherd/sherdlaw18.TheoryAll", spec := "theoryAll", unfollowed := true, recurses := true, apart := false, narrowed := true }
def TheoryAllUptoSaid : Prop := theoryAllUptoRow.holds Try.pinned (OpenSpec.upto theoryAllSpec)

/-- 'sherdlaw18.TheoryBest', WHERE WHAT IT READS IS OF BULK AT MOST 1048576: true; the input reads as it did. -/
def theoryBestUptoRow : OpenClaim := { program := "ytnkglahiagigoaa", sum := "9982f36c0dba0d17da6428e0e98771bf27d80120be835c1a9138fe7bd6a4d487", func := "sherd/sherdlaw18.TheoryBest", spec := "theoryBest", unfollowed := true, recurses := true, apart := false, narrowed := true }
def TheoryBestUptoSaid : Prop := theoryBestUptoRow.holds Try.pinned (OpenSpec.upto theoryBestSpec)

/-- 'sherdlaw18.TheoryChecks', WHERE WHAT IT READS IS OF BULK AT MOST 1048576: true; the input reads as it did. -/
def theoryChecksUptoRow : OpenClaim := { program := "ytnkglahiagigoaa", sum := "9982f36c0dba0d17da6428e0e98771bf27d80120be835c1a9138fe7bd6a4d487", func := "sherd/sherdlaw18.TheoryChecks", spec := "theoryChecks", unfollowed := true, recurses := true, apart := false, narrowed := true }
def TheoryChecksUptoSaid : Prop := theoryChecksUptoRow.holds Try.pinned (OpenSpec.upto theoryChecksSpec)

/-- 'sherdlaw18.TheoryMaximal', WHERE WHAT IT READS IS OF BULK AT MOST 1048576: true; the input reads as it did. -/
def theoryMaximalUptoRow : OpenClaim := { program := "ytnkglahiagigoaa", sum := "9982f36c0dba0d17da6428e0e98771bf27d80120be835c1a9138fe7bd6a4d487", func := "sherd/sherdlaw18.TheoryMaximal", spec := "theoryMaximal", unfollowed := true, recurses := true, apart := false, narrowed := true }
def TheoryMaximalUptoSaid : Prop := theoryMaximalUptoRow.holds Try.pinned (OpenSpec.upto theoryMaximalSpec)

/-- 'sherdlaw18.TheoryHeaviest', WHERE WHAT IT READS IS OF BULK AT MOST 1048576: true; the input reads as it did. -/
def theoryHeaviestUptoRow : OpenClaim := { program := "ytnkglahiagigoaa", sum := "9982f36c0dba0d17da6428e0e98771bf27d80120be835c1a9138fe7bd6a4d487", func := "sherd/sherdlaw18.TheoryHeaviest", spec := "theoryHeaviest", unfollowed := true, recurses := true, apart := false, narrowed := true }
def TheoryHeaviestUptoSaid : Prop := theoryHeaviestUptoRow.holds Try.pinned (OpenSpec.upto theoryHeaviestSpec)

/-- 'sherdlaw18.TheoryFewer', WHERE WHAT IT READS IS OF BULK AT MOST 1048576: true; the input reads as it did. -/
def theoryFewerUptoRow : OpenClaim := { program := "ytnkglahiagigoaa", sum := "9982f36c0dba0d17da6428e0e98771bf27d80120be835c1a9138fe7bd6a4d487", func := "sherd/sherdlaw18.TheoryFewer", spec := "theoryFewer", unfollowed := true, recurses := true, apart := false, narrowed := true }
def TheoryFewerUptoSaid : Prop := theoryFewerUptoRow.holds Try.pinned (OpenSpec.upto theoryFewerSpec)

/-- 'sherdlaw18.TheoryCommon', WHERE WHAT IT READS IS OF BULK AT MOST 1048576: true; the input reads as it did. -/
def theoryCommonUptoRow : OpenClaim := { program := "ytnkglahiagigoaa", sum := "9982f36c0dba0d17da6428e0e98771bf27d80120be835c1a9138fe7bd6a4d487", func := "sherd/sherdlaw18.TheoryCommon", spec := "theoryCommon", unfollowed := true, recurses := true, apart := false, narrowed := true }
def TheoryCommonUptoSaid : Prop := theoryCommonUptoRow.holds Try.pinned (OpenSpec.upto theoryCommonSpec)

/-- 'sherdlaw18.TheoryRepairs', WHERE WHAT IT READS IS OF BULK AT MOST 1048576: true; the input reads as it did. -/
def theoryRepairsUptoRow : OpenClaim := { program := "ytnkglahiagigoaa", sum := "9982f36c0dba0d17da6428e0e98771bf27d80120be835c1a9138fe7bd6a4d487", func := "sherd/sherdlaw18.TheoryRepairs", spec := "theoryRepairs", unfollowed := true, recurses := true, apart := false, narrowed := true }
def TheoryRepairsUptoSaid : Prop := theoryRepairsUptoRow.holds Try.pinned (OpenSpec.upto theoryRepairsSpec)

end Rows
end Go.Proofs.Ytnkglahiagigoaa

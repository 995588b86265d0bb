/-
  No cell of these rows narrows 'for every input' (looked for: loops, veiled, ifaces, maps, wideKeys, modest, calm, conditions, laid).
  DERIVED. THE GIVEN ROWS OF THIS SEAT. 7 by the template 'for every input the law returns true; each argument reads behind the call as it read before'; 0 by the template 'total and deterministic' (their statements: YtcbmifaobdamhaaTotals.lean).
  GIVEN WITH THE SEED: the statements are not yours to turn. If you find one false, say at which input.
  Laid BY PROGRAM, IN A SANDBOX (cutbox-rows.mjs): the forced cells as the released guide's own fill.sh prints them over the translation ff63ad965c457973… (all of the seat's roots in one cut). By AI agents, Wed Nov 11 2026. No macro, syntax, notation, axiom, sorry.
-/
import Derived.Test.YtcbmifaobdamhaaChecked
import GoSem.Claim
import GoSem.ClaimJoined
import GoSem.ClaimMapViews
import Derived.JoinedTies
import Derived.KernelRfl
namespace Go.Proofs.Ytcbmifaobdamhaa
/- THE CELL 'sum', in the pinned program and in every row, IS THE sha256 OF THE DUMP (.gsa) THAT YtcbmifaobdamhaaProg.lean LOADS. Nothing in Lean hashes anything: it is a label: what it is worth is what the hold of that sum in a sandbox is worth. -/
noncomputable def Try.pinned : Pinned := { name := "ytcbmifaobdamhaa", sum := "ff63ad965c457973123ee5062efe0417af5b62f992d699260eff4703e315ce2d", checked := Try.checked }
namespace Rows
def none {H : Type} : Left H := { results := [], args := [] }

/-- 'sherdlaw16.LabelFollows': WHATEVER THE INPUT: true; the input reads as it did. -/
def labelFollowsSpec : ChangeSpec := { name := "labelFollows", fn := fun _ => fun
  | [d1, d2] => { results := [.lit (.bool true)], args := [d1, d2] }
  | _ => none }
def labelFollowsRow : OpenClaim := { program := "ytcbmifaobdamhaa", sum := "ff63ad965c457973123ee5062efe0417af5b62f992d699260eff4703e315ce2d", func := "sherd/sherdlaw16.LabelFollows", spec := "labelFollows", unfollowed := true, recurses := true, apart := false }
def LabelFollowsSaid : Prop := labelFollowsRow.holds Try.pinned (OpenSpec.ofChange labelFollowsSpec)

/-- ITS FALSE NEIGHBOUR: 'it returns false'. Refute it at one input. -/
def labelFollowsWrong : ChangeSpec := { name := "labelFollows", fn := fun _ => fun
  | [d1, d2] => { results := [.lit (.bool false)], args := [d1, d2] }
  | _ => none }
def LabelFollowsWrongFalsely : Prop := labelFollowsRow.holds Try.pinned (OpenSpec.ofChange labelFollowsWrong)

/-- 'sherdlaw16.LabelSets': WHATEVER THE INPUT: true; the input reads as it did. -/
def labelSetsSpec : ChangeSpec := { name := "labelSets", fn := fun _ => fun
  | [d1, d2] => { results := [.lit (.bool true)], args := [d1, d2] }
  | _ => none }
def labelSetsRow : OpenClaim := { program := "ytcbmifaobdamhaa", sum := "ff63ad965c457973123ee5062efe0417af5b62f992d699260eff4703e315ce2d", func := "sherd/sherdlaw16.LabelSets", spec := "labelSets", unfollowed := true, recurses := true, apart := false }
def LabelSetsSaid : Prop := labelSetsRow.holds Try.pinned (OpenSpec.ofChange labelSetsSpec)

/-- ITS FALSE NEIGHBOUR: 'it returns false'. Refute it at one input. -/
def labelSetsWrong : ChangeSpec := { name := "labelSets", fn := fun _ => fun
  | [d1, d2] => { results := [.lit (.bool false)], args := [d1, d2] }
  | _ => none }
def LabelSetsWrongFalsely : Prop := labelSetsRow.holds Try.pinned (OpenSpec.ofChange labelSetsWrong)

/-- 'sherdlaw16.LabelProves': WHATEVER THE INPUT: true; the input reads as it did. -/
def labelProvesSpec : ChangeSpec := { name := "labelProves", fn := fun _ => fun
  | [d1, d2, d3, d4] => { results := [.lit (.bool true)], args := [d1, d2, d3, d4] }
  | _ => none }
def labelProvesRow : OpenClaim := { program := "ytcbmifaobdamhaa", sum := "ff63ad965c457973123ee5062efe0417af5b62f992d699260eff4703e315ce2d", func := "sherd/sherdlaw16.LabelProves", spec := "labelProves", unfollowed := true, recurses := true, apart := false }
def LabelProvesSaid : Prop := labelProvesRow.holds Try.pinned (OpenSpec.ofChange labelProvesSpec)

/-- ITS FALSE NEIGHBOUR: 'it returns false'. Refute it at one input. -/
def labelProvesWrong : ChangeSpec := { name := "labelProves", fn := fun _ => fun
  | [d1, d2, d3, d4] => { results := [.lit (.bool false)], args := [d1, d2, d3, d4] }
  | _ => none }
def LabelProvesWrongFalsely : Prop := labelProvesRow.holds Try.pinned (OpenSpec.ofChange labelProvesWrong)

/-- 'sherdlaw16.LabelLeast': WHATEVER THE INPUT: true; the input reads as it did. -/
def labelLeastSpec : ChangeSpec := { name := "labelLeast", fn := fun _ => fun
  | [d1, d2] => { results := [.lit (.bool true)], args := [d1, d2] }
  | _ => none }
def labelLeastRow : OpenClaim := { program := "ytcbmifaobdamhaa", sum := "ff63ad965c457973123ee5062efe0417af5b62f992d699260eff4703e315ce2d", func := "sherd/sherdlaw16.LabelLeast", spec := "labelLeast", unfollowed := true, recurses := true, apart := false }
def LabelLeastSaid : Prop := labelLeastRow.holds Try.pinned (OpenSpec.ofChange labelLeastSpec)

/-- ITS FALSE NEIGHBOUR: 'it returns false'. Refute it at one input. -/
def labelLeastWrong : ChangeSpec := { name := "labelLeast", fn := fun _ => fun
  | [d1, d2] => { results := [.lit (.bool false)], args := [d1, d2] }
  | _ => none }
def LabelLeastWrongFalsely : Prop := labelLeastRow.holds Try.pinned (OpenSpec.ofChange labelLeastWrong)

/-- 'sherdlaw16.LabelBelieves': WHATEVER THE INPUT: true; the input reads as it did. -/
def labelBelievesSpec : ChangeSpec := { name := "labelBelieves", fn := fun _ => fun
  | [d1, d2, d3, d4] => { results := [.lit (.bool true)], args := [d1, d2, d3, d4] }
  | _ => none }
def labelBelievesRow : OpenClaim := { program := "ytcbmifaobdamhaa", sum := "ff63ad965c457973123ee5062efe0417af5b62f992d699260eff4703e315ce2d", func := "sherd/sherdlaw16.LabelBelieves", spec := "labelBelieves", unfollowed := true, recurses := true, apart := false }
def LabelBelievesSaid : Prop := labelBelievesRow.holds Try.pinned (OpenSpec.ofChange labelBelievesSpec)

/-- ITS FALSE NEIGHBOUR: 'it returns false'. Refute it at one input. -/
def labelBelievesWrong : ChangeSpec := { name := "labelBelieves", fn := fun _ => fun
  | [d1, d2, d3, d4] => { results := [.lit (.bool false)], args := [d1, d2, d3, d4] }
  | _ => none }
def LabelBelievesWrongFalsely : Prop := labelBelievesRow.holds Try.pinned (OpenSpec.ofChange labelBelievesWrong)

/-- 'sherdlaw16.LabelOrder': WHATEVER THE INPUT: true; the input reads as it did. -/
def labelOrderSpec : ChangeSpec := { name := "labelOrder", fn := fun _ => fun
  | [d1, d2] => { results := [.lit (.bool true)], args := [d1, d2] }
  | _ => none }
def labelOrderRow : OpenClaim := { program := "ytcbmifaobdamhaa", sum := "ff63ad965c457973123ee5062efe0417af5b62f992d699260eff4703e315ce2d", func := "sherd/sherdlaw16.LabelOrder", spec := "labelOrder", unfollowed := true, recurses := true, apart := false }
def LabelOrderSaid : Prop := labelOrderRow.holds Try.pinned (OpenSpec.ofChange labelOrderSpec)

/-- ITS FALSE NEIGHBOUR: 'it returns false'. Refute it at one input. -/
def labelOrderWrong : ChangeSpec := { name := "labelOrder", fn := fun _ => fun
  | [d1, d2] => { results := [.lit (.bool false)], args := [d1, d2] }
  | _ => none }
def LabelOrderWrongFalsely : Prop := labelOrderRow.holds Try.pinned (OpenSpec.ofChange labelOrderWrong)

/-- 'sherdlaw16.LabelWithdrawn': WHATEVER THE INPUT: true; the input reads as it did. -/
def labelWithdrawnSpec : ChangeSpec := { name := "labelWithdrawn", fn := fun _ => fun
  | [d1, d2] => { results := [.lit (.bool true)], args := [d1, d2] }
  | _ => none }
def labelWithdrawnRow : OpenClaim := { program := "ytcbmifaobdamhaa", sum := "ff63ad965c457973123ee5062efe0417af5b62f992d699260eff4703e315ce2d", func := "sherd/sherdlaw16.LabelWithdrawn", spec := "labelWithdrawn", unfollowed := true, recurses := true, apart := false }
def LabelWithdrawnSaid : Prop := labelWithdrawnRow.holds Try.pinned (OpenSpec.ofChange labelWithdrawnSpec)

/-- ITS FALSE NEIGHBOUR: 'it returns false'. Refute it at one input. -/
def labelWithdrawnWrong : ChangeSpec := { name := "labelWithdrawn", fn := fun _ => fun
  | [d1, d2] => { results := [.lit (.bool false)], args := [d1, d2] }
  | _ => none }
def LabelWithdrawnWrongFalsely : Prop := labelWithdrawnRow.holds Try.pinned (OpenSpec.ofChange labelWithdrawnWrong)

/- THE SECOND FORM. 'bulk': how many values and letters a reading holds, each counted each time it is reached (what is shared counts as often as it is met; a slice's spare places count too). A statement '..UptoSaid' is the law's where the arguments, and the package variables that the reading takes, are together of bulk at most 1048576: NARROWER than '..Said'. Prove '..Said' where nothing that the law and all that it calls make is longer than what came in: it says more and counts as full. Else prove '..UptoSaid'. A law counts once. -/
mutual
def uptoBulk {H : Type} : DataW H → Nat
  | .lit (.string bytes) => bytes.length + 1
  | .lit _ => 1
  | .nil => 1
  | .ptr d => uptoBulk d + 1
  | .slice elems spare => uptoBulkAll elems + uptoBulkAll spare + 1
  | .agg parts => uptoBulkAll parts + 1
  | .iface _ d => uptoBulk d + 1
  | .map entries => uptoBulkEntries entries + 1
  | .held _ => 1
def uptoBulkAll {H : Type} : List (DataW H) → Nat
  | [] => 0
  | d :: r => uptoBulk d + uptoBulkAll r
def uptoBulkEntries {H : Type} : List (Lit × DataW H) → Nat
  | [] => 0
  | x :: r => uptoBulkEntry x + uptoBulkEntries r
def uptoBulkEntry {H : Type} : Lit × DataW H → Nat
  | (.string bytes, d) => bytes.length + uptoBulk d + 1
  | (_, d) => uptoBulk d + 1
 end
def uptoSmall : (H : Type) → List (DataW H) → Bool := fun _ ds => decide (uptoBulkAll ds ≤ 1048576)
def OpenSpec.upto (s : _root_.Go.ChangeSpec) : _root_.Go.OpenSpec := { _root_.Go.OpenSpec.ofChange s with cond := some uptoSmall }

/-- 'sherdlaw16.LabelFollows', WHERE WHAT IT READS IS OF BULK AT MOST 1048576: true; the input reads as it did. -/
def labelFollowsUptoRow : OpenClaim := { program := "ytcbmifaobdamhaa", sum := "ff63ad965c457973123ee5062efe0417af5b62f992d699260eff4703e315ce2d", func := "sherd/sherdlaw16.LabelFollows", spec := "labelFollows", unfollowed := true, recurses := true, apart := false, narrowed := true }
def LabelFollowsUptoSaid : Prop := labelFollowsUptoRow.holds Try.pinned (OpenSpec.upto labelFollowsSpec)

/-- 'sherdlaw16.LabelSets', WHERE WHAT IT READS IS OF BULK AT MOST 1048576: true; the input reads as it did. -/
def labelSetsUptoRow : OpenClaim := { program := "ytcbmifaobdamhaa", sum := "ff63ad965c457973123ee5062efe0417af5b62f992d699260eff4703e315ce2d", func := "sherd/sherdlaw16.LabelSets", spec := "labelSets", unfollowed := true, recurses := true, apart := false, narrowed := true }
def LabelSetsUptoSaid : Prop := labelSetsUptoRow.holds Try.pinned (OpenSpec.upto labelSetsSpec)

/-- 'sherdlaw16.LabelProves', WHERE WHAT IT READS IS OF BULK AT MOST 1048576: true; the input reads as it did. -/
def labelProvesUptoRow : OpenClaim := { program := "ytcbmifaobdamhaa", sum := "ff63ad965c457973123ee5062efe0417af5b62f992d699260eff4703e315ce2d", func := "sherd/sherdlaw16.LabelProves", spec := "labelProves", unfollowed := true, recurses := true, apart := false, narrowed := true }
def LabelProvesUptoSaid : Prop := labelProvesUptoRow.holds Try.pinned (OpenSpec.upto labelProvesSpec)

/-- 'sherdlaw16.LabelLeast', WHERE WHAT IT READS IS OF BULK AT MOST 1048576: true; the input reads as it did. -/
def labelLeastUptoRow : OpenClaim := { program := "ytcbmifaobdamhaa", sum := "ff63ad965c457973123ee5062efe0417af5b62f992d699260eff4703e315ce2d", func := "sherd/sherdlaw16.LabelLeast", spec := "labelLeast", unfollowed := true, recurses := true, apart := false, narrowed := true }
def LabelLeastUptoSaid : Prop := labelLeastUptoRow.holds Try.pinned (OpenSpec.upto labelLeastSpec)

/-- 'sherdlaw16.LabelBelieves', WHERE WHAT IT READS IS OF BULK AT MOST 1048576: true; the input reads as it did. -/
def labelBelievesUptoRow : OpenClaim := { program := "ytcbmifaobdamhaa", sum := "ff63ad965c457973123ee5062efe0417af5b62f992d699260eff4703e315ce2d", func := "sherd/sherdlaw16.LabelBelieves", spec := "labelBelieves", unfollowed := true, recurses := true, apart := false, narrowed := true }
def LabelBelievesUptoSaid : Prop := labelBelievesUptoRow.holds Try.pinned (OpenSpec.upto labelBelievesSpec)

/-- 'sherdlaw16.LabelOrder', WHERE WHAT IT READS IS OF BULK AT MOST 1048576: true; the input reads as it did. -/
def labelOrderUptoRow : OpenClaim := { program := "ytcbmifaobdamhaa", sum := "ff63ad965c457973123ee5062efe0417af5b62f992d699260eff4703e315ce2d", func := "sherd/sherdlaw16.LabelOrder", spec := "labelOrder", unfollowed := true, recurses := true, apart := false, narrowed := true }
def LabelOrderUptoSaid : Prop := labelOrderUptoRow.holds Try.pinned (OpenSpec.upto labelOrderSpec)

/-- 'sherdlaw16.LabelWithdrawn', WHERE WHAT IT READS IS OF BULK AT MOST 1048576: true; the input reads as it did. -/
def labelWithdrawnUptoRow : OpenClaim := { program := "ytcbmifaobdamhaa", sum := "ff63ad965c457973123ee5062efe0417af5b62f992d699260eff4703e315ce2d", func := "sherd/sherdlaw16.LabelWithdrawn", spec := "labelWithdrawn", unfollowed := true, recurses := true, apart := false, narrowed := true }
def LabelWithdrawnUptoSaid : Prop := labelWithdrawnUptoRow.holds Try.pinned (OpenSpec.upto labelWithdrawnSpec)

end Rows
end Go.Proofs.Ytcbmifaobdamhaa

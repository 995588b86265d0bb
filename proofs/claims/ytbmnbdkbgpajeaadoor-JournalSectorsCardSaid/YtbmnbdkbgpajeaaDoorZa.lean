/- JournalSectors of package sherdlaw39: the tied card: for every input the law returns true and leaves its arguments alone. Conditions: the row's own, nothing more. -/
import Derived.Test.YtbmnbdkbgpajeaaDoorZa25
import Derived.Test.YtbmnbdkbgpajeaaDoorTie
import Derived.Test.YtbmnbdkbgpajeaaDoorCards
import Derived.SevenTiedAt
namespace Go.Proofs.YtbmnbdkbgpajeaaDoor
open Go
theorem journalSectors_card_holds : Rows.JournalSectorsCardSaid :=
  Claim7.holds_tied_plain_at .later [] [.data, .data] true (true, "f5814af1424e9d5553a41f8231952771bcfa60f0e66a4ecaad0d26ccfce42911") false
    sectors_holds (fun _ h => by cases h) (by kernel_rfl) (fun _ h => by cases h) journalSectors_row_tie rfl ⟨rfl, rfl⟩ (by kernel_rfl) rfl
    (fun f fn hf hfn => by
      obtain rfl : f = 3 := Option.some.inj ((show Tryd.prog.funcNamed "sherd/sherdlaw39.JournalSectors" = some 3 by kernel_rfl).symm.trans hf) |>.symm
      obtain rfl : fn = Tryd.f3 := (Option.some.inj (Tryd.func3.symm.trans hfn)).symm
      exact ⟨by kernel_rfl, fun j t ht => by
        rw [Tryd.params3] at ht
        have hm : t ∈ [3, 9, 9] := by simpa using Array.mem_of_getElem? ht
        have hall : ([3, 9, 9].all fun u => !Tryd.prog.wantsStandIn u) = true := by kernel_rfl
        exact (show Tryd.prog.wantsStandIn t = false by simpa using List.all_eq_true.1 hall t hm)⟩)
    (by kernel_rfl)
#print axioms journalSectors_card_holds
end Go.Proofs.YtbmnbdkbgpajeaaDoor

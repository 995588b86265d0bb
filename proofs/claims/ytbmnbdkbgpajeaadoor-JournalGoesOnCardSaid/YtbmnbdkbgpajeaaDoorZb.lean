/- JournalGoesOn of package sherdlaw39: the tied card: for every input the law returns true and leaves its arguments alone. Conditions: the row's own, nothing more. -/
import Derived.Test.YtbmnbdkbgpajeaaDoorZb25
import Derived.Test.YtbmnbdkbgpajeaaDoorTie
import Derived.Test.YtbmnbdkbgpajeaaDoorCards
import Derived.SevenTiedAt
namespace Go.Proofs.YtbmnbdkbgpajeaaDoor
open Go
theorem journalGoesOn_card_holds : Rows.JournalGoesOnCardSaid :=
  Claim7.holds_tied_plain_at .later [] [.data] true (true, "f5814af1424e9d5553a41f8231952771bcfa60f0e66a4ecaad0d26ccfce42911") false
    goesOn_holds (fun _ h => by cases h) (by kernel_rfl) (fun _ h => by cases h) journalGoesOn_row_tie rfl ⟨rfl, rfl⟩ (by kernel_rfl) rfl
    (fun f fn hf hfn => by
      obtain rfl : f = 4 := Option.some.inj ((show Tryd.prog.funcNamed "sherd/sherdlaw39.JournalGoesOn" = some 4 by kernel_rfl).symm.trans hf) |>.symm
      obtain rfl : fn = Tryd.f4 := (Option.some.inj (Tryd.func4.symm.trans hfn)).symm
      exact ⟨by kernel_rfl, fun j t ht => by
        rw [Tryd.params4] at ht
        have hm : t ∈ [3, 35, 36] := by simpa using Array.mem_of_getElem? ht
        have hall : ([3, 35, 36].all fun u => !Tryd.prog.wantsStandIn u) = true := by kernel_rfl
        exact (show Tryd.prog.wantsStandIn t = false by simpa using List.all_eq_true.1 hall t hm)⟩)
    (by kernel_rfl)
#print axioms journalGoesOn_card_holds
end Go.Proofs.YtbmnbdkbgpajeaaDoor

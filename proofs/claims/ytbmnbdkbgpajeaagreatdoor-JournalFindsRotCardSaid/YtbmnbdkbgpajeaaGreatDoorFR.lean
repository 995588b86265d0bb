/- JournalFindsRot of package sherdlaw39: the tied card: for every input the law returns true and leaves its arguments alone. Conditions: the row's own, nothing more. -/
import Derived.Test.YtbmnbdkbgpajeaaGreatDoorFR31
import Derived.Test.YtbmnbdkbgpajeaaGreatDoorTie
import Derived.Test.YtbmnbdkbgpajeaaGreatDoorCards
import Derived.SevenTiedAt
namespace Go.Proofs.YtbmnbdkbgpajeaaGreatDoor
open Go
theorem journalFindsRot_card_holds : Rows.JournalFindsRotCardSaid :=
  Claim7.holds_tied_plain_at .later [] [.data, .data] true (true, "1c5204aa0d0fcfaab194d69460e02404ab52d6ae18cca939ab0bed2785948def") false
    findsRot_holds (fun _ h => by cases h) (by kernel_rfl) (fun _ h => by cases h) journalFindsRot_row_tie rfl ⟨rfl, rfl⟩ (by kernel_rfl) rfl
    (fun f fn hf hfn => by
      obtain rfl : f = 4 := Option.some.inj ((show Tryz.prog.funcNamed "sherd/sherdlaw39.JournalFindsRot" = some 4 by kernel_rfl).symm.trans hf) |>.symm
      obtain rfl : fn = Tryz.f4 := (Option.some.inj (Tryz.func4.symm.trans hfn)).symm
      exact ⟨by kernel_rfl, fun j t ht => by
        rw [Tryz.params4] at ht
        have hm : t ∈ [3, 40, 5, 41] := by simpa using Array.mem_of_getElem? ht
        have hall : ([3, 40, 5, 41].all fun u => !Tryz.prog.wantsStandIn u) = true := by kernel_rfl
        exact (show Tryz.prog.wantsStandIn t = false by simpa using List.all_eq_true.1 hall t hm)⟩)
    (by kernel_rfl)
#print axioms journalFindsRot_card_holds
end Go.Proofs.YtbmnbdkbgpajeaaGreatDoor

/- JournalReadsAnything of package sherdlaw39: the tied card: for every input the law returns true and leaves its arguments alone. Conditions: the row's own, nothing more. -/
import Derived.Test.YtbmnbdkbgpajeaaGreatDoorZd30
import Derived.Test.YtbmnbdkbgpajeaaGreatDoorTie
import Derived.Test.YtbmnbdkbgpajeaaGreatDoorCards
import Derived.SevenTiedAt
namespace Go.Proofs.YtbmnbdkbgpajeaaGreatDoor
open Go
theorem journalReadsAnything_card_holds : Rows.JournalReadsAnythingCardSaid :=
  Claim7.holds_tied_plain_at .later [] [.data, .data] true (true, "1c5204aa0d0fcfaab194d69460e02404ab52d6ae18cca939ab0bed2785948def") false
    readsAnything_holds (fun _ h => by cases h) (by kernel_rfl) (fun _ h => by cases h) journalReadsAnything_row_tie rfl ⟨rfl, rfl⟩ (by kernel_rfl) rfl
    (fun f fn hf hfn => by
      obtain rfl : f = 3 := Option.some.inj ((show Tryz.prog.funcNamed "sherd/sherdlaw39.JournalReadsAnything" = some 3 by kernel_rfl).symm.trans hf) |>.symm
      obtain rfl : fn = Tryz.f3 := (Option.some.inj (Tryz.func3.symm.trans hfn)).symm
      exact ⟨by kernel_rfl, fun j t ht => by
        rw [Tryz.params3] at ht
        have hm : t ∈ [22] := by simpa using Array.mem_of_getElem? ht
        have hall : ([22].all fun u => !Tryz.prog.wantsStandIn u) = true := by kernel_rfl
        exact (show Tryz.prog.wantsStandIn t = false by simpa using List.all_eq_true.1 hall t hm)⟩)
    (by kernel_rfl)
#print axioms journalReadsAnything_card_holds
end Go.Proofs.YtbmnbdkbgpajeaaGreatDoor

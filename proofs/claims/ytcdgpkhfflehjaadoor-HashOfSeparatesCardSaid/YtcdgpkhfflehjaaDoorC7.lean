/- HashOfSeparates of package sherdlaw02: the tied card: for every input the law returns true and leaves its arguments alone. Conditions: the row's own, nothing more. -/
import Derived.Test.YtcdgpkhfflehjaaDoorB8
import Derived.Test.YtcdgpkhfflehjaaDoorTie
import Derived.Test.YtcdgpkhfflehjaaDoorCards
import Derived.SevenTiedAt
namespace Go.Proofs.YtcdgpkhfflehjaaDoor
open Go
theorem hashOfSeparates_card_holds : Rows.HashOfSeparatesCardSaid :=
  Claim7.holds_tied_plain_at .later [] [.data] true (true, "ee91df946306e7f2f51de9b4b3f34b4c9d231a520b13fc66f9a379afcfd61258") false
    sep_holds (fun _ h => by cases h) (by kernel_rfl) (fun _ h => by cases h) hashOfSeparates_row_tie rfl ⟨rfl, rfl⟩ (by kernel_rfl) rfl
    (fun f fn hf hfn => by
      obtain rfl : f = 8 := Option.some.inj ((show Tryd.prog.funcNamed "sherd/sherdlaw02.HashOfSeparates" = some 8 by kernel_rfl).symm.trans hf) |>.symm
      obtain rfl : fn = Tryd.f8 := (Option.some.inj (Tryd.func8.symm.trans hfn)).symm
      exact ⟨by kernel_rfl, fun j t ht => by
        rw [Tryd.params8] at ht
        have hm : t ∈ [48, 27, 27] := by simpa using Array.mem_of_getElem? ht
        have hall : ([48, 27, 27].all fun u => !Tryd.prog.wantsStandIn u) = true := by kernel_rfl
        exact (show Tryd.prog.wantsStandIn t = false by simpa using List.all_eq_true.1 hall t hm)⟩)
    (by kernel_rfl)
#print axioms hashOfSeparates_card_holds
end Go.Proofs.YtcdgpkhfflehjaaDoor

/-
  DERIVED. GIVEN WITH THE SEED: THE CARDS: each row of YtbmnbdkbgpajeaaGreatDoorRows.lean that lists a variable, with what it lists TIED to the program's text (the seventh form; the later family's looks); each row that meets fmt, with fmt's text TOLD by the authors' own Lean function (tested against real Go, not proved from fmt's source: count such statements apart). THE CARD IS WHAT COUNTS. Prove the row's statement (the work); the ties are given (YtbmnbdkbgpajeaaGreatDoorTie.lean); close each card by the builder's one call (the guide's Derived/Test/ToyasCard.lean, 'card_holds'). Laid BY PROGRAM, IN A SANDBOX (cutbox-door.mjs). By AI agents, Wed Nov 11 2026. No macro, syntax, notation, axiom, sorry.
-/
import Derived.Test.YtbmnbdkbgpajeaaGreatDoorRows
import GoSem.ClaimSeven
namespace Go.Proofs.YtbmnbdkbgpajeaaGreatDoor
namespace Rows

/-- THE TIED CARD OF 'sherdlaw39.JournalReadsAnything'. -/
def journalReadsAnythingCard : Claim7 := { stood := { row := journalReadsAnythingRow, standIns := [], harness := (true, "1c5204aa0d0fcfaab194d69460e02404ab52d6ae18cca939ab0bed2785948def"), looks := false }, kinds := [], alts := [], laidByText := true, laidKinds := [.data, .data], laidTests := true, laidLooks := .later }
def JournalReadsAnythingCardSaid : Prop := Claim7.holds Tryz.pinned (.plain (OpenSpec.ofChange journalReadsAnythingSpec)) journalReadsAnythingCard

/-- THE TIED CARD OF 'sherdlaw39.JournalFindsRot'. -/
def journalFindsRotCard : Claim7 := { stood := { row := journalFindsRotRow, standIns := [], harness := (true, "1c5204aa0d0fcfaab194d69460e02404ab52d6ae18cca939ab0bed2785948def"), looks := false }, kinds := [], alts := [], laidByText := true, laidKinds := [.data, .data], laidTests := true, laidLooks := .later }
def JournalFindsRotCardSaid : Prop := Claim7.holds Tryz.pinned (.plain (OpenSpec.ofChange journalFindsRotSpec)) journalFindsRotCard

/-- THE TIED CARD OF 'sherdlaw39.JournalSurvives'. -/
def journalSurvivesCard : Claim7 := { stood := { row := journalSurvivesRow, standIns := [], harness := (true, "1c5204aa0d0fcfaab194d69460e02404ab52d6ae18cca939ab0bed2785948def"), looks := false }, kinds := [], alts := [], laidByText := true, laidKinds := [.data, .data], laidTests := true, laidLooks := .later }
def JournalSurvivesCardSaid : Prop := Claim7.holds Tryz.pinned (.plain (OpenSpec.ofChange journalSurvivesSpec)) journalSurvivesCard

/-- THE TIED CARD OF 'sherdlaw39.JournalMatchesSpec'. -/
def journalMatchesSpecCard : Claim7 := { stood := { row := journalMatchesSpecRow, standIns := [], harness := (true, "1c5204aa0d0fcfaab194d69460e02404ab52d6ae18cca939ab0bed2785948def"), looks := false }, kinds := [], alts := [], laidByText := true, laidKinds := [.data, .data], laidTests := true, laidLooks := .later }
def JournalMatchesSpecCardSaid : Prop := Claim7.holds Tryz.pinned (.plain (OpenSpec.ofChange journalMatchesSpecSpec)) journalMatchesSpecCard

/-- THE SECOND FORM's CARD OF 'sherdlaw39.JournalReadsAnything'. -/
def journalReadsAnythingUptoCard : Claim7 := { stood := { row := journalReadsAnythingUptoRow, standIns := [], harness := (true, "1c5204aa0d0fcfaab194d69460e02404ab52d6ae18cca939ab0bed2785948def"), looks := false }, kinds := [], alts := [], laidByText := true, laidKinds := [.data, .data], laidTests := true, laidLooks := .later }
def JournalReadsAnythingUptoCardSaid : Prop := Claim7.holds Tryz.pinned (.plain (OpenSpec.upto journalReadsAnythingSpec)) journalReadsAnythingUptoCard

/-- THE SECOND FORM's CARD OF 'sherdlaw39.JournalFindsRot'. -/
def journalFindsRotUptoCard : Claim7 := { stood := { row := journalFindsRotUptoRow, standIns := [], harness := (true, "1c5204aa0d0fcfaab194d69460e02404ab52d6ae18cca939ab0bed2785948def"), looks := false }, kinds := [], alts := [], laidByText := true, laidKinds := [.data, .data], laidTests := true, laidLooks := .later }
def JournalFindsRotUptoCardSaid : Prop := Claim7.holds Tryz.pinned (.plain (OpenSpec.upto journalFindsRotSpec)) journalFindsRotUptoCard

/-- THE SECOND FORM's CARD OF 'sherdlaw39.JournalSurvives'. -/
def journalSurvivesUptoCard : Claim7 := { stood := { row := journalSurvivesUptoRow, standIns := [], harness := (true, "1c5204aa0d0fcfaab194d69460e02404ab52d6ae18cca939ab0bed2785948def"), looks := false }, kinds := [], alts := [], laidByText := true, laidKinds := [.data, .data], laidTests := true, laidLooks := .later }
def JournalSurvivesUptoCardSaid : Prop := Claim7.holds Tryz.pinned (.plain (OpenSpec.upto journalSurvivesSpec)) journalSurvivesUptoCard

/-- THE SECOND FORM's CARD OF 'sherdlaw39.JournalMatchesSpec'. -/
def journalMatchesSpecUptoCard : Claim7 := { stood := { row := journalMatchesSpecUptoRow, standIns := [], harness := (true, "1c5204aa0d0fcfaab194d69460e02404ab52d6ae18cca939ab0bed2785948def"), looks := false }, kinds := [], alts := [], laidByText := true, laidKinds := [.data, .data], laidTests := true, laidLooks := .later }
def JournalMatchesSpecUptoCardSaid : Prop := Claim7.holds Tryz.pinned (.plain (OpenSpec.upto journalMatchesSpecSpec)) journalMatchesSpecUptoCard
end Rows
end Go.Proofs.YtbmnbdkbgpajeaaGreatDoor

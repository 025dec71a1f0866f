/-
  DERIVED. GIVEN WITH THE SEED: THE CARDS: each row of YtejdennodgdfhaaGreatDoorRows.lean that lists a variable, with what it lists TIED to the program's text (the seventh form; the later family's looks); each row that meets fmt, with fmt's text TOLD by the authors' own Lean function (tested against real Go, not proved from fmt's source: count such statements apart). THE CARD IS WHAT COUNTS. Prove the row's statement (the work); the ties are given (YtejdennodgdfhaaGreatDoorTie.lean); close each card by the builder's one call (the guide's Derived/Test/ToyasCard.lean, 'card_holds'). Laid BY PROGRAM, IN A SANDBOX (cutbox-door.mjs). By AI agents, Wed Nov 11 2026. No macro, syntax, notation, axiom, sorry.
-/
import Derived.Test.YtejdennodgdfhaaGreatDoorRows
import GoSem.ClaimSeven
namespace Go.Proofs.YtejdennodgdfhaaGreatDoor
namespace Rows

/-- THE TIED CARD OF 'deucelaw12.RefereeMatch'. -/
def refereeMatchCard : Claim7 := { stood := { row := refereeMatchRow, standIns := [], harness := (true, "24994f7459f7245988c04753424449a8a354fabc7d1da4f3c6d5e1e07c1959d9"), looks := false }, kinds := [], alts := [], laidByText := true, laidKinds := [.data, .data, .data, .data, .pinned], laidTests := true, laidLooks := .later }
def RefereeMatchCardSaid : Prop := Claim7.holds Tryz.pinned (.plain (OpenSpec.ofChange refereeMatchSpec)) refereeMatchCard

/-- THE TIED CARD OF 'deucelaw12.RefereePoints'. -/
def refereePointsCard : Claim7 := { stood := { row := refereePointsRow, standIns := [], harness := (true, "24994f7459f7245988c04753424449a8a354fabc7d1da4f3c6d5e1e07c1959d9"), looks := false }, kinds := [], alts := [], laidByText := true, laidKinds := [.data, .data, .data, .data, .pinned], laidTests := true, laidLooks := .later }
def RefereePointsCardSaid : Prop := Claim7.holds Tryz.pinned (.plain (OpenSpec.ofChange refereePointsSpec)) refereePointsCard

/-- THE TIED CARD OF 'deucelaw12.RefereeList'. -/
def refereeListCard : Claim7 := { stood := { row := refereeListRow, standIns := [], harness := (true, "24994f7459f7245988c04753424449a8a354fabc7d1da4f3c6d5e1e07c1959d9"), looks := false }, kinds := [], alts := [], laidByText := true, laidKinds := [.data, .data, .data, .data, .pinned], laidTests := true, laidLooks := .later }
def RefereeListCardSaid : Prop := Claim7.holds Tryz.pinned (.plain (OpenSpec.ofChange refereeListSpec)) refereeListCard

/-- THE TIED CARD OF 'deucelaw12.RefereeLines'. -/
def refereeLinesCard : Claim7 := { stood := { row := refereeLinesRow, standIns := [], harness := (true, "24994f7459f7245988c04753424449a8a354fabc7d1da4f3c6d5e1e07c1959d9"), looks := false }, kinds := [], alts := [], laidByText := true, laidKinds := [.data, .data, .data, .data, .pinned], laidTests := true, laidLooks := .later }
def RefereeLinesCardSaid : Prop := Claim7.holds Tryz.pinned (.plain (OpenSpec.ofChange refereeLinesSpec)) refereeLinesCard

/-- THE TIED CARD OF 'deucelaw12.RefereeCourts'. -/
def refereeCourtsCard : Claim7 := { stood := { row := refereeCourtsRow, standIns := [], harness := (true, "24994f7459f7245988c04753424449a8a354fabc7d1da4f3c6d5e1e07c1959d9"), looks := false }, kinds := [], alts := [], laidByText := true, laidKinds := [.data, .data, .data, .data, .pinned], laidTests := true, laidLooks := .later }
def RefereeCourtsCardSaid : Prop := Claim7.holds Tryz.pinned (.plain (OpenSpec.ofChange refereeCourtsSpec)) refereeCourtsCard

/-- THE TIED CARD OF 'deucelaw12.RefereeAnswers'. -/
def refereeAnswersCard : Claim7 := { stood := { row := refereeAnswersRow, standIns := [], harness := (true, "24994f7459f7245988c04753424449a8a354fabc7d1da4f3c6d5e1e07c1959d9"), looks := false }, kinds := [], alts := [], laidByText := true, laidKinds := [.data, .data, .data, .data, .pinned], laidTests := true, laidLooks := .later }
def RefereeAnswersCardSaid : Prop := Claim7.holds Tryz.pinned (.plain (OpenSpec.ofChange refereeAnswersSpec)) refereeAnswersCard

/-- THE TIED CARD OF 'deucelaw12.RefereeReplay'. -/
def refereeReplayCard : Claim7 := { stood := { row := refereeReplayRow, standIns := [], harness := (true, "24994f7459f7245988c04753424449a8a354fabc7d1da4f3c6d5e1e07c1959d9"), looks := false }, kinds := [], alts := [], laidByText := true, laidKinds := [.data, .data, .data, .data, .pinned], laidTests := true, laidLooks := .later }
def RefereeReplayCardSaid : Prop := Claim7.holds Tryz.pinned (.plain (OpenSpec.ofChange refereeReplaySpec)) refereeReplayCard

/-- THE TIED CARD OF 'deucelaw12.RefereeFiles'. -/
def refereeFilesCard : Claim7 := { stood := { row := refereeFilesRow, standIns := [], harness := (true, "24994f7459f7245988c04753424449a8a354fabc7d1da4f3c6d5e1e07c1959d9"), looks := false }, kinds := [], alts := [], laidByText := true, laidKinds := [.data, .data, .data, .data, .pinned], laidTests := true, laidLooks := .later }
def RefereeFilesCardSaid : Prop := Claim7.holds Tryz.pinned (.plain (OpenSpec.ofChange refereeFilesSpec)) refereeFilesCard

/-- THE SECOND FORM's CARD OF 'deucelaw12.RefereeMatch'. -/
def refereeMatchUptoCard : Claim7 := { stood := { row := refereeMatchUptoRow, standIns := [], harness := (true, "24994f7459f7245988c04753424449a8a354fabc7d1da4f3c6d5e1e07c1959d9"), looks := false }, kinds := [], alts := [], laidByText := true, laidKinds := [.data, .data, .data, .data, .pinned], laidTests := true, laidLooks := .later }
def RefereeMatchUptoCardSaid : Prop := Claim7.holds Tryz.pinned (.plain (OpenSpec.upto refereeMatchSpec)) refereeMatchUptoCard

/-- THE SECOND FORM's CARD OF 'deucelaw12.RefereePoints'. -/
def refereePointsUptoCard : Claim7 := { stood := { row := refereePointsUptoRow, standIns := [], harness := (true, "24994f7459f7245988c04753424449a8a354fabc7d1da4f3c6d5e1e07c1959d9"), looks := false }, kinds := [], alts := [], laidByText := true, laidKinds := [.data, .data, .data, .data, .pinned], laidTests := true, laidLooks := .later }
def RefereePointsUptoCardSaid : Prop := Claim7.holds Tryz.pinned (.plain (OpenSpec.upto refereePointsSpec)) refereePointsUptoCard

/-- THE SECOND FORM's CARD OF 'deucelaw12.RefereeList'. -/
def refereeListUptoCard : Claim7 := { stood := { row := refereeListUptoRow, standIns := [], harness := (true, "24994f7459f7245988c04753424449a8a354fabc7d1da4f3c6d5e1e07c1959d9"), looks := false }, kinds := [], alts := [], laidByText := true, laidKinds := [.data, .data, .data, .data, .pinned], laidTests := true, laidLooks := .later }
def RefereeListUptoCardSaid : Prop := Claim7.holds Tryz.pinned (.plain (OpenSpec.upto refereeListSpec)) refereeListUptoCard

/-- THE SECOND FORM's CARD OF 'deucelaw12.RefereeLines'. -/
def refereeLinesUptoCard : Claim7 := { stood := { row := refereeLinesUptoRow, standIns := [], harness := (true, "24994f7459f7245988c04753424449a8a354fabc7d1da4f3c6d5e1e07c1959d9"), looks := false }, kinds := [], alts := [], laidByText := true, laidKinds := [.data, .data, .data, .data, .pinned], laidTests := true, laidLooks := .later }
def RefereeLinesUptoCardSaid : Prop := Claim7.holds Tryz.pinned (.plain (OpenSpec.upto refereeLinesSpec)) refereeLinesUptoCard

/-- THE SECOND FORM's CARD OF 'deucelaw12.RefereeCourts'. -/
def refereeCourtsUptoCard : Claim7 := { stood := { row := refereeCourtsUptoRow, standIns := [], harness := (true, "24994f7459f7245988c04753424449a8a354fabc7d1da4f3c6d5e1e07c1959d9"), looks := false }, kinds := [], alts := [], laidByText := true, laidKinds := [.data, .data, .data, .data, .pinned], laidTests := true, laidLooks := .later }
def RefereeCourtsUptoCardSaid : Prop := Claim7.holds Tryz.pinned (.plain (OpenSpec.upto refereeCourtsSpec)) refereeCourtsUptoCard

/-- THE SECOND FORM's CARD OF 'deucelaw12.RefereeAnswers'. -/
def refereeAnswersUptoCard : Claim7 := { stood := { row := refereeAnswersUptoRow, standIns := [], harness := (true, "24994f7459f7245988c04753424449a8a354fabc7d1da4f3c6d5e1e07c1959d9"), looks := false }, kinds := [], alts := [], laidByText := true, laidKinds := [.data, .data, .data, .data, .pinned], laidTests := true, laidLooks := .later }
def RefereeAnswersUptoCardSaid : Prop := Claim7.holds Tryz.pinned (.plain (OpenSpec.upto refereeAnswersSpec)) refereeAnswersUptoCard

/-- THE SECOND FORM's CARD OF 'deucelaw12.RefereeReplay'. -/
def refereeReplayUptoCard : Claim7 := { stood := { row := refereeReplayUptoRow, standIns := [], harness := (true, "24994f7459f7245988c04753424449a8a354fabc7d1da4f3c6d5e1e07c1959d9"), looks := false }, kinds := [], alts := [], laidByText := true, laidKinds := [.data, .data, .data, .data, .pinned], laidTests := true, laidLooks := .later }
def RefereeReplayUptoCardSaid : Prop := Claim7.holds Tryz.pinned (.plain (OpenSpec.upto refereeReplaySpec)) refereeReplayUptoCard

/-- THE SECOND FORM's CARD OF 'deucelaw12.RefereeFiles'. -/
def refereeFilesUptoCard : Claim7 := { stood := { row := refereeFilesUptoRow, standIns := [], harness := (true, "24994f7459f7245988c04753424449a8a354fabc7d1da4f3c6d5e1e07c1959d9"), looks := false }, kinds := [], alts := [], laidByText := true, laidKinds := [.data, .data, .data, .data, .pinned], laidTests := true, laidLooks := .later }
def RefereeFilesUptoCardSaid : Prop := Claim7.holds Tryz.pinned (.plain (OpenSpec.upto refereeFilesSpec)) refereeFilesUptoCard
end Rows
end Go.Proofs.YtejdennodgdfhaaGreatDoor

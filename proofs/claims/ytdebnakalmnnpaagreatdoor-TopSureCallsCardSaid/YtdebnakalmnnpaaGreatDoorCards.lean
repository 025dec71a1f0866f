/-
  DERIVED. GIVEN WITH THE SEED: THE CARDS: each row of YtdebnakalmnnpaaGreatDoorRows.lean that lists a variable, with what it lists TIED to the program's text (the seventh form; the later family's looks); each row that meets fmt, with fmt's text TOLD by the authors' own Lean function (tested against real Go, not proved from fmt's source: count such statements apart). THE CARD IS WHAT COUNTS. Prove the row's statement (the work); the ties are given (YtdebnakalmnnpaaGreatDoorTie.lean); close each card by the builder's one call (the guide's Derived/Test/ToyasCard.lean, 'card_holds'). Laid BY PROGRAM, IN A SANDBOX (cutbox-door.mjs). By AI agents, Wed Nov 11 2026. No macro, syntax, notation, axiom, sorry.
-/
import Derived.Test.YtdebnakalmnnpaaGreatDoorRows
import GoSem.ClaimSeven
namespace Go.Proofs.YtdebnakalmnnpaaGreatDoor
namespace Rows

/-- THE TIED CARD OF 'deucetop.TopSureCalls'. -/
def topSureCallsCard : Claim7 := { stood := { row := topSureCallsRow, standIns := [], harness := (true, "3cc3ef54dc5540d4240948f83fa8bf879b6d108ba1e376fc839c227e7756fb90"), looks := false }, kinds := [], alts := [], laidByText := true, laidKinds := [.data, .data, .data, .data, .pinned], laidTests := true, laidLooks := .later }
def TopSureCallsCardSaid : Prop := Claim7.holds Tryz.pinned (.plain (OpenSpec.ofChange topSureCallsSpec)) topSureCallsCard

/-- THE SECOND FORM's CARD OF 'deucetop.TopSureCalls'. -/
def topSureCallsUptoCard : Claim7 := { stood := { row := topSureCallsUptoRow, standIns := [], harness := (true, "3cc3ef54dc5540d4240948f83fa8bf879b6d108ba1e376fc839c227e7756fb90"), looks := false }, kinds := [], alts := [], laidByText := true, laidKinds := [.data, .data, .data, .data, .pinned], laidTests := true, laidLooks := .later }
def TopSureCallsUptoCardSaid : Prop := Claim7.holds Tryz.pinned (.plain (OpenSpec.upto topSureCallsSpec)) topSureCallsUptoCard
end Rows
end Go.Proofs.YtdebnakalmnnpaaGreatDoor

/-
  DERIVED. GIVEN WITH THE SEED: THE CARDS: each row of YtammglnfelkbpaaGreatDoorRows.lean that lists a variable, with what it lists TIED to the program's text (the seventh form; the later family's looks); each row that meets fmt, with fmt's text TOLD by the authors' own Lean function (tested against real Go, not proved from fmt's source: count such statements apart). THE CARD IS WHAT COUNTS. Prove the row's statement (the work); the ties are given (YtammglnfelkbpaaGreatDoorTie.lean); close each card by the builder's one call (the guide's Derived/Test/ToyasCard.lean, 'card_holds'). Laid BY PROGRAM, IN A SANDBOX (cutbox-door.mjs). By AI agents, Wed Nov 11 2026. No macro, syntax, notation, axiom, sorry.
-/
import Derived.Test.YtammglnfelkbpaaGreatDoorRows
import GoSem.ClaimSeven
namespace Go.Proofs.YtammglnfelkbpaaGreatDoor
namespace Rows

/-- THE TIED CARD OF 'deucetop.TopPlayable'. -/
def topPlayableCard : Claim7 := { stood := { row := topPlayableRow, standIns := [], harness := (true, "526c4b317f1725219a106a4de7c9795e456f092385012d97a04c97cb4ffc6f77"), looks := false }, kinds := [], alts := [], laidByText := true, laidKinds := [.data, .data, .data, .data, .pinned], laidTests := true, laidLooks := .later }
def TopPlayableCardSaid : Prop := Claim7.holds Tryz.pinned (.plain (OpenSpec.ofChange topPlayableSpec)) topPlayableCard

/-- THE SECOND FORM's CARD OF 'deucetop.TopPlayable'. -/
def topPlayableUptoCard : Claim7 := { stood := { row := topPlayableUptoRow, standIns := [], harness := (true, "526c4b317f1725219a106a4de7c9795e456f092385012d97a04c97cb4ffc6f77"), looks := false }, kinds := [], alts := [], laidByText := true, laidKinds := [.data, .data, .data, .data, .pinned], laidTests := true, laidLooks := .later }
def TopPlayableUptoCardSaid : Prop := Claim7.holds Tryz.pinned (.plain (OpenSpec.upto topPlayableSpec)) topPlayableUptoCard
end Rows
end Go.Proofs.YtammglnfelkbpaaGreatDoor

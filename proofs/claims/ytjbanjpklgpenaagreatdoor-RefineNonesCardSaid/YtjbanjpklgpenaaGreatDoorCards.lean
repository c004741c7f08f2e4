/-
  DERIVED. GIVEN WITH THE SEED: THE CARDS: each row of YtjbanjpklgpenaaGreatDoorRows.lean that lists a variable, with what it lists TIED to the program's text (the seventh form; the later family's looks); each row that meets fmt, with fmt's text TOLD by the authors' own Lean function (tested against real Go, not proved from fmt's source: count such statements apart). THE CARD IS WHAT COUNTS. Prove the row's statement (the work); the ties are given (YtjbanjpklgpenaaGreatDoorTie.lean); close each card by the builder's one call (the guide's Derived/Test/ToyasCard.lean, 'card_holds'). Laid BY PROGRAM, IN A SANDBOX (cutbox-door.mjs). By AI agents, Wed Nov 11 2026. No macro, syntax, notation, axiom, sorry.
-/
import Derived.Test.YtjbanjpklgpenaaGreatDoorRows
import GoSem.ClaimSeven
namespace Go.Proofs.YtjbanjpklgpenaaGreatDoor
namespace Rows

/-- THE TIED CARD OF 'surdlaw22.RefineNones'. -/
def refineNonesCard : Claim7 := { stood := { row := refineNonesRow, standIns := [], harness := (true, "7fdfa4256c28e1adbef3a57cdc5f446db6bd8a658007e01d53afccf1e1c46100"), looks := true }, kinds := [], alts := [], laidByText := true, laidKinds := [.data, .data], laidTests := true, laidLooks := .later }
def RefineNonesCardSaid : Prop := Claim7.holds Tryz.pinned (.plain (OpenSpec.ofChange refineNonesSpec)) refineNonesCard

/-- THE SECOND FORM's CARD OF 'surdlaw22.RefineNones'. -/
def refineNonesUptoCard : Claim7 := { stood := { row := refineNonesUptoRow, standIns := [], harness := (true, "7fdfa4256c28e1adbef3a57cdc5f446db6bd8a658007e01d53afccf1e1c46100"), looks := true }, kinds := [], alts := [], laidByText := true, laidKinds := [.data, .data], laidTests := true, laidLooks := .later }
def RefineNonesUptoCardSaid : Prop := Claim7.holds Tryz.pinned (.plain (OpenSpec.upto refineNonesSpec)) refineNonesUptoCard
end Rows
end Go.Proofs.YtjbanjpklgpenaaGreatDoor

/-
  DERIVED. GIVEN WITH THE SEED: THE CARDS: each row of YtaiakicdjndeaaaGreatDoorRows.lean that lists a variable, with what it lists TIED to the program's text (the seventh form; the later family's looks); each row that meets fmt, with fmt's text TOLD by the authors' own Lean function (tested against real Go, not proved from fmt's source: count such statements apart). THE CARD IS WHAT COUNTS. Prove the row's statement (the work); the ties are given (YtaiakicdjndeaaaGreatDoorTie.lean); close each card by the builder's one call (the guide's Derived/Test/ToyasCard.lean, 'card_holds'). Laid BY PROGRAM, IN A SANDBOX (cutbox-door.mjs). By AI agents, Wed Nov 11 2026. No macro, syntax, notation, axiom, sorry.
-/
import Derived.Test.YtaiakicdjndeaaaGreatDoorRows
import GoSem.ClaimSeven
namespace Go.Proofs.YtaiakicdjndeaaaGreatDoor
namespace Rows

/-- THE TIED CARD OF 'surdlaw25.SoftNames'. -/
def softNamesCard : Claim7 := { stood := { row := softNamesRow, standIns := [], harness := (true, "cd79be5b334586c20a02345e7263f31b715e24ae8ecf51ed8c5def115ac6b046"), looks := true }, kinds := [], alts := [], laidByText := true, laidKinds := [.data, .data], laidTests := true, laidLooks := .later }
def SoftNamesCardSaid : Prop := Claim7.holds Tryz.pinned (.plain (OpenSpec.ofChange softNamesSpec)) softNamesCard

/-- THE SECOND FORM's CARD OF 'surdlaw25.SoftNames'. -/
def softNamesUptoCard : Claim7 := { stood := { row := softNamesUptoRow, standIns := [], harness := (true, "cd79be5b334586c20a02345e7263f31b715e24ae8ecf51ed8c5def115ac6b046"), looks := true }, kinds := [], alts := [], laidByText := true, laidKinds := [.data, .data], laidTests := true, laidLooks := .later }
def SoftNamesUptoCardSaid : Prop := Claim7.holds Tryz.pinned (.plain (OpenSpec.upto softNamesSpec)) softNamesUptoCard
end Rows
end Go.Proofs.YtaiakicdjndeaaaGreatDoor

/-
  DERIVED. GIVEN WITH THE SEED: THE CARDS: each row of YtnmdkckmheheoaaGreatDoorRows.lean that lists a variable, with what it lists TIED to the program's text (the seventh form; the later family's looks); each row that meets fmt, with fmt's text TOLD by the authors' own Lean function (tested against real Go, not proved from fmt's source: count such statements apart). THE CARD IS WHAT COUNTS. Prove the row's statement (the work); the ties are given (YtnmdkckmheheoaaGreatDoorTie.lean); close each card by the builder's one call (the guide's Derived/Test/ToyasCard.lean, 'card_holds'). Laid BY PROGRAM, IN A SANDBOX (cutbox-door.mjs). By AI agents, Wed Nov 11 2026. No macro, syntax, notation, axiom, sorry.
-/
import Derived.Test.YtnmdkckmheheoaaGreatDoorRows
import GoSem.ClaimSeven
namespace Go.Proofs.YtnmdkckmheheoaaGreatDoor
namespace Rows

/-- THE TIED CARD OF 'surdlaw24.StrictNames'. -/
def strictNamesCard : Claim7 := { stood := { row := strictNamesRow, standIns := [], harness := (true, "b82de47ee37ff9f50120634a439469949c8e348b4982fe7a9f13ae1dc26283b1"), looks := true }, kinds := [], alts := [], laidByText := true, laidKinds := [.data], laidTests := true, laidLooks := .later }
def StrictNamesCardSaid : Prop := Claim7.holds Tryz.pinned (.plain (OpenSpec.ofChange strictNamesSpec)) strictNamesCard

/-- THE SECOND FORM's CARD OF 'surdlaw24.StrictNames'. -/
def strictNamesUptoCard : Claim7 := { stood := { row := strictNamesUptoRow, standIns := [], harness := (true, "b82de47ee37ff9f50120634a439469949c8e348b4982fe7a9f13ae1dc26283b1"), looks := true }, kinds := [], alts := [], laidByText := true, laidKinds := [.data], laidTests := true, laidLooks := .later }
def StrictNamesUptoCardSaid : Prop := Claim7.holds Tryz.pinned (.plain (OpenSpec.upto strictNamesSpec)) strictNamesUptoCard
end Rows
end Go.Proofs.YtnmdkckmheheoaaGreatDoor

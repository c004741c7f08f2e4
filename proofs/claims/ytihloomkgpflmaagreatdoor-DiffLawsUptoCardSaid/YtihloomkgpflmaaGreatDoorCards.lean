/-
  DERIVED. GIVEN WITH THE SEED: THE CARDS: each row of YtihloomkgpflmaaGreatDoorRows.lean that lists a variable, with what it lists TIED to the program's text (the seventh form; the later family's looks); each row that meets fmt, with fmt's text TOLD by the authors' own Lean function (tested against real Go, not proved from fmt's source: count such statements apart). THE CARD IS WHAT COUNTS. Prove the row's statement (the work); the ties are given (YtihloomkgpflmaaGreatDoorTie.lean); close each card by the builder's one call (the guide's Derived/Test/ToyasCard.lean, 'card_holds'). Laid BY PROGRAM, IN A SANDBOX (cutbox-door.mjs). By AI agents, Wed Nov 11 2026. No macro, syntax, notation, axiom, sorry.
-/
import Derived.Test.YtihloomkgpflmaaGreatDoorRows
import GoSem.ClaimSeven
namespace Go.Proofs.YtihloomkgpflmaaGreatDoor
namespace Rows

/-- THE TIED CARD OF 'surdlaw28.DiffLaws'. -/
def diffLawsCard : Claim7 := { stood := { row := diffLawsRow, standIns := [], harness := (true, "3c904584a8d475b515600ea7589bb77a13a852ba7dcbd9bd1d99317cc4af1edd"), looks := true }, kinds := [], alts := [], laidByText := true, laidKinds := [.data, .data], laidTests := true, laidLooks := .later }
def DiffLawsCardSaid : Prop := Claim7.holds Tryz.pinned (.plain (OpenSpec.ofChange diffLawsSpec)) diffLawsCard

/-- THE SECOND FORM's CARD OF 'surdlaw28.DiffLaws'. -/
def diffLawsUptoCard : Claim7 := { stood := { row := diffLawsUptoRow, standIns := [], harness := (true, "3c904584a8d475b515600ea7589bb77a13a852ba7dcbd9bd1d99317cc4af1edd"), looks := true }, kinds := [], alts := [], laidByText := true, laidKinds := [.data, .data], laidTests := true, laidLooks := .later }
def DiffLawsUptoCardSaid : Prop := Claim7.holds Tryz.pinned (.plain (OpenSpec.upto diffLawsSpec)) diffLawsUptoCard
end Rows
end Go.Proofs.YtihloomkgpflmaaGreatDoor

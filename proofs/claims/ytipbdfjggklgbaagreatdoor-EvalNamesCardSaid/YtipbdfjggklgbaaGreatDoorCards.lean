/-
  DERIVED. GIVEN WITH THE SEED: THE CARDS: each row of YtipbdfjggklgbaaGreatDoorRows.lean that lists a variable, with what it lists TIED to the program's text (the seventh form; the later family's looks); each row that meets fmt, with fmt's text TOLD by the authors' own Lean function (tested against real Go, not proved from fmt's source: count such statements apart). THE CARD IS WHAT COUNTS. Prove the row's statement (the work); the ties are given (YtipbdfjggklgbaaGreatDoorTie.lean); close each card by the builder's one call (the guide's Derived/Test/ToyasCard.lean, 'card_holds'). Laid BY PROGRAM, IN A SANDBOX (cutbox-door.mjs). By AI agents, Wed Nov 11 2026. No macro, syntax, notation, axiom, sorry.
-/
import Derived.Test.YtipbdfjggklgbaaGreatDoorRows
import GoSem.ClaimSeven
namespace Go.Proofs.YtipbdfjggklgbaaGreatDoor
namespace Rows

/-- THE TIED CARD OF 'surdlaw23.EvalNames'. -/
def evalNamesCard : Claim7 := { stood := { row := evalNamesRow, standIns := [], harness := (true, "f62932214eb5e0965f7d77f14250f99580e81dc0bcdeb47d8f31835e1a3482fa"), looks := true }, kinds := [], alts := [], laidByText := true, laidKinds := [.data, .data], laidTests := true, laidLooks := .later }
def EvalNamesCardSaid : Prop := Claim7.holds Tryz.pinned (.plain (OpenSpec.ofChange evalNamesSpec)) evalNamesCard

/-- THE SECOND FORM's CARD OF 'surdlaw23.EvalNames'. -/
def evalNamesUptoCard : Claim7 := { stood := { row := evalNamesUptoRow, standIns := [], harness := (true, "f62932214eb5e0965f7d77f14250f99580e81dc0bcdeb47d8f31835e1a3482fa"), looks := true }, kinds := [], alts := [], laidByText := true, laidKinds := [.data, .data], laidTests := true, laidLooks := .later }
def EvalNamesUptoCardSaid : Prop := Claim7.holds Tryz.pinned (.plain (OpenSpec.upto evalNamesSpec)) evalNamesUptoCard
end Rows
end Go.Proofs.YtipbdfjggklgbaaGreatDoor

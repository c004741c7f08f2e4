/-
  THE CLOSED FACTS OF THE CARD RefineNones, EACH BY ITSELF.
-/
import Derived.Test.YtjbanjpklgpenaaGreatDoorRows
import Derived.SevenTiedAt
import Derived.KernelRfl
namespace Go.Proofs.YtjbanjpklgpenaaGreatDoor.Facts
theorem k0 : Rows.refineNonesRow.wfByText (OpenSpec.ofChange Rows.refineNonesSpec) = true := by kernel_rfl
theorem k1 : Tryz.pinned.checked.prog.mainIs = some ((true, "7fdfa4256c28e1adbef3a57cdc5f446db6bd8a658007e01d53afccf1e1c46100").1, (true, "7fdfa4256c28e1adbef3a57cdc5f446db6bd8a658007e01d53afccf1e1c46100").2.toList) := by kernel_rfl
theorem k2 : true = Tryz.pinned.checked.prog.looks [] := by kernel_rfl
theorem k3 : false = Rows.refineNonesRow.goesBy Tryz.pinned.checked.prog := by kernel_rfl
theorem k4 : Tryz.prog.funcNamed "surd/surdlaw22.RefineNones" = some 3 := by kernel_rfl
end Go.Proofs.YtjbanjpklgpenaaGreatDoor.Facts

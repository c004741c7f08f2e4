/-
  THE CLOSED FACTS OF THE CARD EvalNames, EACH BY ITSELF.
-/
import Derived.Test.YtipbdfjggklgbaaGreatDoorRows
import Derived.SevenTiedAt
import Derived.KernelRfl
namespace Go.Proofs.YtipbdfjggklgbaaGreatDoor.Facts
theorem k0 : Rows.evalNamesRow.wfByText (OpenSpec.ofChange Rows.evalNamesSpec) = true := by kernel_rfl
theorem k1 : Tryz.pinned.checked.prog.mainIs = some ((true, "f62932214eb5e0965f7d77f14250f99580e81dc0bcdeb47d8f31835e1a3482fa").1, (true, "f62932214eb5e0965f7d77f14250f99580e81dc0bcdeb47d8f31835e1a3482fa").2.toList) := by kernel_rfl
theorem k2 : true = Tryz.pinned.checked.prog.looks [] := by kernel_rfl
theorem k3 : false = Rows.evalNamesRow.goesBy Tryz.pinned.checked.prog := by kernel_rfl
theorem k4 : Tryz.prog.funcNamed "surd/surdlaw23.EvalNames" = some 3 := by kernel_rfl
end Go.Proofs.YtipbdfjggklgbaaGreatDoor.Facts

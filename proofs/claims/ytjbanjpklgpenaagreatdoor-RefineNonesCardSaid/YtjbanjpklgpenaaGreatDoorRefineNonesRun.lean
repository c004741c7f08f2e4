/-
  THE RUN OF RefineNones BY THE ABSTRACT INTERPRETER: from the tables that the row lays, it answers true.
-/
import Derived.Test.YtjbanjpklgpenaaGreatDoorRefineNonesTabs
import Derived.Test.YtjbanjpklgpenaaGreatDoorRefineNonesS1
import Derived.Test.YtjbanjpklgpenaaGreatDoorRefineNonesS2
namespace Go.Proofs.YtjbanjpklgpenaaGreatDoor
open Vm
noncomputable def soft_ext : Exts := ((((X0.add 227 subX).add 226 addX).know s1).know s2)
set_option maxRecDepth 1000000 in
theorem soft_ran : ranR Tryz.prog soft_ext 4 100000 tabs 3 [] true = true := by kernel_rfl
end Go.Proofs.YtjbanjpklgpenaaGreatDoor

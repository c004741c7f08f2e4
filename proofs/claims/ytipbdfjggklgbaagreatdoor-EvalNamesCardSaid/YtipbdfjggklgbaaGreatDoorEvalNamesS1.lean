/-
  A CALL THAT THE RUN OF EvalNames COMES TO, RUN BY ITSELF.
-/
import Derived.Test.YtipbdfjggklgbaaGreatDoorEvalNamesTabs
namespace Go.Proofs.YtipbdfjggklgbaaGreatDoor
open Vm
noncomputable def s1 : Sm := ⟨5, [.string ⟨#[49, 47, 51]⟩, .int .i64 (.ofNat 10), .slice (some ⟨1024, 0, none⟩) 1 1, .int .i64 (.ofNat 0)], 5, [(1, 1, bruijnCells), (0, 1, rowsCells), (4, 0, [.int .u64 (.ofNat 1000)])], [0, 1], .tuple #[.agg #[.int .i64 (.ofNat 4), .bool false, .slice (some ⟨172033, 0, none⟩) 1 1], .int .i64 (.ofNat 0)], [(672, 2, [.int .u64 (.ofNat 341)])], 685⟩
set_option maxRecDepth 1000000 in
theorem s1_ran : s1.ran Tryz.prog ((X0.add 183 subX).add 181 addX) 4 100000 = true := by kernel_rfl
end Go.Proofs.YtipbdfjggklgbaaGreatDoor

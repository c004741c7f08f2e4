/-
  A CALL THAT THE RUN OF EvalNames COMES TO, RUN BY ITSELF.
-/
import Derived.Test.YtipbdfjggklgbaaGreatDoorEvalNamesTabs
namespace Go.Proofs.YtipbdfjggklgbaaGreatDoor
open Vm
noncomputable def s2 : Sm := ⟨5, [.string ⟨#[49, 47, 40, 50, 45, 50, 41]⟩, .int .i64 (.ofNat 5), .slice (some ⟨199936, 0, none⟩) 1 1, .int .i64 (.ofNat 1)], 782, [(1, 1, bruijnCells), (0, 1, rowsCells), (781, 0, [.int .u64 (.ofNat 64)])], [0, 1, 672, 685, 780], .tuple #[.agg #[.int .i64 (.ofNat 2), .bool false, .slice none 0 0], .int .i64 (.ofNat 0)], [], 1422⟩
set_option maxRecDepth 1000000 in
theorem s2_ran : s2.ran Tryz.prog ((X0.add 183 subX).add 181 addX) 4 100000 = true := by kernel_rfl
end Go.Proofs.YtipbdfjggklgbaaGreatDoor

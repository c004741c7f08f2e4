/-
  A CALL THAT THE RUN OF RefineNones COMES TO, RUN BY ITSELF.
-/
import Derived.Test.YtjbanjpklgpenaaGreatDoorRefineNonesTabs
import Derived.Test.YtjbanjpklgpenaaGreatDoorRefineNonesS1
namespace Go.Proofs.YtjbanjpklgpenaaGreatDoor
open Vm
noncomputable def s2 : Sm := ⟨16, [.agg #[.int .i64 (.ofNat 6), .bool false, .slice none 0 0, .slice none 0 0, .slice (some ⟨6144, 0, none⟩) 2 2], .int .i64 (.ofNat 10), .int .i64 (.ofNat 1024)], 25, [(1, 1, bruijnCells), (0, 1, rowsCells), (23, 0, [.int .u64 (.ofNat 1)]), (22, 0, [.int .u64 (.ofNat 3)]), (20, 0, [.int .u64 (.ofNat 1)]), (19, 0, [.int .u64 (.ofNat 1)]), (24, 0, [.int .i64 (.ofNat 0), .bool false, .slice (some ⟨4864, 0, none⟩) 1 1, .slice (some ⟨5120, 0, none⟩) 1 1, .slice none 0 0, .int .i64 (.ofNat 0), .bool false, .slice (some ⟨5632, 0, none⟩) 1 1, .slice (some ⟨5888, 0, none⟩) 1 1, .slice none 0 0])], (List.range 25), .tuple #[.agg #[.bool false, .slice (some ⟨219649, 0, none⟩) 1 1], .int .i64 (.ofNat 0)], [(858, 2, [.int .u64 (.ofNat 341)])], 860⟩
set_option maxRecDepth 1000000 in
theorem s2_ran : s2.ran Tryz.prog (((X0.add 227 subX).add 226 addX).know s1) 4 100000 = true := by kernel_rfl
end Go.Proofs.YtjbanjpklgpenaaGreatDoor

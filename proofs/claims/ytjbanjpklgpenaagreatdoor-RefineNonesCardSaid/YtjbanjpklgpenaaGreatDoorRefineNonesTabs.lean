/-
  THE TABLES THAT THE ROW OF RefineNones LAYS.
-/
import Derived.Test.YtjbanjpklgpenaaGreatDoorVm7
import Derived.Test.YtjbanjpklgpenaaGreatDoorProg
import Derived.KernelRfl
namespace Go.Proofs.YtjbanjpklgpenaaGreatDoor
open Vm
/-- surd/expr.rows. -/
def rowsCells : List Value :=
 [.int .i64 (.ofNat 0), .string ⟨#[]⟩, .int .i64 (.ofNat 0),
  .int .i64 (.ofNat 1), .string ⟨#[112, 105]⟩, .int .i64 (.ofNat 0),
  .int .i64 (.ofNat 2), .string ⟨#[45]⟩, .int .i64 (.ofNat 1),
  .int .i64 (.ofNat 3), .string ⟨#[43]⟩, .int .i64 (.ofNat 2),
  .int .i64 (.ofNat 4), .string ⟨#[45]⟩, .int .i64 (.ofNat 2),
  .int .i64 (.ofNat 5), .string ⟨#[42]⟩, .int .i64 (.ofNat 2),
  .int .i64 (.ofNat 6), .string ⟨#[47]⟩, .int .i64 (.ofNat 2),
  .int .i64 (.ofNat 7), .string ⟨#[97, 98, 115]⟩, .int .i64 (.ofNat 1),
  .int .i64 (.ofNat 8), .string ⟨#[109, 105, 110]⟩, .int .i64 (.ofNat 2),
  .int .i64 (.ofNat 9), .string ⟨#[109, 97, 120]⟩, .int .i64 (.ofNat 2),
  .int .i64 (.ofNat 10), .string ⟨#[115, 113, 114, 116]⟩, .int .i64 (.ofNat 1),
  .int .i64 (.ofNat 11), .string ⟨#[101, 120, 112]⟩, .int .i64 (.ofNat 1),
  .int .i64 (.ofNat 12), .string ⟨#[108, 110]⟩, .int .i64 (.ofNat 1),
  .int .i64 (.ofNat 13), .string ⟨#[115, 105, 110]⟩, .int .i64 (.ofNat 1),
  .int .i64 (.ofNat 14), .string ⟨#[99, 111, 115]⟩, .int .i64 (.ofNat 1),
  .int .i64 (.ofNat 15), .string ⟨#[97, 116, 97, 110]⟩, .int .i64 (.ofNat 1)]
/-- math/bits.deBruijn64tab. -/
def bruijnCells : List Value :=
 [.int .u8 (.ofNat 0), .int .u8 (.ofNat 1), .int .u8 (.ofNat 56), .int .u8 (.ofNat 2), .int .u8 (.ofNat 57), .int .u8 (.ofNat 49), .int .u8 (.ofNat 28), .int .u8 (.ofNat 3),
  .int .u8 (.ofNat 61), .int .u8 (.ofNat 58), .int .u8 (.ofNat 42), .int .u8 (.ofNat 50), .int .u8 (.ofNat 38), .int .u8 (.ofNat 29), .int .u8 (.ofNat 17), .int .u8 (.ofNat 4),
  .int .u8 (.ofNat 62), .int .u8 (.ofNat 47), .int .u8 (.ofNat 59), .int .u8 (.ofNat 36), .int .u8 (.ofNat 45), .int .u8 (.ofNat 43), .int .u8 (.ofNat 51), .int .u8 (.ofNat 22),
  .int .u8 (.ofNat 53), .int .u8 (.ofNat 39), .int .u8 (.ofNat 33), .int .u8 (.ofNat 30), .int .u8 (.ofNat 24), .int .u8 (.ofNat 18), .int .u8 (.ofNat 12), .int .u8 (.ofNat 5),
  .int .u8 (.ofNat 63), .int .u8 (.ofNat 55), .int .u8 (.ofNat 48), .int .u8 (.ofNat 27), .int .u8 (.ofNat 60), .int .u8 (.ofNat 41), .int .u8 (.ofNat 37), .int .u8 (.ofNat 16),
  .int .u8 (.ofNat 46), .int .u8 (.ofNat 35), .int .u8 (.ofNat 44), .int .u8 (.ofNat 21), .int .u8 (.ofNat 52), .int .u8 (.ofNat 32), .int .u8 (.ofNat 23), .int .u8 (.ofNat 11),
  .int .u8 (.ofNat 54), .int .u8 (.ofNat 26), .int .u8 (.ofNat 40), .int .u8 (.ofNat 15), .int .u8 (.ofNat 34), .int .u8 (.ofNat 20), .int .u8 (.ofNat 31), .int .u8 (.ofNat 10),
  .int .u8 (.ofNat 25), .int .u8 (.ofNat 14), .int .u8 (.ofNat 19), .int .u8 (.ofNat 9), .int .u8 (.ofNat 13), .int .u8 (.ofNat 8), .int .u8 (.ofNat 7), .int .u8 (.ofNat 6)]
def tabs : List (Nat × List Value) := [(1, bruijnCells), (0, rowsCells)]
end Go.Proofs.YtjbanjpklgpenaaGreatDoor

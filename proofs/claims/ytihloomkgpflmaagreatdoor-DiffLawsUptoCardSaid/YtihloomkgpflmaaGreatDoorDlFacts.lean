/-
  THE CLOSED FACTS OF THE ROW DiffLaws (second form), EACH BY ITSELF.
-/
import Derived.Test.YtihloomkgpflmaaGreatDoorRows
import Derived.JoinedOf
import Derived.JoinedCond
import Derived.KernelRfl
set_option linter.unusedSimpArgs false
set_option linter.unusedVariables false
namespace Go.Proofs.YtihloomkgpflmaaGreatDoor.Facts
theorem and_tt {a b : Bool} (h : a = true) (g : b = true) : (a && b) = true := by rw [h, g]; rfl
theorem j1 : Rows.diffLawsUptoRow.wf (OpenSpec.ofChange (Rows.OpenSpec.upto Rows.diffLawsSpec).bare) = true := by kernel_rfl
theorem j2 : laidOutB Tryz.prog = true := by kernel_rfl
theorem j3 : mapsRowed Tryz.prog = true := by kernel_rfl
theorem j4 : (Tryz.prog.stops == []) = true := by kernel_rfl
theorem j5 : (Tryz.prog.stopKnobs == []) = true := by kernel_rfl
theorem j6 : (Rows.diffLawsUptoRow.inPlace == Tryz.prog.inPlace 3) = true := by kernel_rfl
theorem j7 : (Rows.diffLawsUptoRow.unfollowed == Tryz.prog.unfollowed 3) = true := by kernel_rfl
theorem j8 : (Rows.diffLawsUptoRow.recurses == Tryz.prog.recurses 3) = true := by kernel_rfl
theorem j9 : (Rows.diffLawsUptoRow.named == Tryz.prog.varsNamed 3) = true := by kernel_rfl
theorem j10 : (Rows.diffLawsUptoRow.plainKeys == Tryz.prog.plainKeys) = true := by kernel_rfl
theorem j11 : Tryz.prog.stopsHeard = true := by kernel_rfl
theorem j12 : Tryz.prog.mayEnter = true := by kernel_rfl
theorem j13 : (Rows.diffLawsUptoRow.lifted == Tryz.prog.liftsFinal) = true := by kernel_rfl
theorem j14 : (Tryz.prog.make == some Rows.diffLawsUptoRow.make) = true := by kernel_rfl
theorem j15 : (Rows.diffLawsUptoRow.pinned == Rows.diffLawsUptoRow.pinnedBy) = true := by kernel_rfl
theorem all : joinedFacts Tryz.prog 3 Tryz.f3 (Rows.OpenSpec.upto Rows.diffLawsSpec).bare Rows.diffLawsUptoRow = true := by
  unfold joinedFacts
  repeat' with_reducible apply and_tt
  all_goals first
    | with_reducible exact j1 | with_reducible exact j2 | with_reducible exact j3 | with_reducible exact j4 | with_reducible exact j5 | with_reducible exact j6 | with_reducible exact j7 | with_reducible exact j8
    | with_reducible exact j9 | with_reducible exact j10 | with_reducible exact j11 | with_reducible exact j12 | with_reducible exact j13 | with_reducible exact j14 | with_reducible exact j15
    | kernel_rfl
end Go.Proofs.YtihloomkgpflmaaGreatDoor.Facts

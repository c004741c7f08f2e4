/-
  THE CLOSED FACTS OF THE CARD DiffLaws (second form), EACH BY ITSELF.
-/
import Derived.Test.YtihloomkgpflmaaGreatDoorRows
import Derived.SevenTiedAt
import Derived.KernelRfl
set_option linter.unusedSimpArgs false
set_option linter.unusedVariables false
namespace Go.Proofs.YtihloomkgpflmaaGreatDoor.Facts
theorem k0 : Rows.diffLawsUptoRow.wfByText (Rows.OpenSpec.upto Rows.diffLawsSpec) = true := by kernel_rfl
theorem k1 : Tryz.pinned.checked.prog.mainIs = some ((true, "3c904584a8d475b515600ea7589bb77a13a852ba7dcbd9bd1d99317cc4af1edd").1, (true, "3c904584a8d475b515600ea7589bb77a13a852ba7dcbd9bd1d99317cc4af1edd").2.toList) := by kernel_rfl
theorem k2 : true = Tryz.pinned.checked.prog.looks [] := by kernel_rfl
theorem k4 : Tryz.prog.funcNamed "surd/surdlaw28.DiffLaws" = some 3 := by kernel_rfl
/-- No function of the whole translation starts a goroutine: nothing need be known of what the law reaches. -/
theorem no_go : Tryz.prog.funcs.any Func.goes = false := by kernel_rfl
theorem goes_none (P : Program) (h : P.funcs.any Func.goes = false) (f : FuncId) : P.goes f = false := by
  unfold Program.goes
  rw [h, Bool.and_false, Bool.or_false]
  rw [Array.any_eq_false] at h
  rw [List.any_eq_false]
  intro g _ hg
  cases hf : P.funcs[g]? with
  | none => rw [hf] at hg; simp at hg
  | some fn =>
    rw [hf] at hg
    obtain ⟨hi, he⟩ := Array.getElem?_eq_some_iff.1 hf
    subst he
    exact h g hi (by simpa using hg)
theorem k3 : false = Rows.diffLawsUptoRow.goesBy Tryz.pinned.checked.prog := by
  have hs : Rows.diffLawsUptoRow.start = .entering := rfl
  show false = Program.goesAt Tryz.prog Rows.diffLawsUptoRow.start Rows.diffLawsUptoRow.func
  rw [hs]
  unfold Program.goesAt Program.goesFrom
  cases Tryz.prog.funcNamed Rows.diffLawsUptoRow.func with
  | none => rfl
  | some f => simp [goes_none Tryz.prog no_go f]
end Go.Proofs.YtihloomkgpflmaaGreatDoor.Facts

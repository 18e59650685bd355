/-
  FileChanges: what the row's cells say is what the program's text says.
-/
import Derived.Test.YtdifgaapdnbliaaGreatDoorR23
set_option linter.unusedSimpArgs false
set_option linter.unusedVariables false
set_option linter.unusedSectionVars false
namespace Go.Proofs.YtdifgaapdnbliaaGreatDoor.fileChanges
open Go Ab Go.RowKit
theorem c10 : (Rows.fileChangesRow.inPlace == Tryz.prog.inPlace 13) = true := by kernel_rfl
theorem c11 : (Rows.fileChangesRow.unfollowed == Tryz.prog.unfollowed 13) = true := by kernel_rfl
theorem c12 : (Rows.fileChangesRow.recurses == Tryz.prog.recurses 13) = true := by kernel_rfl
theorem c13 : (Rows.fileChangesRow.named == Tryz.prog.varsNamed 13) = true := by kernel_rfl
theorem c5 : namedTie Tryz.prog Rows.fileChangesRow.named Rows.fileChangesSpec.vars = true := by kernel_rfl
theorem c2 : laidOutB Tryz.prog = true := by kernel_rfl
theorem c3 : mapsRowed Tryz.prog = true := by kernel_rfl
theorem c23 : (Rows.fileChangesRow.plainKeys == Tryz.prog.plainKeys) = true := by kernel_rfl
theorem c27 : (Rows.fileChangesRow.lifted == Tryz.prog.liftsFinal) = true := by kernel_rfl
theorem c28 : (Tryz.prog.make == some Rows.fileChangesRow.make) = true := by kernel_rfl
theorem facts : joinedFacts Tryz.prog 13 Tryz.f13 Rows.fileChangesSpec Rows.fileChangesRow = true := by
  unfold joinedFacts
  rw [c10, c11, c12, c13, c5, c2, c3, c23, c27, c28]
  kernel_rfl
end Go.Proofs.YtdifgaapdnbliaaGreatDoor.fileChanges

/-
  FileComposed: what the row's cells say is what the program's text says.
-/
import Derived.Test.YtdifgaapdnbliaaGreatDoorL20
set_option linter.unusedSimpArgs false
set_option linter.unusedVariables false
set_option linter.unusedSectionVars false
namespace Go.Proofs.YtdifgaapdnbliaaGreatDoor.fileComposed
open Go Ab Go.RowKit
theorem c10 : (Rows.fileComposedRow.inPlace == Tryz.prog.inPlace 12) = true := by kernel_rfl
theorem c11 : (Rows.fileComposedRow.unfollowed == Tryz.prog.unfollowed 12) = true := by kernel_rfl
theorem c12 : (Rows.fileComposedRow.recurses == Tryz.prog.recurses 12) = true := by kernel_rfl
theorem c13 : (Rows.fileComposedRow.named == Tryz.prog.varsNamed 12) = true := by kernel_rfl
theorem c5 : namedTie Tryz.prog Rows.fileComposedRow.named Rows.fileComposedSpec.vars = true := by kernel_rfl
theorem c2 : laidOutB Tryz.prog = true := by kernel_rfl
theorem c3 : mapsRowed Tryz.prog = true := by kernel_rfl
theorem c23 : (Rows.fileComposedRow.plainKeys == Tryz.prog.plainKeys) = true := by kernel_rfl
theorem c27 : (Rows.fileComposedRow.lifted == Tryz.prog.liftsFinal) = true := by kernel_rfl
theorem c28 : (Tryz.prog.make == some Rows.fileComposedRow.make) = true := by kernel_rfl
theorem facts : joinedFacts Tryz.prog 12 Tryz.f12 Rows.fileComposedSpec Rows.fileComposedRow = true := by
  unfold joinedFacts
  rw [c10, c11, c12, c13, c5, c2, c3, c23, c27, c28]
  kernel_rfl
end Go.Proofs.YtdifgaapdnbliaaGreatDoor.fileComposed

/-
  FileTold: what the row's cells say is what the program's text says.
-/
import Derived.Test.YtdifgaapdnbliaaGreatDoorH31
set_option linter.unusedSimpArgs false
set_option linter.unusedVariables false
set_option linter.unusedSectionVars false
namespace Go.Proofs.YtdifgaapdnbliaaGreatDoor.fileTold
open Go Ab Go.RowKit
theorem c10 : (Rows.fileToldRow.inPlace == Tryz.prog.inPlace 8) = true := by kernel_rfl
theorem c11 : (Rows.fileToldRow.unfollowed == Tryz.prog.unfollowed 8) = true := by kernel_rfl
theorem c12 : (Rows.fileToldRow.recurses == Tryz.prog.recurses 8) = true := by kernel_rfl
theorem c13 : (Rows.fileToldRow.named == Tryz.prog.varsNamed 8) = true := by kernel_rfl
theorem c5 : namedTie Tryz.prog Rows.fileToldRow.named Rows.fileToldSpec.vars = true := by kernel_rfl
theorem c2 : laidOutB Tryz.prog = true := by kernel_rfl
theorem c3 : mapsRowed Tryz.prog = true := by kernel_rfl
theorem c23 : (Rows.fileToldRow.plainKeys == Tryz.prog.plainKeys) = true := by kernel_rfl
theorem c27 : (Rows.fileToldRow.lifted == Tryz.prog.liftsFinal) = true := by kernel_rfl
theorem c28 : (Tryz.prog.make == some Rows.fileToldRow.make) = true := by kernel_rfl
theorem facts : joinedFacts Tryz.prog 8 Tryz.f8 Rows.fileToldSpec Rows.fileToldRow = true := by
  unfold joinedFacts
  rw [c10, c11, c12, c13, c5, c2, c3, c23, c27, c28]
  kernel_rfl
end Go.Proofs.YtdifgaapdnbliaaGreatDoor.fileTold

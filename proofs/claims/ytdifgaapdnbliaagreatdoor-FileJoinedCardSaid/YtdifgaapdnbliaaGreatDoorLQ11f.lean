/-
  FileJoined: what the row's cells say is what the program's text says.
-/
import Derived.Test.YtdifgaapdnbliaaGreatDoorL20
set_option linter.unusedSimpArgs false
set_option linter.unusedVariables false
set_option linter.unusedSectionVars false
namespace Go.Proofs.YtdifgaapdnbliaaGreatDoor.fileJoined
open Go Ab Go.RowKit
theorem c10 : (Rows.fileJoinedRow.inPlace == Tryz.prog.inPlace 11) = true := by kernel_rfl
theorem c11 : (Rows.fileJoinedRow.unfollowed == Tryz.prog.unfollowed 11) = true := by kernel_rfl
theorem c12 : (Rows.fileJoinedRow.recurses == Tryz.prog.recurses 11) = true := by kernel_rfl
theorem c13 : (Rows.fileJoinedRow.named == Tryz.prog.varsNamed 11) = true := by kernel_rfl
theorem c5 : namedTie Tryz.prog Rows.fileJoinedRow.named Rows.fileJoinedSpec.vars = true := by kernel_rfl
theorem c2 : laidOutB Tryz.prog = true := by kernel_rfl
theorem c3 : mapsRowed Tryz.prog = true := by kernel_rfl
theorem c23 : (Rows.fileJoinedRow.plainKeys == Tryz.prog.plainKeys) = true := by kernel_rfl
theorem c27 : (Rows.fileJoinedRow.lifted == Tryz.prog.liftsFinal) = true := by kernel_rfl
theorem c28 : (Tryz.prog.make == some Rows.fileJoinedRow.make) = true := by kernel_rfl
theorem facts : joinedFacts Tryz.prog 11 Tryz.f11 Rows.fileJoinedSpec Rows.fileJoinedRow = true := by
  unfold joinedFacts
  rw [c10, c11, c12, c13, c5, c2, c3, c23, c27, c28]
  kernel_rfl
end Go.Proofs.YtdifgaapdnbliaaGreatDoor.fileJoined

/-
  FileRecords: what the row's cells say is what the program's text says.
-/
import Derived.Test.YtdifgaapdnbliaaGreatDoorP26
set_option linter.unusedSimpArgs false
set_option linter.unusedVariables false
set_option linter.unusedSectionVars false
namespace Go.Proofs.YtdifgaapdnbliaaGreatDoor.fileRecords
open Go Ab Go.RowKit
theorem c10 : (Rows.fileRecordsRow.inPlace == Tryz.prog.inPlace 10) = true := by kernel_rfl
theorem c11 : (Rows.fileRecordsRow.unfollowed == Tryz.prog.unfollowed 10) = true := by kernel_rfl
theorem c12 : (Rows.fileRecordsRow.recurses == Tryz.prog.recurses 10) = true := by kernel_rfl
theorem c13 : (Rows.fileRecordsRow.named == Tryz.prog.varsNamed 10) = true := by kernel_rfl
theorem c5 : namedTie Tryz.prog Rows.fileRecordsRow.named Rows.fileRecordsSpec.vars = true := by kernel_rfl
theorem c2 : laidOutB Tryz.prog = true := by kernel_rfl
theorem c3 : mapsRowed Tryz.prog = true := by kernel_rfl
theorem c23 : (Rows.fileRecordsRow.plainKeys == Tryz.prog.plainKeys) = true := by kernel_rfl
theorem c27 : (Rows.fileRecordsRow.lifted == Tryz.prog.liftsFinal) = true := by kernel_rfl
theorem c28 : (Tryz.prog.make == some Rows.fileRecordsRow.make) = true := by kernel_rfl
theorem facts : joinedFacts Tryz.prog 10 Tryz.f10 Rows.fileRecordsSpec Rows.fileRecordsRow = true := by
  unfold joinedFacts
  rw [c10, c11, c12, c13, c5, c2, c3, c23, c27, c28]
  kernel_rfl
end Go.Proofs.YtdifgaapdnbliaaGreatDoor.fileRecords

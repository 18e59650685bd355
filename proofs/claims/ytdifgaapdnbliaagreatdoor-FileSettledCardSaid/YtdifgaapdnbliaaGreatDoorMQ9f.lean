/-
  FileSettled: what the row's cells say is what the program's text says.
-/
import Derived.Test.YtdifgaapdnbliaaGreatDoorM22
set_option linter.unusedSimpArgs false
set_option linter.unusedVariables false
set_option linter.unusedSectionVars false
namespace Go.Proofs.YtdifgaapdnbliaaGreatDoor.fileSettled
open Go Ab Go.RowKit
theorem c10 : (Rows.fileSettledRow.inPlace == Tryz.prog.inPlace 9) = true := by kernel_rfl
theorem c11 : (Rows.fileSettledRow.unfollowed == Tryz.prog.unfollowed 9) = true := by kernel_rfl
theorem c12 : (Rows.fileSettledRow.recurses == Tryz.prog.recurses 9) = true := by kernel_rfl
theorem c13 : (Rows.fileSettledRow.named == Tryz.prog.varsNamed 9) = true := by kernel_rfl
theorem c5 : namedTie Tryz.prog Rows.fileSettledRow.named Rows.fileSettledSpec.vars = true := by kernel_rfl
theorem c2 : laidOutB Tryz.prog = true := by kernel_rfl
theorem c3 : mapsRowed Tryz.prog = true := by kernel_rfl
theorem c23 : (Rows.fileSettledRow.plainKeys == Tryz.prog.plainKeys) = true := by kernel_rfl
theorem c27 : (Rows.fileSettledRow.lifted == Tryz.prog.liftsFinal) = true := by kernel_rfl
theorem c28 : (Tryz.prog.make == some Rows.fileSettledRow.make) = true := by kernel_rfl
theorem facts : joinedFacts Tryz.prog 9 Tryz.f9 Rows.fileSettledSpec Rows.fileSettledRow = true := by
  unfold joinedFacts
  rw [c10, c11, c12, c13, c5, c2, c3, c23, c27, c28]
  kernel_rfl
end Go.Proofs.YtdifgaapdnbliaaGreatDoor.fileSettled

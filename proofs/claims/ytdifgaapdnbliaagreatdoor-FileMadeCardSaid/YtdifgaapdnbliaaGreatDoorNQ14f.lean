/-
  FileMade: what the row's cells say is what the program's text says.
-/
import Derived.Test.YtdifgaapdnbliaaGreatDoorN20
set_option linter.unusedSimpArgs false
set_option linter.unusedVariables false
set_option linter.unusedSectionVars false
namespace Go.Proofs.YtdifgaapdnbliaaGreatDoor.fileMade
open Go Ab Go.RowKit
theorem c10 : (Rows.fileMadeRow.inPlace == Tryz.prog.inPlace 14) = true := by kernel_rfl
theorem c11 : (Rows.fileMadeRow.unfollowed == Tryz.prog.unfollowed 14) = true := by kernel_rfl
theorem c12 : (Rows.fileMadeRow.recurses == Tryz.prog.recurses 14) = true := by kernel_rfl
theorem c13 : (Rows.fileMadeRow.named == Tryz.prog.varsNamed 14) = true := by kernel_rfl
theorem c5 : namedTie Tryz.prog Rows.fileMadeRow.named Rows.fileMadeSpec.vars = true := by kernel_rfl
theorem c2 : laidOutB Tryz.prog = true := by kernel_rfl
theorem c3 : mapsRowed Tryz.prog = true := by kernel_rfl
theorem c23 : (Rows.fileMadeRow.plainKeys == Tryz.prog.plainKeys) = true := by kernel_rfl
theorem c27 : (Rows.fileMadeRow.lifted == Tryz.prog.liftsFinal) = true := by kernel_rfl
theorem c28 : (Tryz.prog.make == some Rows.fileMadeRow.make) = true := by kernel_rfl
theorem facts : joinedFacts Tryz.prog 14 Tryz.f14 Rows.fileMadeSpec Rows.fileMadeRow = true := by
  unfold joinedFacts
  rw [c10, c11, c12, c13, c5, c2, c3, c23, c27, c28]
  kernel_rfl
end Go.Proofs.YtdifgaapdnbliaaGreatDoor.fileMade

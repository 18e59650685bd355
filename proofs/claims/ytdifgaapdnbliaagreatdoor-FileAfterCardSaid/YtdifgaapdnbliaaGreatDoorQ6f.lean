/-
  FileAfter: what the row's cells say is what the program's text says.
-/
import Derived.Test.YtdifgaapdnbliaaGreatDoorQ1
set_option linter.unusedSimpArgs false
set_option linter.unusedVariables false
namespace Go.Proofs.YtdifgaapdnbliaaGreatDoor.fileAfter
open Go Ab Go.RowKit
theorem c10 : (Rows.fileAfterRow.inPlace == Tryz.prog.inPlace 6) = true := by kernel_rfl
theorem c11 : (Rows.fileAfterRow.unfollowed == Tryz.prog.unfollowed 6) = true := by kernel_rfl
theorem c12 : (Rows.fileAfterRow.recurses == Tryz.prog.recurses 6) = true := by kernel_rfl
theorem c13 : (Rows.fileAfterRow.named == Tryz.prog.varsNamed 6) = true := by kernel_rfl
theorem c5 : namedTie Tryz.prog Rows.fileAfterRow.named Rows.fileAfterSpec.vars = true := by kernel_rfl
theorem c2 : laidOutB Tryz.prog = true := by kernel_rfl
theorem c3 : mapsRowed Tryz.prog = true := by kernel_rfl
theorem c23 : (Rows.fileAfterRow.plainKeys == Tryz.prog.plainKeys) = true := by kernel_rfl
theorem c27 : (Rows.fileAfterRow.lifted == Tryz.prog.liftsFinal) = true := by kernel_rfl
theorem c28 : (Tryz.prog.make == some Rows.fileAfterRow.make) = true := by kernel_rfl
theorem facts : joinedFacts Tryz.prog 6 Tryz.f6 Rows.fileAfterSpec Rows.fileAfterRow = true := by
  unfold joinedFacts
  rw [c10, c11, c12, c13, c5, c2, c3, c23, c27, c28]
  kernel_rfl
end Go.Proofs.YtdifgaapdnbliaaGreatDoor.fileAfter

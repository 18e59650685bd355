/-
  FileTorn: what the row's cells say is what the program's text says.
-/
import Derived.Test.YtdifgaapdnbliaaGreatDoorQ1
set_option linter.unusedSimpArgs false
set_option linter.unusedVariables false
namespace Go.Proofs.YtdifgaapdnbliaaGreatDoor.fileTorn
open Go Ab Go.RowKit
theorem c10 : (Rows.fileTornRow.inPlace == Tryz.prog.inPlace 7) = true := by kernel_rfl
theorem c11 : (Rows.fileTornRow.unfollowed == Tryz.prog.unfollowed 7) = true := by kernel_rfl
theorem c12 : (Rows.fileTornRow.recurses == Tryz.prog.recurses 7) = true := by kernel_rfl
theorem c13 : (Rows.fileTornRow.named == Tryz.prog.varsNamed 7) = true := by kernel_rfl
theorem c5 : namedTie Tryz.prog Rows.fileTornRow.named Rows.fileTornSpec.vars = true := by kernel_rfl
theorem c2 : laidOutB Tryz.prog = true := by kernel_rfl
theorem c3 : mapsRowed Tryz.prog = true := by kernel_rfl
theorem c23 : (Rows.fileTornRow.plainKeys == Tryz.prog.plainKeys) = true := by kernel_rfl
theorem c27 : (Rows.fileTornRow.lifted == Tryz.prog.liftsFinal) = true := by kernel_rfl
theorem c28 : (Tryz.prog.make == some Rows.fileTornRow.make) = true := by kernel_rfl
theorem facts : joinedFacts Tryz.prog 7 Tryz.f7 Rows.fileTornSpec Rows.fileTornRow = true := by
  unfold joinedFacts
  rw [c10, c11, c12, c13, c5, c2, c3, c23, c27, c28]
  kernel_rfl
end Go.Proofs.YtdifgaapdnbliaaGreatDoor.fileTorn

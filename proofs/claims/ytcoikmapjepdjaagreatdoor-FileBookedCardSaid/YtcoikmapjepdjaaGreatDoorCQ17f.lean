/-
  FileBooked: what the row's cells say is what the program's text says.
-/
import Derived.Test.YtcoikmapjepdjaaGreatDoorC28
set_option linter.unusedSimpArgs false
set_option linter.unusedVariables false
set_option linter.unusedSectionVars false
namespace Go.Proofs.YtcoikmapjepdjaaGreatDoor.fileBooked
open Go Ab Go.RowKit
theorem c10 : (Rows.fileBookedRow.inPlace == Tryz.prog.inPlace 6) = true := by kernel_rfl
theorem c11 : (Rows.fileBookedRow.unfollowed == Tryz.prog.unfollowed 6) = true := by kernel_rfl
theorem c12 : (Rows.fileBookedRow.recurses == Tryz.prog.recurses 6) = true := by kernel_rfl
theorem c13 : (Rows.fileBookedRow.named == Tryz.prog.varsNamed 6) = true := by kernel_rfl
theorem c5 : namedTie Tryz.prog Rows.fileBookedRow.named Rows.fileBookedSpec.vars = true := by kernel_rfl
theorem c2 : laidOutB Tryz.prog = true := by kernel_rfl
theorem c3 : mapsRowed Tryz.prog = true := by kernel_rfl
theorem c23 : (Rows.fileBookedRow.plainKeys == Tryz.prog.plainKeys) = true := by kernel_rfl
theorem c27 : (Rows.fileBookedRow.lifted == Tryz.prog.liftsFinal) = true := by kernel_rfl
theorem c28 : (Tryz.prog.make == some Rows.fileBookedRow.make) = true := by kernel_rfl
theorem facts : joinedFacts Tryz.prog 6 Tryz.f6 Rows.fileBookedSpec Rows.fileBookedRow = true := by
  unfold joinedFacts
  rw [c10, c11, c12, c13, c5, c2, c3, c23, c27, c28]
  kernel_rfl
end Go.Proofs.YtcoikmapjepdjaaGreatDoor.fileBooked

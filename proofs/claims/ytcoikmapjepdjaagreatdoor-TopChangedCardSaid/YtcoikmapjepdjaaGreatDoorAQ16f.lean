/-
  TopChanged: what the row's cells say is what the program's text says.
-/
import Derived.Test.YtcoikmapjepdjaaGreatDoorA44
set_option linter.unusedSimpArgs false
set_option linter.unusedVariables false
set_option linter.unusedSectionVars false
namespace Go.Proofs.YtcoikmapjepdjaaGreatDoor.topChanged
open Go Ab Go.RowKit
theorem c10 : (Rows.topChangedRow.inPlace == Tryz.prog.inPlace 4) = true := by kernel_rfl
theorem c11 : (Rows.topChangedRow.unfollowed == Tryz.prog.unfollowed 4) = true := by kernel_rfl
theorem c12 : (Rows.topChangedRow.recurses == Tryz.prog.recurses 4) = true := by kernel_rfl
theorem c13 : (Rows.topChangedRow.named == Tryz.prog.varsNamed 4) = true := by kernel_rfl
theorem c5 : namedTie Tryz.prog Rows.topChangedRow.named Rows.topChangedSpec.vars = true := by kernel_rfl
theorem c2 : laidOutB Tryz.prog = true := by kernel_rfl
theorem c3 : mapsRowed Tryz.prog = true := by kernel_rfl
theorem c23 : (Rows.topChangedRow.plainKeys == Tryz.prog.plainKeys) = true := by kernel_rfl
theorem c27 : (Rows.topChangedRow.lifted == Tryz.prog.liftsFinal) = true := by kernel_rfl
theorem c28 : (Tryz.prog.make == some Rows.topChangedRow.make) = true := by kernel_rfl
theorem facts : joinedFacts Tryz.prog 4 Tryz.f4 Rows.topChangedSpec Rows.topChangedRow = true := by
  unfold joinedFacts
  rw [c10, c11, c12, c13, c5, c2, c3, c23, c27, c28]
  kernel_rfl
end Go.Proofs.YtcoikmapjepdjaaGreatDoor.topChanged

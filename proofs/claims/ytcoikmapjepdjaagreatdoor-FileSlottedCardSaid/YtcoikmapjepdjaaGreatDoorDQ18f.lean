/-
  FileSlotted: what the row's cells say is what the program's text says.
-/
import Derived.Test.YtcoikmapjepdjaaGreatDoorD17
set_option linter.all false
namespace Go.Proofs.YtcoikmapjepdjaaGreatDoor.fileSlotted
open Go Ab Go.RowKit
theorem c10:(Rows.fileSlottedRow.inPlace == Tryz.prog.inPlace 7)=true:=by kernel_rfl
theorem c11:(Rows.fileSlottedRow.unfollowed == Tryz.prog.unfollowed 7)=true:=by kernel_rfl
theorem c12:(Rows.fileSlottedRow.recurses == Tryz.prog.recurses 7)=true:=by kernel_rfl
theorem c13:(Rows.fileSlottedRow.named == Tryz.prog.varsNamed 7)=true:=by kernel_rfl
theorem c5:namedTie Tryz.prog Rows.fileSlottedRow.named Rows.fileSlottedSpec.vars=true:=by kernel_rfl
theorem c2:laidOutB Tryz.prog=true:=by kernel_rfl
theorem c3:mapsRowed Tryz.prog=true:=by kernel_rfl
theorem c23:(Rows.fileSlottedRow.plainKeys == Tryz.prog.plainKeys)=true:=by kernel_rfl
theorem c27:(Rows.fileSlottedRow.lifted == Tryz.prog.liftsFinal)=true:=by kernel_rfl
theorem c28:(Tryz.prog.make == some Rows.fileSlottedRow.make)=true:=by kernel_rfl
theorem facts:joinedFacts Tryz.prog 7 Tryz.f7 Rows.fileSlottedSpec Rows.fileSlottedRow=true:=by
 unfold joinedFacts
 rw [c10,c11,c12,c13,c5,c2,c3,c23,c27,c28]
 kernel_rfl
end Go.Proofs.YtcoikmapjepdjaaGreatDoor.fileSlotted

/-
  FileSmall: what the row's cells say is what the program's text says.
-/
import Derived.Test.YtdifgaapdnbliaaGreatDoorS17
set_option linter.all false
namespace Go.Proofs.YtdifgaapdnbliaaGreatDoor.fileSmall
open Go Ab Go.RowKit
theorem c10:(Rows.fileSmallRow.inPlace == Tryz.prog.inPlace 15)=true:=by kernel_rfl
theorem c11:(Rows.fileSmallRow.unfollowed == Tryz.prog.unfollowed 15)=true:=by kernel_rfl
theorem c12:(Rows.fileSmallRow.recurses == Tryz.prog.recurses 15)=true:=by kernel_rfl
theorem c13:(Rows.fileSmallRow.named == Tryz.prog.varsNamed 15)=true:=by kernel_rfl
theorem c5:namedTie Tryz.prog Rows.fileSmallRow.named Rows.fileSmallSpec.vars=true:=by kernel_rfl
theorem c2:laidOutB Tryz.prog=true:=by kernel_rfl
theorem c3:mapsRowed Tryz.prog=true:=by kernel_rfl
theorem c23:(Rows.fileSmallRow.plainKeys == Tryz.prog.plainKeys)=true:=by kernel_rfl
theorem c27:(Rows.fileSmallRow.lifted == Tryz.prog.liftsFinal)=true:=by kernel_rfl
theorem c28:(Tryz.prog.make == some Rows.fileSmallRow.make)=true:=by kernel_rfl
theorem facts:joinedFacts Tryz.prog 15 Tryz.f15 Rows.fileSmallSpec Rows.fileSmallRow=true:=by
 unfold joinedFacts
 rw [c10,c11,c12,c13,c5,c2,c3,c23,c27,c28]
 kernel_rfl
end Go.Proofs.YtdifgaapdnbliaaGreatDoor.fileSmall

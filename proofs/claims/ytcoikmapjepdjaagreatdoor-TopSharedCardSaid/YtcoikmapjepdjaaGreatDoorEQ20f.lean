/-
  TopShared: what the row's cells say is what the program's text says.
-/
import Derived.Test.YtcoikmapjepdjaaGreatDoorE15
set_option linter.all false
namespace Go.Proofs.YtcoikmapjepdjaaGreatDoor.topShared
open Go Ab Go.RowKit
theorem c10:(Rows.topSharedRow.inPlace == Tryz.prog.inPlace 3)=true:=by kernel_rfl
theorem c11:(Rows.topSharedRow.unfollowed == Tryz.prog.unfollowed 3)=true:=by kernel_rfl
theorem c12:(Rows.topSharedRow.recurses == Tryz.prog.recurses 3)=true:=by kernel_rfl
theorem c13:(Rows.topSharedRow.named == Tryz.prog.varsNamed 3)=true:=by kernel_rfl
theorem c5:namedTie Tryz.prog Rows.topSharedRow.named Rows.topSharedSpec.vars=true:=by kernel_rfl
theorem c2:laidOutB Tryz.prog=true:=by kernel_rfl
theorem c3:mapsRowed Tryz.prog=true:=by kernel_rfl
theorem c23:(Rows.topSharedRow.plainKeys == Tryz.prog.plainKeys)=true:=by kernel_rfl
theorem c27:(Rows.topSharedRow.lifted == Tryz.prog.liftsFinal)=true:=by kernel_rfl
theorem c28:(Tryz.prog.make == some Rows.topSharedRow.make)=true:=by kernel_rfl
theorem facts:joinedFacts Tryz.prog 3 Tryz.f3 Rows.topSharedSpec Rows.topSharedRow=true:=by
 unfold joinedFacts
 rw [c10,c11,c12,c13,c5,c2,c3,c23,c27,c28]
 kernel_rfl
end Go.Proofs.YtcoikmapjepdjaaGreatDoor.topShared

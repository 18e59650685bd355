/-
  TopThrice: what the row's cells say is what the program's text says.
-/
import Derived.Test.YtcoikmapjepdjaaGreatDoorO22
set_option linter.all false
namespace Go.Proofs.YtcoikmapjepdjaaGreatDoor.topThrice
open Go Ab Go.RowKit
theorem c10:(Rows.topThriceRow.inPlace == Tryz.prog.inPlace 5)=true:=by kernel_rfl
theorem c11:(Rows.topThriceRow.unfollowed == Tryz.prog.unfollowed 5)=true:=by kernel_rfl
theorem c12:(Rows.topThriceRow.recurses == Tryz.prog.recurses 5)=true:=by kernel_rfl
theorem c13:(Rows.topThriceRow.named == Tryz.prog.varsNamed 5)=true:=by kernel_rfl
theorem c5:namedTie Tryz.prog Rows.topThriceRow.named Rows.topThriceSpec.vars=true:=by kernel_rfl
theorem c2:laidOutB Tryz.prog=true:=by kernel_rfl
theorem c3:mapsRowed Tryz.prog=true:=by kernel_rfl
theorem c23:(Rows.topThriceRow.plainKeys == Tryz.prog.plainKeys)=true:=by kernel_rfl
theorem c27:(Rows.topThriceRow.lifted == Tryz.prog.liftsFinal)=true:=by kernel_rfl
theorem c28:(Tryz.prog.make == some Rows.topThriceRow.make)=true:=by kernel_rfl
theorem facts:joinedFacts Tryz.prog 5 Tryz.f5 Rows.topThriceSpec Rows.topThriceRow=true:=by
 unfold joinedFacts
 rw [c10,c11,c12,c13,c5,c2,c3,c23,c27,c28]
 kernel_rfl
end Go.Proofs.YtcoikmapjepdjaaGreatDoor.topThrice

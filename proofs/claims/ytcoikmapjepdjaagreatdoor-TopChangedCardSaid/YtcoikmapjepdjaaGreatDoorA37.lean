/-
  THE WALK CUT: what holds behind a piece of code is said once, and the rest is walked once, however many ways lead there.
  CHANGES THAT DO TWO LISTS: the reference.
-/
import Derived.Test.YtcoikmapjepdjaaGreatDoorA06
import Derived.Test.YtcoikmapjepdjaaGreatDoorA29
import Derived.Test.YtcoikmapjepdjaaGreatDoorA30
import Derived.Test.YtcoikmapjepdjaaGreatDoorA31
set_option linter.unusedSimpArgs false
set_option linter.unusedVariables false
set_option linter.unusedSectionVars false
namespace Ab
open Go Go.RowKit
variable [Mode]
variable {P : Program}
theorem Cs.mono {b : Bool} {X Y X' Y' : Prop} (h : Cs b X Y) (hx : X → X') (hy : Y → Y') : Cs b X' Y' := ⟨fun e => hx (h.1 e), fun e => hy (h.2 e)⟩
end Ab
namespace Oyez
/-- which change is that of a place -/
def idxC : List Chg → Place → Option Nat
  | [], _ => none
  | c :: t, p => if c.place = p then some 0 else (idxC t p).map (· + 1)
end Oyez
namespace Ab
open Go Go.RowKit Go.Proofs
attribute [local irreducible] aws awp aw1 Og Om Oc Oa Ogd Ov Ot awd aw1d awh aw1h Ogh Ohd awl Ogl Ohl awv Ogv Ohv QThen QBlock QFn QFnM QRo QBe ACode AYield
theorem chgErr_good {c : Oyez.Chg} (h : Oyez.chgErr c = 0) : ¬ badC c := by
  obtain ⟨_, _, _, h1, h2, _⟩ := Oyez.chgErr_zero h
  rintro (⟨a, b⟩ | ⟨a, b⟩)
  · exact b (h1 a)
  · exact b (h2 a)
theorem wordsErr_len {k n : Int} {ws : List (List UInt8)} (h : Oyez.wordsErr k n ws = 0) : ws.length ≤ 6 := by
  unfold Oyez.wordsErr at h
  split at h
  · cases h
  · omega
theorem chgErr_words {c : Oyez.Chg} (h : Oyez.chgErr c = 0) : c.old.length ≤ 6 ∧ c.new.length ≤ 6 := by
  obtain ⟨_, h1, h2, _⟩ := Oyez.chgErr_zero h
  exact ⟨wordsErr_len h1, wordsErr_len h2⟩
def atI (o : Option Nat) : Int := match o with
  | none => -1
  | some i => i
/-- what the reference's After gives -/
def refAfterR (x y : List Oyez.Chg) : List Oyez.Chg × Int := match Oyez.after x y with
  | .error _ => ([], 7)
  | .ok l => if 80 < l.length then ([], 2) else (l, 0)
end Ab

/-
  THE REFERENCE: are two places alike; two copies joined.
  THE REFERENCE: two copies joined.
  THE REFERENCE: two copies joined, the walk.
-/
import Derived.Test.YtdifgaapdnbliaaGreatDoorP24
import Derived.Test.YtdifgaapdnbliaaGreatDoorP27
set_option linter.unusedSimpArgs false
set_option linter.unusedVariables false
set_option linter.unusedSectionVars false
namespace Oyez
/-- the places ahead of one -/
def upTo (k n : Nat) : List Place := allPlaces.take (1000 * k + n)
/-- the join of the places ahead of one -/
def joinTo (base a b : List Rec) (second : List Bool) (k n : Nat) : Jn := (upTo k n).foldl (joinAt base a b second) ⟨[], []⟩
end Oyez
namespace Ab
open Go Go.RowKit Go.Proofs
attribute [local irreducible] aws awp aw1 Og Om Oc Oa Ogd Ov Ot awd aw1d QThen QBlock QFn QFnM ACode AYield
/-- a change -/
def chgAV (c : Oyez.Chg) : AV := .agg [.int .i64 c.kind, .int .i64 c.number, .bool c.had, .bool c.has, wordsAV c.old, wordsAV c.new]
def chgsAV (l : List Oyez.Chg) : AV := .pl 6 (l.map chgAV)
attribute [simp] chgAV chgsAV
end Ab
namespace Oyez
def putJ (J : Jn) (p : Place) (w : St) : Jn := ⟨match w with | some ws => J.out ++ [⟨p.kind, p.number, ws⟩] | none => J.out, J.conf⟩
/-- what a conflict has -/
def pickJ (second : List Bool) (i : Nat) (x y z : St) : St := match second[i]? with | none => x | some c => if c then z else y
def stepJ (x y z : St) (second : List Bool) (p : Place) (J : Jn) : Jn :=
  if y = z ∨ z = x then putJ J p y else if y = x then putJ J p z else putJ ⟨J.out, J.conf ++ [chg p y z]⟩ p (pickJ second J.conf.length x y z)
end Oyez
namespace Ab
open Go Go.RowKit Go.Proofs
attribute [local irreducible] aws awp aw1 Og Om Oc Oa Ogd Ov Ot awd aw1d QThen QBlock QFn QFnM ACode AYield
def chgCells (c : Oyez.Chg) : List AV := [.int .i64 c.kind, .int .i64 c.number, .bool c.had, .bool c.has, wordsAV c.old, wordsAV c.new]
structure JS (σ : Heap) (J : Oyez.Jn) (v1 v2 : AV) (g : Heap) : Prop where
  ex : ∃ o1 o2, Acc σ g 3 v1 (J.out.map recAV) o1 ∧ Acc σ g 6 v2 (J.conf.map chgAV) o2 ∧ ∀ j, o1 = some j → o2 = some j → False
theorem Acc.lt {σ g : Heap} {k : Nat} {v : AV} {l : List AV} {j : Nat} (h : Acc σ g k v l (some j)) : j < g.length := (List.getElem?_eq_some_iff.1 h.val.2).1
theorem Acc.keep {σ g g' : Heap} {k : Nat} {v : AV} {l : List AV} {o : Option Nat} (h : Acc σ g k v l o) (hk : ∀ j, o = some j → g'[j]? = g[j]?) : Acc σ g' k v l o := ⟨h.len, by
  have hv := h.val
  cases o with
  | none => exact hv
  | some j => exact ⟨hv.1, by rw [hk j rfl]; exact hv.2⟩⟩
theorem JS.put {σ : Heap} {J : Oyez.Jn} {v1 v2 : AV} {g : Heap} (h : JS σ J v1 v2 g) (hl : J.out.length ≤ 2 ^ 40) (r : Oyez.Rec) :
    ∃ v1' g', aappend Tryz.prog #[27, 27] v1 (.arr 3 (σ.length + g.length) 0 1) (σ ++ (g ++ [.cells (recCells r)])) = some (v1', σ ++ g') ∧ JS σ ⟨J.out ++ [r], J.conf⟩ v1' v2 g' := by
  obtain ⟨o1, o2, h1, h2, h3⟩ := h.ex
  obtain ⟨v', g', o', he, hA', hgl, hkeep, ho⟩ := h1.push (P := Tryz.prog) (t := 27) (e := 96) (ag := true) (x := recAV r) (by simp) (by simp) (by simp) (by omega) ⟨by simp [AV.cells], by simp [AV.cells, AV.one]⟩ (by simp; omega)
  refine ⟨v', g', he, ⟨o', o2, by simpa using hA', h2.keep fun j hj => ?_, fun j hj hj2 => ?_⟩⟩
  · subst hj
    exact hkeep j (fun e => h3 j e.symm rfl) h2.lt
  · subst hj2
    have hlt := h2.lt
    rcases ho with rfl | ⟨m, hm, rfl⟩
    · exact h3 j hj rfl
    · simp only [Option.some.injEq] at hj; omega
theorem JS.clash {σ : Heap} {J : Oyez.Jn} {v1 v2 : AV} {g : Heap} (h : JS σ J v1 v2 g) (hl : J.conf.length ≤ 2 ^ 40) (c : Oyez.Chg) :
    ∃ v2' g', aappend Tryz.prog #[44, 44] v2 (.arr 6 (σ.length + g.length) 0 1) (σ ++ (g ++ [.cells (chgCells c)])) = some (v2', σ ++ g') ∧ JS σ ⟨J.out, J.conf ++ [c]⟩ v1 v2' g' := by
  obtain ⟨o1, o2, h1, h2, h3⟩ := h.ex
  obtain ⟨v', g', o', he, hA', hgl, hkeep, ho⟩ := h2.push (P := Tryz.prog) (t := 44) (e := 57) (ag := true) (x := chgAV c) (by simp) (by simp) (by simp) (by omega) ⟨by simp [AV.cells], by simp [AV.cells, AV.one]⟩ (by simp; omega)
  refine ⟨v', g', he, ⟨o1, o', h1.keep fun j hj => ?_, by simpa using hA', fun j hj hj2 => ?_⟩⟩
  · subst hj
    exact hkeep j (fun e => h3 j rfl e.symm) h1.lt
  · subst hj
    have hlt := h1.lt
    rcases ho with rfl | ⟨m, hm, rfl⟩
    · exact h3 j rfl hj2
    · simp only [Option.some.injEq] at hj2; omega
theorem JS.len {σ : Heap} {J : Oyez.Jn} {v1 v2 : AV} {g : Heap} (h : JS σ J v1 v2 g) : alen Tryz.prog 44 v2 (σ ++ g) = some (.int .i64 J.conf.length) := by
  obtain ⟨o1, o2, h1, h2, h3⟩ := h.ex
  have hv := h2.val
  cases o2 with
  | none =>
    obtain ⟨rfl, hl⟩ := hv
    have : J.conf = [] := by simpa using hl
    simp [this]
  | some j =>
    obtain ⟨rfl, _⟩ := hv
    simp
end Ab
namespace Ab
open Go Go.RowKit Go.Proofs
attribute [local irreducible] aws awp aw1 Og Om Oc Oa Ogd Ov Ot awd aw1d QThen QBlock QFn QFnM ACode AYield

/-- the choices of a join: nil, or a list -/
def secAV (o : Option (List Bool)) : AV := match o with | none => .nils | some l => .pl 1 (l.map AV.bool)
end Ab

/-
  THE IMPLEMENTATION's read: what a line's rules do.
-/
import Derived.Test.YtdifgaapdnbliaaGreatDoorI6
import Derived.Test.YtdifgaapdnbliaaGreatDoorI8
import Derived.Test.YtdifgaapdnbliaaGreatDoorME
import Derived.Test.YtdifgaapdnbliaaGreatDoorR5
set_option linter.unusedSimpArgs false
set_option linter.unusedVariables false
namespace Ab
open Go Go.RowKit Go.Proofs
attribute [local irreducible] aws awp aw1 Og Om Oc Oa Ogd Ov Ot awd aw1d awh aw1h Ogh Ohd awl Ogl Ohl QThen QBlock QFn QFnM QRo QBe ACode AYield
/-- the first error stays -/
def mustH (σ : Heap) (re rw : Nat) (e : Int) (ok : Bool) (w bad : Int) : Heap := if e = 0 ∧ ok = false then (σ.set rw (.cells [.int .i64 w])).set re (.cells [.int .i64 bad]) else σ
theorem must_calls (σ : Heap) (re rw : Nat) (e w0 : Int) (h1 : σ[re]? = some (.cells [.int .i64 e])) (h2 : σ[rw]? = some (.cells [.int .i64 w0])) (hne : ¬ rw = re) (ok : Bool) (w bad : Int) :
    ACalls Tryz.prog 145 [.bool ok, .int .i64 w, .int .i64 bad, .ptr re 0, .ptr rw 0] σ (fun v σ' => v = .tup [] ∧ σ' = mustH σ re rw e ok w bad) := by
  unfold mustH
  refine acalls_fn Tryz.func145 rfl (enters_fn Tryz.func145 (by decide) rfl) ?_
  by_cases he : e = 0
  · subst he
    cases ok with
    | false =>
      have h3 : (σ.set rw (.cells [.int .i64 w]))[re]? = some (.cells [.int .i64 0]) := by rw [List.getElem?_set_ne hne]; exact h1
      simp [Tryz.ntmps145, h1, h2, h3]
    | true => simp [Tryz.ntmps145, h1, h2]
  · simp [Tryz.ntmps145, h1, h2, he]
/-- the place of a word in a list -/
def idxOf (w : List UInt8) : List (List UInt8) → Nat → Int
  | [], _ => -1
  | x :: t, i => if w = x then i else idxOf w t (i + 1)
theorem index_calls (ws : List (List UInt8)) (w : List UInt8) (hl : ws.length ≤ 2 ^ 40) : APure Tryz.prog 148 [wordsAV ws, .str w] (.int .i64 (idxOf w ws 0)) := by
  intro σ
  refine acalls_fn Tryz.func148 rfl (enters_fn Tryz.func148 (by decide) rfl) ?_
  generalize hX : idxOf w ws 0 = X
  simp [Tryz.ntmps148]
  refine ACode_loopT (fun env σ' => ∃ (u : List AV) (i : Nat), env = { t := u } ∧ u.length = 19 ∧ tg u 0 = wordsAV ws ∧ tg u 1 = .str w ∧ tg u 7 = .int .i64 ws.length ∧ tg u 8 = .int .i64 i ∧ σ' = σ ∧ i ≤ ws.length ∧ idxOf w (ws.drop i) i = X)
    (fun env _ => match tg env.t 8 with | .int _ i => ws.length - i.toNat | _ => 0) ⟨_, 0, rfl, by simp, by simp, by simp, by simp, by simp, rfl, by omega, hX⟩ ?_
  rintro env σ' ⟨u, i, rfl, hl, g0, g1, g7, g8, rfl, hi, hd⟩
  rcases Nat.lt_or_ge i ws.length with hlt | hge
  · have hlt' : (i : Int) < (ws.length : Int) := by omega
    rw [List.drop_eq_getElem_cons hlt, idxOf] at hd
    by_cases hw : w = ws[i]
    · rw [if_pos hw] at hd
      subst hd
      simp [hl, g0, g1, g7, g8, hlt', hlt, ← hw]
    · rw [if_neg hw] at hd
      have hw1 := w64 (n := (i : Int) + 1) (by omega) (by omega)
      simp [hl, g0, g1, g7, g8, hlt', hlt, hw, hw1]
      exact ⟨⟨i + 1, by simp, by omega, hd⟩, by omega⟩
  · have hge' : ¬ (i : Int) < (ws.length : Int) := by omega
    rw [List.drop_eq_nil_of_le hge, idxOf] at hd
    subst hd
    simp [hl, g0, g1, g7, g8, hge']
theorem idx_names (w : List UInt8) : idxOf w nameList 0 = kindInt w := by
  unfold kindInt Oyez.kindOf
  simp only [nameList, idxOf]
  split
  · rfl
  · split
    · rfl
    · split
      · rfl
      · split
        · rfl
        · split <;> rfl
theorem rule1_calls (σ : Heap) (r : Nat) (k n : Int) (x : AV) (hx : x.one = true) (h : σ[r]? = some (.cells [.int .i64 k, .int .i64 n, x])) (w : List UInt8) :
    ACalls Tryz.prog 147 [.str w, .ptr r 0] σ (fun v σ' => v = .bool (decide (0 ≤ kindInt w)) ∧ σ' = σ.set r (.cells [.int .i64 (kindInt w), .int .i64 n, x])) := by
  refine acalls_fn Tryz.func147 rfl (enters_fn Tryz.func147 (by decide) rfl) ?_
  have hN : APure Tryz.prog 149 [] (wordsAV nameList) := names_calls
  have hi := index_calls nameList w (by decide)
  rw [idx_names] at hi
  generalize nameList = L at hN hi
  simp [Tryz.ntmps147]
  refine hN.use ?_
  simp
  refine hi.use ?_
  have hlt := (List.getElem?_eq_some_iff.1 h).1
  have hs : ∀ v, (σ.set r v)[r]? = some v := fun v => List.getElem?_set_self hlt
  simp [h, hs]
theorem rule2_calls (σ : Heap) (r : Nat) (k n : Int) (x : AV) (hx : x.one = true) (h : σ[r]? = some (.cells [.int .i64 k, .int .i64 n, x])) (w : List UInt8) (hw : w.length ≤ 2 ^ 40) :
    ACalls Tryz.prog 150 [.str w, .ptr r 0] σ (fun v σ' => v = .bool (numOk w 999) ∧ σ' = σ.set r (.cells [.int .i64 k, .int .i64 (numVal w), x])) := by
  refine acalls_fn Tryz.func150 rfl (enters_fn Tryz.func150 (by decide) rfl) ?_
  simp [Tryz.ntmps150]
  refine (number_calls w 999 hw (by decide)).use ?_
  have hlt := (List.getElem?_eq_some_iff.1 h).1
  have hs : ∀ v, (σ.set r v)[r]? = some v := fun v => List.getElem?_set_self hlt
  simp [h, hs]
end Ab

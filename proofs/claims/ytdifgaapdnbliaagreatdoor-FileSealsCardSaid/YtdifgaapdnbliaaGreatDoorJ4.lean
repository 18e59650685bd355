/-
  SEALS: the law's function answers true for every text.
-/
import Derived.Test.YtdifgaapdnbliaaGreatDoorJ3
import Derived.Test.YtdifgaapdnbliaaGreatDoorR9
import Derived.Test.YtdifgaapdnbliaaGreatDoorMF
set_option linter.unusedSimpArgs false
set_option linter.unusedVariables false
namespace Ab
open Go Go.RowKit Go.Proofs
attribute [local irreducible] aws awp aw1 Og Om Oc Oa Ogd Ov Ot awd aw1d awh aw1h Ogh Ohd awl Ogl Ohl awv Ogv Ohv QThen QBlock QFn QFnM QRo QBe ACode AYield
theorem mendI_eq (s : List UInt8) : (mendI s).1 = (Oyez.mendOf s).1 ∧ (mendI s).2.1 = ((Oyez.mendOf s).2.1 : Int) ∧ (mendI s).2.2 = (Oyez.mendOf s).2.2 := by
  unfold mendI
  cases h : Oyez.openedOf s with
  | error e =>
    have he := Oyez.openedOf_err h
    have ho : Oyez.openOf s = ([], e) := by unfold Oyez.openOf; rw [h]
    have hm : Oyez.mendOf s = ([], 0, e) := by
      unfold Oyez.mendOf
      rw [ho]
      simp only
      rw [if_neg (by omega), if_pos (by omega)]
    rw [hm]
    exact ⟨rfl, rfl, rfl⟩
  | ok x =>
    obtain ⟨b, m, n⟩ := x
    simp only
    by_cases hs : Oyez.sums b = (m, n)
    · rw [if_pos hs]
      have ho : Oyez.openOf s = (b, 0) := by unfold Oyez.openOf; rw [h]; simp only; rw [if_pos hs]
      have hm : Oyez.mendOf s = ([], 0, 5) := by
        unfold Oyez.mendOf
        rw [ho]
        simp
      rw [hm]
      exact ⟨rfl, rfl, rfl⟩
    · rw [if_neg hs, Oyez.mendOf_eq h hs]
      exact ⟨rfl, rfl, rfl⟩
theorem seals_calls (s : List UInt8) : APure Tryz.prog 4 [.str s] (.bool true) := by
  intro σ
  refine acalls_fn Tryz.func4 rfl (enters_fn Tryz.func4 (by decide) rfl) ?_
  simp [Tryz.ntmps4]
  refine (seal_calls s).use ?_
  simp
  refine (refSeal_calls s).use ?_
  simp
  refine (iopen_calls s).use ?_
  simp
  refine (refOpen_calls s).use ?_
  have hm := mendI_eq s
  have hI : openAV (Oyez.openedOf s) = .tup [.str (match Oyez.openedOf s with | .error e => [] | .ok (b, _, _) => b), .int .i64 (openI s).2] := by
    unfold openI openAV
    cases Oyez.openedOf s with
    | error e => rfl
    | ok x =>
      obtain ⟨b, m, n⟩ := x
      simp only
      by_cases hs : Oyez.sums b = (m, n)
      · rw [if_pos hs]; simp [hs]
      · rw [if_neg hs]; simp [hs]
  have hb : (openI s).1 = if (openI s).2 = 0 then (match Oyez.openedOf s with | .error e => [] | .ok (b, _, _) => b) else [] := by
    unfold openI
    cases h : Oyez.openedOf s with
    | error e => have := Oyez.openedOf_err h; simp
    | ok x =>
      obtain ⟨b, m, n⟩ := x
      simp only
      by_cases hs : Oyez.sums b = (m, n)
      · rw [if_pos hs]; simp
      · rw [if_neg hs]; simp
  rw [hI]
  generalize (match Oyez.openedOf s with | .error e => [] | .ok (b, _, _) => b) = B at hb
  generalize (openI s).1 = a at hb
  generalize (openI s).2 = e at hb
  have am := imend_calls s
  have bm := refMend_calls s
  rw [hm.1, hm.2.1, hm.2.2] at am
  have hl : (70 : Int) < (s.length : Int) ∨ ¬ (70 : Int) < (s.length : Int) := Classical.em _
  by_cases he : e = 0
  · rw [if_pos he] at hb
    subst he
    subst hb
    simp
    rcases hl with hl | hl <;> (
      simp [hl]
      refine am.use ?_
      simp
      refine bm.use ?_
      simp
      refine awake_calls.use ?_
      simp)
  · rw [if_neg he] at hb
    subst hb
    simp [he]
    by_cases h8 : e = 8
    · subst h8
      rcases hl with hl | hl
      · simp [hl]
        refine awake_calls.use ?_
        simp
      · simp [hl]
        refine am.use ?_
        simp
        refine bm.use ?_
        simp
        refine awake_calls.use ?_
        simp
    · rcases hl with hl | hl <;> (
        simp [hl, h8]
        refine am.use ?_
        simp
        refine bm.use ?_
        simp
        refine awake_calls.use ?_
        simp)
end Ab

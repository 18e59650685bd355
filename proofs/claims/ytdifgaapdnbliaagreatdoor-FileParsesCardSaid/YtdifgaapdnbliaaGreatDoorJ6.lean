/-
  PARSES: the law's function answers true for every text.
-/
import Derived.Test.YtdifgaapdnbliaaGreatDoorJ5
set_option linter.unusedSimpArgs false
set_option linter.unusedVariables false
namespace Oyez
theorem readLine_few {own : S} {e : Bool} {n : Nat} {r : Rec} (h : readLine own e n = .ok r) : n < 40 ∧ r.words.length ≤ 6 := by
  unfold readLine at h
  split at h
  · cases h
  · split at h
    · cases h
    · split at h
      · cases h
      · split at h
        · cases h
        · split at h
          · cases h
          · split at h
            · cases h
            · split at h
              · cases h
              · split at h
                · cases h
                · split at h
                  · cases h
                  · simp only [Except.ok.injEq] at h
                    subst h
                    exact ⟨by omega, by simp only; omega⟩
theorem parseLines_few : ∀ (l : List (S × Bool)) (p : Option Place) (n : Nat), (∀ r ∈ (parseLines l p n).recs, r.words.length ≤ 6) ∧ ((parseLines l p n).recs = [] ∨ (parseLines l p n).recs.length + n ≤ 40) := by
  intro l
  induction l with
  | nil => intro p n; exact ⟨fun r hr => by simp [parseLines] at hr, .inl rfl⟩
  | cons x t ih =>
    intro p n
    obtain ⟨own, e⟩ := x
    rw [parseLines]
    split
    · exact ⟨fun r hr => by simp at hr, .inl rfl⟩
    · rename_i r hr
      have h1 := readLine_few hr
      have h2 := ih (some r.place) (n + 1)
      split
      · exact ⟨fun r hr => by simp at hr, .inl rfl⟩
      · simp only
        split
        · refine ⟨fun q hq => ?_, .inr ?_⟩
          · rcases List.mem_cons.1 hq with rfl | hq
            · exact h1.2
            · exact h2.1 q hq
          · simp only [List.length_cons]
            rcases h2.2 with h3 | h3
            · rw [h3]; simp; omega
            · omega
        · refine ⟨h2.1, ?_⟩
          rcases h2.2 with h3 | h3
          · exact .inl h3
          · exact .inr (by omega)
theorem parse_few (s : S) : (∀ r ∈ (parse s).recs, r.words.length ≤ 6) ∧ (parse s).recs.length ≤ 40 := by
  have h := parseLines_few (linesOf s) none 0
  refine ⟨h.1, ?_⟩
  rcases h.2 with h3 | h3
  · unfold parse; rw [h3]; simp
  · exact h3
end Oyez
namespace Ab
open Go Go.RowKit Go.Proofs
attribute [local irreducible] aws awp aw1 Og Om Oc Oa Ogd Ov Ot awd aw1d awh aw1h Ogh Ohd awl Ogl Ohl awv Ogv Ohv QThen QBlock QFn QFnM QRo QBe ACode AYield
theorem parses_calls (s : List UInt8) : APure Tryz.prog 3 [.str s] (.bool true) := by
  intro σ
  refine acalls_fn Tryz.func3 rfl (enters_fn Tryz.func3 (by decide) rfl) ?_
  by_cases hl : (3000 : Int) < (s.length : Int)
  · simp [Tryz.ntmps3, hl]
    refine awake_calls.use ?_
    simp
  · have h1 := parse_calls s (by omega)
    have h2 := refParse_calls s (by omega)
    have h3 := Oyez.parse_few s
    simp [Tryz.ntmps3, hl]
    refine h1.use ?_
    simp [parsedAV]
    refine h2.use ?_
    have h4 := ours_calls (Oyez.parse s).recs (by omega)
    have h5 := same_calls (Oyez.parse s).recs (Oyez.parse s).recs (by omega) fun r hr => by have := h3.1 r hr; omega
    generalize Oyez.parse s = X at h4 h5
    simp [parsedAV]
    refine h4.use ?_
    simp
    refine h5.use ?_
    simp
    refine awake_calls.use ?_
    simp
end Ab

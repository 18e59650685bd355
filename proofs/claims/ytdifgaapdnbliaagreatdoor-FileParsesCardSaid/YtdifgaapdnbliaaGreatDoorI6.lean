/-
  THE IMPLEMENTATION's Check.
-/
import Derived.Test.YtdifgaapdnbliaaGreatDoorI5
set_option linter.unusedSimpArgs false
set_option linter.unusedVariables false
namespace Ab
open Go Go.RowKit Go.Proofs
attribute [local irreducible] aws awp aw1 Og Om Oc Oa Ogd Ov Ot awd aw1d awh aw1h Ogh Ohd awl Ogl Ohl QThen QBlock QFn QFnM ACode AYield
set_option maxHeartbeats 1000000 in
set_option maxRecDepth 8000 in
theorem check_calls (f : List Oyez.Rec) (hf : Few f) : APure Tryz.prog 51 [fileAV f] (.int .i64 (Oyez.check f)) := by
  refine APure.of fun σ => ?_
  refine acalls_fn Tryz.func51 rfl (enters_fn Tryz.func51 (by decide) rfl) ?_
  by_cases h40 : 40 < f.length
  · have h40' : (40 : Int) < (f.length : Int) := by omega
    have hE : Oyez.check f = 2 := by unfold Oyez.check; rw [if_pos h40]
    simp [Tryz.ntmps51, h40', hE]
  · have h40' : ¬ (40 : Int) < (f.length : Int) := by omega
    have hE : Oyez.check f = Oyez.checkFrom none f := by unfold Oyez.check; rw [if_neg h40]
    simp [Tryz.ntmps51, h40']
    refine ACode_loopT (fun env σ' => ∃ (u : List AV) (i : Nat) (g : Heap), env = { t := u } ∧ u.length = 36 ∧ tg u 0 = fileAV f ∧ tg u 9 = fileAV f ∧ tg u 10 = .int .i64 f.length ∧ tg u 11 = .int .i64 i ∧ σ' = σ ++ g ∧ i ≤ f.length ∧ Oyez.checkFrom (prevOf f i) (f.drop i) = Oyez.check f)
      (fun env _ => match tg env.t 11 with | .int _ i => f.length - i.toNat | _ => 0) ⟨_, 0, [], rfl, by simp, by simp, by simp, by simp, by simp, by simp, by omega, by simp [prevOf, hE]⟩ ?_
    rintro env σ' ⟨u, i, g, rfl, hl, g0, g9, g10, g11, rfl, hi, hd⟩
    rcases Nat.lt_or_ge i f.length with hlt | hge
    · have hlt' : (i : Int) < (f.length : Int) := by omega
      have hdr : f.drop i = f[i] :: f.drop (i + 1) := List.drop_eq_getElem_cons hlt
      have hs := hf _ (List.getElem_mem hlt)
      rw [hdr, Oyez.checkFrom] at hd
      simp [hl, g0, g9, g10, g11, hlt', hlt]
      refine (recError_calls f[i] hs.1 hs.2).use ?_
      by_cases h0 : Oyez.recErr f[i] = 0
      · rw [if_neg (by simpa using h0)] at hd
        simp [hl, g0, g9, g10, g11, h0]
        refine ACode_draw0 mixed (by kernel_rfl) ?_
        cases i with
        | zero =>
          have hx1 : IntKind.i64.wrap 1 = 1 := w64 (by omega) (by omega)
          simp [hl, g0, g9, g10, g11, hx1]
          refine ⟨⟨1, rfl, hlt, ?_⟩, by omega⟩
          simpa [prevOf, List.getElem?_eq_getElem hlt] using hd
        | succ j =>
          have hz' : (0 : Int) < (j : Int) + 1 := by omega
          have hx := w64 (n := (j : Int)) (by omega) (by omega)
          have hx2 := w64 (n := (j : Int) + 1 + 1) (by omega) (by omega)
          have hj : j < f.length := by omega
          have hp : prevOf f (j + 1) = some f[j].place := by simp [prevOf, hj]
          rw [hp] at hd
          simp [hl, g0, g9, g10, g11, hz', hlt, hx, hj]
          refine Ou_use0 (place_calls f[j]) ?_
          refine Ou_use0 (place_calls f[j + 1]) ?_
          refine Ou_use0 (compare_calls f[j].place f[j + 1].place) ?_
          have hneg := cmpP_neg f[j].place f[j + 1].place
          generalize cmpP f[j].place f[j + 1].place = q at hneg
          cases hb : f[j].place.lt f[j + 1].place with
          | true =>
            have hq : ¬ (0 : Int) ≤ q := by have := hneg.2 hb; omega
            simp [hl, g0, g9, g10, g11, hx2, hq]
            refine ⟨⟨j + 1 + 1, by simp, hlt, ?_⟩, by omega⟩
            have hp2 : prevOf f (j + 1 + 1) = some f[j + 1].place := by simp [prevOf, hlt]
            rw [hp2, ← hd]
            simp [hb]
          | false =>
            have hq : (0 : Int) ≤ q := by
              rcases Int.lt_or_le q 0 with h | h
              · have := hneg.1 h; rw [hb] at this; cases this
              · exact h
            simp [hl, g0, g9, g10, g11, hq]
            simpa [hb] using hd
      · rw [if_pos (by simpa using h0)] at hd
        simp [hl, g0, g9, g10, g11, h0, ← hd]
    · have hge' : ¬ (i : Int) < (f.length : Int) := by omega
      rw [List.drop_eq_nil_of_le hge, Oyez.checkFrom] at hd
      simp [hl, g0, g9, g10, g11, hge', ← hd]
end Ab

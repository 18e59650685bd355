import Derived.Test.YtdifgaapdnbliaaGreatDoorR3
set_option linter.unusedSimpArgs false
set_option linter.unusedVariables false
namespace Ab
open Go Go.Proofs
attribute [local irreducible] aws awp aw1 Og Om Oc Oa Ogd Ov Ot awd aw1d QThen QBlock QFn QFnM ACode ACalls AYield
def Small (f : List Oyez.Rec) : Prop := ∀ r ∈ f, tot1 r.words ≤ 2 ^ 49 ∧ r.words.length ≤ 2 ^ 49
/-- the place ahead of number i -/
def prevOf (f : List Oyez.Rec) (i : Nat) : Option Oyez.Place := if i = 0 then none else (f[i - 1]?).map Oyez.Rec.place
set_option maxHeartbeats 4000000 in
set_option maxRecDepth 8000 in
theorem refCheck_calls (f : List Oyez.Rec) (hf : Small f) : APure Tryz.prog 30 [fileAV f] (.int .i64 (Oyez.check f)) := by
  intro σ
  refine acalls_fn Tryz.func30 rfl (enters_fn Tryz.func30 (by decide) rfl) ?_
  by_cases h40 : 40 < f.length
  · have h40' : (40 : Int) < (f.length : Int) := by omega
    have hE : Oyez.check f = 2 := by unfold Oyez.check; rw [if_pos h40]
    simp [Tryz.ntmps30, h40', hE]
  · have h40' : ¬ (40 : Int) < (f.length : Int) := by omega
    have hE : Oyez.check f = Oyez.checkFrom none f := by unfold Oyez.check; rw [if_neg h40]
    simp [Tryz.ntmps30, h40']
    refine ACode_loopT (fun env σ' => ∃ (u : List AV) (i : Nat), env = { t := u } ∧ u.length = 50 ∧ tg u 0 = fileAV f ∧ tg u 3 = .int .i64 i ∧ σ' = σ ∧ i ≤ f.length ∧ Oyez.checkFrom (prevOf f i) (f.drop i) = Oyez.check f)
      (fun env _ => match tg env.t 3 with | .int _ i => f.length - i.toNat | _ => 0) ⟨_, 0, rfl, by simp, by simp, by simp, rfl, by omega, by simp [prevOf, hE]⟩ ?_
    rintro env σ' ⟨u, i, rfl, hl, g0, g3, rfl, hi, hd⟩
    rcases Nat.lt_or_ge i f.length with hlt | hge
    · have hlt' : (i : Int) < (f.length : Int) := by omega
      have hdr : f.drop i = f[i] :: f.drop (i + 1) := List.drop_eq_getElem_cons hlt
      have hs := hf _ (List.getElem_mem hlt)
      rw [hdr, Oyez.checkFrom] at hd
      simp [hl, g0, g3, hlt', hlt]
      refine (One_calls f[i] hs.1 hs.2).use ?_
      by_cases h0 : Oyez.recErr f[i] = 0
      · rw [if_neg (by simpa using h0)] at hd
        simp [hl, g0, g3, h0]
        refine ACode_draw0 mixed (by kernel_rfl) ?_
        cases i with
        | zero =>
          have hx1 : IntKind.i64.wrap 1 = 1 := w64 (by omega) (by omega)
          simp [hl, g0, g3, hx1]
          refine ⟨⟨1, rfl, hlt, ?_⟩, by omega⟩
          simpa [prevOf, List.getElem?_eq_getElem hlt] using hd
        | succ j =>
          have hz' : (0 : Int) < (j : Int) + 1 := by omega
          have hx := w64 (n := (j : Int)) (by omega) (by omega)
          have hx2 := w64 (n := (j : Int) + 1 + 1) (by omega) (by omega)
          have hj : j < f.length := by omega
          have hj0 : (0 : Int) ≤ (j : Int) + 1 := by omega
          have hj1 : (j : Int) + 1 < (f.length : Int) := by omega
          have hp : prevOf f (j + 1) = some f[j].place := by simp [prevOf, hj]
          rw [hp] at hd
          simp [hl, g0, g3, hz', hlt, hx, hj, hj0, hj1]
          refine Ou_use (behind_calls _ _ _ _) ?_
          cases hb : f[j].place.lt f[j + 1].place with
          | true =>
            simp [hl, g0, g3, hx2, show ((⟨f[j].kind, f[j].number⟩ : Oyez.Place).lt ⟨f[j + 1].kind, f[j + 1].number⟩) = true from hb]
            refine ⟨⟨j + 1 + 1, by simp, hlt, ?_⟩, by omega⟩
            have hp2 : prevOf f (j + 1 + 1) = some f[j + 1].place := by simp [prevOf, hlt]
            rw [hp2, ← hd]
            simp [hb]
          | false =>
            simp [hl, g0, g3, show ((⟨f[j].kind, f[j].number⟩ : Oyez.Place).lt ⟨f[j + 1].kind, f[j + 1].number⟩) = false from hb]
            simpa [hb] using hd
      · rw [if_pos (by simpa using h0)] at hd
        simp [hl, g0, g3, h0, ← hd]
    · have hge' : ¬ (i : Int) < (f.length : Int) := by omega
      rw [List.drop_eq_nil_of_le hge, Oyez.checkFrom] at hd
      simp [hl, g0, g3, hge', ← hd]
end Ab

/-
  CHANGES: which are right: the reference's function.
  CHANGES: which are right: the program's functions.
-/
import Derived.Test.YtcoikmapjepdjaaGreatDoorA21
import Derived.Test.YtcoikmapjepdjaaGreatDoorA26
import Derived.Test.YtcoikmapjepdjaaGreatDoorA17
import Derived.Test.YtcoikmapjepdjaaGreatDoorA25
set_option linter.unusedSimpArgs false
set_option linter.unusedVariables false
set_option linter.unusedSectionVars false
namespace Ab
open Go Go.RowKit Go.Proofs
attribute [local irreducible] aws awp aw1 Og Om Oc Oa Ogd Ov Ot awd aw1d awh aw1h Ogh Ohd awl Ogl Ohl awv Ogv Ohv QThen QBlock QFn QFnM QRo QBe ACode AYield
/-- changes whose words are few enough to be told -/
def FewC (l : List Oyez.Chg) : Prop := ∀ c ∈ l, (tot1 c.old ≤ 2 ^ 38 ∧ c.old.length ≤ 2 ^ 38) ∧ tot1 c.new ≤ 2 ^ 38 ∧ c.new.length ≤ 2 ^ 38
/-- the place ahead of number i -/
def prevC (l : List Oyez.Chg) (i : Nat) : Option Oyez.Place := if i = 0 then none else (l[i - 1]?).map Oyez.Chg.place
/-- words where there are none to be -/
def badC (c : Oyez.Chg) : Prop := (c.had = false ∧ c.old ≠ []) ∨ (c.has = false ∧ c.new ≠ [])
theorem was_of {c : Oyez.Chg} (h : ¬ badC c) : getW c.was = c.old ∧ c.was.isSome = c.had ∧ getW c.now = c.new ∧ c.now.isSome = c.has := by
  unfold badC at h
  rw [not_or] at h
  obtain ⟨h1, h2⟩ := h
  unfold Oyez.Chg.was Oyez.Chg.now getW
  cases hh : c.had with
  | true => cases hh2 : c.has with
    | true => simp
    | false =>
      have : c.new = [] := Classical.byContradiction fun e => h2 ⟨hh2, e⟩
      simp [this]
  | false =>
    have ho : c.old = [] := Classical.byContradiction fun e => h1 ⟨hh, e⟩
    cases hh2 : c.has with
    | true => simp [ho]
    | false =>
      have : c.new = [] := Classical.byContradiction fun e => h2 ⟨hh2, e⟩
      simp [this, ho]
/-- the error of a change whose place and words are right -/
theorem chgErr_right {c : Oyez.Chg} (h1 : Oyez.placeErr c.kind c.number = 0) (h2 : Oyez.wordsErr c.kind c.number c.old = 0) (h3 : Oyez.wordsErr c.kind c.number c.new = 0) : (badC c → Oyez.chgErr c = 8) ∧ (¬ badC c → c.was = c.now → Oyez.chgErr c = 8) ∧ (¬ badC c → c.was ≠ c.now → Oyez.chgErr c = 0) := by
  have e : Oyez.chgErr c = if (!c.had && !c.old.isEmpty) || (!c.has && !c.new.isEmpty) || (c.had == c.has && decide (c.old = c.new)) then 8 else 0 := by
    unfold Oyez.chgErr
    rw [if_neg (by simp [h1]), if_neg (by simp [h2]), if_neg (by simp [h3])]
  have hw : ¬ badC c → (c.was = c.now ↔ c.had = c.has ∧ c.old = c.new) := by
    intro h
    obtain ⟨g1, g2, g3, g4⟩ := was_of h
    rw [Oyez.st_eq]
    unfold getW at g1 g3
    rw [g1, g2, g3, g4]
  rw [e]
  refine ⟨fun h => ?_, fun h h' => ?_, fun h h' => ?_⟩
  · rw [if_pos]
    rcases h with ⟨g1, g2⟩ | ⟨g1, g2⟩
    · have : c.old.isEmpty = false := by simpa using g2
      simp [g1, this]
    · have : c.new.isEmpty = false := by simpa using g2
      simp [g1, this]
  · obtain ⟨g1, g2⟩ := (hw h).1 h'
    rw [if_pos (by simp [g1, g2])]
  · rw [if_neg]
    intro hc
    simp only [Bool.or_eq_true, Bool.and_eq_true, Bool.not_eq_true', beq_iff_eq, decide_eq_true_eq] at hc
    rcases hc with (⟨g1, g2⟩ | ⟨g1, g2⟩) | ⟨g1, g2⟩
    · exact h (.inl ⟨g1, by simpa using g2⟩)
    · exact h (.inr ⟨g1, by simpa using g2⟩)
    · exact h' ((hw h).2 ⟨g1, g2⟩)
end Ab
namespace Ab
open Go Go.RowKit Go.Proofs
attribute [local irreducible] aws awp aw1 Og Om Oc Oa Ogd Ov Ot awd aw1d awh aw1h Ogh Ohd awl Ogl Ohl awv Ogv Ohv QThen QBlock QFn QFnM QRo QBe ACode AYield
theorem cplace_calls (c : Oyez.Chg) : APure Tryz.prog 95 [chgAV c] (placeAV c.place) := by
  refine APure.of fun σ => ?_
  refine acalls_fn Tryz.func95 rfl (enters_fn Tryz.func95 (by decide) rfl) ?_
  simp [Tryz.ntmps95, Oyez.Chg.place]
theorem cold_calls (c : Oyez.Chg) : APure Tryz.prog 96 [chgAV c] (.agg [.bool c.had, wordsAV c.old]) := by
  refine APure.of fun σ => ?_
  refine acalls_fn Tryz.func96 rfl (enters_fn Tryz.func96 (by decide) rfl) ?_
  simp [Tryz.ntmps96]
theorem cnow_calls (c : Oyez.Chg) : APure Tryz.prog 97 [chgAV c] (.agg [.bool c.has, wordsAV c.new]) := by
  refine APure.of fun σ => ?_
  refine acalls_fn Tryz.func97 rfl (enters_fn Tryz.func97 (by decide) rfl) ?_
  simp [Tryz.ntmps97]
theorem was_calls {c : Oyez.Chg} (h : ¬ badC c) : APure Tryz.prog 96 [chgAV c] (stAV c.was) := by
  obtain ⟨w1, w2, w3, w4⟩ := was_of h
  unfold stAV
  rw [w1, w2]
  exact cold_calls c
theorem now_calls {c : Oyez.Chg} (h : ¬ badC c) : APure Tryz.prog 97 [chgAV c] (stAV c.now) := by
  obtain ⟨w1, w2, w3, w4⟩ := was_of h
  unfold stAV
  rw [w3, w4]
  exact cnow_calls c
set_option maxHeartbeats 8000000 in
set_option maxRecDepth 8000 in
theorem cerror_calls (c : Oyez.Chg) (hs : (tot1 c.old ≤ 2 ^ 38 ∧ c.old.length ≤ 2 ^ 38) ∧ tot1 c.new ≤ 2 ^ 38 ∧ c.new.length ≤ 2 ^ 38) : APure Tryz.prog 172 [chgAV c] (.int .i64 (Oyez.chgErr c)) := by
  refine APure.of fun σ => ?_
  refine acalls_fn Tryz.func172 rfl (enters_fn Tryz.func172 (by decide) rfl) ?_
  obtain ⟨X, hX⟩ : ∃ X, Oyez.chgErr c = X := ⟨_, rfl⟩
  rw [hX]
  simp [Tryz.ntmps172]
  refine (cplace_calls c).use ?_
  simp
  refine (placeError_calls c.place).use ?_
  have hpe : Oyez.placeErr c.place.kind c.place.number = Oyez.placeErr c.kind c.number := rfl
  rw [hpe]
  by_cases h0 : Oyez.placeErr c.kind c.number = 0
  case neg =>
    have e : Oyez.chgErr c = Oyez.placeErr c.kind c.number := by unfold Oyez.chgErr; rw [if_pos (by simpa using h0)]
    rw [← hX, e]
    simp [h0]
  simp [h0]
  refine ACode_loopT (fun env σ' => ∃ (u : List AV) (i : Nat), env = { t := u } ∧ u.length = 61 ∧ tg u 1 = .ptr σ.length 0 ∧ tg u 17 = .arr 1 (σ.length + 1) 0 2 ∧ tg u 18 = .int .i64 2 ∧ tg u 19 = .int .i64 i ∧ σ' = σ ++ [.cells (chgCells c), .cells [wordsAV c.old, wordsAV c.new]] ∧ i ≤ 2 ∧ (0 < i → Oyez.wordsErr c.kind c.number c.old = 0) ∧ (1 < i → Oyez.wordsErr c.kind c.number c.new = 0))
    (fun env _ => match tg env.t 19 with | .int _ i => 2 - i.toNat | _ => 0) ⟨_, 0, rfl, by simp, by simp, by simp, by simp, by simp, by simp [chgCells], by omega, fun h => by omega, fun h => by omega⟩ ?_
  rintro env _ ⟨u, i, rfl, hl, g1, g17, g18, g19, rfl, hi, h1, h2⟩
  have w1 := w64 (n := (1 : Int)) (by omega) (by omega)
  have w2 := w64 (n := (2 : Int)) (by omega) (by omega)
  match i, hi with
  | 0, _ =>
    simp [hl, g1, g17, g18, g19, w1, w2, chgCells]
    refine (worded_calls ⟨c.kind, c.number, c.old⟩ h0 hs.1.1 hs.1.2).use ?_
    simp only
    by_cases k1 : Oyez.wordsErr c.kind c.number c.old = 0
    case neg =>
      have e : Oyez.chgErr c = Oyez.wordsErr c.kind c.number c.old := by unfold Oyez.chgErr; rw [if_neg (by simp [h0]), if_pos (by simpa using k1)]
      rw [← hX, e]
      simp [hl, g1, g17, g18, g19, w1, w2, k1, chgCells]
    simp [hl, g1, g17, g18, g19, w1, w2, k1, chgCells]
    exact ⟨1, rfl, by omega, fun h => by omega⟩
  | 1, _ =>
    have k1 := h1 (by omega)
    simp [hl, g1, g17, g18, g19, w1, w2, k1, chgCells]
    refine (worded_calls ⟨c.kind, c.number, c.new⟩ h0 hs.2.1 hs.2.2).use ?_
    simp only
    by_cases k2 : Oyez.wordsErr c.kind c.number c.new = 0
    case neg =>
      have e : Oyez.chgErr c = Oyez.wordsErr c.kind c.number c.new := by unfold Oyez.chgErr; rw [if_neg (by simp [h0]), if_neg (by simp [k1]), if_pos (by simpa using k2)]
      rw [← hX, e]
      simp [hl, g1, g17, g18, g19, w1, w2, k1, k2, chgCells]
    simp [hl, g1, g17, g18, g19, w1, w2, k1, k2, chgCells]
    exact ⟨2, rfl, by omega⟩
  | 2, _ =>
    have k1 := h1 (by omega)
    have k2 := h2 (by omega)
    obtain ⟨r1, r2, r3⟩ := chgErr_right h0 k1 k2
    simp [hl, g1, g17, g18, g19, w1, w2]
    refine ACode_draw0 mixed (by kernel_rfl) ?_
    by_cases hbad : badC c
    · rw [← hX, r1 hbad]
      rcases hbad with ⟨b1, b2⟩ | ⟨b1, b2⟩
      · have b3 : 0 < c.old.length := List.length_pos_iff.2 b2
        simp [hl, g1, g17, g18, g19, b1, b2, b3, chgCells]
      · have b3 : 0 < c.new.length := List.length_pos_iff.2 b2
        cases q1 : c.had with
        | true => simp [hl, g1, g17, g18, g19, b1, b2, b3, q1, chgCells]
        | false =>
          by_cases q2 : 0 < c.old.length
          · have q3 : c.old ≠ [] := fun e => by rw [e] at q2; simp at q2
            simp [hl, g1, g17, g18, g19, b1, b2, b3, q1, q2, q3, chgCells]
          · have q3 : c.old = [] := List.eq_nil_of_length_eq_zero (by omega)
            simp [hl, g1, g17, g18, g19, b1, b2, b3, q1, q2, q3, chgCells]
    · have hal := same113_calls c.was c.now (by rw [(was_of hbad).1]; omega)
      have hwas := was_calls hbad
      have hnow := now_calls hbad
      have r2' := r2 hbad
      have r3' := r3 hbad
      unfold badC at hbad
      rw [not_or] at hbad
      cases q1 : c.had <;> cases q2 : c.has
      · have z1 : c.old = [] := Classical.byContradiction fun e => hbad.1 ⟨q1, e⟩
        have z2 : c.new = [] := Classical.byContradiction fun e => hbad.2 ⟨q2, e⟩
        have hc : chgAV c = .agg [.int .i64 c.kind, .int .i64 c.number, .bool c.had, .bool c.has, wordsAV c.old, wordsAV c.new] := rfl
        rw [q1, q2] at hc
        try simp only [z1, z2] at hc
        rw [hc] at hwas hnow
        simp [hl, g1, g17, g18, g19, q1, q2, z1, z2, chgCells]
        refine Ou_use0 (by simpa using hwas) ?_
        refine Ou_use0 (by simpa using hnow) ?_
        refine Ou_use0 hal ?_
        by_cases hwn : c.was = c.now
        · rw [← hX, r2' hwn]
          simp [hl, g1, g17, g18, g19, q1, q2, z1, z2, hwn, chgCells]
        · rw [← hX, r3' hwn]
          simp [hl, g1, g17, g18, g19, q1, q2, z1, z2, hwn, chgCells]
      · have z1 : c.old = [] := Classical.byContradiction fun e => hbad.1 ⟨q1, e⟩
        have z2 : True := trivial
        have hc : chgAV c = .agg [.int .i64 c.kind, .int .i64 c.number, .bool c.had, .bool c.has, wordsAV c.old, wordsAV c.new] := rfl
        rw [q1, q2] at hc
        try simp only [z1, z2] at hc
        rw [hc] at hwas hnow
        simp [hl, g1, g17, g18, g19, q1, q2, z1, z2, chgCells]
        refine Ou_use0 (by simpa using hwas) ?_
        refine Ou_use0 (by simpa using hnow) ?_
        refine Ou_use0 hal ?_
        by_cases hwn : c.was = c.now
        · rw [← hX, r2' hwn]
          simp [hl, g1, g17, g18, g19, q1, q2, z1, z2, hwn, chgCells]
        · rw [← hX, r3' hwn]
          simp [hl, g1, g17, g18, g19, q1, q2, z1, z2, hwn, chgCells]
      · have z1 : True := trivial
        have z2 : c.new = [] := Classical.byContradiction fun e => hbad.2 ⟨q2, e⟩
        have hc : chgAV c = .agg [.int .i64 c.kind, .int .i64 c.number, .bool c.had, .bool c.has, wordsAV c.old, wordsAV c.new] := rfl
        rw [q1, q2] at hc
        try simp only [z1, z2] at hc
        rw [hc] at hwas hnow
        simp [hl, g1, g17, g18, g19, q1, q2, z1, z2, chgCells]
        refine Ou_use0 (by simpa using hwas) ?_
        refine Ou_use0 (by simpa using hnow) ?_
        refine Ou_use0 hal ?_
        by_cases hwn : c.was = c.now
        · rw [← hX, r2' hwn]
          simp [hl, g1, g17, g18, g19, q1, q2, z1, z2, hwn, chgCells]
        · rw [← hX, r3' hwn]
          simp [hl, g1, g17, g18, g19, q1, q2, z1, z2, hwn, chgCells]
      · have z1 : True := trivial
        have z2 : True := trivial
        have hc : chgAV c = .agg [.int .i64 c.kind, .int .i64 c.number, .bool c.had, .bool c.has, wordsAV c.old, wordsAV c.new] := rfl
        rw [q1, q2] at hc
        try simp only [z1, z2] at hc
        rw [hc] at hwas hnow
        simp [hl, g1, g17, g18, g19, q1, q2, z1, z2, chgCells]
        refine Ou_use0 (by simpa using hwas) ?_
        refine Ou_use0 (by simpa using hnow) ?_
        refine Ou_use0 hal ?_
        by_cases hwn : c.was = c.now
        · rw [← hX, r2' hwn]
          simp [hl, g1, g17, g18, g19, q1, q2, z1, z2, hwn, chgCells]
        · rw [← hX, r3' hwn]
          simp [hl, g1, g17, g18, g19, q1, q2, z1, z2, hwn, chgCells]
set_option maxHeartbeats 2000000 in
set_option maxRecDepth 8000 in
theorem checkC_calls (l : List Oyez.Chg) (hf : FewC l) : APure Tryz.prog 94 [chgsAV l] (.int .i64 (Oyez.checkChg l)) := by
  refine APure.of fun σ => ?_
  refine acalls_fn Tryz.func94 rfl (enters_fn Tryz.func94 (by decide) rfl) ?_
  obtain ⟨X, hX⟩ : ∃ X, Oyez.checkChg l = X := ⟨_, rfl⟩
  rw [hX]
  unfold Oyez.checkChg at hX
  by_cases h80 : 80 < l.length
  · have h80' : (80 : Int) < (l.length : Int) := by omega
    rw [if_pos h80] at hX
    subst hX
    simp [Tryz.ntmps94, h80']
  · have h80' : ¬ (80 : Int) < (l.length : Int) := by omega
    rw [if_neg h80] at hX
    simp [Tryz.ntmps94, h80']
    refine ACode_loopT (fun env σ' => ∃ (u : List AV) (i : Nat) (g : Heap), env = { t := u } ∧ u.length = 36 ∧ tg u 0 = chgsAV l ∧ tg u 9 = chgsAV l ∧ tg u 10 = .int .i64 l.length ∧ tg u 11 = .int .i64 i ∧ σ' = σ ++ g ∧ i ≤ l.length ∧ Oyez.checkChgFrom (prevC l i) (l.drop i) = X)
      (fun env _ => match tg env.t 11 with | .int _ i => l.length - i.toNat | _ => 0) ⟨_, 0, [], rfl, by simp, by simp, by simp, by simp, by simp, by simp, by omega, by simpa [prevC] using hX⟩ ?_
    rintro env σ' ⟨u, i, g, rfl, hl, g0, g9, g10, g11, rfl, hi, hd⟩
    rcases Nat.lt_or_ge i l.length with hlt | hge
    · have hlt' : (i : Int) < (l.length : Int) := by omega
      have hdr : l.drop i = l[i] :: l.drop (i + 1) := List.drop_eq_getElem_cons hlt
      have hs := hf _ (List.getElem_mem hlt)
      rw [hdr, Oyez.checkChgFrom] at hd
      simp [hl, g0, g9, g10, g11, hlt', hlt]
      refine (cerror_calls l[i] hs).use ?_
      by_cases h0 : Oyez.chgErr l[i] = 0
      · rw [if_neg (by simpa using h0)] at hd
        simp [hl, g0, g9, g10, g11, h0]
        refine ACode_draw0 mixed (by kernel_rfl) ?_
        cases i with
        | zero =>
          have hx1 : IntKind.i64.wrap 1 = 1 := w64 (by omega) (by omega)
          simp [hl, g0, g9, g10, g11, hx1]
          refine ⟨⟨1, rfl, hlt, ?_⟩, by omega⟩
          simpa [prevC, List.getElem?_eq_getElem hlt] using hd
        | succ j =>
          have hz' : (0 : Int) < (j : Int) + 1 := by omega
          have hx := w64 (n := (j : Int)) (by omega) (by omega)
          have hx2 := w64 (n := (j : Int) + 1 + 1) (by omega) (by omega)
          have hj : j < l.length := by omega
          have hp : prevC l (j + 1) = some l[j].place := by simp [prevC, hj]
          rw [hp] at hd
          simp [hl, g0, g9, g10, g11, hz', hlt, hx, hj]
          refine Ou_use0 (cplace_calls l[j]) ?_
          refine Ou_use0 (cplace_calls l[j + 1]) ?_
          refine Ou_use0 (compare_calls l[j].place l[j + 1].place) ?_
          have hneg := cmpP_neg l[j].place l[j + 1].place
          generalize cmpP l[j].place l[j + 1].place = q at hneg
          cases hb : l[j].place.lt l[j + 1].place with
          | true =>
            have hq : ¬ (0 : Int) ≤ q := by have := hneg.2 hb; omega
            simp [hl, g0, g9, g10, g11, hx2, hq]
            refine ⟨⟨j + 1 + 1, by simp, hlt, ?_⟩, by omega⟩
            have hp2 : prevC l (j + 1 + 1) = some l[j + 1].place := by simp [prevC, hlt]
            rw [hp2, ← hd]
            simp [hb]
          | false =>
            have hq : (0 : Int) ≤ q := by
              rcases Int.lt_or_le q 0 with h | h
              · have := hneg.1 h; rw [hb] at this; cases this
              · exact h
            simp [hl, g0, g9, g10, g11, hq]
            simpa [hb] using hd
      · rw [if_pos (by simpa using h0)] at hd
        subst hd
        simp [hl, g0, g9, g10, g11, h0]
    · have hge' : ¬ (i : Int) < (l.length : Int) := by omega
      rw [List.drop_eq_nil_of_le hge, Oyez.checkChgFrom] at hd
      simp [hl, g0, g9, g10, g11, hge', hd]
end Ab

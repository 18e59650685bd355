/-
  FileAfter: the walk.
-/
import Derived.Test.YtdifgaapdnbliaaGreatDoorX8
import Derived.Test.YtdifgaapdnbliaaGreatDoorX10
set_option linter.unusedSimpArgs false
set_option linter.unusedVariables false
namespace Ab
open Go Go.RowKit Go.Proofs
attribute [local irreducible] aws awp aw1 Og Om Oc Oa Ogd Ov Ot awd aw1d awh aw1h Ogh Ohd awl Ogl Ohl awv Ogv Ohv QThen QBlock QFn QFnM QRo QBe ACode AYield
set_option maxHeartbeats 16000000 in
theorem after6_calls (x y : List Oyez.Chg) (lx : x.length ≤ 9223372036854775807) (ly : y.length ≤ 9223372036854775807) (wx : ∀ c ∈ x, c.old.length ≤ 9223372036854775807 ∧ c.new.length ≤ 9223372036854775807)
    (wy : ∀ c ∈ y, c.old.length ≤ 9223372036854775807 ∧ c.new.length ≤ 9223372036854775807) : APure Tryz.prog 6 [chgsAV x, chgsAV y] (.bool true) := by
  refine APure.of fun σ => ?_
  refine acalls_fn Tryz.func6 rfl (enters_fn Tryz.func6 (by decide) rfl) ?_
  have few : ∀ l : List Oyez.Chg, manyB l = false → l.length ≤ 90 ∧ ∀ c ∈ l, (c.old.length ≤ 10 ∧ tot1 c.old ≤ 2 ^ 20) ∧ c.new.length ≤ 10 ∧ tot1 c.new ≤ 2 ^ 20 := by
    intro l h
    unfold manyB at h
    rw [Bool.or_eq_false_iff] at h
    refine ⟨by simpa using h.2, fun c hc => ?_⟩
    have hq : (longB c.old || longB c.new) = false := by
      cases hq : (longB c.old || longB c.new) with
      | false => rfl
      | true => exact absurd (List.any_eq_true.2 ⟨c, hc, hq⟩) (by rw [h.1]; simp)
    rw [Bool.or_eq_false_iff] at hq
    exact ⟨longB_few hq.1, longB_few hq.2⟩
  simp [-awp_cond, Tryz.ntmps6]
  refine (many_calls x lx wx).use ?_
  cases ga : manyB x with
  | true =>
    simp [ga]
    refine awake_calls.use ?_
    simp
  | false =>
  simp [-awp_cond, ga]
  refine (many_calls y ly wy).use ?_
  cases gb : manyB y with
  | true =>
    simp [ga, gb]
    refine awake_calls.use ?_
    simp
  | false =>
  obtain ⟨nx, fx⟩ := few x ga
  obtain ⟨ny, fy⟩ := few y gb
  have Fx : FewC x := fun c hc => by have := fx c hc; omega
  have Fy : FewC y := fun c hc => by have := fy c hc; omega
  simp [-awp_cond, ga, gb]
  rw [awp_cond]
  simp [-awp_cond, ga, gb]
  refine (owned_calls x (by omega) fun c hc => by have := fx c hc; omega).use ?_
  try simp [-awp_cond, ga, gb]
  refine (owned_calls y (by omega) fun c hc => by have := fy c hc; omega).use ?_
  try simp [-awp_cond, ga, gb]
  refine (changed_calls x (by omega)).use ?_
  try simp [-awp_cond, ga, gb]
  refine (changed_calls y (by omega)).use ?_
  try simp [-awp_cond, ga, gb]
  refine (refCheckC_calls x Fx).use ?_
  simp [-awp_cond, ga, gb]
  refine awp_cut (fun env σ' => ∃ (u : List AV), env = { t := u } ∧ u.length = 82 ∧ tg u 0 = chgsAV x ∧ tg u 1 = chgsAV y ∧ tg u 5 = chgsAV x ∧ tg u 6 = chgsAV y ∧ tg u 7 = chgsAV x ∧ tg u 8 = chgsAV y ∧ tg u 9 = .int .i64 (if Oyez.checkChg x ≠ 0 then Oyez.checkChg x else Oyez.checkChg y) ∧ σ' = σ) ?_ ?_
  · by_cases k : Oyez.checkChg x = 0
    · simp [ga, gb, k]
      refine (refCheckC_calls y Fy).use ?_
      simp [ga, gb, k]
    · simp [ga, gb, k]
  · rintro env s ⟨u, rfl, hl, g0, g1, g5, g6, g7, g8, g9, hs0⟩
    obtain rfl := hs0.symm
    simp [-awp_cond, hl, g0, g1, g5, g6, g7, g8, g9]
    refine awp_cut (fun env σ' => ∃ (u : List AV) (L : List Oyez.Chg) (E : Int) (x10 : AV), env = { t := u } ∧ u.length = 82 ∧ tg u 0 = chgsAV x ∧ tg u 1 = chgsAV y ∧ tg u 5 = chgsAV x ∧ tg u 6 = chgsAV y ∧ tg u 9 = .int .i64 E ∧ tg u 10 = x10 ∧ σ' = σ ∧ Oyez.afterR x y = (L, E) ∧ ((x10 = .nils ∧ L = []) ∨ x10 = chgsAV L) ∧ L.length ≤ 80 ∧ ∀ c ∈ L, c.old.length ≤ 10 ∧ c.new.length ≤ 10) ?_ ?_
    · by_cases k : Oyez.checkChg x = 0
      case neg =>
        have hA : Oyez.afterR x y = ([], Oyez.checkChg x) := by unfold Oyez.afterR; rw [if_pos k]
        simp [hl, g0, g1, g5, g6, g7, g8, g9, k, hA]
      by_cases k2 : Oyez.checkChg y = 0
      case neg =>
        have hA : Oyez.afterR x y = ([], Oyez.checkChg y) := by unfold Oyez.afterR; rw [if_neg (by simp [k]), if_pos k2]
        simp [hl, g0, g1, g5, g6, g7, g8, g9, k, k2, hA]
      have hA : Oyez.afterR x y = refAfterR x y := by unfold Oyez.afterR refAfterR; rw [if_neg (by simp [k]), if_neg (by simp [k2])]; cases Oyez.after x y <;> rfl
      have hsz : (refAfterR x y).1.length ≤ 80 ∧ ∀ c ∈ (refAfterR x y).1, c.old.length ≤ 10 ∧ c.new.length ≤ 10 := by
        unfold refAfterR
        cases h : Oyez.after x y with
        | error e => simp
        | ok l =>
          simp only
          split
          · simp
          · exact ⟨by simp only; omega, Oyez.aft_words (fun c hc => by have := fx c hc; omega) (fun c hc => by have := fy c hc; omega) h⟩
      have hr := refAfter_calls x y (Oyez.checkChg_zero k) (Oyez.checkChg_zero k2)
      obtain ⟨R, hR⟩ : ∃ R, refAfterR x y = R := ⟨_, rfl⟩
      rw [hR] at hA hsz hr
      simp [hl, g0, g1, g5, g6, g7, g8, g9, k, k2]
      refine hr.use ?_
      simp [hl, g0, g1, g5, g6, g7, g8, g9, k, k2]
      exact ⟨R.1, hA, rfl, hsz.1, hsz.2⟩
    · rintro env s ⟨u, L, E, x10, rfl, hl, g0, g1, g5, g6, g9, g10, hs0, hA, c10, nL, wL⟩
      obtain rfl := hs0.symm
      simp [hl, g0, g1, g5, g6, g9, g10]
      refine StA.of ((after41_calls x y Fx Fy (by omega) (by omega) σ).mono ?_)
      rintro _ τ ⟨v1, rfl, hpre, ho⟩
      rw [hA] at ho ⊢
      dsimp only at ho ⊢
      have al1 : ∀ S, alen Tryz.prog 62 v1 S = some (.int .i64 L.length) := by
        intro S
        rcases ho.row with ⟨rfl, rfl⟩ | ⟨r, _, rfl, _⟩ <;> simp
      simp [-alen, hl, g0, g1, g5, g6, g9, g10]
      refine StA.of ((hmade x10 L c10 (by omega) _).mono ?_)
      rintro _ s ⟨rfl, hs4⟩
      obtain rfl := hs4.symm
      simp [-alen, hl, g0, g1, g5, g6, g9, g10]
      refine StA.of ((halike ho (by omega) (fun c hc => by have := wL c hc; omega)).mono ?_)
      rintro _ s ⟨rfl, hs4⟩
      obtain rfl := hs4.symm
      simp [-alen, hl, g0, g1, g5, g6, g9, g10, al1]
      obtain ⟨r, hrow⟩ : ∃ r, ∀ (i : Nat) (c : Oyez.Chg), L[i]? = some c → σ.length ≤ r ∧ v1 = .arr 6 r 0 L.length ∧ ∃ cs, τ[r]? = some (.cells cs) ∧ cs.length = L.length * 6 ∧ ∃ w1 w2,
          List.take 6 (List.drop (i * 6) cs) = [.int .i64 c.kind, .int .i64 c.number, .bool c.had, .bool c.has, w1, w2] ∧
          (∀ w ws, (w, ws) = (w1, c.old) ∨ (w, ws) = (w2, c.new) → (ws = [] ∧ w = .pl 1 []) ∨ ∃ (q : Nat) (xs : List AV), σ.length ≤ q ∧ q ≠ r ∧ w = .arr 1 q 0 ws.length ∧ τ[q]? = some (.cells xs) ∧ asIs ws xs) := by
        rcases ho.row with ⟨h, _⟩ | ⟨r, a1, a2, cs, a3, a4, a5⟩
        · exact ⟨0, fun i c h2 => by rw [h] at h2; simp at h2⟩
        · exact ⟨r, fun i c h2 => ⟨a1, a2, cs, a3, a4, a5 i c h2⟩⟩
      refine ACode_loopT (fun env σ' => ∃ (u : List AV) (i : Nat), env = { t := u } ∧ u.length = 82 ∧ tg u 0 = chgsAV x ∧ tg u 1 = chgsAV y ∧ tg u 5 = chgsAV x ∧ tg u 6 = chgsAV y ∧ tg u 60 = v1 ∧ tg u 61 = .int .i64 L.length ∧ tg u 62 = .int .i64 i ∧ Keep2 r τ σ' ∧ (∃ g, σ' = σ ++ g) ∧ i ≤ L.length)
        (fun env _ => match tg env.t 62 with | .int _ i => L.length - i.toNat | _ => 0) ⟨_, 0, rfl, by simp [hl], by simp [hl, g0], by simp [hl, g1], by simp [hl, g5], by simp [hl, g6], by simp [hl], by simp [hl], by simp [hl], .refl _ _, hpre, by omega⟩ ?_
      clear hl g0 g1 g5 g6 g9 g10
      rintro env τ' ⟨u, i, rfl, hl, g0, g1, g5, g6, g60, g61, g62, hK, ⟨h', hh'⟩, hi⟩
      rcases Nat.lt_or_ge i L.length with hlt | hge
      · have hlt' : (i : Int) < (L.length : Int) := by omega
        have hx := w64 (n := (i : Int) + 1) (by omega) (by omega)
        obtain ⟨hr0, hv, cs, hcs, hcl, wa, wb, hw, hws⟩ := hrow i L[i] (List.getElem?_eq_getElem hlt)
        have hb6 : i * 6 + 6 ≤ L.length * 6 := by omega
        have hrl := (List.getElem?_eq_some_iff.1 hcs).1
        have hcs' : τ'[r]? = some (.cells cs) := by rw [hK.out hrl]; exact hcs
        have wlen : ∀ w ws, (w, ws) = (wa, L[i].old) ∨ (w, ws) = (wb, L[i].new) → (ws = [] ∧ w = .pl 1 []) ∨ ∃ (q : Nat) (xs : List AV), σ.length ≤ q ∧ q ≠ r ∧ w = .arr 1 q 0 ws.length ∧ τ'[q]? = some (.cells xs) ∧ xs.length = ws.length := by
          intro w ws hh
          rcases hws w ws hh with h | ⟨q, xs, a1, a2, a3, a4, a5⟩
          · exact .inl h
          · obtain ⟨xs', b1, b2⟩ := hK.cells q xs a4
            exact .inr ⟨q, xs', a1, a2, a3, b1, by rw [b2, show xs = strs ws from a5]; simp [strs]⟩
        rcases wlen wa L[i].old (.inl rfl) with ⟨o0, rfl⟩ | ⟨q1, xs1, b1, b2, rfl, b4, b5⟩
        · rcases wlen wb L[i].new (.inr rfl) with ⟨n0, rfl⟩ | ⟨q2, xs2, d1, d2, rfl, d4, d5⟩
          · simp [Nat.add_assoc, hl, g0, g1, g5, g6, g60, g61, g62, hlt', hlt, hv, hcs', hcl, hw, hb6, hx]
            exact ⟨⟨i + 1, by simp, hK.app _, ⟨_, by rw [hh', List.append_assoc]⟩, by omega⟩, by omega⟩
          · have d4a : ∀ X : Heap, (τ' ++ X)[q2]? = _ := fun X => get_app d4
            simp [Nat.add_assoc, hl, g0, g1, g5, g6, g60, g61, g62, hlt', hlt, hv, hcs', hcl, hw, hb6, hx, d4a, d5]
            have hL2 : (List.replicate L[i].new.length (AV.str []) ++ List.drop L[i].new.length xs2).length = xs2.length := by rw [List.length_append, List.length_replicate, List.length_drop]; omega
            exact ⟨⟨i + 1, by simp, (hK.app _).set d2 (d4a _) hL2, ⟨_, by rw [hh', List.append_assoc, set_behind (by omega)]⟩, by omega⟩, by omega⟩
        · have b4a : ∀ X : Heap, (τ' ++ X)[q1]? = _ := fun X => get_app b4
          have q1l : q1 < τ'.length := (List.getElem?_eq_some_iff.1 b4).1
          have hs1 : ∀ (Z : Heap) (Y : AObj), (τ' ++ Z).set q1 Y = τ'.set q1 Y ++ Z := fun Z Y => List.set_append_left _ _ q1l
          have hs2 : ∀ (Y o : AObj), (τ'.set q1 Y ++ [o])[τ'.length]? = some o := fun Y o => by rw [List.getElem?_append_right (by simp)]; simp
          have ex2 : ∀ (A B : AObj) (Z : Heap) (q : Nat), σ.length ≤ q → ∃ g, (τ'.set q1 A ++ Z).set q B = σ ++ g := fun A B Z q hq => ⟨_, by rw [hh', set_behind (show σ.length ≤ q1 by omega) A, List.append_assoc, set_behind hq]⟩
          have hL1 : (List.replicate L[i].old.length (AV.str []) ++ List.drop L[i].old.length xs1).length = xs1.length := by rw [List.length_append, List.length_replicate, List.length_drop]; omega
          rcases wlen wb L[i].new (.inr rfl) with ⟨n0, rfl⟩ | ⟨q2, xs2, d1, d2, rfl, d4, d5⟩
          · simp [Nat.add_assoc, hl, g0, g1, g5, g6, g60, g61, g62, hlt', hlt, hv, hcs', hcl, hw, hb6, hx, b4a, b5, hs1, hs2]
            exact ⟨⟨i + 1, by simp, (hK.set b2 b4 hL1).app _, ⟨_, by rw [hh', set_behind (by omega), List.append_assoc]⟩, by omega⟩, by omega⟩
          · have hL2 : (List.replicate L[i].new.length (AV.str []) ++ List.drop L[i].new.length xs2).length = xs2.length := by rw [List.length_append, List.length_replicate, List.length_drop]; omega
            by_cases hq : q1 = q2
            · subst hq
              rw [b4] at d4
              obtain rfl : xs1 = xs2 := by simpa using d4
              have hle : L[i].new.length ≤ L[i].old.length := by omega
              have hs3 : ∀ (Y : AObj) (Z : Heap), (τ'.set q1 Y ++ Z)[q1]? = some Y := fun Y Z => by rw [List.getElem?_append_left (by simpa using q1l), List.getElem?_set_self q1l]
              simp [Nat.add_assoc, hl, g0, g1, g5, g6, g60, g61, g62, hlt', hlt, hv, hcs', hcl, hw, hb6, hx, b4a, b5, hs1, hs2, hs3, hle]
              exact ⟨⟨i + 1, by simp, ((hK.set b2 b4 hL1).app _).set b2 (hs3 _ _) (by rw [List.length_append, List.length_replicate, List.length_drop]; omega), ex2 _ _ _ _ b1, by omega⟩, by omega⟩
            · have hs3 : ∀ (Y : AObj) (Z : Heap), (τ'.set q1 Y ++ Z)[q2]? = some (.cells xs2) := fun Y Z => get_app (by rw [List.getElem?_set_ne hq]; exact d4)
              simp [Nat.add_assoc, hl, g0, g1, g5, g6, g60, g61, g62, hlt', hlt, hv, hcs', hcl, hw, hb6, hx, b4a, b5, hs1, hs2, hs3, d5]
              exact ⟨⟨i + 1, by simp, ((hK.set b2 b4 hL1).app _).set d2 (hs3 _ _) hL2, ex2 _ _ _ _ d1, by omega⟩, by omega⟩
      · obtain rfl : i = L.length := by omega
        simp [hl, g0, g1, g5, g6, g60, g61, g62]
        refine (calike_calls x x (by omega) fun c hc => by have := fx c hc; omega).use ?_
        simp [hl, g0, g1, g5, g6, g60, g61, g62]
        refine (calike_calls y y (by omega) fun c hc => by have := fy c hc; omega).use ?_
        simp [hl, g0, g1, g5, g6, g60, g61, g62]
        refine awake_calls.use ?_
        simp [hl]
        exact ⟨h', hh'⟩
end Ab

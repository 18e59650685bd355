import Derived.Test.YtdifgaapdnbliaaGreatDoorR7
set_option linter.unusedSimpArgs false
set_option linter.unusedVariables false
namespace Ab
open Go Go.Proofs
attribute [local irreducible] aws awp aw1 Og Om Oc Oa Ogd Ov Ot awd aw1d QThen QBlock QFn QFnM ACode ACalls AYield
set_option maxHeartbeats 4000000 in
set_option maxRecDepth 8000 in
theorem refParse_calls (s : List UInt8) (hs : s.length ≤ 2 ^ 20) : APure Tryz.prog 18 [.str s] (parsedAV (Oyez.parse s)) := by
  refine APure.of fun σ => ?_
  refine acalls_fn Tryz.func18 rfl (enters_fn Tryz.func18 (by decide) rfl) ?_
  simp [Tryz.ntmps18]
  refine ACode_loopT (fun env σ' => ∃ (u : List AV) (i : Nat) (v : AV) (f : List Oyez.Rec) (g : Heap) (o : Option Nat), env = { t := u } ∧ u.length = 84 ∧ tg u 0 = .str s ∧ tg u 8 = .int .i64 i ∧ tg u 6 = v ∧ tg u 7 = .int .i64 f.length ∧
      σ' = σ ++ g ∧ Acc σ g 3 v (f.map recAV) o ∧ i ≤ s.length + 1 ∧ f.length ≤ 40 ∧ restP s i f = Oyez.parse s)
    (fun env _ => match tg env.t 8 with | .int _ i => s.length + 1 - i.toNat | _ => 0) ⟨_, 0, .nils, [], [], none, rfl, by simp, by simp, by simp, by simp, by simp, by simp, Acc.nil _ _ _, by omega, by simp, ?_⟩ ?_
  · rw [← glue_nil]; rfl
  rintro env σ' ⟨u, i, v, f, g, o, rfl, hl, g0, g8, g6, g7, rfl, hA, hi, hf40, hd⟩
  rcases Nat.lt_or_ge i s.length with hlt | hge
  · have hlt' : (i : Int) < (s.length : Int) := by omega
    simp [hl, g0, g8, g6, g7, hlt']
    refine ACode_loopT (fun env σ' => ∃ (u : List AV) (e : Nat), env = { t := u } ∧ u.length = 84 ∧ tg u 0 = .str s ∧ tg u 8 = .int .i64 i ∧ tg u 6 = v ∧ tg u 7 = .int .i64 f.length ∧ tg u 9 = .int .i64 e ∧ σ' = σ ++ g ∧ i ≤ e ∧ e ≤ s.length ∧ ∀ j, i ≤ j → j < e → s[j]? ≠ some 10)
      (fun env _ => match tg env.t 9 with | .int _ i => s.length - i.toNat | _ => 0) ⟨_, i, rfl, by simp [hl], by simp [hl, g0], by simp [hl, g8], by simp [hl, g6], by simp [hl, g7], by simp [hl], rfl, by omega, by omega, fun j h1 h2 => by omega⟩ ?_
    clear g0 g8 g6 g7 hl u
    rintro env σ' ⟨u, e, rfl, hl, g0, g8, g6, g7, g9, rfl, hie, hes, hno⟩
    by_cases hcont : e < s.length ∧ s[e]? ≠ some 10
    · obtain ⟨hel, hne⟩ := hcont
      have hel' : (e : Int) < (s.length : Int) := by omega
      have hne' : ¬ ((s[e].toNat : Nat) : Int) = 10 := by
        intro x; apply hne
        rw [List.getElem?_eq_getElem hel, (u8_eq _ 10 (by decide)).1 (show s[e].toNat = 10 by omega)]; rfl
      have hx := w64 (n := (e : Int) + 1) (by omega) (by omega)
      simp [hl, g0, g8, g6, g7, g9, hel', hel, hne', hx]
      refine ⟨⟨e + 1, by simp, by omega, by omega, fun j h1 h2 => ?_⟩, by omega⟩
      rcases Nat.lt_or_ge j e with h3 | h3
      · exact hno j h1 h3
      · obtain rfl : j = e := by omega
        exact hne
    · have h3 : e = s.length ∨ s[e]? = some 10 := by
        rcases Nat.lt_or_ge e s.length with h | h
        · exact .inr (Classical.byContradiction fun x => hcont ⟨h, x⟩)
        · exact .inl (by omega)
      have hline := restP_line hlt f hie hno hes h3
      rw [hd] at hline
      generalize hown : (s.take e).drop i = own at hline
      have hol : own.length ≤ 2 ^ 20 := by rw [← hown, List.length_drop, List.length_take]; omega
      have hsl0 : (0 : Int) ≤ (i : Int) := by omega
      have hsi : i ≤ e ∧ e ≤ s.length := ⟨hie, hes⟩
      rcases Nat.lt_or_ge e s.length with hel | hel
      · have hel' : (e : Int) < (s.length : Int) := by omega
        have h10 : ((s[e].toNat : Nat) : Int) = 10 := by
          rcases h3 with h3 | h3
          · omega
          · rw [List.getElem?_eq_getElem hel] at h3; simp at h3; rw [h3]; rfl
        simp [hl, g0, g8, g6, g7, g9, hel', hel, h10, hie, hes, hown]
        refine (refRead_calls own true f.length hol).use ?_
        rw [show decide (e < s.length) = true from decide_eq_true hel] at hline
        cases hr : Oyez.readLine own true f.length with
        | error x =>
          obtain ⟨w, x⟩ := x
          have hx0 : ¬ x = 0 := readLine_err hr
          rw [hr] at hline
          simp only at hline
          simp [hl, g0, g8, g6, g7, g9, readAV, hx0]
          refine ACode_draw0 mixed (by kernel_rfl) ?_
          simp [hl, g0, g8, g6, g7, g9, readAV, hx0, hline, parsedAV]
        | ok r =>
          obtain ⟨hr1, hr2, _⟩ := readLine_line hr
          rw [hr] at hline
          simp only at hline
          simp [hl, g0, g8, g6, g7, g9, readAV]
          refine ACode_draw0 mixed (by kernel_rfl) ?_
          have hxl := w64 (n := (f.length : Int) + 1) (by omega) (by omega)
          have hxe := w64 (n := (e : Int) + 1) (by omega) (by omega)
          have hA1 := (hA.more [.cells (recCells r)]).push (P := Tryz.prog) (t := 27) (e := 96) (ag := true) (x := recAV r) (by simp) (by simp) (by simp) (by omega) ⟨by simp [AV.cells], by simp [AV.cells, AV.one]⟩ (by simp; omega)
          obtain ⟨v', g', o', he, hA', _⟩ := hA1
          simp [-aappend, recCells] at he
          obtain rfl | ⟨f', q, rfl⟩ : f = [] ∨ ∃ f' q, f = f' ++ [q] := by
            rcases List.eq_nil_or_concat f with h | ⟨a, b, h⟩
            · exact .inl h
            · exact .inr ⟨a, b, by simpa using h⟩
          · simp [-aappend, hl, g0, g8, g6, g7, g9, he]
            rw [hxe, show IntKind.i64.wrap 1 = 1 from w64 (by omega) (by omega)]
            refine ⟨⟨e + 1, by simp, [r], by simp, ⟨o', by simpa using hA'⟩, by omega, by simp, ?_⟩, by omega⟩
            rw [hline]
            simp [lastP]
          · obtain ⟨j0, rfl⟩ : ∃ j, o = some j := by
              cases o with
              | none => have := hA.val; simp at this
              | some j => exact ⟨j, rfl⟩
            have hv := hA.val
            simp only [List.length_map, List.length_append, List.length_cons, List.length_nil] at hv
            obtain ⟨rfl, hg⟩ := hv
            have hc0 := flat_rec (f' ++ [q]) f'.length 0 (by simp) (by decide)
            have hc1 := flat_rec (f' ++ [q]) f'.length 1 (by simp) (by decide)
            have hcl := flat_len ((f' ++ [q]).map recAV) (k := 3) (fun x hx => by obtain ⟨r, _, rfl⟩ := List.mem_map.1 hx; rfl)
            generalize ((f' ++ [q]).map recAV).flatMap AV.cells = cs at hg hc0 hc1 hcl
            have hj0 := (List.getElem?_eq_some_iff.1 hg).1
            have happ : ∀ y : Heap, (g ++ y)[j0]? = some (.cells cs) := fun y => by rw [List.getElem?_append_left hj0, hg]
            simp [recCells] at hc0 hc1 hcl
            have hm0 : f'.length * 3 + 1 ≤ cs.length := by omega
            have hm1 : f'.length * 3 + 1 + 1 ≤ cs.length := by omega
            have hz1 : (0 : Int) < (f'.length : Int) + 1 := by omega
            have hw := w64 (n := (f'.length : Int)) (by simp at hf40; omega) (by simp at hf40; omega)
            have hlp : lastP (f' ++ [q]) = some q.place := by simp [lastP]
            rw [hlp] at hline
            simp only [List.length_append, List.length_cons, List.length_nil, Nat.zero_add] at he g6 g7
            simp [-aappend, hl, g0, g8, g6, g7, g9, hz1, hw, happ, hc0, hc1, hm0, hm1, he]
            refine Ou_use (behind_calls _ _ _ _) ?_
            cases hb : q.place.lt r.place with
            | true =>
              have hb' : ((⟨q.kind, q.number⟩ : Oyez.Place).lt ⟨r.kind, r.number⟩) = true := hb
              simp [-aappend, hl, g0, g8, g6, g7, g9, hb', happ, he]
              have hfl : f'.length < 40 := by simp at hr1; omega
              rw [hxe, w64 (n := (f'.length : Int) + 1 + 1) (by omega) (by omega)]
              refine ⟨⟨e + 1, by simp, f' ++ [q] ++ [r], by simp; omega, ⟨o', by simpa using hA'⟩, by omega, by simp at hr1 ⊢; omega, ?_⟩, by omega⟩
              rw [hline]
              simp [hb]
            | false =>
              have hb' : ((⟨q.kind, q.number⟩ : Oyez.Place).lt ⟨r.kind, r.number⟩) = false := hb
              simp [hb] at hline
              simp [-aappend, hl, g0, g8, g6, g7, g9, hb', happ, hline, parsedAV]
      · obtain rfl : e = s.length := by omega
        have hel' : ¬ (s.length : Int) < (s.length : Int) := by omega
        rw [List.take_length] at hown
        simp [hl, g0, g8, g6, g7, g9, hie, hown]
        refine (refRead_calls own false f.length hol).use ?_
        rw [show decide (s.length < s.length) = false from by simp] at hline
        cases hr : Oyez.readLine own false f.length with
        | ok r => exact absurd (readLine_line hr).2.2 (by simp)
        | error x =>
          obtain ⟨w, x⟩ := x
          have hx0 : ¬ x = 0 := readLine_err hr
          rw [hr] at hline
          simp only at hline
          simp [hl, g0, g8, g6, g7, g9, readAV, hx0]
          refine ACode_draw0 mixed (by kernel_rfl) ?_
          simp [hl, g0, g8, g6, g7, g9, readAV, hx0, hline, parsedAV]
  · have hge' : ¬ (i : Int) < (s.length : Int) := by omega
    rw [restP_end hge] at hd
    rw [← hd]
    have hz := hA.fz (fun x hx y hy => by
      obtain ⟨r, _, rfl⟩ := List.mem_map.1 hx
      simp [AV.cells] at hy
      rcases hy with rfl | rfl | rfl
      · exact .int _ _
      · exact .int _ _
      · exact (Fz_strs _ _ _).2 trivial)
    simpa [hl, g0, g8, g6, g7, hge', parsedAV] using hz
end Ab

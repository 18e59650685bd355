/-
  PARSES: equal lists of words, equal files, the reference's file as ours; the law's function answers true for every text.
  PARSES: the law's function answers true for every text.
-/
import Derived.Test.YtdifgaapdnbliaaGreatDoorJ3
set_option linter.unusedSimpArgs false
set_option linter.unusedVariables false
namespace Ab
open Go Go.RowKit Go.Proofs
attribute [local irreducible] aws awp aw1 Og Om Oc Oa Ogd Ov Ot awd aw1d awh aw1h Ogh Ohd awl Ogl Ohl awv Ogv Ohv QThen QBlock QFn QFnM QRo QBe ACode AYield
set_option maxHeartbeats 1000000 in
theorem equal_calls (a b : List (List UInt8)) (ha : a.length ≤ 2 ^ 40) : APure Tryz.prog 135 [wordsAV a, wordsAV b] (.bool (decide (a = b))) := by
  intro σ
  refine acalls_fn Tryz.func135 rfl (enters_fn Tryz.func135 (by decide) rfl) ?_
  by_cases hab : a.length = b.length
  · obtain ⟨n, hn⟩ : ∃ n, b.length = n := ⟨_, rfl⟩
    have han : a.length = n := hab.trans hn
    simp [Tryz.ntmps135, han, hn]
    refine ACode_loopT (fun env σ' => ∃ (u : List AV) (i : Nat), env = { t := u } ∧ u.length = 26 ∧ tg u 0 = wordsAV a ∧ tg u 1 = wordsAV b ∧ tg u 12 = .int .i64 n ∧ tg u 13 = .int .i64 i ∧ σ' = σ ∧ i ≤ n ∧ a.take i = b.take i)
      (fun env _ => match tg env.t 13 with | .int _ i => n - i.toNat | _ => 0) ⟨_, 0, rfl, by simp, by simp, by simp, by simp, by simp, rfl, by omega, by simp⟩ ?_
    rintro env σ' ⟨u, i, rfl, hl, g0, g1, g12, g13, rfl, hi, hd⟩
    rcases Nat.lt_or_ge i n with hlt | hge
    · have hlt' : (i : Int) < (n : Int) := by omega
      have hx := w64 (n := (i : Int) + 1) (by omega) (by omega)
      have hia : i < a.length := by omega
      have hib : i < b.length := by omega
      simp [hl, g0, g1, g12, g13, hlt']
      refine ACode_draw0 mixed (by kernel_rfl) ?_
      by_cases he : a[i] = b[i]
      · simp [hl, g0, g1, g12, g13, han, hn, hlt, hlt', he, hx]
        refine ⟨⟨i + 1, by simp, by omega, ?_⟩, by omega⟩
        rw [List.take_succ_eq_append_getElem hia, List.take_succ_eq_append_getElem hib, hd, he]
      · have hne : ¬ a = b := fun h => he (by subst h; rfl)
        simp [hl, g0, g1, g12, g13, han, hn, hlt, hlt', he, hne]
    · have hge' : ¬ (i : Int) < (n : Int) := by omega
      have hE : a = b := by
        rw [List.take_of_length_le (by omega), List.take_of_length_le (by omega)] at hd
        exact hd
      simp [hl, g0, g1, g12, g13, hge', hE]
  · have hne : ¬ a = b := fun h => hab (by rw [h])
    have hab' : ¬ (a.length : Int) = (b.length : Int) := by omega
    simp [Tryz.ntmps135, hab', hne, hab]
theorem like_calls (a b : List (List UInt8)) (ha : a.length ≤ 2 ^ 40) : APure Tryz.prog 66 [wordsAV a, wordsAV b] (.bool (decide (a = b))) := by
  intro σ
  refine acalls_fn Tryz.func66 rfl (enters_fn Tryz.func66 (by decide) rfl) ?_
  simp [Tryz.ntmps66]
  refine (equal_calls a b ha).use ?_
  simp
theorem rec_ext {r q : Oyez.Rec} (h1 : r.kind = q.kind) (h2 : r.number = q.number) (h3 : r.words = q.words) : r = q := by
  cases r; cases q; simp_all
set_option maxHeartbeats 2000000 in
theorem same_calls (a b : List Oyez.Rec) (ha : a.length ≤ 2 ^ 40) (hw : ∀ r ∈ a, r.words.length ≤ 2 ^ 40) : APure Tryz.prog 19 [fileAV a, fileAV b] (.bool (decide (a = b))) := by
  refine APure.of fun σ => ?_
  refine acalls_fn Tryz.func19 rfl (enters_fn Tryz.func19 (by decide) rfl) ?_
  by_cases hab : a.length = b.length
  · obtain ⟨n, hn⟩ : ∃ n, b.length = n := ⟨_, rfl⟩
    have han : a.length = n := hab.trans hn
    simp [Tryz.ntmps19, han, hn]
    refine ACode_loopT (fun env σ' => ∃ (u : List AV) (i : Nat) (g : Heap), env = { t := u } ∧ u.length = 49 ∧ tg u 0 = fileAV a ∧ tg u 1 = fileAV b ∧ tg u 12 = fileAV a ∧ tg u 13 = .int .i64 n ∧ tg u 14 = .int .i64 i ∧ σ' = σ ++ g ∧ i ≤ n ∧ a.take i = b.take i)
      (fun env _ => match tg env.t 14 with | .int _ i => n - i.toNat | _ => 0) ⟨_, 0, [], rfl, by simp, by simp, by simp, by simp, by simp, by simp, by simp, by omega, by simp⟩ ?_
    rintro env σ' ⟨u, i, g, rfl, hl, g0, g1, g12, g13, g14, rfl, hi, hd⟩
    rcases Nat.lt_or_ge i n with hlt | hge
    · have hlt' : (i : Int) < (n : Int) := by omega
      have hx := w64 (n := (i : Int) + 1) (by omega) (by omega)
      have hia : i < a.length := by omega
      have hib : i < b.length := by omega
      simp [hl, g0, g1, g12, g13, g14, hlt', han, hlt]
      refine ACode_draw0 mixed (by kernel_rfl) ?_
      have hne : ¬ a[i] = b[i] → ¬ a = b := fun he h => he (by subst h; rfl)
      by_cases hk : a[i].kind = b[i].kind
      · by_cases hm : a[i].number = b[i].number
        · simp [hl, g0, g1, g12, g13, g14, hlt', han, hn, hlt, hk, hm]
          refine Ou_use (like_calls _ _ (hw _ (List.getElem_mem hia))) ?_
          by_cases hws : a[i].words = b[i].words
          · have he := rec_ext hk hm hws
            simp [hl, g0, g1, g12, g13, g14, hlt', han, hn, hlt, hk, hm, hws, hx]
            refine ⟨⟨i + 1, by simp, hlt, ?_⟩, by omega⟩
            rw [List.take_succ_eq_append_getElem hia, List.take_succ_eq_append_getElem hib, hd, he]
          · have hne' := hne fun h => hws (by rw [h])
            simp [hl, g0, g1, g12, g13, g14, hlt', han, hn, hlt, hk, hm, hws, hx, hne']
        · have hne' := hne fun h => hm (by rw [h])
          simp [hl, g0, g1, g12, g13, g14, hlt', han, hn, hlt, hk, hm, hne']
      · have hne' := hne fun h => hk (by rw [h])
        simp [hl, g0, g1, g12, g13, g14, hlt', han, hn, hlt, hk, hne']
    · have hge' : ¬ (i : Int) < (n : Int) := by omega
      have hE : a = b := by
        rw [List.take_of_length_le (by omega), List.take_of_length_le (by omega)] at hd
        exact hd
      simp [hl, g0, g1, g12, g13, g14, hge', hE]
  · have hne : ¬ a = b := fun h => hab (by rw [h])
    have hab' : ¬ (a.length : Int) = (b.length : Int) := by omega
    simp [Tryz.ntmps19, hab', hne, hab]
set_option maxHeartbeats 2000000 in
theorem ours_calls (f : List Oyez.Rec) (hf : f.length ≤ 2 ^ 40) : APure Tryz.prog 20 [fileAV f] (fileAV f) := by
  refine APure.of fun σ => ?_
  refine acalls_fn Tryz.func20 rfl (enters_fn Tryz.func20 (by decide) rfl) ?_
  simp [Tryz.ntmps20]
  refine ACode_loopT (fun env σ' => ∃ (u : List AV) (i : Nat) (v : AV) (g : Heap) (o : Option Nat), env = { t := u } ∧ u.length = 24 ∧ tg u 0 = fileAV f ∧ tg u 3 = v ∧ tg u 6 = fileAV f ∧ tg u 7 = .int .i64 f.length ∧ tg u 8 = .int .i64 i ∧ σ' = σ ++ g ∧ i ≤ f.length ∧ Acc σ g 3 v ((f.take i).map recAV) o)
    (fun env _ => match tg env.t 8 with | .int _ i => f.length - i.toNat | _ => 0) ⟨_, 0, .nils, [], none, rfl, by simp, by simp, by simp, by simp, by simp, by simp, by simp, by omega, by simpa using Acc.nil _ _ _⟩ ?_
  rintro env σ' ⟨u, i, v, g, o, rfl, hl, g0, g3, g6, g7, g8, rfl, hi, hA⟩
  rcases Nat.lt_or_ge i f.length with hlt | hge
  · have hlt' : (i : Int) < (f.length : Int) := by omega
    have hx := w64 (n := (i : Int) + 1) (by omega) (by omega)
    have hA1 := ((hA.more [.cells (recCells f[i])]).push (P := Tryz.prog) (t := 23) (e := 59) (ag := true) (x := recAV f[i]) (by simp) (by simp) (by simp) (by omega) ⟨by simp [AV.cells], by simp [AV.cells, AV.one]⟩ (by simp; omega))
    obtain ⟨v', g', o', he, hA', _⟩ := hA1
    simp [-aappend, recCells] at he
    rw [← Nat.add_assoc] at he
    simp [-aappend, hl, g0, g3, g6, g7, g8, hlt', hlt, hx, he]
    refine ⟨⟨i + 1, by simp, hlt, o', ?_⟩, by omega⟩
    rw [List.take_succ_eq_append_getElem (by simpa using hlt), List.getElem_map, ← List.map_take]
    exact hA'
  · have hge' : ¬ (i : Int) < (f.length : Int) := by omega
    rw [List.take_of_length_le hge] at hA
    have hz := hA.fz (fun x hx y hy => by
      obtain ⟨r, _, rfl⟩ := List.mem_map.1 hx
      simp [AV.cells] at hy
      rcases hy with rfl | rfl | rfl
      · exact .int _ _
      · exact .int _ _
      · exact (Fz_strs _ _ _).2 trivial)
    simpa [hl, g0, g3, g6, g7, g8, hge'] using hz
end Ab
namespace Oyez
theorem readLine_few {own : S} {e : Bool} {n : Nat} {r : Rec} (h : readLine own e n = .ok r) : n < 40 ∧ r.words.length ≤ 6 := by
  unfold readLine at h
  split at h
  · cases h
  · split at h
    · cases h
    · split at h
      · cases h
      · split at h
        · cases h
        · split at h
          · cases h
          · split at h
            · cases h
            · split at h
              · cases h
              · split at h
                · cases h
                · split at h
                  · cases h
                  · simp only [Except.ok.injEq] at h
                    subst h
                    exact ⟨by omega, by simp only; omega⟩
theorem parseLines_few : ∀ (l : List (S × Bool)) (p : Option Place) (n : Nat), (∀ r ∈ (parseLines l p n).recs, r.words.length ≤ 6) ∧ ((parseLines l p n).recs = [] ∨ (parseLines l p n).recs.length + n ≤ 40) := by
  intro l
  induction l with
  | nil => intro p n; exact ⟨fun r hr => by simp [parseLines] at hr, .inl rfl⟩
  | cons x t ih =>
    intro p n
    obtain ⟨own, e⟩ := x
    rw [parseLines]
    split
    · exact ⟨fun r hr => by simp at hr, .inl rfl⟩
    · rename_i r hr
      have h1 := readLine_few hr
      have h2 := ih (some r.place) (n + 1)
      split
      · exact ⟨fun r hr => by simp at hr, .inl rfl⟩
      · simp only
        split
        · refine ⟨fun q hq => ?_, .inr ?_⟩
          · rcases List.mem_cons.1 hq with rfl | hq
            · exact h1.2
            · exact h2.1 q hq
          · simp only [List.length_cons]
            rcases h2.2 with h3 | h3
            · rw [h3]; simp; omega
            · omega
        · refine ⟨h2.1, ?_⟩
          rcases h2.2 with h3 | h3
          · exact .inl h3
          · exact .inr (by omega)
theorem parse_few (s : S) : (∀ r ∈ (parse s).recs, r.words.length ≤ 6) ∧ (parse s).recs.length ≤ 40 := by
  have h := parseLines_few (linesOf s) none 0
  refine ⟨h.1, ?_⟩
  rcases h.2 with h3 | h3
  · unfold parse; rw [h3]; simp
  · exact h3
end Oyez
namespace Ab
open Go Go.RowKit Go.Proofs
attribute [local irreducible] aws awp aw1 Og Om Oc Oa Ogd Ov Ot awd aw1d awh aw1h Ogh Ohd awl Ogl Ohl awv Ogv Ohv QThen QBlock QFn QFnM QRo QBe ACode AYield
theorem parses_calls (s : List UInt8) : APure Tryz.prog 3 [.str s] (.bool true) := by
  intro σ
  refine acalls_fn Tryz.func3 rfl (enters_fn Tryz.func3 (by decide) rfl) ?_
  by_cases hl : (3000 : Int) < (s.length : Int)
  · simp [Tryz.ntmps3, hl]
    refine awake_calls.use ?_
    simp
  · have h1 := parse_calls s (by omega)
    have h2 := refParse_calls s (by omega)
    have h3 := Oyez.parse_few s
    simp [Tryz.ntmps3, hl]
    refine h1.use ?_
    simp [parsedAV]
    refine h2.use ?_
    have h4 := ours_calls (Oyez.parse s).recs (by omega)
    have h5 := same_calls (Oyez.parse s).recs (Oyez.parse s).recs (by omega) fun r hr => by have := h3.1 r hr; omega
    generalize Oyez.parse s = X at h4 h5
    simp [parsedAV]
    refine h4.use ?_
    simp
    refine h5.use ?_
    simp
    refine awake_calls.use ?_
    simp
end Ab

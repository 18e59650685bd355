/-
  CHANGES: the law's own functions on them.
-/
import Derived.Test.YtdifgaapdnbliaaGreatDoorW1
import Derived.Test.YtdifgaapdnbliaaGreatDoorU2
import Derived.Test.YtdifgaapdnbliaaGreatDoorJ6
set_option linter.unusedSimpArgs false
set_option linter.unusedVariables false
namespace Ab
open Go Go.RowKit Go.Proofs
attribute [local irreducible] aws awp aw1 Og Om Oc Oa Ogd Ov Ot awd aw1d awh aw1h Ogh Ohd awl Ogl Ohl awv Ogv Ohv QThen QBlock QFn QFnM QRo QBe ACode AYield
/-- changes that are more than what is looked at -/
def manyB (l : List Oyez.Chg) : Bool := l.any (fun c => longB c.old || longB c.new) || decide (90 < l.length)
set_option maxHeartbeats 2000000 in
theorem many_calls (l : List Oyez.Chg) (hl0 : l.length ≤ 9223372036854775807) (hw : ∀ c ∈ l, c.old.length ≤ 9223372036854775807 ∧ c.new.length ≤ 9223372036854775807) : APure Tryz.prog 36 [chgsAV l] (.bool (manyB l)) := by
  refine APure.of fun σ => ?_
  obtain ⟨B, hB⟩ : ∃ B, manyB l = B := ⟨_, rfl⟩
  rw [hB]
  refine acalls_fn Tryz.func36 rfl (enters_fn Tryz.func36 (by decide) rfl) ?_
  simp [Tryz.ntmps36]
  refine ACode_loopT (fun env σ' => ∃ (u : List AV) (i : Nat) (g : Heap), env = { t := u } ∧ u.length = 23 ∧ tg u 0 = chgsAV l ∧ tg u 5 = chgsAV l ∧ tg u 6 = .int .i64 l.length ∧ tg u 7 = .int .i64 i ∧ σ' = σ ++ g ∧ i ≤ l.length ∧ (l.take i).any (fun c => longB c.old || longB c.new) = false)
    (fun env _ => match tg env.t 7 with | .int _ i => l.length - i.toNat | _ => 0) ⟨_, 0, [], rfl, by simp, by simp, by simp, by simp, by simp, by simp, by omega, by simp⟩ ?_
  rintro env σ' ⟨u, i, g, rfl, hl, g0, g5, g6, g7, rfl, hi, hd⟩
  rcases Nat.lt_or_ge i l.length with hlt | hge
  · have hlt' : (i : Int) < (l.length : Int) := by omega
    have hx := w64 (n := (i : Int) + 1) (by omega) (by omega)
    have hn := any_take _ l hlt hd
    have hwi := hw _ (List.getElem_mem hlt)
    simp [hl, g0, g5, g6, g7, hlt', hlt]
    refine (long_calls l[i].old hwi.1).use ?_
    cases hb : longB l[i].old with
    | true =>
      have e : B = true := by
        rw [← hB]; unfold manyB
        rw [any_at (fun c : Oyez.Chg => longB c.old || longB c.new) l hlt (by simp [hb])]
        rfl
      subst e
      simp [hl, g0, g5, g6, g7, hlt', hlt, hb]
    | false =>
      simp [hl, g0, g5, g6, g7, hlt', hlt, hb]
      refine (long_calls l[i].new hwi.2).use ?_
      cases hb2 : longB l[i].new with
      | true =>
        have e : B = true := by
          rw [← hB]; unfold manyB
          rw [any_at (fun c : Oyez.Chg => longB c.old || longB c.new) l hlt (by simp [hb2])]
          rfl
        subst e
        simp [hl, g0, g5, g6, g7, hlt', hlt, hb, hb2]
      | false =>
        simp [hl, g0, g5, g6, g7, hlt', hlt, hb, hb2, hx]
        have hn' := hn.trans (show (longB l[i].old || longB l[i].new) = false by simp [hb, hb2])
        exact ⟨⟨i + 1, by simp, by omega, by simpa using hn'⟩, by omega⟩
  · have hge' : ¬ (i : Int) < (l.length : Int) := by omega
    rw [List.take_of_length_le hge] at hd
    unfold manyB at hB
    rw [hd] at hB
    by_cases h10 : 90 < l.length
    · have h10' : (90 : Int) < (l.length : Int) := by omega
      have e : B = true := by rw [← hB]; simp [h10]
      subst e
      simp [hl, g0, g5, g6, g7, hge', h10, h10']
    · have h10' : ¬ (90 : Int) < (l.length : Int) := by omega
      have e : B = false := by rw [← hB]; simp; omega
      subst e
      simp [hl, g0, g5, g6, g7, hge', h10, h10']
set_option maxHeartbeats 4000000 in
theorem changed_calls (l : List Oyez.Chg) (hf : l.length ≤ 2 ^ 40) : APure Tryz.prog 38 [chgsAV l] (chgsAV l) := by
  refine APure.of fun σ => ?_
  refine acalls_fn Tryz.func38 rfl (enters_fn Tryz.func38 (by decide) rfl) ?_
  simp [Tryz.ntmps38]
  refine ACode_loopT (fun env σ' => ∃ (u : List AV) (i : Nat) (v : AV) (g : Heap) (o : Option Nat), env = { t := u } ∧ u.length = 30 ∧ tg u 0 = chgsAV l ∧ tg u 3 = v ∧ tg u 6 = chgsAV l ∧ tg u 7 = .int .i64 l.length ∧ tg u 8 = .int .i64 i ∧ σ' = σ ++ g ∧ i ≤ l.length ∧ Acc σ g 6 v ((l.take i).map chgAV) o)
    (fun env _ => match tg env.t 8 with | .int _ i => l.length - i.toNat | _ => 0) ⟨_, 0, .nils, [], none, rfl, by simp, by simp, by simp, by simp, by simp, by simp, by simp, by omega, by simpa using Acc.nil _ _ _⟩ ?_
  rintro env σ' ⟨u, i, v, g, o, rfl, hl, g0, g3, g6, g7, g8, rfl, hi, hA⟩
  rcases Nat.lt_or_ge i l.length with hlt | hge
  · have hlt' : (i : Int) < (l.length : Int) := by omega
    have hx := w64 (n := (i : Int) + 1) (by omega) (by omega)
    have hA1 := ((hA.more [.cells (chgCells l[i])]).push (P := Tryz.prog) (t := 44) (e := 57) (ag := true) (x := chgAV l[i]) (by simp) (by simp) (by simp) (by omega) ⟨by simp [AV.cells], by simp [AV.cells, AV.one]⟩ (by simp; omega))
    obtain ⟨v', g', o', he, hA', _⟩ := hA1
    simp [-aappend, chgCells] at he
    rw [← Nat.add_assoc] at he
    simp [-aappend, hl, g0, g3, g6, g7, g8, hlt', hlt, hx, he]
    refine ⟨⟨i + 1, by simp, hlt, o', ?_⟩, by omega⟩
    rw [List.take_succ_eq_append_getElem (by simpa using hlt), List.getElem_map, ← List.map_take]
    exact hA'
  · have hge' : ¬ (i : Int) < (l.length : Int) := by omega
    rw [List.take_of_length_le hge] at hA
    have hz := hA.fz (fz_chgs _ _ _)
    simpa [hl, g0, g3, g6, g7, g8, hge'] using hz
set_option maxHeartbeats 4000000 in
theorem cmade_calls (l : List Oyez.Chg) (hf : l.length ≤ 2 ^ 40) : APure Tryz.prog 43 [chgsAV l] (chgsAV l) := by
  refine APure.of fun σ => ?_
  refine acalls_fn Tryz.func43 rfl (enters_fn Tryz.func43 (by decide) rfl) ?_
  simp [Tryz.ntmps43]
  refine ACode_loopT (fun env σ' => ∃ (u : List AV) (i : Nat) (v : AV) (g : Heap) (o : Option Nat), env = { t := u } ∧ u.length = 30 ∧ tg u 0 = chgsAV l ∧ tg u 3 = v ∧ tg u 6 = chgsAV l ∧ tg u 7 = .int .i64 l.length ∧ tg u 8 = .int .i64 i ∧ σ' = σ ++ g ∧ i ≤ l.length ∧ Acc σ g 6 v ((l.take i).map chgAV) o)
    (fun env _ => match tg env.t 8 with | .int _ i => l.length - i.toNat | _ => 0) ⟨_, 0, .nils, [], none, rfl, by simp, by simp, by simp, by simp, by simp, by simp, by simp, by omega, by simpa using Acc.nil _ _ _⟩ ?_
  rintro env σ' ⟨u, i, v, g, o, rfl, hl, g0, g3, g6, g7, g8, rfl, hi, hA⟩
  rcases Nat.lt_or_ge i l.length with hlt | hge
  · have hlt' : (i : Int) < (l.length : Int) := by omega
    have hx := w64 (n := (i : Int) + 1) (by omega) (by omega)
    have hA1 := ((hA.more [.cells (chgCells l[i])]).push (P := Tryz.prog) (t := 62) (e := 74) (ag := true) (x := chgAV l[i]) (by simp) (by simp) (by simp) (by omega) ⟨by simp [AV.cells], by simp [AV.cells, AV.one]⟩ (by simp; omega))
    obtain ⟨v', g', o', he, hA', _⟩ := hA1
    simp [-aappend, chgCells] at he
    rw [← Nat.add_assoc] at he
    simp [-aappend, hl, g0, g3, g6, g7, g8, hlt', hlt, hx, he]
    refine ⟨⟨i + 1, by simp, hlt, o', ?_⟩, by omega⟩
    rw [List.take_succ_eq_append_getElem (by simpa using hlt), List.getElem_map, ← List.map_take]
    exact hA'
  · have hge' : ¬ (i : Int) < (l.length : Int) := by omega
    rw [List.take_of_length_le hge] at hA
    have hz := hA.fz (fz_chgs _ _ _)
    simpa [hl, g0, g3, g6, g7, g8, hge'] using hz
theorem chg_ext {r q : Oyez.Chg} (h1 : r.kind = q.kind) (h2 : r.number = q.number) (h3 : r.had = q.had) (h4 : r.has = q.has) (h5 : r.old = q.old) (h6 : r.new = q.new) : r = q := by
  cases r; cases q; simp_all
set_option maxHeartbeats 8000000 in
theorem calike_calls (a b : List Oyez.Chg) (ha : a.length ≤ 2 ^ 40) (hw : ∀ c ∈ a, c.old.length ≤ 2 ^ 40 ∧ c.new.length ≤ 2 ^ 40) : APure Tryz.prog 42 [chgsAV a, chgsAV b] (.bool (decide (a = b))) := by
  refine APure.of fun σ => ?_
  refine acalls_fn Tryz.func42 rfl (enters_fn Tryz.func42 (by decide) rfl) ?_
  by_cases hab : a.length = b.length
  · obtain ⟨n, hn⟩ : ∃ n, b.length = n := ⟨_, rfl⟩
    have han : a.length = n := hab.trans hn
    simp [Tryz.ntmps42, han, hn]
    refine ACode_loopT (fun env σ' => ∃ (u : List AV) (i : Nat) (g : Heap), env = { t := u } ∧ u.length = 67 ∧ tg u 0 = chgsAV a ∧ tg u 1 = chgsAV b ∧ tg u 13 = chgsAV a ∧ tg u 14 = .int .i64 n ∧ tg u 15 = .int .i64 i ∧ σ' = σ ++ g ∧ i ≤ n ∧ a.take i = b.take i)
      (fun env _ => match tg env.t 15 with | .int _ i => n - i.toNat | _ => 0) ⟨_, 0, [], rfl, by simp, by simp, by simp, by simp, by simp, by simp, by simp, by omega, by simp⟩ ?_
    rintro env σ' ⟨u, i, g, rfl, hl, g0, g1, g13, g14, g15, rfl, hi, hd⟩
    rcases Nat.lt_or_ge i n with hlt | hge
    · have hlt' : (i : Int) < (n : Int) := by omega
      have hx := w64 (n := (i : Int) + 1) (by omega) (by omega)
      have hia : i < a.length := by omega
      have hib : i < b.length := by omega
      have hwi := hw _ (List.getElem_mem hia)
      have hne : ¬ a[i] = b[i] → ¬ a = b := fun he h => he (by subst h; rfl)
      by_cases hk : a[i].kind = b[i].kind
      case neg =>
        have hne' := hne fun h => hk (by rw [h])
        simp [hl, g0, g1, g13, g14, g15, hlt', han, hn, hlt, hk, hne']
      by_cases hm : a[i].number = b[i].number
      case neg =>
        have hne' := hne fun h => hm (by rw [h])
        simp [hl, g0, g1, g13, g14, g15, hlt', han, hn, hlt, hk, hm, hne']
      by_cases h3 : a[i].had = b[i].had
      case neg =>
        have hne' := hne fun h => h3 (by rw [h])
        have hbb : (a[i].had != b[i].had) = true := by simpa using h3
        simp [hbb, hl, g0, g1, g13, g14, g15, hlt', han, hn, hlt, hk, hm, h3, hne']
      by_cases h4 : a[i].has = b[i].has
      case neg =>
        have hne' := hne fun h => h4 (by rw [h])
        have hbb : (a[i].has != b[i].has) = true := by simpa using h4
        simp [hbb, hl, g0, g1, g13, g14, g15, hlt', han, hn, hlt, hk, hm, h3, h4, hne']
      simp [Nat.add_assoc, hl, g0, g1, g13, g14, g15, hlt', han, hn, hlt, hk, hm, h3, h4]
      refine (like_calls _ _ hwi.1).use ?_
      by_cases h5 : a[i].old = b[i].old
      case neg =>
        have hne' := hne fun h => h5 (by rw [h])
        simp [Nat.add_assoc, hl, g0, g1, g13, g14, g15, hlt', han, hn, hlt, hk, hm, h3, h4, h5, hne']
      simp [Nat.add_assoc, hl, g0, g1, g13, g14, g15, hlt', han, hn, hlt, hk, hm, h3, h4, h5]
      refine (like_calls _ _ hwi.2).use ?_
      by_cases h6 : a[i].new = b[i].new
      case neg =>
        have hne' := hne fun h => h6 (by rw [h])
        simp [Nat.add_assoc, hl, g0, g1, g13, g14, g15, hlt', han, hn, hlt, hk, hm, h3, h4, h5, h6, hne']
      have he := chg_ext hk hm h3 h4 h5 h6
      simp [Nat.add_assoc, hl, g0, g1, g13, g14, g15, hlt', han, hn, hlt, hk, hm, h3, h4, h5, h6, hx]
      refine ⟨⟨i + 1, by simp, hlt, ?_⟩, by omega⟩
      rw [List.take_succ_eq_append_getElem hia, List.take_succ_eq_append_getElem hib, hd, he]
    · have hge' : ¬ (i : Int) < (n : Int) := by omega
      have hE : a = b := by
        rw [List.take_of_length_le (by omega), List.take_of_length_le (by omega)] at hd
        exact hd
      simp [hl, g0, g1, g13, g14, g15, hge', hE]
  · have hne : ¬ a = b := fun h => hab (by rw [h])
    have hab' : ¬ (a.length : Int) = (b.length : Int) := by omega
    simp [Tryz.ntmps42, hab', hne, hab]
end Ab

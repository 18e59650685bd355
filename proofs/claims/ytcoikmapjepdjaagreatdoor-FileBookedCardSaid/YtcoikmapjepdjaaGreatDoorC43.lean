/-
  The book: lists that are the same.
-/
import Derived.Test.YtcoikmapjepdjaaGreatDoorC31
set_option linter.unusedSimpArgs false
set_option linter.unusedVariables false
set_option linter.unusedSectionVars false
namespace Ab
open Go Go.RowKit Go.Proofs
attribute [local irreducible] aws awp aw1 Og Om Oc Oa Ogd Ov Ot awd aw1d awh aw1h Ogh Ohd awl Ogl Ohl awv Ogv Ohv QThen QBlock QFn QFnM QRo QBe ACode AYield
theorem bk_eqC_calls (l : List Cr) (hl : l.length ≤ 2 ^ 40) : APure Tryz.prog 136 [.pl 3 (l.map fun x => AV.agg [.int .i64 x.hour, .int .i64 x.stand, .int .i64 x.notice]), .pl 3 (l.map fun x => AV.agg [.int .i64 x.hour, .int .i64 x.stand, .int .i64 x.notice])] (.bool true) := by
  intro σ
  refine acalls_fn Tryz.func136 rfl (enters_fn Tryz.func136 (by decide) rfl) ?_
  simp [Tryz.ntmps136]
  refine ACode_loopT (fun env σ' => ∃ (u : List AV) (i : Nat), env = { t := u } ∧ u.length = 26 ∧ tg u 0 = .pl 3 (l.map fun x => AV.agg [.int .i64 x.hour, .int .i64 x.stand, .int .i64 x.notice]) ∧ tg u 1 = .pl 3 (l.map fun x => AV.agg [.int .i64 x.hour, .int .i64 x.stand, .int .i64 x.notice]) ∧ tg u 12 = .int .i64 l.length ∧ tg u 13 = .int .i64 i ∧ σ' = σ ∧ i ≤ l.length)
    (fun env _ => match tg env.t 13 with | .int _ i => l.length - i.toNat | _ => 0) ⟨_, 0, rfl, by simp, by simp, by simp, by simp, by simp, rfl, by omega⟩ ?_
  rintro env σ' ⟨u, i, rfl, hl0, g0, g1, g12, g13, rfl, hi⟩
  rcases Nat.lt_or_ge i l.length with hlt | hge
  · have hlt' : (i : Int) < (l.length : Int) := by omega
    have hw1 := w64 (n := (i : Int) + 1) (by omega) (by omega)
    simp [hl0, g0, g1, g12, g13, hlt', hlt]
    refine ACode_draw0 mixed (by kernel_rfl) ?_
    simp [hl0, g0, g1, g12, g13, hlt', hlt, hw1]
    exact ⟨⟨i + 1, by simp, hlt⟩, by omega⟩
  · have hge' : ¬ (i : Int) < (l.length : Int) := by omega
    simp [hl0, g0, g1, g12, g13, hge']
theorem bk_likeC_calls (l : List Cr) (hl : l.length ≤ 2 ^ 40) : APure Tryz.prog 54 [.pl 3 (l.map fun x => AV.agg [.int .i64 x.hour, .int .i64 x.stand, .int .i64 x.notice]), .pl 3 (l.map fun x => AV.agg [.int .i64 x.hour, .int .i64 x.stand, .int .i64 x.notice])] (.bool true) := by
  intro σ
  refine acalls_fn Tryz.func54 rfl (enters_fn Tryz.func54 (by decide) rfl) ?_
  simp [Tryz.ntmps54]
  refine (bk_eqC_calls l hl).use ?_
  simp
theorem bk_eqM_calls (l : List Cm) (hl : l.length ≤ 2 ^ 40) : APure Tryz.prog 137 [.pl 3 (l.map fun x => AV.agg [.int .i64 x.house, .int .i64 x.notice, .bool x.heard]), .pl 3 (l.map fun x => AV.agg [.int .i64 x.house, .int .i64 x.notice, .bool x.heard])] (.bool true) := by
  intro σ
  refine acalls_fn Tryz.func137 rfl (enters_fn Tryz.func137 (by decide) rfl) ?_
  simp [Tryz.ntmps137]
  refine ACode_loopT (fun env σ' => ∃ (u : List AV) (i : Nat), env = { t := u } ∧ u.length = 26 ∧ tg u 0 = .pl 3 (l.map fun x => AV.agg [.int .i64 x.house, .int .i64 x.notice, .bool x.heard]) ∧ tg u 1 = .pl 3 (l.map fun x => AV.agg [.int .i64 x.house, .int .i64 x.notice, .bool x.heard]) ∧ tg u 12 = .int .i64 l.length ∧ tg u 13 = .int .i64 i ∧ σ' = σ ∧ i ≤ l.length)
    (fun env _ => match tg env.t 13 with | .int _ i => l.length - i.toNat | _ => 0) ⟨_, 0, rfl, by simp, by simp, by simp, by simp, by simp, rfl, by omega⟩ ?_
  rintro env σ' ⟨u, i, rfl, hl0, g0, g1, g12, g13, rfl, hi⟩
  rcases Nat.lt_or_ge i l.length with hlt | hge
  · have hlt' : (i : Int) < (l.length : Int) := by omega
    have hw1 := w64 (n := (i : Int) + 1) (by omega) (by omega)
    simp [hl0, g0, g1, g12, g13, hlt', hlt]
    refine ACode_draw0 mixed (by kernel_rfl) ?_
    simp [hl0, g0, g1, g12, g13, hlt', hlt, hw1]
    exact ⟨⟨i + 1, by simp, hlt⟩, by omega⟩
  · have hge' : ¬ (i : Int) < (l.length : Int) := by omega
    simp [hl0, g0, g1, g12, g13, hge']
theorem bk_likeM_calls (l : List Cm) (hl : l.length ≤ 2 ^ 40) : APure Tryz.prog 55 [.pl 3 (l.map fun x => AV.agg [.int .i64 x.house, .int .i64 x.notice, .bool x.heard]), .pl 3 (l.map fun x => AV.agg [.int .i64 x.house, .int .i64 x.notice, .bool x.heard])] (.bool true) := by
  intro σ
  refine acalls_fn Tryz.func55 rfl (enters_fn Tryz.func55 (by decide) rfl) ?_
  simp [Tryz.ntmps55]
  refine (bk_eqM_calls l hl).use ?_
  simp
theorem bk_eqV_calls (l : List Int) (hl : l.length ≤ 2 ^ 40) : APure Tryz.prog 139 [.pl 1 (l.map fun x => AV.int .i64 x), .pl 1 (l.map fun x => AV.int .i64 x)] (.bool true) := by
  intro σ
  refine acalls_fn Tryz.func139 rfl (enters_fn Tryz.func139 (by decide) rfl) ?_
  simp [Tryz.ntmps139]
  refine ACode_loopT (fun env σ' => ∃ (u : List AV) (i : Nat), env = { t := u } ∧ u.length = 26 ∧ tg u 0 = .pl 1 (l.map fun x => AV.int .i64 x) ∧ tg u 1 = .pl 1 (l.map fun x => AV.int .i64 x) ∧ tg u 12 = .int .i64 l.length ∧ tg u 13 = .int .i64 i ∧ σ' = σ ∧ i ≤ l.length)
    (fun env _ => match tg env.t 13 with | .int _ i => l.length - i.toNat | _ => 0) ⟨_, 0, rfl, by simp, by simp, by simp, by simp, by simp, rfl, by omega⟩ ?_
  rintro env σ' ⟨u, i, rfl, hl0, g0, g1, g12, g13, rfl, hi⟩
  rcases Nat.lt_or_ge i l.length with hlt | hge
  · have hlt' : (i : Int) < (l.length : Int) := by omega
    have hw1 := w64 (n := (i : Int) + 1) (by omega) (by omega)
    simp [hl0, g0, g1, g12, g13, hlt', hlt]
    refine ACode_draw0 mixed (by kernel_rfl) ?_
    simp [hl0, g0, g1, g12, g13, hlt', hlt, hw1]
    exact ⟨⟨i + 1, by simp, hlt⟩, by omega⟩
  · have hge' : ¬ (i : Int) < (l.length : Int) := by omega
    simp [hl0, g0, g1, g12, g13, hge']
theorem bk_eqR_calls (l : List (List Int)) (hl : l.length ≤ 2 ^ 40) (hw : ∀ r ∈ l, r.length ≤ 2 ^ 40) : APure Tryz.prog 138 [.pl 1 (l.map fun r => AV.pl 1 (r.map fun x => AV.int .i64 x)), .pl 1 (l.map fun r => AV.pl 1 (r.map fun x => AV.int .i64 x)), .fn (.func 139) [] []] (.bool true) := by
  intro σ
  refine acalls_fn Tryz.func138 rfl (enters_fn Tryz.func138 (by decide) rfl) ?_
  simp [Tryz.ntmps138]
  refine ACode_loopT (fun env σ' => ∃ (u : List AV) (i : Nat), env = { t := u } ∧ u.length = 32 ∧ tg u 1 = .pl 1 (l.map fun r => AV.pl 1 (r.map fun x => AV.int .i64 x)) ∧ tg u 2 = .fn (.func 139) [] [] ∧ tg u 15 = .pl 1 (l.map fun r => AV.pl 1 (r.map fun x => AV.int .i64 x)) ∧ tg u 16 = .int .i64 l.length ∧ tg u 17 = .int .i64 i ∧ σ' = σ ∧ i ≤ l.length)
    (fun env _ => match tg env.t 17 with | .int _ i => l.length - i.toNat | _ => 0) ⟨_, 0, rfl, by simp, by simp, by simp, by simp, by simp, by simp, rfl, by omega⟩ ?_
  rintro env σ' ⟨u, i, rfl, hl0, g1, g2, g15, g16, g17, rfl, hi⟩
  rcases Nat.lt_or_ge i l.length with hlt | hge
  · have hlt' : (i : Int) < (l.length : Int) := by omega
    have hw1 := w64 (n := (i : Int) + 1) (by omega) (by omega)
    simp [hl0, g1, g2, g15, g16, g17, hlt', hlt]
    refine (bk_eqV_calls l[i] (hw _ (List.getElem_mem hlt))).use ?_
    simp [hl0, g1, g2, g15, g16, g17, hlt', hlt, hw1]
    exact ⟨⟨i + 1, by simp, hlt⟩, by omega⟩
  · have hge' : ¬ (i : Int) < (l.length : Int) := by omega
    simp [hl0, g1, g2, g15, g16, g17, hge']
theorem bk_likeR_calls (l : List (List Int)) (hl : l.length ≤ 2 ^ 40) (hw : ∀ r ∈ l, r.length ≤ 2 ^ 40) : APure Tryz.prog 56 [.pl 1 (l.map fun r => AV.pl 1 (r.map fun x => AV.int .i64 x)), .pl 1 (l.map fun r => AV.pl 1 (r.map fun x => AV.int .i64 x))] (.bool true) := by
  intro σ
  refine acalls_fn Tryz.func56 rfl (enters_fn Tryz.func56 (by decide) rfl) ?_
  simp [Tryz.ntmps56]
  refine (bk_eqR_calls l hl hw).use ?_
  simp
theorem bk_eqI_calls (l : List Int) (hl : l.length ≤ 2 ^ 40) : APure Tryz.prog 83 [.pl 1 (l.map fun x => AV.int .i64 x), .pl 1 (l.map fun x => AV.int .i64 x)] (.bool true) := by
  intro σ
  refine acalls_fn Tryz.func83 rfl (enters_fn Tryz.func83 (by decide) rfl) ?_
  simp [Tryz.ntmps83]
  refine ACode_loopT (fun env σ' => ∃ (u : List AV) (i : Nat), env = { t := u } ∧ u.length = 26 ∧ tg u 0 = .pl 1 (l.map fun x => AV.int .i64 x) ∧ tg u 1 = .pl 1 (l.map fun x => AV.int .i64 x) ∧ tg u 12 = .int .i64 l.length ∧ tg u 13 = .int .i64 i ∧ σ' = σ ∧ i ≤ l.length)
    (fun env _ => match tg env.t 13 with | .int _ i => l.length - i.toNat | _ => 0) ⟨_, 0, rfl, by simp, by simp, by simp, by simp, by simp, rfl, by omega⟩ ?_
  rintro env σ' ⟨u, i, rfl, hl0, g0, g1, g12, g13, rfl, hi⟩
  rcases Nat.lt_or_ge i l.length with hlt | hge
  · have hlt' : (i : Int) < (l.length : Int) := by omega
    have hw1 := w64 (n := (i : Int) + 1) (by omega) (by omega)
    simp [hl0, g0, g1, g12, g13, hlt', hlt]
    refine ACode_draw0 mixed (by kernel_rfl) ?_
    simp [hl0, g0, g1, g12, g13, hlt', hlt, hw1]
    exact ⟨⟨i + 1, by simp, hlt⟩, by omega⟩
  · have hge' : ¬ (i : Int) < (l.length : Int) := by omega
    simp [hl0, g0, g1, g12, g13, hge']
theorem bk_likeI_calls (l : List Int) (hl : l.length ≤ 2 ^ 40) : APure Tryz.prog 22 [.pl 1 (l.map fun x => AV.int .i64 x), .pl 1 (l.map fun x => AV.int .i64 x)] (.bool true) := by
  intro σ
  refine acalls_fn Tryz.func22 rfl (enters_fn Tryz.func22 (by decide) rfl) ?_
  simp [Tryz.ntmps22]
  refine (bk_eqI_calls l hl).use ?_
  simp
end Ab

/-
  The book: told, heard, the fewest complaints.
-/
import Derived.Test.YtcoikmapjepdjaaGreatDoorC37
import Derived.Test.YtcoikmapjepdjaaGreatDoorC40
set_option linter.unusedSimpArgs false
set_option linter.unusedVariables false
set_option linter.unusedSectionVars false
namespace Ab
open Go Go.RowKit Go.Proofs
attribute [local irreducible] aws awp aw1 Og Om Oc Oa Ogd Ov Ot awd aw1d awh aw1h Ogh Ohd awl Ogl Ohl awv Ogv Ohv QThen QBlock QFn QFnM QFnL QRo QBe ACode AYield leaveL
theorem endB_got {b : Bk} : ∀ e ∈ endB b, e.1.length = 24 := fun e he => by
  obtain ⟨x, hx, rfl⟩ := endTo_of e he
  exact (nowB_ok b _ x hx).got
theorem endB_len {b : Bk} (ok : b.Ok) : (endB b).length ≤ 2 ^ 24 := by
  have h1 := endTo_len (nowB b b.reads.length)
  have h2 := nowB_len b b.reads.length
  exact Nat.le_trans h1 (Nat.le_trans h2 (Nat.le_trans (Nat.pow_le_pow_right (by omega) ok.reads.2) (by decide)))
theorem fz_ends (n : Nat) (S : Heap) (l : Ends) : Fz n S (.pl 25 (l.map endAV)) (.pl 25 (l.map endAV)) := .pl 25 _ fun i x hx j y hy => by
  obtain ⟨e, he, rfl⟩ := List.mem_map.1 (List.mem_of_getElem? hx)
  rcases List.mem_append.1 (show y ∈ e.1.map AV.bool ++ [.pl 1 (intsV e.2)] from List.mem_of_getElem? hy) with hy | hy
  · obtain ⟨z, _, rfl⟩ := List.mem_map.1 hy; exact .bool _
  · rw [List.mem_singleton.1 hy]
    refine .pl 1 _ fun i x hx j y hy => ?_
    obtain ⟨z, _, rfl⟩ := List.mem_map.1 (List.mem_of_getElem? hx)
    cases j with
    | zero => simp [AV.cells] at hy; subst hy; exact .int _ _
    | succ j => simp [AV.cells] at hy
theorem bk_told_calls (b : Bk) (ok : b.Ok) (hn : endB b ≠ []) : APure Tryz.prog 128 [bkAV b] (.tup [.any, .pl 25 ((endB b).map endAV), .int .i64 0]) := by
  refine APure.of fun σ => ?_
  refine acalls_fn Tryz.func128 rfl (enters_fn Tryz.func128 (by decide) rfl) ?_
  have hne : ¬ (endB b).length = 0 := fun h => hn (List.eq_nil_of_length_eq_zero h)
  simp [Tryz.ntmps128, bkAV]
  refine StA.of ((bk_opened_calls b ok _).mono ?_)
  rintro _ _ ⟨rfl, rfl⟩
  simp
  refine StA.of ((bk_endings_calls b ok _ _ (by rw [List.getElem?_append_right (by omega)]; simp [Nat.add_assoc])).mono ?_)
  rintro _ _ ⟨rfl, rfl⟩
  simp [hne]
  exact ⟨.any _, fz_ends _ _ _⟩
theorem bk_heard_calls (b : Bk) (ok : b.Ok) (hn : endB b ≠ []) (l : List Cm) (hl : ∀ c ∈ l, c.Ok b) (hll : l.length ≤ 8) : APure Tryz.prog 134 [bkAV b, .pl 3 (l.map fun x => AV.agg [.int .i64 x.house, .int .i64 x.notice, .bool x.heard])] (.tup [.pl 25 ((endB b).map endAV), .int .i64 0]) := by
  refine APure.of fun σ => ?_
  refine acalls_fn Tryz.func134 rfl (enters_fn Tryz.func134 (by decide) rfl) ?_
  simp [Tryz.ntmps134, bkAV]
  refine (bk_complained_calls b ok l hl hll).use ?_
  simp
  refine (bk_told_calls b ok hn).use ?_
  simp
  exact fz_ends _ _ _
set_option maxHeartbeats 1000000 in
theorem bk_fewest_calls (b : Bk) (ok : b.Ok) (hn : endB b ≠ []) (l : List Cm) (hl : ∀ c ∈ l, c.Ok b) (hll : l.length ≤ 8) : APure Tryz.prog 53 [bkAV b, .pl 3 (l.map fun x => AV.agg [.int .i64 x.house, .int .i64 x.notice, .bool x.heard])] (.tup [.pl 1 ((fewB l (endB b)).map fun x => AV.int .i64 x), .int .i64 0]) := by
  refine APure.of fun σ => ?_
  have hgot := endB_got (b := b)
  have hlen := endB_len ok
  obtain ⟨e, E, hE⟩ : ∃ e E, endB b = e :: E := by
    cases h : endB b with
    | nil => exact absurd h hn
    | cons e E => exact ⟨e, E, rfl⟩
  have hh := bk_heard_calls b ok hn l hl hll
  rw [hE] at hh hgot hlen ⊢
  have hge := hgot e (by simp)
  refine acalls_fn Tryz.func53 rfl (enters_fn Tryz.func53 (by decide) rfl) ?_
  have h24 : List.take 24 (e.1.map AV.bool ++ [AV.pl 1 (intsV e.2)]) = e.1.map AV.bool := by rw [List.take_append_of_le_length (by simp [hge]), List.take_of_length_le (by simp [hge])]
  have hbk : bkAV b = bkAV b := rfl
  simp [Tryz.ntmps53, bkAV]
  refine hh.use ?_
  simp [endAV, hge, h24]
  refine (bk_wrong_calls b ok l hl hll e.1 hge).use ?_
  simp
  have htk : List.take E.length (E.map endAV) = E.map endAV := List.take_of_length_le (by simp)
  have hfe : fewB l (e :: E) = fewTo l E (wrongN l e.1 l.length) := rfl
  obtain ⟨cs, hcs⟩ : ∃ cs, AV.pl 3 (l.map fun x => AV.agg [.int .i64 x.house, .int .i64 x.notice, .bool x.heard]) = cs := ⟨_, rfl⟩
  have hwr := fun (g : List Bool) (hg : g.length = 24) => bk_wrong_calls b ok l hl hll g hg
  rw [hcs] at hwr
  rw [hcs]
  refine ACode_loopT (fun env σ' => ∃ (u : List AV) (i : Nat) (best : List Int) (g : Heap), env = { t := u } ∧ u.length = 59 ∧ tg u 1 = cs ∧ tg u 8 = .pl 1 (best.map fun x => AV.int .i64 x) ∧ tg u 28 = .pl 25 (E.map endAV) ∧ tg u 29 = .int .i64 E.length ∧ tg u 30 = .int .i64 i ∧ i ≤ E.length ∧ σ' = σ ++ g ∧ best.length ≤ l.length ∧ fewTo l (E.drop i) best = fewB l (e :: E))
    (fun env _ => match tg env.t 30 with | .int _ i => E.length - i.toNat | _ => 0) ⟨_, 0, wrongN l e.1 l.length, _, rfl, by simp, by simp, by simp, by simp [htk], by simp, by simp, by omega, rfl, wrongN_len _ _ _, by rw [hfe]; rfl⟩ ?_
  rintro env _ ⟨u, i, best, g, rfl, hl0, g1, g8, g28, g29, g30, hi, rfl, hbl, hd⟩
  rcases Nat.lt_or_ge i E.length with hlt | hge2
  · have hlt' : (i : Int) < (E.length : Int) := by omega
    have hEl : E.length < 2 ^ 24 := by simp at hlen; omega
    have hw1 := w64 (n := (i : Int) + 1) (by omega) (by omega)
    obtain ⟨x, hxe⟩ : ∃ x, E[i] = x := ⟨_, rfl⟩
    have hxg : x.1.length = 24 := hgot x (by rw [← hxe]; exact List.mem_cons_of_mem _ (List.getElem_mem hlt))
    have hx24 : List.take 24 (x.1.map AV.bool ++ [AV.pl 1 (intsV x.2)]) = x.1.map AV.bool := by rw [List.take_append_of_le_length (by simp [hxg]), List.take_of_length_le (by simp [hxg])]
    rw [List.drop_eq_getElem_cons hlt, hxe] at hd
    have hdd : fewTo l (x :: E.drop (i + 1)) best = fewTo l (E.drop (i + 1)) (if betterF (wrongN l x.1 l.length) best then wrongN l x.1 l.length else best) := rfl
    rw [hdd] at hd
    have hxa : endAV x = .agg (x.1.map AV.bool ++ [AV.pl 1 (intsV x.2)]) := rfl
    simp [hl0, g1, g8, g28, g29, g30, hlt', hlt, hxe, hxa, hxg, hx24]
    have hx25 : List.take 25 (x.1.map AV.bool ++ [AV.pl 1 (intsV x.2)]) = x.1.map AV.bool ++ [AV.pl 1 (intsV x.2)] := List.take_of_length_le (by simp [hxg])
    rw [hx25, if_pos (by exact endAV_one x), Om_some]
    simp [hl0, g1, g8, g28, g29, g30, hlt', hlt, hxe, hxa, hxg, hx24]
    refine (hwr x.1 hxg).use ?_
    have hwl := wrongN_len l x.1 l.length
    obtain ⟨own, how⟩ : ∃ own, wrongN l x.1 l.length = own := ⟨_, rfl⟩
    rw [how] at hd hwl ⊢
    by_cases h1 : own.length < best.length
    · have hb : betterF own best = true := by simp [betterF, h1]
      rw [hb, if_pos rfl] at hd
      simp [hl0, g1, g8, g28, g29, g30, h1, hw1]
      exact ⟨⟨i + 1, own, rfl, by simp, hlt, hwl, hd⟩, by omega⟩
    · have h1' : ¬ (own.length : Int) < (best.length : Int) := by omega
      by_cases h2 : own.length = best.length
      · have h3 : betterF own best = decide (cmpL own best < 0) := by simp [betterF, h1, h2]
        rw [h3] at hd
        simp [hl0, g1, g8, g28, g29, g30, h1, h2, hw1]
        refine (bk_compare_calls own best (by omega) (by omega)).use ?_
        by_cases h4 : cmpL own best < 0
        · rw [if_pos (by simp [h4])] at hd
          simp [hl0, g1, g8, g28, g29, g30, h1, h2, h4, hw1]
          exact ⟨⟨i + 1, own, rfl, by simp, hlt, hwl, hd⟩, by omega⟩
        · rw [if_neg (by simp [h4])] at hd
          simp [hl0, g1, g8, g28, g29, g30, h1, h2, h4, hw1]
          exact ⟨⟨i + 1, best, rfl, by simp, hlt, hbl, hd⟩, by omega⟩
      · have h2' : ¬ (own.length : Int) = (best.length : Int) := by omega
        have hb : betterF own best = false := by simp [betterF, h1, h2]
        rw [hb, if_neg (by simp)] at hd
        simp [hl0, g1, g8, g28, g29, g30, h1, h2', hw1]
        exact ⟨⟨i + 1, best, rfl, by simp, hlt, hbl, hd⟩, by omega⟩
  · have hge' : ¬ (i : Int) < (E.length : Int) := by omega
    rw [List.drop_eq_nil_of_le hge2] at hd
    have hd' : best = fewB l (e :: E) := hd
    simp [hl0, g1, g8, g28, g29, g30, hge', hd']
    exact .pl 1 _ fun i x hx j y hy => by
      obtain ⟨z, _, rfl⟩ := List.mem_map.1 (List.mem_of_getElem? hx)
      cases j with
      | zero => simp [AV.cells] at hy; subst hy; exact .int _ _
      | succ j => simp [AV.cells] at hy
end Ab

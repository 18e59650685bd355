/-
  THE REFERENCE's Back, Diff and Make.
-/
import Derived.Test.YtdifgaapdnbliaaGreatDoorR32
import Derived.Test.YtdifgaapdnbliaaGreatDoorR33
import Derived.Test.YtdifgaapdnbliaaGreatDoorR37
set_option linter.unusedSimpArgs false
set_option linter.unusedVariables false
set_option linter.unusedSectionVars false
namespace Oyez
def diffTo (a b : List Rec) (k n : Nat) : List Chg := (upTo k n).filterMap (diffAt a b)
theorem diffTo_snoc (a b : List Rec) {k n : Nat} (hk : k < 5) (hn : n < 1000) : diffTo a b k (n + 1) = diffTo a b k n ++ (diffAt a b ⟨k, n⟩).toList := by
  unfold diffTo
  rw [upTo_snoc hk hn, List.filterMap_append]
  cases h : diffAt a b ⟨k, n⟩ <;> simp [h]
theorem diffTo_len (a b : List Rec) (k n : Nat) : (diffTo a b k n).length ≤ 5000 := Nat.le_trans (List.length_filterMap_le _ _) (upTo_len k n)
def makeTo (f : List Rec) (l : List Chg) (k n : Nat) : List Rec := (upTo k n).filterMap (recAt fun p => stL l p (getIn f p))
theorem makeTo_snoc (f : List Rec) (l : List Chg) {k n : Nat} (hk : k < 5) (hn : n < 1000) : makeTo f l k (n + 1) = makeTo f l k n ++ (recAt (fun p => stL l p (getIn f p)) ⟨k, n⟩).toList := by
  unfold makeTo
  rw [upTo_snoc hk hn, List.filterMap_append]
  cases h : recAt (fun p => stL l p (getIn f p)) ⟨k, n⟩ <;> simp [h]
theorem makeTo_len (f : List Rec) (l : List Chg) (k n : Nat) : (makeTo f l k n).length ≤ 5000 := Nat.le_trans (List.length_filterMap_le _ _) (upTo_len k n)
theorem stL_snoc (l : List Chg) (c : Chg) (p : Place) (s : St) : stL (l ++ [c]) p s = if c.place = p then c.now else stL l p s := by unfold stL; rw [List.foldl_append]; rfl
theorem back_snoc' (l : List Chg) (c : Chg) : back (l ++ [c]) = back l ++ [⟨c.kind, c.number, c.has, c.had, c.new, c.old⟩] := by simp [back]
end Oyez
namespace Ab
open Go Go.RowKit Go.Proofs
attribute [local irreducible] aws awp aw1 Og Om Oc Oa Ogd Ov Ot awd aw1d awh aw1h Ogh Ohd awl Ogl Ohl awv Ogv Ohv QThen QBlock QFn QFnM QRo QBe ACode AYield
set_option maxHeartbeats 8000000 in
theorem refBack_calls (l : List Oyez.Chg) (hl0 : l.length ≤ 2 ^ 40) : APure Tryz.prog 73 [chgsAV l] (chgsAV (Oyez.back l)) := by
  refine APure.of fun σ => ?_
  obtain ⟨R, hR⟩ : ∃ R, Oyez.back l = R := ⟨_, rfl⟩
  rw [hR]
  refine acalls_fn Tryz.func73 rfl (enters_fn Tryz.func73 (by decide) rfl) ?_
  simp [-aappend, Tryz.ntmps73]
  refine ACode_loopT (fun env σ' => ∃ (u : List AV) (i : Nat) (v : AV) (g : Heap) (o : Option Nat), env = { t := u } ∧ u.length = 46 ∧ tg u 0 = chgsAV l ∧ tg u 3 = v ∧ tg u 4 = .int .i64 i ∧ σ' = σ ++ g ∧ i ≤ l.length ∧ Acc σ g 6 v ((Oyez.back (l.take i)).map chgAV) o)
    (fun env _ => match tg env.t 4 with | .int _ i => l.length - i.toNat | _ => 0) ⟨_, 0, .nils, [], none, rfl, by simp, by simp, by simp, by simp, by simp, by omega, by simpa [Oyez.back] using Acc.nil _ _ _⟩ ?_
  rintro env σ' ⟨u, i, v, g, o, rfl, hl, g0, g3, g4, rfl, hi, hA⟩
  rcases Nat.lt_or_ge i l.length with hlt | hge
  · have hlt' : (i : Int) < (l.length : Int) := by omega
    have hx := w64 (n := (i : Int) + 1) (by omega) (by omega)
    obtain ⟨c, hc⟩ : ∃ c, l[i] = c := ⟨_, rfl⟩
    have htk : l.take (i + 1) = l.take i ++ [c] := by rw [List.take_succ_eq_append_getElem hlt, hc]
    have hbk := Oyez.back_snoc' (l.take i) c
    rw [← htk] at hbk
    have hbl : (Oyez.back (l.take i)).length ≤ i := by unfold Oyez.back; rw [List.length_map, List.length_take]; omega
    obtain ⟨v', g', o', he, hA', _⟩ := hA.push (P := Tryz.prog) (t := 44) (e := 57) (ag := true) (x := chgAV ⟨c.kind, c.number, c.has, c.had, c.new, c.old⟩) (by simp) (by simp) (by simp) (by omega) ⟨by simp [AV.cells], by simp [AV.cells, AV.one]⟩ (by simp; omega)
    simp [-aappend] at he
    simp [-aappend, hl, g0, g3, g4, hlt', hlt, hc]
    refine ACode_drawV [32, 33] [(0, 1)] mixed (by kernel_rfl) (by kernel_rfl) ?_
    simp [-aappend, hl, g0, g3, g4, hlt', hlt, hc, hx, he]
    exact ⟨⟨i + 1, by simp, by omega, o', by rw [hbk, List.map_append]; exact hA'⟩, by omega⟩
  · have hge' : ¬ (i : Int) < (l.length : Int) := by omega
    rw [List.take_of_length_le hge, hR] at hA
    have hz := hA.fz (fz_chgs _ _ _)
    simpa [-aappend, hl, g0, g3, g4, hge'] using hz
set_option maxHeartbeats 8000000 in
theorem refDiff_calls (a b : List Oyez.Rec) (la : a.length ≤ 2 ^ 40) (lb : b.length ≤ 2 ^ 40) (wa : ∀ r ∈ a, r.words.length ≤ 2 ^ 40) (ha : Oyez.InRange a) (hb : Oyez.InRange b) : APure Tryz.prog 76 [fileAV a, fileAV b] (chgsAV (Oyez.diff a b)) := by
  refine APure.of fun σ => ?_
  rw [← Oyez.diff_eq ha hb, ← Oyez.upTo_all, show (Oyez.upTo 5 0).filterMap (Oyez.diffAt a b) = Oyez.diffTo a b 5 0 from rfl]
  refine acalls_fn Tryz.func76 rfl (enters_fn Tryz.func76 (by decide) rfl) ?_
  simp [-aappend, Tryz.ntmps76]
  refine ACode_loopT (fun env σ' => ∃ (u : List AV) (k : Nat) (v : AV) (g : Heap) (o : Option Nat), env = { t := u } ∧ u.length = 51 ∧ tg u 0 = fileAV a ∧ tg u 1 = fileAV b ∧ tg u 5 = v ∧ tg u 6 = .int .i64 k ∧ σ' = σ ++ g ∧ k ≤ 5 ∧ Acc σ g 6 v ((Oyez.diffTo a b k 0).map chgAV) o)
    (fun env _ => match tg env.t 6 with | .int _ i => 5 - i.toNat | _ => 0) ⟨_, 0, .nils, [], none, rfl, by simp, by simp, by simp, by simp, by simp, by simp, by omega, Acc.nil _ _ _⟩ ?_
  rintro env σ' ⟨u, k, v, g, o, rfl, hl, g0, g1, g5, g6, rfl, hk, hA⟩
  rcases Nat.lt_or_ge k 5 with hlt | hge
  · have hlt' : (k : Int) < 5 := by omega
    have hxk := w64 (n := (k : Int) + 1) (by omega) (by omega)
    simp [-aappend, hl, g0, g1, g5, g6, hlt', hlt]
    refine ACode_loopT (fun env σ' => ∃ (u : List AV) (n : Nat) (v : AV) (g : Heap) (o : Option Nat), env = { t := u } ∧ u.length = 51 ∧ tg u 0 = fileAV a ∧ tg u 1 = fileAV b ∧ tg u 5 = v ∧ tg u 6 = .int .i64 k ∧ tg u 7 = .int .i64 n ∧ σ' = σ ++ g ∧ n ≤ 1000 ∧ Acc σ g 6 v ((Oyez.diffTo a b k n).map chgAV) o)
      (fun env _ => match tg env.t 7 with | .int _ i => 1000 - i.toNat | _ => 0) ⟨_, 0, v, g, o, rfl, by simp [hl], by simp [hl, g0], by simp [hl, g1], by simp [hl, g5], by simp [hl, g6], by simp [hl], rfl, by omega, hA⟩ ?_
    clear hA g0 g1 g5 g6 hl u v g o
    rintro env σ' ⟨u, n, v, g, o, rfl, hl, g0, g1, g5, g6, g7, rfl, hn, hA⟩
    rcases Nat.lt_or_ge n 1000 with hln | hgn
    · have hln' : (n : Int) < 1000 := by omega
      have hxn := w64 (n := (n : Int) + 1) (by omega) (by omega)
      have hLl := Oyez.diffTo_len a b k n
      have hstep := Oyez.diffTo_snoc a b hlt hln
      obtain ⟨x, hxe⟩ : ∃ x, Oyez.getIn a ⟨k, n⟩ = x := ⟨_, rfl⟩
      obtain ⟨y, hye⟩ : ∃ y, Oyez.getIn b ⟨k, n⟩ = y := ⟨_, rfl⟩
      have hlx : (getW x).length ≤ 2 ^ 50 := by
        cases h : x with
        | none => exact Nat.zero_le _
        | some ws =>
          obtain ⟨r, hr, _, rfl⟩ := Oyez.getIn_mem (hxe.trans h)
          have := wa r hr
          show r.words.length ≤ 2 ^ 50
          omega
      unfold Oyez.diffAt at hstep
      rw [hxe, hye] at hstep
      simp [-aappend, hl, g0, g1, g5, g6, g7, hln', hln]
      refine (refGet_calls a k n (by omega)).use ?_
      simp [-aappend, hl, g0, g1, g5, g6, g7]
      refine (refGet_calls b k n (by omega)).use ?_
      simp [-aappend, hl, g0, g1, g5, g6, g7, hxe, hye]
      refine (alike_calls x y hlx).use ?_
      by_cases hxy : x = y
      · rw [if_pos hxy] at hstep
        simp [-aappend, hl, g0, g1, g5, g6, g7, hxe, hye, hxy, hxn]
        exact ⟨⟨n + 1, by simp, by omega, o, by rw [hstep]; simpa using hA⟩, by omega⟩
      · rw [if_neg hxy] at hstep
        obtain ⟨v', g', o', he, hA', _⟩ := hA.push (P := Tryz.prog) (t := 44) (e := 57) (ag := true) (x := chgAV (Oyez.chg ⟨k, n⟩ x y)) (by simp) (by simp) (by simp) (by omega) ⟨by simp [AV.cells], by simp [AV.cells, AV.one]⟩ (by simp; omega)
        simp [-aappend, Oyez.chg] at he
        simp [-aappend, hl, g0, g1, g5, g6, g7, hxe, hye, hxy, hxn, getW, he]
        exact ⟨⟨n + 1, by simp, by omega, o', by rw [hstep, Option.toList_some, List.map_append]; exact hA'⟩, by omega⟩
    · obtain rfl : n = 1000 := by omega
      have e : Oyez.diffTo a b k 1000 = Oyez.diffTo a b (k + 1) 0 := by unfold Oyez.diffTo; rw [Oyez.upTo_row]
      rw [e] at hA
      simp [-aappend, hl, g0, g1, g5, g6, g7, hxk]
      exact ⟨⟨k + 1, by simp, by omega, o, hA⟩, by omega⟩
  · obtain rfl : k = 5 := by omega
    have hz := hA.fz (fz_chgs _ _ _)
    simpa [-aappend, hl, g0, g1, g5, g6] using hz
/-- what the reference's Make gives -/
def refMakeR (f : List Oyez.Rec) (l : List Oyez.Chg) : List Oyez.Rec × Int := if Oyez.fits f l = false then ([], 7) else if 40 < (Oyez.make f l).length then ([], 2) else (Oyez.make f l, 0)
set_option maxRecDepth 10000 in
set_option maxHeartbeats 16000000 in
theorem refMake_calls (f : List Oyez.Rec) (l : List Oyez.Chg) (hf : Oyez.Right f) (hl0 : Oyez.RightC l) : APure Tryz.prog 74 [fileAV f, chgsAV l] (.tup [fileAV (refMakeR f l).1, .int .i64 (refMakeR f l).2]) := by
  refine APure.of fun σ => ?_
  obtain ⟨R, hR⟩ : ∃ R, refMakeR f l = R := ⟨_, rfl⟩
  rw [hR]
  unfold refMakeR at hR
  have lf := hf.len
  have ll := hl0.len
  have hwf : ∀ p, (getW (Oyez.getIn f p)).length ≤ 2 ^ 50 := fun p => by
    cases h : Oyez.getIn f p with
    | none => exact Nat.zero_le _
    | some ws =>
      obtain ⟨r, hr, _, rfl⟩ := Oyez.getIn_mem h
      have := (Oyez.wordsErr_zero ((Oyez.recErr_iff r).1 (hf.recs r hr)).2).1
      show r.words.length ≤ 2 ^ 50
      omega
  rw [← Oyez.make_eq hf.sorted hf.range hl0.range, ← Oyez.upTo_all, show (Oyez.upTo 5 0).filterMap (Oyez.recAt fun p => Oyez.stL l p (Oyez.getIn f p)) = Oyez.makeTo f l 5 0 from rfl] at hR
  refine acalls_fn Tryz.func74 rfl (enters_fn Tryz.func74 (by decide) rfl) ?_
  simp [-aappend, Tryz.ntmps74]
  refine ACode_loopT (fun env σ' => ∃ (u : List AV) (i : Nat), env = { t := u } ∧ u.length = 109 ∧ tg u 0 = fileAV f ∧ tg u 1 = chgsAV l ∧ tg u 6 = .int .i64 i ∧ σ' = σ ∧ i ≤ l.length ∧ ∀ c ∈ l.take i, Oyez.getIn f c.place = c.was)
    (fun env _ => match tg env.t 6 with | .int _ i => l.length - i.toNat | _ => 0) ⟨_, 0, rfl, by simp, by simp, by simp, by simp, rfl, by omega, by simp⟩ ?_
  rintro env _ ⟨u, i, rfl, hl, g0, g1, g6, hs0, hi, hfit⟩
  obtain rfl := hs0.symm
  rcases Nat.lt_or_ge i l.length with hlt | hge
  · have hlt' : (i : Int) < (l.length : Int) := by omega
    have hx := w64 (n := (i : Int) + 1) (by omega) (by omega)
    obtain ⟨c, hc⟩ : ∃ c, l[i] = c := ⟨_, rfl⟩
    have hcm : c ∈ l := hc ▸ List.getElem_mem hlt
    have bc := chgErr_good (hl0.each c hcm)
    obtain ⟨a1, a2, _, _⟩ := was_of bc
    have htk : l.take (i + 1) = l.take i ++ [c] := by rw [List.take_succ_eq_append_getElem hlt, hc]
    have hal := alike_calls (Oyez.getIn f c.place) c.was (hwf c.place)
    rw [a1, a2] at hal
    simp [hl, g0, g1, g6, hlt', hlt, hc]
    refine ACode_draw0 mixed (by kernel_rfl) ?_
    simp [hl, g0, g1, g6, hlt', hlt, hc]
    refine Ou_use0 (refGet_calls f c.kind c.number (by omega)) ?_
    rw [show ({ kind := c.kind, number := c.number } : Oyez.Place) = c.place from rfl]
    simp [hl, g0, g1, g6, hlt', hlt, hc]
    refine ACode_draw0 mixed (by kernel_rfl) ?_
    simp [hl, g0, g1, g6, hlt', hlt, hc]
    refine Ou_use0 hal ?_
    by_cases he : Oyez.getIn f c.place = c.was
    · simp [hl, g0, g1, g6, hlt', hlt, hc, hx, he]
      refine ⟨⟨i + 1, by simp, by omega, fun d hd => ?_⟩, by omega⟩
      rw [htk, List.mem_append, List.mem_singleton] at hd
      rcases hd with hd | rfl
      · exact hfit d hd
      · exact he
    · have hfn : Oyez.fits f l = false := by
        unfold Oyez.fits
        rw [List.all_eq_false]
        exact ⟨c, hcm, by simpa using he⟩
      rw [if_pos hfn] at hR
      subst hR
      simp [hl, g0, g1, g6, hlt', hlt, hc, he]
  · have hge' : ¬ (i : Int) < (l.length : Int) := by omega
    have hfy : Oyez.fits f l = true := by
      unfold Oyez.fits
      rw [List.all_eq_true]
      intro c hc
      rw [List.take_of_length_le hge] at hfit
      simpa using hfit c hc
    rw [if_neg (by simp [hfy])] at hR
    clear hfit
    simp [-aappend, hl, g0, g1, g6, hge']
    refine ACode_loopT (fun env σ' => ∃ (u : List AV) (k : Nat) (v : AV) (g : Heap) (o : Option Nat), env = { t := u } ∧ u.length = 109 ∧ tg u 0 = fileAV f ∧ tg u 1 = chgsAV l ∧ tg u 9 = v ∧ tg u 10 = .int .i64 k ∧ σ' = σ ++ g ∧ k ≤ 5 ∧ Acc σ g 3 v ((Oyez.makeTo f l k 0).map recAV) o)
      (fun env _ => match tg env.t 10 with | .int _ i => 5 - i.toNat | _ => 0) ⟨_, 0, .nils, [], none, rfl, by simp [hl], by simp [hl, g0], by simp [hl, g1], by simp [hl], by simp [hl], by simp, by omega, Acc.nil _ _ _⟩ ?_
    clear g0 g1 g6 hl hge hge' hi u i
    rintro env σ' ⟨u, k, v, g, o, rfl, hl, g0, g1, g9, g10, rfl, hk, hA⟩
    rcases Nat.lt_or_ge k 5 with hlt | hge
    · have hlt' : (k : Int) < 5 := by omega
      have hxk := w64 (n := (k : Int) + 1) (by omega) (by omega)
      simp [-aappend, hl, g0, g1, g9, g10, hlt', hlt]
      refine ACode_loopT (fun env σ' => ∃ (u : List AV) (n : Nat) (v : AV) (g : Heap) (o : Option Nat), env = { t := u } ∧ u.length = 109 ∧ tg u 0 = fileAV f ∧ tg u 1 = chgsAV l ∧ tg u 9 = v ∧ tg u 10 = .int .i64 k ∧ tg u 11 = .int .i64 n ∧ σ' = σ ++ g ∧ n ≤ 1000 ∧ Acc σ g 3 v ((Oyez.makeTo f l k n).map recAV) o)
        (fun env _ => match tg env.t 11 with | .int _ i => 1000 - i.toNat | _ => 0) ⟨_, 0, v, g, o, rfl, by simp [hl], by simp [hl, g0], by simp [hl, g1], by simp [hl, g9], by simp [hl, g10], by simp [hl], rfl, by omega, hA⟩ ?_
      clear hA g0 g1 g9 g10 hl u v g o
      rintro env σ' ⟨u, n, v, g, o, rfl, hl, g0, g1, g9, g10, g11, rfl, hn, hA⟩
      rcases Nat.lt_or_ge n 1000 with hln | hgn
      · have hln' : (n : Int) < 1000 := by omega
        have hxn := w64 (n := (n : Int) + 1) (by omega) (by omega)
        have hLl := Oyez.makeTo_len f l k n
        have hstep := Oyez.makeTo_snoc f l hlt hln
        obtain ⟨p, hp⟩ : ∃ p : Oyez.Place, (⟨k, n⟩ : Oyez.Place) = p := ⟨_, rfl⟩
        have hpk : p.kind = k := by rw [← hp]
        have hpn : p.number = n := by rw [← hp]
        simp [-aappend, hl, g0, g1, g9, g10, g11, hln', hln]
        refine (refGet_calls f k n (by omega)).use ?_
        rw [hp] at hstep ⊢
        simp [-aappend, hl, g0, g1, g9, g10, g11, hln', hln]
        refine ACode_loopT (fun env σ' => ∃ (u : List AV) (i : Nat), env = { t := u } ∧ u.length = 109 ∧ tg u 0 = fileAV f ∧ tg u 1 = chgsAV l ∧ tg u 9 = v ∧ tg u 10 = .int .i64 k ∧ tg u 11 = .int .i64 n ∧ tg u 12 = wordsAV (getW (Oyez.stL (l.take i) p (Oyez.getIn f p))) ∧ tg u 13 = .bool (Oyez.stL (l.take i) p (Oyez.getIn f p)).isSome ∧ tg u 14 = .int .i64 i ∧ σ' = σ ++ g ∧ i ≤ l.length)
          (fun env _ => match tg env.t 14 with | .int _ i => l.length - i.toNat | _ => 0) ⟨_, 0, rfl, by simp [hl], by simp [hl, g0], by simp [hl, g1], by simp [hl, g9], by simp [hl, g10], by simp [hl, g11], by simp [hl, Oyez.stL], by simp [hl, Oyez.stL], by simp [hl], rfl, by omega⟩ ?_
        clear g0 g1 g9 g10 g11 hl u
        rintro env _ ⟨u, i, rfl, hl, g0, g1, g9, g10, g11, g12, g13, g14, hs0, hi⟩
        obtain rfl := hs0.symm
        rcases Nat.lt_or_ge i l.length with hlt2 | hge2
        · have hlt2' : (i : Int) < (l.length : Int) := by omega
          have hxi := w64 (n := (i : Int) + 1) (by omega) (by omega)
          obtain ⟨c, hc⟩ : ∃ c, l[i] = c := ⟨_, rfl⟩
          have hcm : c ∈ l := hc ▸ List.getElem_mem hlt2
          have bc := chgErr_good (hl0.each c hcm)
          obtain ⟨_, _, a3, a4⟩ := was_of bc
          have htk : l.take (i + 1) = l.take i ++ [c] := by rw [List.take_succ_eq_append_getElem hlt2, hc]
          have hst := Oyez.stL_snoc (l.take i) c p (Oyez.getIn f p)
          rw [← htk] at hst
          by_cases hk2 : c.kind = k
          · by_cases hn2 : c.number = n
            · have hpe : c.place = p := Oyez.Place.ext' (by rw [hpk]; exact hk2) (by rw [hpn]; exact hn2)
              rw [if_pos hpe] at hst
              simp [-aappend, hl, g0, g1, g9, g10, g11, g14, hlt2', hlt2, hc, hk2, hn2]
              refine ACode_draw0 mixed (by kernel_rfl) ?_
              simp [-aappend, hl, g0, g1, g9, g10, g11, g14, hlt2', hlt2, hc, hk2, hn2, hxi]
              exact ⟨⟨i + 1, by rw [hst, a3], by rw [hst, a4], by simp, by omega⟩, by omega⟩
            · have hpe : ¬ c.place = p := fun e => hn2 (by rw [show c.number = c.place.number from rfl, e, hpn])
              rw [if_neg hpe] at hst
              simp [-aappend, hl, g0, g1, g9, g10, g11, g12, g13, g14, hlt2', hlt2, hc, hk2, hn2, hxi]
              exact ⟨⟨i + 1, by rw [hst], by rw [hst], by simp, by omega⟩, by omega⟩
          · have hpe : ¬ c.place = p := fun e => hk2 (by rw [show c.kind = c.place.kind from rfl, e, hpk])
            rw [if_neg hpe] at hst
            simp [-aappend, hl, g0, g1, g9, g10, g11, g12, g13, g14, hlt2', hlt2, hc, hk2, hxi]
            exact ⟨⟨i + 1, by rw [hst], by rw [hst], by simp, by omega⟩, by omega⟩
        · have hge2' : ¬ (i : Int) < (l.length : Int) := by omega
          rw [List.take_of_length_le hge2] at g12 g13
          unfold Oyez.recAt at hstep
          dsimp only at hstep
          obtain ⟨s, hs⟩ : ∃ s, Oyez.stL l p (Oyez.getIn f p) = s := ⟨_, rfl⟩
          rw [hs] at hstep g12 g13
          cases s with
          | none =>
            simp at hstep g13
            simp [-aappend, hl, g0, g1, g9, g10, g11, g12, g13, g14, hge2', hxn]
            exact ⟨⟨n + 1, by simp, by omega, o, by rw [hstep]; exact hA⟩, by omega⟩
          | some ws =>
            simp [getW, hpk, hpn] at hstep g12 g13
            obtain ⟨v', g', o', he, hA', _⟩ := hA.push (P := Tryz.prog) (t := 27) (e := 96) (ag := true) (x := recAV ⟨k, n, ws⟩) (by simp) (by simp) (by simp) (by omega) ⟨by simp [AV.cells], by simp [AV.cells, AV.one]⟩ (by simp; omega)
            simp [-aappend, recCells] at he
            simp [-aappend, hl, g0, g1, g9, g10, g11, g12, g13, g14, hge2', hxn, he]
            exact ⟨⟨n + 1, by simp, by omega, o', by rw [hstep, List.map_append]; exact hA'⟩, by omega⟩
      · obtain rfl : n = 1000 := by omega
        have e : Oyez.makeTo f l k 1000 = Oyez.makeTo f l (k + 1) 0 := by unfold Oyez.makeTo; rw [Oyez.upTo_row]
        rw [e] at hA
        simp [-aappend, hl, g0, g1, g9, g10, g11, hxk]
        exact ⟨⟨k + 1, by simp, by omega, o, hA⟩, by omega⟩
    · obtain rfl : k = 5 := by omega
      obtain ⟨L, hL⟩ : ∃ L, Oyez.makeTo f l 5 0 = L := ⟨_, rfl⟩
      rw [hL] at hA hR
      have hlen : ∀ S, alen Tryz.prog 27 v S = some (.int .i64 L.length) := by
        intro S
        have hv := hA.val
        cases o with
        | none =>
          obtain ⟨rfl, h⟩ := hv
          rw [List.map_eq_nil_iff.1 h]
          simp
        | some j =>
          obtain ⟨rfl, _⟩ := hv
          simp
      have hz := hA.fz (fz_recs _ _ _)
      by_cases h40 : 40 < L.length
      · rw [if_pos h40] at hR
        subst hR
        have h40' : (40 : Int) < (L.length : Int) := by omega
        simp [-aappend, -alen, hl, g0, g1, g9, g10, hlen, h40, h40']
      · rw [if_neg h40] at hR
        subst hR
        have h40' : ¬ (40 : Int) < (L.length : Int) := by omega
        simp [-aappend, -alen, hl, g0, g1, g9, g10, hlen, h40, h40']
        exact hz
end Ab

/-
  THE REFERENCE: two copies joined, the walk.
-/
import Derived.Test.YtdifgaapdnbliaaGreatDoorU2
set_option linter.unusedSimpArgs false
set_option linter.unusedVariables false
namespace Ab
open Go Go.RowKit Go.Proofs
attribute [local irreducible] aws awp aw1 Og Om Oc Oa Ogd Ov Ot awd aw1d QThen QBlock QFn QFnM ACode AYield

/-- the choices of a join: nil, or a list -/
def secAV (o : Option (List Bool)) : AV := match o with | none => .nils | some l => .pl 1 (l.map AV.bool)
set_option maxRecDepth 10000 in
set_option maxHeartbeats 8000000 in
theorem refJoin_calls (base a b : List Oyez.Rec) (sec : Option (List Bool)) (hx : base.length ≤ 2 ^ 40) (ha : a.length ≤ 2 ^ 40) (hb : b.length ≤ 2 ^ 40) (hs : (sec.getD []).length ≤ 2 ^ 40)
    (hw : ∀ r ∈ base ++ a ++ b, r.words.length ≤ 2 ^ 40) : APure Tryz.prog 32 [fileAV base, fileAV a, fileAV b, secAV sec] (.tup [fileAV (Oyez.joinTo base a b (sec.getD []) 5 0).out, chgsAV (Oyez.joinTo base a b (sec.getD []) 5 0).conf]) := by
  have hget : ∀ (f : List Oyez.Rec) (p : Oyez.Place), (∀ r ∈ f, r.words.length ≤ 2 ^ 40) → (getW (Oyez.getIn f p)).length ≤ 2 ^ 50 := by
    intro f p hf
    unfold getW Oyez.getIn
    cases h : f.find? (fun r => decide (r.place = p)) with
    | none => simp
    | some r =>
      have := hf r (List.mem_of_find?_eq_some h)
      simp only [Option.map_some, Option.getD_some]
      omega
  have hbase : ∀ r ∈ base, r.words.length ≤ 2 ^ 40 := fun r hr => hw r (by simp [hr])
  have ha' : ∀ r ∈ a, r.words.length ≤ 2 ^ 40 := fun r hr => hw r (by simp [hr])
  have hb' : ∀ r ∈ b, r.words.length ≤ 2 ^ 40 := fun r hr => hw r (by simp [hr])
  refine APure.of fun σ => ?_
  refine acalls_fn Tryz.func32 rfl (enters_fn Tryz.func32 (by decide) rfl) ?_
  simp [-aappend, -alen, Tryz.ntmps32]
  refine ACode_loopT (fun env σ' => ∃ (u : List AV) (k : Nat) (v1 v2 : AV) (g : Heap), env = { t := u } ∧ u.length = 104 ∧ tg u 0 = fileAV base ∧ tg u 1 = fileAV a ∧ tg u 2 = fileAV b ∧ tg u 3 = secAV sec ∧ tg u 10 = v1 ∧ tg u 11 = v2 ∧ tg u 12 = .int .i64 k ∧ σ' = σ ++ g ∧ k ≤ 5 ∧ JS σ (Oyez.joinTo base a b (sec.getD []) k 0) v1 v2 g)
    (fun env _ => match tg env.t 12 with | .int _ i => 5 - i.toNat | _ => 0) ⟨_, 0, .nils, .nils, [], rfl, by simp, by simp, by simp, by simp, by simp, by simp, by simp, by simp, by simp, by omega, ⟨none, none, Acc.nil _ _ _, Acc.nil _ _ _, fun j h => by cases h⟩⟩ ?_
  rintro env σ' ⟨u, k, v1, v2, g, rfl, hl, g0, g1, g2, g3, g10, g11, g12, rfl, hk, hJ⟩
  rcases Nat.lt_or_ge k 5 with hlt | hge
  · have hlt' : (k : Int) < 5 := by omega
    have hxk := w64 (n := (k : Int) + 1) (by omega) (by omega)
    simp [-aappend, -alen, hl, g0, g1, g2, g3, g10, g11, g12, hlt', hlt]
    refine ACode_loopT (fun env σ' => ∃ (u : List AV) (n : Nat) (v1 v2 : AV) (g : Heap), env = { t := u } ∧ u.length = 104 ∧ tg u 0 = fileAV base ∧ tg u 1 = fileAV a ∧ tg u 2 = fileAV b ∧ tg u 3 = secAV sec ∧ tg u 10 = v1 ∧ tg u 11 = v2 ∧ tg u 12 = .int .i64 k ∧ tg u 13 = .int .i64 n ∧ σ' = σ ++ g ∧ n ≤ 1000 ∧ JS σ (Oyez.joinTo base a b (sec.getD []) k n) v1 v2 g)
      (fun env _ => match tg env.t 13 with | .int _ i => 1000 - i.toNat | _ => 0) ⟨_, 0, v1, v2, g, rfl, by simp [hl], by simp [-aappend, -alen, hl, g0], by simp [hl, g1], by simp [hl, g2], by simp [hl, g3], by simp [hl, g10], by simp [hl, g11], by simp [hl, g12], by simp [hl], rfl, by omega, hJ⟩ ?_
    clear hJ g0 g1 g2 g3 g10 g11 g12 hl u v1 v2 g
    rintro env σ' ⟨u, n, v1, v2, g, rfl, hl, g0, g1, g2, g3, g10, g11, g12, g13, rfl, hn, hJ⟩
    rcases Nat.lt_or_ge n 1000 with hln | hgn
    · have hln' : (n : Int) < 1000 := by omega
      have hxn := w64 (n := (n : Int) + 1) (by omega) (by omega)
      have hstep := Oyez.joinTo_snoc base a b (sec.getD []) hlt hln
      rw [Oyez.joinAt_step] at hstep
      have hlen := Oyez.joinTo_len base a b (sec.getD []) k n
      have hlx := hget base ⟨k, n⟩ hbase
      have hly := hget a ⟨k, n⟩ ha'
      have hlz := hget b ⟨k, n⟩ hb'
      obtain ⟨J, hJe⟩ : ∃ J, Oyez.joinTo base a b (sec.getD []) k n = J := ⟨_, rfl⟩
      obtain ⟨x, hxe⟩ : ∃ x, Oyez.getIn base ⟨k, n⟩ = x := ⟨_, rfl⟩
      obtain ⟨y, hye⟩ : ∃ x, Oyez.getIn a ⟨k, n⟩ = x := ⟨_, rfl⟩
      obtain ⟨z, hze⟩ : ∃ x, Oyez.getIn b ⟨k, n⟩ = x := ⟨_, rfl⟩
      rw [hJe] at hJ hlen
      rw [hJe, hxe, hye, hze] at hstep
      rw [hxe] at hlx
      rw [hye] at hly
      rw [hze] at hlz
      simp [-aappend, -alen, hl, g0, g1, g2, g3, g10, g11, g12, g13, hln', hln]
      refine (refGet_calls base k n (by omega)).use ?_
      simp [-aappend, -alen, hl, g0, g1, g2, g3, g10, g11, g12, g13]
      refine (refGet_calls a k n (by omega)).use ?_
      simp [-aappend, -alen, hl, g0, g1, g2, g3, g10, g11, g12, g13]
      refine (refGet_calls b k n (by omega)).use ?_
      simp [-aappend, -alen, hl, g0, g1, g2, g3, g10, g11, g12, g13, hxe, hye, hze]
      refine (alike_calls y z hly).use ?_
      by_cases hyz : y = z
      · subst hyz
        rw [Oyez.stepJ_same rfl] at hstep
        simp [-aappend, -alen, hl, g0, g1, g2, g3, g10, g11, g12, g13, hxe, hye, hze]
        cases hW : y with
        | none =>
          rw [hW] at hstep
          simp [-aappend, -alen, hl, g0, g1, g2, g3, g10, g11, g12, g13, hxe, hye, hze, hxn, getW, hW]
          exact ⟨⟨n + 1, by simp, by omega, by rw [hstep]; exact hJ⟩, by omega⟩
        | some ws =>
          rw [hW] at hstep
          obtain ⟨V1, G1, he, hJ2⟩ := hJ.put (by first | omega | (simp only; omega)) ⟨k, n, ws⟩
          simp [-aappend, recCells] at he
          simp [-aappend, -alen, hl, g0, g1, g2, g3, g10, g11, g12, g13, hxe, hye, hze, hxn, getW, hW, he]
          exact ⟨⟨n + 1, by simp, by omega, by rw [hstep]; exact hJ2⟩, by omega⟩
      · simp [-aappend, -alen, hl, g0, g1, g2, g3, g10, g11, g12, g13, hxe, hye, hze, hyz]
        refine (alike_calls y x hly).use ?_
        by_cases hyx : y = x
        · rw [Oyez.stepJ_yx hyz hyx] at hstep
          simp [-aappend, -alen, hl, g0, g1, g2, g3, g10, g11, g12, g13, hxe, hye, hze, hyx]
          cases hW : z with
          | none =>
            rw [hW] at hstep
            simp [-aappend, -alen, hl, g0, g1, g2, g3, g10, g11, g12, g13, hxe, hye, hze, hxn, getW, hW]
            exact ⟨⟨n + 1, by simp, by omega, by rw [hstep]; exact hJ⟩, by omega⟩
          | some ws =>
            rw [hW] at hstep
            obtain ⟨V1, G1, he, hJ2⟩ := hJ.put (by first | omega | (simp only; omega)) ⟨k, n, ws⟩
            simp [-aappend, recCells] at he
            simp [-aappend, -alen, hl, g0, g1, g2, g3, g10, g11, g12, g13, hxe, hye, hze, hxn, getW, hW, he]
            exact ⟨⟨n + 1, by simp, by omega, by rw [hstep]; exact hJ2⟩, by omega⟩
        · simp [-aappend, -alen, hl, g0, g1, g2, g3, g10, g11, g12, g13, hxe, hye, hze, hyx]
          refine (alike_calls z x hlz).use ?_
          by_cases hzx : z = x
          · rw [Oyez.stepJ_zx hzx] at hstep
            simp [-aappend, -alen, hl, g0, g1, g2, g3, g10, g11, g12, g13, hxe, hye, hze, hzx]
            cases hW : y with
            | none =>
              rw [hW] at hstep
              simp [-aappend, -alen, hl, g0, g1, g2, g3, g10, g11, g12, g13, hxe, hye, hze, hxn, getW, hW]
              exact ⟨⟨n + 1, by simp, by omega, by rw [hstep]; exact hJ⟩, by omega⟩
            | some ws =>
              rw [hW] at hstep
              obtain ⟨V1, G1, he, hJ2⟩ := hJ.put (by first | omega | (simp only; omega)) ⟨k, n, ws⟩
              simp [-aappend, recCells] at he
              simp [-aappend, -alen, hl, g0, g1, g2, g3, g10, g11, g12, g13, hxe, hye, hze, hxn, getW, hW, he]
              exact ⟨⟨n + 1, by simp, by omega, by rw [hstep]; exact hJ2⟩, by omega⟩
          · rw [Oyez.stepJ_clash hyz hyx hzx] at hstep
            obtain ⟨V2, G2, hc, hJc⟩ := hJ.clash (by omega) (Oyez.chg ⟨k, n⟩ y z)
            have hlV := hJc.len
            obtain ⟨c, hce⟩ : ∃ c, Oyez.chg ⟨k, n⟩ y z = c := ⟨_, rfl⟩
            rw [hce] at hstep hJc
            have hwl := w64 (n := (J.conf.length : Int)) (by omega) (by omega)
            simp [-aappend, chgCells, Oyez.chg] at hc
            simp [-alen] at hlV
            unfold Oyez.pickJ at hstep
            cases sec with
            | none =>
              have hs0 : ∀ S, alen Tryz.prog 37 .nils S = some (.int .i64 0) := fun S => by simp
              simp at hstep
              simp [-aappend, -alen, secAV, hl, g0, g1, g2, g3, g10, g11, g12, g13, hxe, hye, hze, hzx, getW, hc, hlV, hwl, hs0]
              cases hW : x with
              | none =>
                rw [hW] at hstep
                simp [-aappend, -alen, hl, g0, g1, g2, g3, g10, g11, g12, g13, hxe, hye, hze, hc, hlV, hwl, hs0, secAV, hxn, getW, hW]
                exact ⟨⟨n + 1, by simp, by omega, by rw [hstep]; exact hJc⟩, by omega⟩
              | some ws =>
                rw [hW] at hstep
                obtain ⟨V1, G1, he, hJ2⟩ := hJc.put (by first | omega | (simp only; omega)) ⟨k, n, ws⟩
                simp [-aappend, recCells] at he
                simp [-aappend, -alen, hl, g0, g1, g2, g3, g10, g11, g12, g13, hxe, hye, hze, hc, hlV, hwl, hs0, secAV, hxn, getW, hW, he]
                exact ⟨⟨n + 1, by simp, by omega, by rw [hstep]; exact hJ2⟩, by omega⟩
            | some l =>
              have hs1 : ∀ S, alen Tryz.prog 37 (.pl 1 (l.map AV.bool)) S = some (.int .i64 l.length) := fun S => by simp
              rw [Option.getD_some] at hstep
              by_cases hi : J.conf.length < l.length
              · rw [List.getElem?_eq_getElem hi] at hstep
                have hi' : ¬ l.length ≤ J.conf.length := by omega
                cases hcc : l[J.conf.length] with
                | false =>
                  rw [hcc] at hstep
                  simp at hstep
                  simp [-aappend, -alen, secAV, hl, g0, g1, g2, g3, g10, g11, g12, g13, hxe, hye, hze, hzx, getW, hc, hlV, hwl, hs1, hi, hi', hcc]
                  cases hW : y with
                  | none =>
                    rw [hW] at hstep
                    simp [-aappend, -alen, hl, g0, g1, g2, g3, g10, g11, g12, g13, hxe, hye, hze, hc, hlV, hwl, hs1, secAV, hxn, getW, hW]
                    exact ⟨⟨n + 1, by simp, by omega, by rw [hstep]; exact hJc⟩, by omega⟩
                  | some ws =>
                    rw [hW] at hstep
                    obtain ⟨V1, G1, he, hJ2⟩ := hJc.put (by first | omega | (simp only; omega)) ⟨k, n, ws⟩
                    simp [-aappend, recCells] at he
                    simp [-aappend, -alen, hl, g0, g1, g2, g3, g10, g11, g12, g13, hxe, hye, hze, hc, hlV, hwl, hs1, secAV, hxn, getW, hW, he]
                    exact ⟨⟨n + 1, by simp, by omega, by rw [hstep]; exact hJ2⟩, by omega⟩
                | true =>
                  rw [hcc] at hstep
                  simp at hstep
                  simp [-aappend, -alen, secAV, hl, g0, g1, g2, g3, g10, g11, g12, g13, hxe, hye, hze, hzx, getW, hc, hlV, hwl, hs1, hi, hi', hcc]
                  cases hW : z with
                  | none =>
                    rw [hW] at hstep
                    simp [-aappend, -alen, hl, g0, g1, g2, g3, g10, g11, g12, g13, hxe, hye, hze, hc, hlV, hwl, hs1, secAV, hxn, getW, hW]
                    exact ⟨⟨n + 1, by simp, by omega, by rw [hstep]; exact hJc⟩, by omega⟩
                  | some ws =>
                    rw [hW] at hstep
                    obtain ⟨V1, G1, he, hJ2⟩ := hJc.put (by first | omega | (simp only; omega)) ⟨k, n, ws⟩
                    simp [-aappend, recCells] at he
                    simp [-aappend, -alen, hl, g0, g1, g2, g3, g10, g11, g12, g13, hxe, hye, hze, hc, hlV, hwl, hs1, secAV, hxn, getW, hW, he]
                    exact ⟨⟨n + 1, by simp, by omega, by rw [hstep]; exact hJ2⟩, by omega⟩
              · rw [List.getElem?_eq_none (by omega)] at hstep
                have hi' : l.length ≤ J.conf.length := by omega
                simp at hstep
                simp [-aappend, -alen, secAV, hl, g0, g1, g2, g3, g10, g11, g12, g13, hxe, hye, hze, hzx, getW, hc, hlV, hwl, hs1, hi, hi']
                cases hW : x with
                | none =>
                  rw [hW] at hstep
                  simp [-aappend, -alen, hl, g0, g1, g2, g3, g10, g11, g12, g13, hxe, hye, hze, hc, hlV, hwl, hs1, secAV, hxn, getW, hW]
                  exact ⟨⟨n + 1, by simp, by omega, by rw [hstep]; exact hJc⟩, by omega⟩
                | some ws =>
                  rw [hW] at hstep
                  obtain ⟨V1, G1, he, hJ2⟩ := hJc.put (by first | omega | (simp only; omega)) ⟨k, n, ws⟩
                  simp [-aappend, recCells] at he
                  simp [-aappend, -alen, hl, g0, g1, g2, g3, g10, g11, g12, g13, hxe, hye, hze, hc, hlV, hwl, hs1, secAV, hxn, getW, hW, he]
                  exact ⟨⟨n + 1, by simp, by omega, by rw [hstep]; exact hJ2⟩, by omega⟩
    · obtain rfl : n = 1000 := by omega
      have e : Oyez.joinTo base a b (sec.getD []) k 1000 = Oyez.joinTo base a b (sec.getD []) (k + 1) 0 := by
        unfold Oyez.joinTo
        rw [Oyez.upTo_row]
      rw [e] at hJ
      simp [-aappend, -alen, hl, g0, g1, g2, g3, g10, g11, g12, g13, hxk]
      exact ⟨⟨k + 1, by simp, by omega, hJ⟩, by omega⟩
  · obtain rfl : k = 5 := by omega
    simp [-aappend, -alen, hl, g0, g1, g2, g3, g10, g11, g12]
    obtain ⟨o1, o2, h1, h2, h3⟩ := hJ.ex
    exact ⟨h1.fz (fz_recs _ _ _), h2.fz (fz_chgs _ _ _)⟩
end Ab

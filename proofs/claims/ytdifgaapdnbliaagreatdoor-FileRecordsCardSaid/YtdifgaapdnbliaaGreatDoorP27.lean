/-
  THE REFERENCE's Get, Drop, Put and Print.
-/
import Derived.Test.YtdifgaapdnbliaaGreatDoorP19
import Derived.Test.YtdifgaapdnbliaaGreatDoorP24
import Derived.Test.YtdifgaapdnbliaaGreatDoorP26
set_option linter.unusedSimpArgs false
set_option linter.unusedVariables false
set_option linter.unusedSectionVars false
namespace Oyez
theorem drop_cons (x : Rec) (t : List Rec) (p : Place) : drop (x :: t) p = if x.place = p then drop t p else x :: drop t p := by
  unfold drop
  by_cases h : x.place = p <;> simp [h]
/-- what the reference's Put lays from here on -/
def putR (r : Rec) : Bool → List Rec → List Rec
  | done, [] => if done then [] else [r]
  | done, x :: t => (if !done && !(x.place.lt r.place) then [r] else []) ++ ((if x.place = r.place then [] else [x]) ++ putR r (done || !(x.place.lt r.place)) t)
theorem putR_true (r : Rec) : ∀ f : List Rec, putR r true f = drop f r.place := by
  intro f
  induction f with
  | nil => rfl
  | cons x t ih =>
    rw [putR, drop_cons, Bool.true_or, ih]
    by_cases h : x.place = r.place <;> simp [h]
theorem insertR_head {r : Rec} {l : List Rec} (h : ∀ x ∈ l, r.place.lt x.place = true) : insertR r l = r :: l := by
  cases l with
  | nil => rfl
  | cons x t => rw [insertR, if_pos (h x (by simp))]
theorem putR_put (r : Rec) : ∀ f : List Rec, RSorted f → putR r false f = put f r := by
  intro f
  unfold put
  induction f with
  | nil => intro _; rfl
  | cons x t ih =>
    intro hs
    have hs' : RSorted t ∧ ∀ y ∈ t, x.place.lt y.place = true := by
      unfold RSorted Sorted at hs
      rw [List.map_cons, List.pairwise_cons] at hs
      exact ⟨hs.2, fun y hy => hs.1 _ (List.mem_map_of_mem hy)⟩
    rw [putR, drop_cons]
    cases hlt : x.place.lt r.place with
    | true =>
      have hne : ¬ x.place = r.place := fun e => by rw [e, Place.lt_irrefl] at hlt; cases hlt
      rw [if_neg hne, if_neg hne, insertR, Place.lt_asymm hlt, ← ih hs'.1]
      simp
    | false =>
      simp only [Bool.not_false, Bool.and_self, if_true, Bool.false_or, putR_true]
      by_cases he : x.place = r.place
      · rw [if_pos he, if_pos he, insertR_head]
        · rfl
        · intro y hy
          unfold drop at hy
          rw [← he]
          exact hs'.2 y (List.mem_filter.1 hy).1
      · rw [if_neg he, if_neg he, insertR]
        have h2 : r.place.lt x.place = true := by
          cases h3 : r.place.lt x.place with
          | true => rfl
          | false => exact absurd (Place.lt_tri hlt h3) he
        rw [if_pos h2]
        rfl
end Oyez
namespace Ab
open Go Go.RowKit Go.Proofs
attribute [local irreducible] aws awp aw1 Og Om Oc Oa Ogd Ov Ot awd aw1d QThen QBlock QFn QFnM ACode ACalls AYield
theorem fz_recs (n : Nat) (σ : Heap) (f : List Oyez.Rec) : ∀ x ∈ f.map recAV, ∀ y ∈ x.cells, Fz n σ y y := fun x hx y hy => by
  obtain ⟨r, _, rfl⟩ := List.mem_map.1 hx
  simp [AV.cells] at hy
  rcases hy with rfl | rfl | rfl
  · exact .int _ _
  · exact .int _ _
  · exact (Fz_strs _ _ _).2 trivial
/-- what a place has: the words, and whether it has any -/
def getW (o : Option (List (List UInt8))) : List (List UInt8) := o.getD []
set_option maxHeartbeats 1000000 in
theorem refGet_calls (f : List Oyez.Rec) (k n : Int) (hf : f.length ≤ 2 ^ 50) : APure Tryz.prog 59 [fileAV f, .int .i64 k, .int .i64 n] (.tup [wordsAV (getW (Oyez.getIn f ⟨k, n⟩)), .bool (Oyez.getIn f ⟨k, n⟩).isSome]) := by
  refine APure.of fun σ => ?_
  generalize hX : Oyez.getIn f ⟨k, n⟩ = X
  refine acalls_fn Tryz.func59 rfl (enters_fn Tryz.func59 (by decide) rfl) ?_
  simp [Tryz.ntmps59]
  refine ACode_loopT (fun env σ' => ∃ (u : List AV) (i : Nat), env = { t := u } ∧ u.length = 36 ∧ tg u 0 = fileAV f ∧ tg u 1 = .int .i64 k ∧ tg u 2 = .int .i64 n ∧ tg u 8 = .int .i64 i ∧ σ' = σ ∧ i ≤ f.length ∧ Oyez.getIn (f.drop i) ⟨k, n⟩ = X)
    (fun env _ => match tg env.t 8 with | .int _ i => f.length - i.toNat | _ => 0) ⟨_, 0, rfl, by simp, by simp, by simp, by simp, by simp, rfl, by omega, by simp [hX]⟩ ?_
  rintro env σ' ⟨u, i, rfl, hl, g0, g1, g2, g8, rfl, hi, hd⟩
  rcases Nat.lt_or_ge i f.length with hlt | hge
  · have hlt' : (i : Int) < (f.length : Int) := by omega
    have hx := w64 (n := (i : Int) + 1) (by omega) (by omega)
    rw [List.drop_eq_getElem_cons hlt, Oyez.getIn_cons] at hd
    by_cases hk : f[i].kind = k
    · by_cases hn : f[i].number = n
      · have hp : f[i].place = ⟨k, n⟩ := Oyez.Place.ext' hk hn
        rw [if_pos hp] at hd
        subst hd
        simp [hl, g0, g1, g2, g8, hlt', hlt, hk, hn, getW]
      · have hp : ¬ f[i].place = ⟨k, n⟩ := fun h => hn (by rw [show f[i].number = f[i].place.number from rfl, h])
        rw [if_neg hp] at hd
        simp [hl, g0, g1, g2, g8, hlt', hlt, hk, hn, hx]
        exact ⟨⟨i + 1, by simp, hlt, hd⟩, by omega⟩
    · have hp : ¬ f[i].place = ⟨k, n⟩ := fun h => hk (by rw [show f[i].kind = f[i].place.kind from rfl, h])
      rw [if_neg hp] at hd
      simp [hl, g0, g1, g2, g8, hlt', hlt, hk, hx]
      exact ⟨⟨i + 1, by simp, hlt, hd⟩, by omega⟩
  · have hge' : ¬ (i : Int) < (f.length : Int) := by omega
    rw [List.drop_eq_nil_of_le hge] at hd
    have hX2 : X = none := by rw [← hd]; rfl
    subst hX2
    simp [hl, g0, g1, g2, g8, hge', getW]
/-- the file without a place, or the error -/
def dropC (f : List Oyez.Rec) (p : Oyez.Place) : List Oyez.Rec × Int := if (Oyez.getIn f p).isSome then (Oyez.drop f p, 0) else ([], 1)
set_option maxHeartbeats 2000000 in
theorem refDrop_calls (f : List Oyez.Rec) (k n : Int) (hf : f.length ≤ 2 ^ 40) : APure Tryz.prog 60 [fileAV f, .int .i64 k, .int .i64 n] (.tup [fileAV (dropC f ⟨k, n⟩).1, .int .i64 (dropC f ⟨k, n⟩).2]) := by
  refine APure.of fun σ => ?_
  generalize hX : dropC f ⟨k, n⟩ = X
  unfold dropC at hX
  refine acalls_fn Tryz.func60 rfl (enters_fn Tryz.func60 (by decide) rfl) ?_
  simp [Tryz.ntmps60]
  refine (refGet_calls f k n (by omega)).use ?_
  cases hg : (Oyez.getIn f ⟨k, n⟩).isSome with
  | false =>
    rw [hg] at hX
    subst hX
    simp
  | true =>
    rw [hg, if_pos rfl] at hX
    subst hX
    simp
    refine ACode_loopT (fun env σ' => ∃ (u : List AV) (i : Nat) (v : AV) (a : List Oyez.Rec) (g : Heap) (o : Option Nat), env = { t := u } ∧ u.length = 51 ∧ tg u 0 = fileAV f ∧ tg u 1 = .int .i64 k ∧ tg u 2 = .int .i64 n ∧ tg u 10 = v ∧ tg u 11 = .int .i64 i ∧ σ' = σ ++ g ∧ i ≤ f.length ∧
        a.length ≤ i ∧ a ++ Oyez.drop (f.drop i) ⟨k, n⟩ = Oyez.drop f ⟨k, n⟩ ∧ Acc σ g 3 v (a.map recAV) o)
      (fun env _ => match tg env.t 11 with | .int _ i => f.length - i.toNat | _ => 0) ⟨_, 0, .nils, [], [], none, rfl, by simp, by simp, by simp, by simp, by simp, by simp, by simp, by omega, by simp, by simp, by simpa using Acc.nil _ _ _⟩ ?_
    rintro env σ' ⟨u, i, v, a, g, o, rfl, hl, g0, g1, g2, g10, g11, rfl, hi, ha, hd, hA⟩
    rcases Nat.lt_or_ge i f.length with hlt | hge
    · have hlt' : (i : Int) < (f.length : Int) := by omega
      have hx := w64 (n := (i : Int) + 1) (by omega) (by omega)
      rw [List.drop_eq_getElem_cons hlt, Oyez.drop_cons] at hd
      have hA1 := (hA.push (P := Tryz.prog) (t := 27) (e := 96) (ag := true) (x := recAV f[i]) (by simp) (by simp) (by simp) (by omega) ⟨by simp [AV.cells], by simp [AV.cells, AV.one]⟩ (by simp; omega))
      obtain ⟨v', g', o', he, hA', _⟩ := hA1
      simp [-aappend, recCells] at he
      have hA2 : Acc σ g' 3 v' ((a ++ [f[i]]).map recAV) o' := by simpa using hA'
      have keep : ¬ f[i].place = ⟨k, n⟩ → (a ++ [f[i]]) ++ Oyez.drop (f.drop (i + 1)) ⟨k, n⟩ = Oyez.drop f ⟨k, n⟩ ∧ (a ++ [f[i]]).length ≤ i + 1 := fun hp => by
        rw [if_neg hp] at hd
        exact ⟨by rw [← hd]; simp, by simp; omega⟩
      generalize a ++ [f[i]] = A at hA2 keep
      by_cases hk : f[i].kind = k
      · by_cases hn : f[i].number = n
        · have hp : f[i].place = ⟨k, n⟩ := Oyez.Place.ext' hk hn
          rw [if_pos hp] at hd
          simp [-aappend, hl, g0, g1, g2, g10, g11, hlt', hlt, hk, hn, hx]
          exact ⟨⟨i + 1, by simp, hlt, a, by omega, hd, o, hA⟩, by omega⟩
        · have hp : ¬ f[i].place = ⟨k, n⟩ := fun h => hn (by rw [show f[i].number = f[i].place.number from rfl, h])
          obtain ⟨k1, k2⟩ := keep hp
          rw [hk] at he
          simp [-aappend, hl, g0, g1, g2, g10, g11, hlt', hlt, hk, hn, hx, he]
          exact ⟨⟨i + 1, by simp, hlt, A, k2, k1, o', hA2⟩, by omega⟩
      · have hp : ¬ f[i].place = ⟨k, n⟩ := fun h => hk (by rw [show f[i].kind = f[i].place.kind from rfl, h])
        obtain ⟨k1, k2⟩ := keep hp
        simp [-aappend, hl, g0, g1, g2, g10, g11, hlt', hlt, hk, hx, he]
        exact ⟨⟨i + 1, by simp, hlt, A, k2, k1, o', hA2⟩, by omega⟩
    · have hge' : ¬ (i : Int) < (f.length : Int) := by omega
      rw [List.drop_eq_nil_of_le hge] at hd
      have hd' : a = Oyez.drop f ⟨k, n⟩ := by rw [← hd]; simp [Oyez.drop]
      subst hd'
      have hz := hA.fz (fz_recs _ _ _)
      simp [hl, g0, g1, g2, g10, g11, hge']
      exact hz
/-- a file with a record put, or the error -/
def putC (f : List Oyez.Rec) (r : Oyez.Rec) : List Oyez.Rec × Int := if 40 < (Oyez.putR r false f).length then ([], 2) else (Oyez.putR r false f, 0)
set_option maxHeartbeats 4000000 in
theorem refPut_calls (f : List Oyez.Rec) (r : Oyez.Rec) (hf : f.length ≤ 2 ^ 40) : APure Tryz.prog 62 [fileAV f, recAV r] (.tup [fileAV (putC f r).1, .int .i64 (putC f r).2]) := by
  refine APure.of fun σ => ?_
  generalize hX : putC f r = X
  unfold putC at hX
  obtain ⟨τ, hτ⟩ : ∃ τ, σ ++ [AObj.cells (recCells r)] = τ := ⟨_, rfl⟩
  have hτ' : σ ++ [AObj.cells [.int .i64 r.kind, .int .i64 r.number, .pl 1 (r.words.map AV.str)]] = τ := hτ
  have hat : ∀ g : Heap, (τ ++ g)[σ.length]? = some (.cells [.int .i64 r.kind, .int .i64 r.number, .pl 1 (r.words.map AV.str)]) := fun g => by rw [← hτ']; simp
  refine acalls_fn Tryz.func62 rfl (enters_fn Tryz.func62 (by decide) rfl) ?_
  simp [Tryz.ntmps62, hτ']
  refine ACode_loopT (fun env σ' => ∃ (u : List AV) (i : Nat) (d : Bool) (v : AV) (a : List Oyez.Rec) (g : Heap) (o : Option Nat), env = { t := u } ∧ u.length = 74 ∧ tg u 0 = fileAV f ∧ tg u 3 = .ptr σ.length 0 ∧ tg u 6 = v ∧ tg u 7 = .bool d ∧ tg u 8 = .int .i64 i ∧ σ' = τ ++ g ∧ i ≤ f.length ∧
      a.length ≤ 2 * i ∧ a ++ Oyez.putR r d (f.drop i) = Oyez.putR r false f ∧ Acc τ g 3 v (a.map recAV) o)
    (fun env _ => match tg env.t 8 with | .int _ i => f.length - i.toNat | _ => 0) ⟨_, 0, false, .nils, [], [], none, rfl, by simp, by simp, by simp, by simp, by simp, by simp, by simp, by omega, by simp, by simp, by simpa using Acc.nil _ _ _⟩ ?_
  rintro env σ' ⟨u, i, d, v, a, g, o, rfl, hl, g0, g3, g6, g7, g8, rfl, hi, ha, hd, hA⟩
  rcases Nat.lt_or_ge i f.length with hlt | hge
  · have hlt' : (i : Int) < (f.length : Int) := by omega
    have hx := w64 (n := (i : Int) + 1) (by omega) (by omega)
    rw [List.drop_eq_getElem_cons hlt, Oyez.putR] at hd
    have hpe : ∀ hk : f[i].kind = r.kind, ∀ hn : f[i].number = r.number, f[i].place = r.place := fun hk hn => Oyez.Place.ext' hk hn
    have hpk : ¬ f[i].kind = r.kind → ¬ f[i].place = r.place := fun h e => h (by rw [show f[i].kind = f[i].place.kind from rfl, e]; rfl)
    have hpn : ¬ f[i].number = r.number → ¬ f[i].place = r.place := fun h e => h (by rw [show f[i].number = f[i].place.number from rfl, e]; rfl)
    -- what lies there behind the first append, if there is one
    have second : ∀ (u : List AV) (d' : Bool) (v' : AV) (a' : List Oyez.Rec) (g' : Heap) (o' : Option Nat), u.length = 74 → tg u 0 = fileAV f → tg u 3 = .ptr σ.length 0 → tg u 6 = v' → tg u 7 = .bool d' → tg u 8 = .int .i64 i → a'.length ≤ 2 * i + 1 → Acc τ g' 3 v' (a'.map recAV) o' → a' ++ ((if f[i].place = r.place then [] else [f[i]]) ++ Oyez.putR r d' (f.drop (i + 1))) = Oyez.putR r false f → True := fun _ _ _ _ _ _ _ _ _ _ _ _ _ _ _ => trivial
    clear second
    simp [-aappend, hl, g0, g3, g6, g7, g8, hlt', hat]
    refine ACode_draw0 mixed (by kernel_rfl) ?_
    cases d with
    | false =>
      simp only [Bool.not_false, Bool.true_and, Bool.false_or] at hd
      simp [-aappend, hl, g0, g3, g6, g7, g8, hlt', hlt, hat]
      refine Ou_use (behind_calls _ _ _ _) ?_
      rw [show ({ kind := f[i].kind, number := f[i].number } : Oyez.Place) = f[i].place from rfl, show ({ kind := r.kind, number := r.number } : Oyez.Place) = r.place from rfl]
      cases hb : f[i].place.lt r.place with
      | true =>
        rw [hb] at hd
        simp only [Bool.not_true, Bool.false_eq_true, if_false, List.nil_append] at hd
        have hA1 := hA.push (P := Tryz.prog) (t := 27) (e := 96) (ag := true) (x := recAV f[i]) (by simp) (by simp) (by simp) (by omega) ⟨by simp [AV.cells], by simp [AV.cells, AV.one]⟩ (by simp; omega)
        obtain ⟨v', g', o', he, hA', _⟩ := hA1
        simp [-aappend, recCells] at he
        have hA2 : Acc τ g' 3 v' ((a ++ [f[i]]).map recAV) o' := by simpa using hA'
        have hne : ¬ f[i].place = r.place := fun e => by rw [e, Oyez.Place.lt_irrefl] at hb; cases hb
        rw [if_neg hne, ← List.append_assoc] at hd
        have hal : (a ++ [f[i]]).length ≤ 2 * (i + 1) := by simp; omega
        generalize a ++ [f[i]] = A at hA2 hd hal
        simp [-aappend, hl, g0, g3, g6, g7, g8, hlt', hlt, hat]
        refine ACode_draw0 mixed (by kernel_rfl) ?_
        by_cases hk : f[i].kind = r.kind
        · have hn : ¬ f[i].number = r.number := fun hn => hne (hpe hk hn)
          rw [hk] at he
          simp [-aappend, hl, g0, g3, g6, g7, g8, hlt', hlt, hat, hk, hn, he, hx]
          exact ⟨⟨i + 1, by simp, hlt, A, hal, hd, o', hA2⟩, by omega⟩
        · simp [-aappend, hl, g0, g3, g6, g7, g8, hlt', hlt, hat, hk, he, hx]
          exact ⟨⟨i + 1, by simp, hlt, A, hal, hd, o', hA2⟩, by omega⟩
      | false =>
        rw [hb] at hd
        simp only [Bool.not_false, if_true] at hd
        have hB1 := hA.push (P := Tryz.prog) (t := 27) (e := 96) (ag := true) (x := recAV r) (by simp) (by simp) (by simp) (by omega) ⟨by simp [AV.cells], by simp [AV.cells, AV.one]⟩ (by simp; omega)
        obtain ⟨w, k, q, hf1, hB, _⟩ := hB1
        simp [-aappend, recCells] at hf1
        have hB2 : Acc τ k 3 w ((a ++ [r]).map recAV) q := by simpa using hB
        rw [← List.append_assoc] at hd
        have hbl : (a ++ [r]).length ≤ 2 * i + 1 := by simp; omega
        generalize a ++ [r] = a2 at hB2 hd hbl
        have hA1 := hB2.push (P := Tryz.prog) (t := 27) (e := 96) (ag := true) (x := recAV f[i]) (by simp) (by simp) (by simp) (by omega) ⟨by simp [AV.cells], by simp [AV.cells, AV.one]⟩ (by simp; omega)
        obtain ⟨v', g', o', he, hA', _⟩ := hA1
        simp [-aappend, recCells] at he
        have hA2 : Acc τ g' 3 v' ((a2 ++ [f[i]]).map recAV) o' := by simpa using hA'
        have hal : (a2 ++ [f[i]]).length ≤ 2 * (i + 1) := by simp; omega
        simp [-aappend, hl, g0, g3, g6, g7, g8, hlt', hlt, hat, hf1]
        refine ACode_draw0 mixed (by kernel_rfl) ?_
        by_cases hk : f[i].kind = r.kind
        · by_cases hn : f[i].number = r.number
          · rw [if_pos (hpe hk hn), List.nil_append] at hd
            simp [-aappend, hl, g0, g3, g6, g7, g8, hlt', hlt, hat, hk, hn, hx]
            exact ⟨⟨i + 1, by simp, hlt, a2, by omega, hd, q, hB2⟩, by omega⟩
          · rw [if_neg (hpn hn), ← List.append_assoc] at hd
            generalize a2 ++ [f[i]] = A at hA2 hd hal
            rw [hk] at he
            simp [-aappend, hl, g0, g3, g6, g7, g8, hlt', hlt, hat, hk, hn, he, hx]
            exact ⟨⟨i + 1, by simp, hlt, A, hal, hd, o', hA2⟩, by omega⟩
        · rw [if_neg (hpk hk), ← List.append_assoc] at hd
          generalize a2 ++ [f[i]] = A at hA2 hd hal
          simp [-aappend, hl, g0, g3, g6, g7, g8, hlt', hlt, hat, hk, he, hx]
          exact ⟨⟨i + 1, by simp, hlt, A, hal, hd, o', hA2⟩, by omega⟩
    | true =>
      simp only [Bool.not_true, Bool.false_and, Bool.true_or, Bool.false_eq_true, if_false, List.nil_append] at hd
      have hA1 := hA.push (P := Tryz.prog) (t := 27) (e := 96) (ag := true) (x := recAV f[i]) (by simp) (by simp) (by simp) (by omega) ⟨by simp [AV.cells], by simp [AV.cells, AV.one]⟩ (by simp; omega)
      obtain ⟨v', g', o', he, hA', _⟩ := hA1
      simp [-aappend, recCells] at he
      have hA2 : Acc τ g' 3 v' ((a ++ [f[i]]).map recAV) o' := by simpa using hA'
      have hal : (a ++ [f[i]]).length ≤ 2 * (i + 1) := by simp; omega
      simp [-aappend, hl, g0, g3, g6, g7, g8, hlt', hlt, hat]
      refine ACode_draw0 mixed (by kernel_rfl) ?_
      by_cases hk : f[i].kind = r.kind
      · by_cases hn : f[i].number = r.number
        · rw [if_pos (hpe hk hn), List.nil_append] at hd
          simp [-aappend, hl, g0, g3, g6, g7, g8, hlt', hlt, hat, hk, hn, hx]
          exact ⟨⟨i + 1, by simp, hlt, a, by omega, hd, o, hA⟩, by omega⟩
        · rw [if_neg (hpn hn), ← List.append_assoc] at hd
          generalize a ++ [f[i]] = A at hA2 hd hal
          rw [hk] at he
          simp [-aappend, hl, g0, g3, g6, g7, g8, hlt', hlt, hat, hk, hn, he, hx]
          exact ⟨⟨i + 1, by simp, hlt, A, hal, hd, o', hA2⟩, by omega⟩
      · rw [if_neg (hpk hk), ← List.append_assoc] at hd
        generalize a ++ [f[i]] = A at hA2 hd hal
        simp [-aappend, hl, g0, g3, g6, g7, g8, hlt', hlt, hat, hk, he, hx]
        exact ⟨⟨i + 1, by simp, hlt, A, hal, hd, o', hA2⟩, by omega⟩
  · have hge' : ¬ (i : Int) < (f.length : Int) := by omega
    rw [List.drop_eq_nil_of_le hge, Oyez.putR] at hd
    have fin : ∀ {v : AV} {a : List Oyez.Rec} {g : Heap} {o : Option Nat}, Acc τ g 3 v (a.map recAV) o → Fz σ.length (τ ++ g) v (fileAV a) := by
      intro v a g o hA
      rw [← hτ] at hA ⊢
      have := hA.shift.fz (fz_recs _ _ _)
      rw [List.append_assoc]
      exact this
    have hext : ∀ g : Heap, ∃ x, τ ++ g = σ ++ x := fun g => ⟨AObj.cells (recCells r) :: g, by rw [← hτ]; simp⟩
    have hal : a.length ≤ 2 ^ 42 := by omega
    cases d with
    | false =>
      have hB1 := hA.push (P := Tryz.prog) (t := 27) (e := 96) (ag := true) (x := recAV r) (by simp) (by simp) (by simp) (by omega) ⟨by simp [AV.cells], by simp [AV.cells, AV.one]⟩ (by simp; omega)
      obtain ⟨w, k, q, hf1, hB, _⟩ := hB1
      simp [-aappend, recCells] at hf1
      have hB2 : Acc τ k 3 w ((a ++ [r]).map recAV) q := by simpa using hB
      have hd2 : a ++ [r] = Oyez.putR r false f := hd
      rw [hd2] at hB2
      have hz := fin hB2
      have hv := hB2.val
      have hne : Oyez.putR r false f ≠ [] := by rw [← hd2]; simp
      generalize Oyez.putR r false f = P at *
      cases q with
      | none => exact absurd (List.map_eq_nil_iff.1 hv.2) hne
      | some j =>
        obtain ⟨rfl, hj⟩ := hv
        by_cases h40 : 40 < P.length
        · have h40' : (40 : Int) < (P.length : Int) := by omega
          rw [if_pos h40] at hX
          subst hX
          simp [-aappend, hl, g0, g3, g6, g7, g8, hge', hat, hf1, h40, h40']
          exact hext _
        · have h40' : ¬ (40 : Int) < (P.length : Int) := by omega
          rw [if_neg h40] at hX
          subst hX
          simp [-aappend, hl, g0, g3, g6, g7, g8, hge', hat, hf1, h40, h40']
          exact ⟨hext _, by simpa using hz⟩
    | true =>
      have hd2 : a = Oyez.putR r false f := by rw [← hd]; simp
      rw [hd2] at hA
      have hz := fin hA
      have hv := hA.val
      generalize Oyez.putR r false f = P at *
      cases o with
      | none =>
        obtain ⟨rfl, hn⟩ := hv
        obtain rfl := List.map_eq_nil_iff.1 hn
        simp at hX
        subst hX
        simp [-aappend, hl, g0, g3, g6, g7, g8, hge', hat]
        exact hext _
      | some j =>
        obtain ⟨rfl, hj⟩ := hv
        by_cases h40 : 40 < P.length
        · have h40' : (40 : Int) < (P.length : Int) := by omega
          rw [if_pos h40] at hX
          subst hX
          simp [-aappend, hl, g0, g3, g6, g7, g8, hge', hat, h40, h40']
          exact hext _
        · have h40' : ¬ (40 : Int) < (P.length : Int) := by omega
          rw [if_neg h40] at hX
          subst hX
          simp [-aappend, hl, g0, g3, g6, g7, g8, hge', hat, h40, h40']
          exact ⟨hext _, by simpa using hz⟩
set_option maxHeartbeats 2000000 in
theorem refPrint_calls (f : List Oyez.Rec) (hf : f.length ≤ 40) (hr : ∀ r ∈ f, Oyez.recErr r = 0) : APure Tryz.prog 58 [fileAV f] (.str (Oyez.print f)) := by
  intro σ
  generalize hX : Oyez.print f = X
  refine acalls_fn Tryz.func58 rfl (enters_fn Tryz.func58 (by decide) rfl) ?_
  simp [Tryz.ntmps58]
  refine ACode_loopT (fun env σ' => ∃ (u : List AV) (i : Nat) (a : List UInt8), env = { t := u } ∧ u.length = 31 ∧ tg u 0 = fileAV f ∧ tg u 3 = .str a ∧ tg u 4 = .int .i64 i ∧ σ' = σ ∧ i ≤ f.length ∧ a.length ≤ 65 * i ∧ a ++ Oyez.print (f.drop i) = X)
    (fun env _ => match tg env.t 4 with | .int _ i => f.length - i.toNat | _ => 0) ⟨_, 0, [], rfl, by simp, by simp, by simp, by simp, rfl, by omega, by simp, by simpa using hX⟩ ?_
  rintro env σ' ⟨u, i, a, rfl, hl, g0, g3, g4, rfl, hi, ha, hd⟩
  rcases Nat.lt_or_ge i f.length with hlt | hge
  · have hlt' : (i : Int) < (f.length : Int) := by omega
    have hx := w64 (n := (i : Int) + 1) (by omega) (by omega)
    have hmem := List.getElem_mem hlt
    obtain ⟨hp, hw⟩ := (Oyez.recErr_iff _).1 (hr _ hmem)
    obtain ⟨⟨hk0, hk4⟩, hn0, hn9⟩ := Oyez.placeErr_rng hp
    obtain ⟨hw6, _, hl64⟩ := Oyez.wordsErr_zero hw
    have ht1 : tot1 f[i].words ≤ 64 := by
      unfold Oyez.line at hl64
      rw [List.length_append, flat_len32] at hl64
      omega
    have hst : a.length + (Oyez.line f[i].kind f[i].number f[i].words).length ≤ 9223372036854775807 := by omega
    have hst2 : a.length + (Oyez.line f[i].kind f[i].number f[i].words).length + 1 ≤ 9223372036854775807 := by omega
    have hnext : (a ++ Oyez.line f[i].kind f[i].number f[i].words ++ [10]) ++ Oyez.print (f.drop (i + 1)) = X := by
      rw [← hd, List.drop_eq_getElem_cons hlt]
      simp only [Oyez.print, List.flatMap_cons, List.append_assoc]
    have hnl : (a ++ Oyez.line f[i].kind f[i].number f[i].words ++ [10]).length ≤ 65 * (i + 1) := by simp; omega
    simp [hl, g0, g3, g4, hlt']
    refine ACode_draw0 mixed (by kernel_rfl) ?_
    simp [hl, g0, g3, g4, hlt', hlt]
    refine Ou_use (Line_calls f[i].kind f[i].number f[i].words hk0 hn0 (by omega) (by omega) (by omega)) ?_
    generalize Oyez.line f[i].kind f[i].number f[i].words = L at *
    simp [hl, g0, g3, g4, hlt', hlt, hst, hst2, hx]
    exact ⟨⟨i + 1, by simp, hlt, by simpa using hnl, by simpa using hnext⟩, by omega⟩
  · have hge' : ¬ (i : Int) < (f.length : Int) := by omega
    rw [List.drop_eq_nil_of_le hge] at hd
    have : a = X := by rw [← hd]; simp [Oyez.print]
    subst this
    simp [hl, g0, g3, g4, hge']
end Ab

/-
  THE IMPLEMENTATION's Parse.
-/
import Derived.Test.YtdifgaapdnbliaaGreatDoorI12
import Derived.Test.YtdifgaapdnbliaaGreatDoorR8
set_option linter.unusedSimpArgs false
set_option linter.unusedVariables false
namespace Ab
open Go Go.RowKit Go.Proofs
attribute [local irreducible] aws awp aw1 Og Om Oc Oa Ogd Ov Ot awd aw1d awh aw1h Ogh Ohd awl Ogl Ohl awv Ogv Ohv QThen QBlock QFn QFnM QRo QBe ACode AYield
/-- what is left to parse -/
def restX (x : List UInt8) (f : List Oyez.Rec) : Oyez.Parsed := glue f (Oyez.parseLines (Oyez.linesOf x) (lastP f) f.length)
theorem restX_nil (f : List Oyez.Rec) : restX [] f = ⟨f, 0, 0, 0⟩ := by simp [restX, Oyez.linesOf, Oyez.parseLines, glue]
theorem restX_line (b : UInt8) (t : List UInt8) (f : List Oyez.Rec) : restX (b :: t) f = match Oyez.readLine (cutB 10 (b :: t)).1 (cutB 10 (b :: t)).2.2 f.length with
      | .error (w, x) => ⟨[], f.length, w, x⟩
      | .ok r => if (lastP f).all (fun q => q.lt r.place) = false then ⟨[], f.length, 1, 4⟩ else restX (cutB 10 (b :: t)).2.1 (f ++ [r]) := by
  unfold restX
  rw [Oyez.linesOf_cut, cutB_line]
  simp only
  rw [Oyez.parseLines]
  cases hr : Oyez.readLine (cutB 10 (b :: t)).1 (cutB 10 (b :: t)).2.2 f.length with
  | error x =>
    obtain ⟨w, x⟩ := x
    have := readLine_err hr
    simp [glue, this]
  | ok r =>
    simp only
    cases hl : (lastP f).all (fun q => q.lt r.place) with
    | false => simp [glue]
    | true =>
      have hlp : lastP (f ++ [r]) = some r.place := by simp [lastP]
      rw [hlp, List.length_append]
      simp only [Bool.true_eq_false, if_false, List.length_cons, List.length_nil]
      unfold glue
      split
      · simp
      · rfl
theorem cutB_rest (c : UInt8) (s : List UInt8) (h : (cutB c s).2.2 = false) : (cutB c s).2.1 = [] := by
  induction s with
  | nil => rfl
  | cons b t ih =>
    unfold cutB at h ⊢
    split at h
    · cases h
    · rename_i hb
      rw [if_neg hb]
      exact ih h
theorem take3 {cs : List AV} {n : Nat} {a b c : AV} (h0 : cs[n]? = some a) (h1 : cs[n + 1]? = some b) (h2 : cs[n + 2]? = some c) : List.take 3 (List.drop n cs) = [a, b, c] := by
  obtain ⟨l0, e0⟩ := List.getElem?_eq_some_iff.1 h0
  obtain ⟨l1, e1⟩ := List.getElem?_eq_some_iff.1 h1
  obtain ⟨l2, e2⟩ := List.getElem?_eq_some_iff.1 h2
  rw [List.drop_eq_getElem_cons l0, List.drop_eq_getElem_cons l1, List.drop_eq_getElem_cons l2]
  simp [e0, e1, e2]
set_option maxHeartbeats 4000000 in
set_option maxRecDepth 8000 in
theorem parse_calls (s : List UInt8) (hs : s.length ≤ 2 ^ 40) : APure Tryz.prog 17 [.str s] (parsedAV (Oyez.parse s)) := by
  refine APure.of fun σ => ?_
  generalize hX : Oyez.parse s = X
  refine acalls_fn Tryz.func17 rfl (enters_fn Tryz.func17 (by decide) rfl) ?_
  simp [Tryz.ntmps17]
  refine ACode_loopT (fun env σ' => ∃ (u : List AV) (x : List UInt8) (v : AV) (f : List Oyez.Rec) (g : Heap) (o : Option Nat), env = { t := u } ∧ u.length = 61 ∧ tg u 0 = .str x ∧ tg u 2 = v ∧ tg u 3 = .int .i64 f.length ∧
      σ' = σ ++ g ∧ Acc σ g 3 v (f.map recAV) o ∧ x.length ≤ s.length ∧ f.length ≤ 40 ∧ restX x f = X)
    (fun env _ => match tg env.t 0 with | .str x => x.length | _ => 0) ⟨_, s, .nils, [], [], none, rfl, by simp, by simp, by simp, by simp, by simp, Acc.nil _ _ _, by omega, by simp, ?_⟩ ?_
  · rw [← hX, ← glue_nil]; rfl
  rintro env σ' ⟨u, x, v, f, g, o, rfl, hl, g0, g2, g3, rfl, hA, hxl, hf40, hd⟩
  cases x with
  | nil =>
    rw [restX_nil] at hd
    subst hd
    have hz := hA.fz (fun x hx y hy => by
      obtain ⟨r, _, rfl⟩ := List.mem_map.1 hx
      simp [AV.cells] at hy
      rcases hy with rfl | rfl | rfl
      · exact .int _ _
      · exact .int _ _
      · exact (Fz_strs _ _ _).2 trivial)
    simpa [hl, g0, g2, g3, parsedAV] using hz
  | cons b t =>
    rw [restX_line] at hd
    have hcl := cutB_len 10 (b :: t)
    have hrs := cutB_rest 10 (b :: t)
    have hcut := cut_calls (b :: t) 10 (by omega)
    generalize cutB 10 (b :: t) = q at hd hcl hrs hcut
    obtain ⟨own, rest, ended⟩ := q
    simp only at hd hcl hrs hcut
    have hread := read_calls own ended f.length (by omega)
    simp [hl, g0, g2, g3]
    refine hcut.use ?_
    simp [hl, g0, g2, g3]
    refine hread.use ?_
    cases hr : Oyez.readLine own ended f.length with
    | error x =>
      obtain ⟨w, x⟩ := x
      have hx0 : ¬ x = 0 := readLine_err hr
      rw [hr] at hd
      simp only at hd
      subst hd
      simp [hl, g0, g2, g3, ireadAV]
      refine ACode_draw0 mixed (by kernel_rfl) ?_
      simp [hl, g0, g2, g3, hx0, parsedAV]
    | ok r =>
      rw [hr] at hd
      simp only at hd
      obtain ⟨hr1, hr2, hr3⟩ := readLine_line hr
      simp [hl, g0, g2, g3, ireadAV]
      refine ACode_draw0 mixed (by kernel_rfl) ?_
      have hwl := w64 (n := (f.length : Int) + 1) (by omega) (by omega)
      have hA1 := (hA.more [.cells (recCells r)]).push (P := Tryz.prog) (t := 23) (e := 59) (ag := true) (x := recAV r) (by simp) (by simp) (by simp) (by omega) ⟨by simp [AV.cells], by simp [AV.cells, AV.one]⟩ (by simp; omega)
      obtain ⟨v', g', o', he, hA', _⟩ := hA1
      simp [-aappend, recCells] at he
      obtain rfl | ⟨f', q, rfl⟩ : f = [] ∨ ∃ f' q, f = f' ++ [q] := by
        rcases List.eq_nil_or_concat f with h | ⟨a, b, h⟩
        · exact .inl h
        · exact .inr ⟨a, b, by simpa using h⟩
      · have hvl : ∀ S : Heap, alen Tryz.prog 23 v S = some (.int .i64 0) := by
          intro S
          have := hA.val
          cases o with
          | none => obtain ⟨rfl, _⟩ := this; simp
          | some j => obtain ⟨rfl, _⟩ := this; simp
        simp [lastP] at hd
        have wl1 : IntKind.i64.wrap 1 = 1 := w64 (by decide) (by decide)
        simp [-aappend, -alen, hl, g0, g2, g3, he, hvl, wl1]
        have hrl := hcl.2.2 hr3
        simp at hrl hxl
        exact ⟨⟨[r], by simp, ⟨o', by simpa using hA'⟩, by omega, by simp, hd⟩, by omega⟩
      · obtain ⟨j0, rfl⟩ : ∃ j, o = some j := by
          cases o with
          | none => have := hA.val; simp at this
          | some j => exact ⟨j, rfl⟩
        have hv := hA.val
        simp only [List.length_map, List.length_append, List.length_cons, List.length_nil] at hv
        obtain ⟨rfl, hg⟩ := hv
        have hc0 := flat_rec (f' ++ [q]) f'.length 0 (by simp) (by decide)
        have hc1 := flat_rec (f' ++ [q]) f'.length 1 (by simp) (by decide)
        have hc2 := flat_rec (f' ++ [q]) f'.length 2 (by simp) (by decide)
        have hcl2 := flat_len ((f' ++ [q]).map recAV) (k := 3) (fun x hx => by obtain ⟨r, _, rfl⟩ := List.mem_map.1 hx; rfl)
        generalize ((f' ++ [q]).map recAV).flatMap AV.cells = cs at hg hc0 hc1 hc2 hcl2
        have hj0 := (List.getElem?_eq_some_iff.1 hg).1
        have happ : ∀ y : Heap, (g ++ y)[j0]? = some (.cells cs) := fun y => by rw [List.getElem?_append_left hj0, hg]
        simp [recCells] at hc0 hc1 hc2 hcl2
        have hm2 : f'.length * 3 + 3 ≤ cs.length := by omega
        have hz1 : (0 : Int) < (f'.length : Int) + 1 := by omega
        have hw := w64 (n := (f'.length : Int)) (by simp at hf40; omega) (by simp at hf40; omega)
        have hlp : lastP (f' ++ [q]) = some q.place := by simp [lastP]
        rw [hlp] at hd
        simp only [List.length_append, List.length_cons, List.length_nil, Nat.zero_add] at he g2 g3
        have htk := take3 hc0 hc1 hc2
        simp [-aappend, hl, g0, g2, g3, hz1, hw, happ, hm2, he]
        rw [htk]
        refine Ou_use0 (place_calls q) ?_
        refine Ou_use0 (place_calls r) ?_
        refine Ou_use0 (compare_calls q.place r.place) ?_
        have hneg := cmpP_neg q.place r.place
        have hrl := hcl.2.2 hr3
        simp at hrl hxl hr1
        have w2 := w64 (n := (f'.length : Int) + 1 + 1) (by omega) (by omega)
        cases hb : q.place.lt r.place with
        | true =>
          have hc : ¬ 0 ≤ cmpP q.place r.place := by have := hneg.2 hb; omega
          simp [hb] at hd
          simp [-aappend, hl, g0, g2, g3, hc, happ, he, w2]
          exact ⟨⟨f' ++ [q] ++ [r], by simp; omega, ⟨o', by simpa using hA'⟩, by omega, by simp; omega, by simpa using hd⟩, by omega⟩
        | false =>
          have hc : 0 ≤ cmpP q.place r.place := by
            rw [hb] at hneg
            have : ¬ cmpP q.place r.place < 0 := fun h => by have := hneg.1 h; cases this
            omega
          simp [hb] at hd
          subst hd
          simp [-aappend, hl, g0, g2, g3, hc, happ, he, w2, parsedAV]
end Ab

/-
  COPIES: what is looked at (long, great), records as the reference's, lists copied, choices compared: the law's own functions.
-/
import Derived.Test.YtdifgaapdnbliaaGreatDoorR22
import Derived.Test.YtdifgaapdnbliaaGreatDoorR23
set_option linter.unusedSimpArgs false
set_option linter.unusedVariables false
set_option linter.unusedSectionVars false
namespace Ab
open Go Go.RowKit Go.Proofs
attribute [local irreducible] aws awp aw1 Og Om Oc Oa Ogd Ov Ot awd aw1d awh aw1h Ogh Ohd awl Ogl Ohl awv Ogv Ohv QThen QBlock QFn QFnM QRo QBe ACode AYield
/-- words that are more than what is looked at -/
def longB (ws : List (List UInt8)) : Bool := ws.any (fun w => decide (90 < w.length)) || decide (10 < ws.length)
/-- records that are -/
def greatB (f : List Oyez.Rec) : Bool := f.any (fun r => longB r.words) || decide (60 < f.length)
theorem any_take {α : Type} (p : α → Bool) (l : List α) {i : Nat} (h : i < l.length) (h0 : (l.take i).any p = false) : (l.take (i + 1)).any p = p l[i] := by
  rw [List.take_succ_eq_append_getElem h, List.any_append, h0]
  simp
theorem any_at {α : Type} (p : α → Bool) (l : List α) {i : Nat} (h : i < l.length) (h0 : p l[i] = true) : l.any p = true := List.any_eq_true.2 ⟨_, List.getElem_mem h, h0⟩
theorem longB_few {ws : List (List UInt8)} (h : longB ws = false) : ws.length ≤ 10 ∧ tot1 ws ≤ 2 ^ 20 := by
  unfold longB at h
  rw [Bool.or_eq_false_iff] at h
  obtain ⟨h1, h2⟩ := h
  have h2' : ws.length ≤ 10 := by simpa using h2
  refine ⟨h2', ?_⟩
  have key : ∀ l : List (List UInt8), l.any (fun w => decide (90 < w.length)) = false → tot1 l ≤ 91 * l.length := by
    intro l
    induction l with
    | nil => intro _; simp [tot1]
    | cons w t ih =>
      intro h
      rw [List.any_cons, Bool.or_eq_false_iff] at h
      have := ih h.2
      have h3 : w.length ≤ 90 := by simpa using h.1
      have e : tot1 (w :: t) = w.length + 1 + tot1 t := by simp [tot1]
      rw [e, List.length_cons]
      omega
  have := key ws h1
  omega
set_option maxHeartbeats 1000000 in
theorem long_calls (ws : List (List UInt8)) (hw : ws.length ≤ 9223372036854775807) : APure Tryz.prog 57 [wordsAV ws] (.bool (longB ws)) := by
  intro σ
  obtain ⟨B, hB⟩ : ∃ B, longB ws = B := ⟨_, rfl⟩
  rw [hB]
  refine acalls_fn Tryz.func57 rfl (enters_fn Tryz.func57 (by decide) rfl) ?_
  simp [Tryz.ntmps57]
  refine ACode_loopT (fun env σ' => ∃ (u : List AV) (i : Nat), env = { t := u } ∧ u.length = 18 ∧ tg u 0 = wordsAV ws ∧ tg u 5 = wordsAV ws ∧ tg u 6 = .int .i64 ws.length ∧ tg u 7 = .int .i64 i ∧ σ' = σ ∧ i ≤ ws.length ∧ (ws.take i).any (fun w => decide (90 < w.length)) = false)
    (fun env _ => match tg env.t 7 with | .int _ i => ws.length - i.toNat | _ => 0) ⟨_, 0, rfl, by simp, by simp, by simp, by simp, by simp, rfl, by omega, by simp⟩ ?_
  rintro env σ' ⟨u, i, rfl, hl, g0, g5, g6, g7, rfl, hi, hd⟩
  rcases Nat.lt_or_ge i ws.length with hlt | hge
  · have hlt' : (i : Int) < (ws.length : Int) := by omega
    have hx := w64 (n := (i : Int) + 1) (by omega) (by omega)
    have hn := any_take _ ws hlt hd
    by_cases hb : 90 < ws[i].length
    · have hb' : (90 : Int) < (ws[i].length : Int) := by omega
      have e : B = true := by
        rw [← hB]; unfold longB
        rw [any_at (fun w : List UInt8 => decide (90 < w.length)) ws hlt (by simpa using hb)]
        rfl
      subst e
      simp [hl, g0, g5, g6, g7, hlt', hlt, hb, hb']
    · have hb' : ¬ (90 : Int) < (ws[i].length : Int) := by omega
      simp [hl, g0, g5, g6, g7, hlt', hlt, hb, hb', hx]
      have hn' := hn.trans (show decide (90 < ws[i].length) = false by simpa using hb)
      exact ⟨⟨i + 1, by simp, by omega, by simpa using hn'⟩, by omega⟩
  · have hge' : ¬ (i : Int) < (ws.length : Int) := by omega
    rw [List.take_of_length_le hge] at hd
    unfold longB at hB
    rw [hd] at hB
    by_cases h10 : 10 < ws.length
    · have h10' : (10 : Int) < (ws.length : Int) := by omega
      have e : B = true := by rw [← hB]; simp [h10]
      subst e
      simp [hl, g0, g5, g6, g7, hge', h10, h10']
    · have h10' : ¬ (10 : Int) < (ws.length : Int) := by omega
      have e : B = false := by rw [← hB]; simp; omega
      subst e
      simp [hl, g0, g5, g6, g7, hge', h10, h10']
set_option maxHeartbeats 1000000 in
theorem great_calls (f : List Oyez.Rec) (hf : f.length ≤ 9223372036854775807) (hw : ∀ r ∈ f, r.words.length ≤ 9223372036854775807) : APure Tryz.prog 27 [fileAV f] (.bool (greatB f)) := by
  refine APure.of fun σ => ?_
  obtain ⟨B, hB⟩ : ∃ B, greatB f = B := ⟨_, rfl⟩
  rw [hB]
  refine acalls_fn Tryz.func27 rfl (enters_fn Tryz.func27 (by decide) rfl) ?_
  simp [Tryz.ntmps27]
  refine ACode_loopT (fun env σ' => ∃ (u : List AV) (i : Nat) (g : Heap), env = { t := u } ∧ u.length = 18 ∧ tg u 0 = fileAV f ∧ tg u 5 = fileAV f ∧ tg u 6 = .int .i64 f.length ∧ tg u 7 = .int .i64 i ∧ σ' = σ ++ g ∧ i ≤ f.length ∧ (f.take i).any (fun r => longB r.words) = false)
    (fun env _ => match tg env.t 7 with | .int _ i => f.length - i.toNat | _ => 0) ⟨_, 0, [], rfl, by simp, by simp, by simp, by simp, by simp, by simp, by omega, by simp⟩ ?_
  rintro env σ' ⟨u, i, g, rfl, hl, g0, g5, g6, g7, rfl, hi, hd⟩
  rcases Nat.lt_or_ge i f.length with hlt | hge
  · have hlt' : (i : Int) < (f.length : Int) := by omega
    have hx := w64 (n := (i : Int) + 1) (by omega) (by omega)
    have hn := any_take _ f hlt hd
    simp [hl, g0, g5, g6, g7, hlt', hlt]
    refine (long_calls f[i].words (hw _ (List.getElem_mem hlt))).use ?_
    cases hb : longB f[i].words with
    | true =>
      have e : B = true := by
        rw [← hB]; unfold greatB
        rw [any_at (fun r : Oyez.Rec => longB r.words) f hlt hb]
        rfl
      subst e
      simp [hl, g0, g5, g6, g7, hlt', hlt, hb]
    | false =>
      simp [hl, g0, g5, g6, g7, hlt', hlt, hb, hx]
      have hn' := hn.trans hb
      exact ⟨⟨i + 1, by simp, by omega, by simpa using hn'⟩, by omega⟩
  · have hge' : ¬ (i : Int) < (f.length : Int) := by omega
    rw [List.take_of_length_le hge] at hd
    unfold greatB at hB
    rw [hd] at hB
    by_cases h10 : 60 < f.length
    · have h10' : (60 : Int) < (f.length : Int) := by omega
      have e : B = true := by rw [← hB]; simp [h10]
      subst e
      simp [hl, g0, g5, g6, g7, hge', h10, h10']
    · have h10' : ¬ (60 : Int) < (f.length : Int) := by omega
      have e : B = false := by rw [← hB]; simp; omega
      subst e
      simp [hl, g0, g5, g6, g7, hge', h10, h10']
set_option maxHeartbeats 2000000 in
theorem theirs_calls (f : List Oyez.Rec) (hf : f.length ≤ 2 ^ 40) : APure Tryz.prog 31 [fileAV f] (fileAV f) := by
  refine APure.of fun σ => ?_
  refine acalls_fn Tryz.func31 rfl (enters_fn Tryz.func31 (by decide) rfl) ?_
  simp [Tryz.ntmps31]
  refine ACode_loopT (fun env σ' => ∃ (u : List AV) (i : Nat) (v : AV) (g : Heap) (o : Option Nat), env = { t := u } ∧ u.length = 24 ∧ tg u 0 = fileAV f ∧ tg u 3 = v ∧ tg u 6 = fileAV f ∧ tg u 7 = .int .i64 f.length ∧ tg u 8 = .int .i64 i ∧ σ' = σ ++ g ∧ i ≤ f.length ∧ Acc σ g 3 v ((f.take i).map recAV) o)
    (fun env _ => match tg env.t 8 with | .int _ i => f.length - i.toNat | _ => 0) ⟨_, 0, .nils, [], none, rfl, by simp, by simp, by simp, by simp, by simp, by simp, by simp, by omega, by simpa using Acc.nil _ _ _⟩ ?_
  rintro env σ' ⟨u, i, v, g, o, rfl, hl, g0, g3, g6, g7, g8, rfl, hi, hA⟩
  rcases Nat.lt_or_ge i f.length with hlt | hge
  · have hlt' : (i : Int) < (f.length : Int) := by omega
    have hx := w64 (n := (i : Int) + 1) (by omega) (by omega)
    have hA1 := ((hA.more [.cells (recCells f[i])]).push (P := Tryz.prog) (t := 27) (e := 96) (ag := true) (x := recAV f[i]) (by simp) (by simp) (by simp) (by omega) ⟨by simp [AV.cells], by simp [AV.cells, AV.one]⟩ (by simp; omega))
    obtain ⟨v', g', o', he, hA', _⟩ := hA1
    simp [-aappend, recCells] at he
    rw [← Nat.add_assoc] at he
    simp [-aappend, hl, g0, g3, g6, g7, g8, hlt', hlt, hx, he]
    refine ⟨⟨i + 1, by simp, hlt, o', ?_⟩, by omega⟩
    rw [List.take_succ_eq_append_getElem (by simpa using hlt), List.getElem_map, ← List.map_take]
    exact hA'
  · have hge' : ¬ (i : Int) < (f.length : Int) := by omega
    rw [List.take_of_length_le hge] at hA
    have hz := hA.fz (fun x hx y hy => by
      obtain ⟨r, _, rfl⟩ := List.mem_map.1 hx
      simp [AV.cells] at hy
      rcases hy with rfl | rfl | rfl
      · exact .int _ _
      · exact .int _ _
      · exact (Fz_strs _ _ _).2 trivial)
    simpa [hl, g0, g3, g6, g7, g8, hge'] using hz
/-- choices -/
def boolsAV (l : List Bool) : AV := .pl 1 (l.map AV.bool)
attribute [simp] boolsAV
theorem sum_const {α : Type} (l : List α) (k : Nat) (f : α → Nat) (h : ∀ a, f a = k) : (l.map f).sum = l.length * k := by
  induction l with
  | nil => simp
  | cons a t ih => rw [List.map_cons, List.sum_cons, ih, h, List.length_cons, Nat.add_mul]; omega
theorem fz_row {σ g : Heap} {k : Nat} (xs : List AV) (h : ∀ x ∈ xs, x.cells.length = k ∧ ∀ y ∈ x.cells, y.one = true) (hf : ∀ (n : Nat) (τ : Heap), ∀ x ∈ xs, ∀ y ∈ x.cells, Fz n τ y y) : Fz σ.length (σ ++ .cells (xs.flatMap AV.cells) :: g) (.arr k σ.length 0 xs.length) (.pl k xs) :=
  Acc.fz (o := some 0) ⟨h, rfl, rfl⟩ (hf _ _)
/-- the cells of records -/
def cellsR (f : List Oyez.Rec) : List AV := f.flatMap recCells
theorem cellsR_map (f : List Oyez.Rec) : (f.map recAV).flatMap AV.cells = cellsR f := by unfold cellsR; rw [List.flatMap_map]; rfl
theorem cellsR_len (f : List Oyez.Rec) : (cellsR f).length = f.length * 3 := by
  unfold cellsR
  induction f with
  | nil => rfl
  | cons p t ih => rw [List.flatMap_cons, List.length_append, ih]; simp [recCells]; omega
theorem cellsR_at (f : List Oyez.Rec) {i j : Nat} (h : i < f.length) (hj : j < 3) : (cellsR f)[i * 3 + j]? = (recCells f[i])[j]? := by rw [← cellsR_map]; exact flat_rec f i j h hj
theorem cellsR_sub (f : List Oyez.Rec) {i : Nat} (h : i < f.length) : List.take 3 (List.drop (i * 3) (cellsR f)) = [.int .i64 f[i].kind, .int .i64 f[i].number, wordsAV f[i].words] := by
  apply List.ext_getElem?
  intro j
  rcases Nat.lt_or_ge j 3 with hj | hj
  · rw [List.getElem?_take_of_lt hj, List.getElem?_drop, cellsR_at f h hj]
    rfl
  · rw [List.getElem?_eq_none (by simp; omega), List.getElem?_eq_none (by simpa using hj)]
theorem cellsR_put (f : List Oyez.Rec) {i : Nat} (h : i < f.length) : List.take (i * 3 + 2) (cellsR f) ++ wordsAV f[i].words :: List.drop (i * 3 + 3) (cellsR f) = cellsR f := by
  have hl := cellsR_len f
  have h1 := cellsR_at f h (show 2 < 3 by omega)
  have hlt : i * 3 + 2 < (cellsR f).length := by omega
  rw [List.getElem?_eq_getElem hlt] at h1
  have h2 : (cellsR f)[i * 3 + 2] = wordsAV f[i].words := by simpa [recCells] using h1
  rw [← h2, ← List.drop_eq_getElem_cons hlt, List.take_append_drop]
theorem copyS_calls (l : List (List UInt8)) (hl : l.length ≤ 2 ^ 30) : APure Tryz.prog 78 [wordsAV l] (wordsAV l) := by
  refine APure.of fun σ => ?_
  refine acalls_fn Tryz.func78 rfl (enters_fn Tryz.func78 (by decide) rfl) ?_
  have h1 : (l.length : Int) * 16 ≤ 281474976710656 := by omega
  have h2 : (l.length : Int) ≤ 9223372036854775807 := by omega
  simp [Tryz.ntmps78, h1, h2]
  rw [sum_const l 1]
  case h => exact fun _ => rfl
  rw [Nat.mul_one, Nat.sub_self, List.replicate_zero, List.append_nil]
  have := fz_row (σ := σ) (g := []) (k := 1) (l.map AV.str) (fun x hx => by obtain ⟨b, _, rfl⟩ := List.mem_map.1 hx; exact ⟨rfl, by simp [AV.cells, AV.one]⟩) (fun n τ x hx y hy => by
    obtain ⟨b, _, rfl⟩ := List.mem_map.1 hx
    simp [AV.cells] at hy; subst hy; exact .str _)
  rwa [List.length_map] at this
theorem copyR_calls (f : List Oyez.Rec) (hl : f.length ≤ 2 ^ 30) (σ : Heap) : ACalls Tryz.prog 97 [fileAV f] σ fun v σ' => v = .arr 3 σ.length 0 f.length ∧ σ' = σ ++ [.cells (cellsR f)] := by
  refine acalls_fn Tryz.func97 rfl (enters_fn Tryz.func97 (by decide) rfl) ?_
  have h1 : (f.length : Int) * 40 ≤ 281474976710656 := by omega
  have h2 : (f.length : Int) ≤ 9223372036854775807 := by omega
  simp [Tryz.ntmps97, h1, h2]
  rw [sum_const f 3]
  case h => exact fun _ => rfl
  rw [List.drop_eq_nil_of_le (by simp), List.append_nil]
  exact cellsR_map f
set_option maxHeartbeats 2000000 in
theorem own_calls (f : List Oyez.Rec) (hl : f.length ≤ 2 ^ 30) (hw : ∀ r ∈ f, r.words.length ≤ 2 ^ 30) : APure Tryz.prog 28 [fileAV f] (fileAV f) := by
  refine APure.of fun σ => ?_
  refine acalls_fn Tryz.func28 rfl (enters_fn Tryz.func28 (by decide) rfl) ?_
  simp [Tryz.ntmps28]
  refine StA.of ((copyR_calls f hl σ).mono ?_)
  rintro _ _ ⟨rfl, rfl⟩
  simp
  refine ACode_loopT (fun env σ' => ∃ (u : List AV) (i : Nat) (g : Heap), env = { t := u } ∧ u.length = 24 ∧ tg u 3 = .arr 3 σ.length 0 f.length ∧ tg u 8 = .arr 3 σ.length 0 f.length ∧ tg u 9 = .int .i64 f.length ∧ tg u 10 = .int .i64 i ∧ σ' = σ ++ .cells (cellsR f) :: g ∧ i ≤ f.length)
    (fun env _ => match tg env.t 10 with | .int _ i => f.length - i.toNat | _ => 0) ⟨_, 0, [], rfl, by simp, by simp, by simp, by simp, by simp, by simp, by omega⟩ ?_
  rintro env σ' ⟨u, i, g, rfl, hl', g3, g8, g9, g10, rfl, hi⟩
  rcases Nat.lt_or_ge i f.length with hlt | hge
  · have hlt' : (i : Int) < (f.length : Int) := by omega
    have hx := w64 (n := (i : Int) + 1) (by omega) (by omega)
    have hlen := cellsR_len f
    have hs := cellsR_sub f hlt
    have hput := cellsR_put f hlt
    have hb : i * 3 + 3 ≤ f.length * 3 := by omega
    simp [hl', g3, g8, g9, g10, hlt', hlt, hlen, hs, hb]
    refine (copyS_calls f[i].words (hw _ (List.getElem_mem hlt))).use ?_
    simp [hl', g3, g8, g9, g10, hlt', hlt, hlen, hs, hb, hx]
    exact ⟨⟨i + 1, by simp, hput, by omega⟩, by omega⟩
  · have hge' : ¬ (i : Int) < (f.length : Int) := by omega
    have hA : Acc σ (.cells (cellsR f) :: g) 3 (.arr 3 σ.length 0 f.length) (f.map recAV) (some 0) := ⟨fun x hx => by
      obtain ⟨r, _, rfl⟩ := List.mem_map.1 hx
      exact ⟨rfl, by simp [AV.cells, AV.one]⟩, by simp, by rw [cellsR_map]; rfl⟩
    have hz := hA.fz (fz_recs _ _ _)
    simpa [hl', g3, g8, g9, g10, hge'] using hz
end Ab

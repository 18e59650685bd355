/-
  CHANGES: lists of them copied; a list of the call's own, read as what it holds, and its words cleared.
-/
import Derived.Test.YtdifgaapdnbliaaGreatDoorX7
import Derived.Test.YtdifgaapdnbliaaGreatDoorX9
set_option linter.unusedSimpArgs false
set_option linter.unusedVariables false
namespace Oyez
theorem aft_words {M : Nat} {x y : List Chg} (hx : ∀ c ∈ x, c.old.length ≤ M ∧ c.new.length ≤ M) (hy : ∀ c ∈ y, c.old.length ≤ M ∧ c.new.length ≤ M) {L : List Chg} (h : after x y = .ok L) : ∀ c ∈ L, c.old.length ≤ M ∧ c.new.length ≤ M := by
  have hw : ∀ c : Chg, c.old.length ≤ M → (c.was.getD []).length ≤ M := fun c h => by unfold Chg.was; split <;> simp [h]
  have hn : ∀ c : Chg, c.new.length ≤ M → (c.now.getD []).length ≤ M := fun c h => by unfold Chg.now; split <;> simp [h]
  unfold after at h
  generalize placesOf ((x ++ y).map Chg.place) = ps at h
  induction ps generalizing L with
  | nil => cases h; simp
  | cons p t ih =>
    rw [afterL] at h
    cases hp : afterAt x y p with
    | error e => rw [hp] at h; cases h
    | ok o =>
      rw [hp] at h
      cases o with
      | none => exact ih h
      | some d =>
        simp only at h
        cases ht : afterL x y t with
        | error e => rw [ht] at h; cases h
        | ok m =>
          rw [ht] at h
          cases h
          intro c hc
          rcases List.mem_cons.1 hc with rfl | hc
          · unfold afterAt at hp
            cases hfx : findC x p with
            | none =>
              cases hfy : findC y p with
              | none => simp [hfx, hfy] at hp
              | some d => simp [hfx, hfy] at hp; subst hp; exact hy _ (findC_mem hfy).1
            | some e =>
              cases hfy : findC y p with
              | none => simp [hfx, hfy] at hp; subst hp; exact hx _ (findC_mem hfx).1
              | some d =>
                simp only [hfx, hfy] at hp
                by_cases h1 : e.now = d.was
                · rw [if_pos h1] at hp
                  by_cases h2 : e.was = d.now
                  · simp [h2] at hp
                  · rw [if_neg h2] at hp
                    simp at hp
                    subst hp
                    exact ⟨hw e (hx e (findC_mem hfx).1).1, hn d (hy d (findC_mem hfy).1).2⟩
                · rw [if_neg h1] at hp; cases hp
          · exact ih ht c hc
end Oyez
namespace Ab
open Go Go.RowKit Go.Proofs
attribute [local irreducible] aws awp aw1 Og Om Oc Oa Ogd Ov Ot awd aw1d awh aw1h Ogh Ohd awl Ogl Ohl awv Ogv Ohv QThen QBlock QFn QFnM QRo QBe ACode AYield
/-- the cells of changes -/
def cellsC (l : List Oyez.Chg) : List AV := l.flatMap chgCells
theorem cellsC_map (l : List Oyez.Chg) : (l.map chgAV).flatMap AV.cells = cellsC l := by unfold cellsC; rw [List.flatMap_map]; rfl
theorem cellsC_len (l : List Oyez.Chg) : (cellsC l).length = l.length * 6 := by
  unfold cellsC
  induction l with
  | nil => rfl
  | cons p t ih => rw [List.flatMap_cons, List.length_append, ih]; simp [chgCells]; omega
theorem cellsC_at (l : List Oyez.Chg) {i j : Nat} (h : i < l.length) (hj : j < 6) : (cellsC l)[i * 6 + j]? = (chgCells l[i])[j]? := by
  rw [← cellsC_map, flat_get (k := 6) _ (fun x hx => by obtain ⟨c, _, rfl⟩ := List.mem_map.1 hx; rfl) (by decide), show (i * 6 + j) / 6 = i by omega, show (i * 6 + j) % 6 = j by omega, List.getElem?_map, List.getElem?_eq_getElem h]
  rfl
theorem cellsC_sub (l : List Oyez.Chg) {i : Nat} (h : i < l.length) : List.take 6 (List.drop (i * 6) (cellsC l)) = chgCells l[i] := by
  apply List.ext_getElem?
  intro j
  rcases Nat.lt_or_ge j 6 with hj | hj
  · rw [List.getElem?_take_of_lt hj, List.getElem?_drop, cellsC_at l h hj]
  · rw [List.getElem?_eq_none (by simp; omega), List.getElem?_eq_none (by simpa [chgCells] using hj)]
theorem cellsC_put (l : List Oyez.Chg) {i j : Nat} (h : i < l.length) (hj : j < 6) (v : AV) (hv : (chgCells l[i])[j]? = some v) : List.take (i * 6 + j) (cellsC l) ++ v :: List.drop (i * 6 + j + 1) (cellsC l) = cellsC l := by
  have hl := cellsC_len l
  have h1 := cellsC_at l h hj
  have hlt : i * 6 + j < (cellsC l).length := by omega
  rw [hv, List.getElem?_eq_getElem hlt] at h1
  rw [← Option.some.inj h1, ← List.drop_eq_getElem_cons hlt, List.take_append_drop]
theorem copyC_calls (l : List Oyez.Chg) (hl : l.length ≤ 2 ^ 30) (σ : Heap) : ACalls Tryz.prog 105 [chgsAV l] σ fun v σ' => v = .arr 6 σ.length 0 l.length ∧ σ' = σ ++ [.cells (cellsC l)] := by
  refine acalls_fn Tryz.func105 rfl (enters_fn Tryz.func105 (by decide) rfl) ?_
  have h1 : (l.length : Int) * 72 ≤ 281474976710656 := by omega
  have h2 : (l.length : Int) ≤ 9223372036854775807 := by omega
  simp [Tryz.ntmps105, h1, h2]
  rw [sum_const l 6]
  case h => exact fun _ => rfl
  rw [List.drop_eq_nil_of_le (by simp), List.append_nil]
  exact cellsC_map l
set_option maxHeartbeats 4000000 in
theorem owned_calls (l : List Oyez.Chg) (hl : l.length ≤ 2 ^ 30) (hw : ∀ c ∈ l, c.old.length ≤ 2 ^ 30 ∧ c.new.length ≤ 2 ^ 30) : APure Tryz.prog 37 [chgsAV l] (chgsAV l) := by
  refine APure.of fun σ => ?_
  refine acalls_fn Tryz.func37 rfl (enters_fn Tryz.func37 (by decide) rfl) ?_
  simp [Tryz.ntmps37]
  refine StA.of ((copyC_calls l hl σ).mono ?_)
  rintro _ _ ⟨rfl, rfl⟩
  simp
  refine ACode_loopT (fun env σ' => ∃ (u : List AV) (i : Nat) (g : Heap), env = { t := u } ∧ u.length = 31 ∧ tg u 3 = .arr 6 σ.length 0 l.length ∧ tg u 8 = .arr 6 σ.length 0 l.length ∧ tg u 9 = .int .i64 l.length ∧ tg u 10 = .int .i64 i ∧ σ' = σ ++ .cells (cellsC l) :: g ∧ i ≤ l.length)
    (fun env _ => match tg env.t 10 with | .int _ i => l.length - i.toNat | _ => 0) ⟨_, 0, [], rfl, by simp, by simp, by simp, by simp, by simp, by simp, by omega⟩ ?_
  rintro env σ' ⟨u, i, g, rfl, hl', g3, g8, g9, g10, rfl, hi⟩
  rcases Nat.lt_or_ge i l.length with hlt | hge
  · have hlt' : (i : Int) < (l.length : Int) := by omega
    have hx := w64 (n := (i : Int) + 1) (by omega) (by omega)
    have hlen := cellsC_len l
    have hs := cellsC_sub l hlt
    have hput4 := cellsC_put l hlt (show 4 < 6 by omega) (wordsAV l[i].old) rfl
    have hput5 := cellsC_put l hlt (show 5 < 6 by omega) (wordsAV l[i].new) rfl
    have hb : i * 6 + 6 ≤ l.length * 6 := by omega
    have hb4 : i * 6 + 4 + 1 ≤ l.length * 6 := by omega
    have hb5 : i * 6 + 5 + 1 ≤ l.length * 6 := by omega
    have hwi := hw _ (List.getElem_mem hlt)
    simp [chgCells] at hs
    simp at hput4 hput5
    simp [hl', g3, g8, g9, g10, hlt', hlt, hlen, hs, hb]
    refine ACode_drawV [12, 15] [(2, 1), (3, 1)] mixed (by kernel_rfl) (by kernel_rfl) ?_
    simp [hl', g3, g8, g9, g10, hlt', hlt, hlen, hs, hb, Nat.add_assoc]
    refine Ou_use0 (copyS_calls l[i].old hwi.1) ?_
    try simp [hl', g3, g8, g9, g10, hlt', hlt, hlen, hs, hb, Nat.add_assoc]
    refine Ou_use0 (copyS_calls l[i].new hwi.2) ?_
    simp [hl', g3, g8, g9, g10, hlt', hlt, hlen, hs, hb, hb4, hb5, hx, hput4, hput5, Nat.add_assoc]
    exact ⟨⟨i + 1, by simp, by omega⟩, by omega⟩
  · have hge' : ¬ (i : Int) < (l.length : Int) := by omega
    have hA : Acc σ (.cells (cellsC l) :: g) 6 (.arr 6 σ.length 0 l.length) (l.map chgAV) (some 0) := ⟨fun x hx => by
      obtain ⟨r, _, rfl⟩ := List.mem_map.1 hx
      exact ⟨rfl, by simp [AV.cells, AV.one]⟩, by simp, by rw [cellsC_map]; rfl⟩
    have hz := hA.fz (fz_chgs _ _ _)
    simpa [hl', g3, g8, g9, g10, hge'] using hz
/-- what is lent are the changes -/
theorem OwnC.fz {τ : Heap} {lo : Nat} {L : List Oyez.Chg} {v : AV} (h : OwnC asIs lo τ L v) : Fz 0 τ v (chgsAV L) := by
  rcases h.row with ⟨rfl, rfl⟩ | ⟨r, _, rfl, cs, h3, h4, h5⟩
  · exact .nils_pl 6
  · have hl : L.length = (L.map chgAV).length := by simp
    rw [hl]
    have hcell : ∀ (i : Nat) (c : Oyez.Chg), L[i]? = some c → ∃ w1 w2, (∀ j, j < 6 → cs[i * 6 + j]? = [AV.int .i64 c.kind, .int .i64 c.number, .bool c.had, .bool c.has, w1, w2][j]?) ∧ Fz 0 τ w1 (wordsAV c.old) ∧ Fz 0 τ w2 (wordsAV c.new) := by
      intro i c hc
      obtain ⟨w1, w2, g1, g2⟩ := h5 i c hc
      have key : ∀ w ws, (w, ws) = (w1, c.old) ∨ (w, ws) = (w2, c.new) → Fz 0 τ w (wordsAV ws) := by
        intro w ws hw
        rcases g2 w ws hw with ⟨a, rfl⟩ | ⟨q, xs, a1, a2, rfl, a4, a5⟩
        · rw [a]; exact .pl0 1 1
        · rw [show xs = strs ws from a5] at a4
          exact fz_strs0 _ a4
      refine ⟨w1, w2, fun j hj => ?_, key _ _ (.inl rfl), key _ _ (.inr rfl)⟩
      rw [← g1, List.getElem?_take_of_lt hj, List.getElem?_drop]
    refine Fz.arr 6 r 0 cs (L.map chgAV) (fun i j => (cs[i * 6 + j]?).getD .any) (Nat.zero_le _) h3 (fun i x hx => ?_) (fun i x hx j y hy => ?_)
    · rw [List.getElem?_map, Option.map_eq_some_iff] at hx
      obtain ⟨c, hc, rfl⟩ := hx
      obtain ⟨w1, w2, g1, g2⟩ := hcell i c hc
      refine ⟨rfl, fun j y hy => ?_⟩
      have hj : j < 6 := (List.getElem?_eq_some_iff.1 hy).1
      refine ⟨?_, ?_⟩
      · match j, hj, hy with
        | 0, _, hy => simp [AV.cells] at hy; subst hy; rfl
        | 1, _, hy => simp [AV.cells] at hy; subst hy; rfl
        | 2, _, hy => simp [AV.cells] at hy; subst hy; rfl
        | 3, _, hy => simp [AV.cells] at hy; subst hy; rfl
        | 4, _, hy => simp [AV.cells] at hy; subst hy; rfl
        | 5, _, hy => simp [AV.cells] at hy; subst hy; rfl
      · have := g1 j hj
        rw [Nat.zero_add, this]
        match j, hj with
        | 0, _ => rfl
        | 1, _ => rfl
        | 2, _ => rfl
        | 3, _ => rfl
        | 4, _ => rfl
        | 5, _ => rfl
    · rw [List.getElem?_map, Option.map_eq_some_iff] at hx
      obtain ⟨c, hc, rfl⟩ := hx
      obtain ⟨w1, w2, g1, g2, g3⟩ := hcell i c hc
      have hj : j < 6 := (List.getElem?_eq_some_iff.1 hy).1
      rw [g1 j hj]
      match j, hj, hy with
      | 0, _, hy => simp [AV.cells] at hy; subst hy; exact .int _ _
      | 1, _, hy => simp [AV.cells] at hy; subst hy; exact .int _ _
      | 2, _, hy => simp [AV.cells] at hy; subst hy; exact .bool _
      | 3, _, hy => simp [AV.cells] at hy; subst hy; exact .bool _
      | 4, _, hy => simp [AV.cells] at hy; subst hy; exact g2
      | 5, _, hy => simp [AV.cells] at hy; subst hy; exact g3
theorem hmade (x : AV) (l : List Oyez.Chg) (h : (x = .nils ∧ l = []) ∨ x = chgsAV l) (hf : l.length ≤ 2 ^ 40) (S : Heap) : ACalls Tryz.prog 43 [x] S fun v s => v = chgsAV l ∧ s = S := by
  rcases h with ⟨rfl, rfl⟩ | rfl
  · refine APure.lend (cmade_calls [] (by simp)) rfl (fun i x y hx hy => ?_) (fun C C' c hv => ?_)
    · match i, hx, hy with
      | 0, hx, hy => simp at hx hy; subst hx; subst hy; exact .nils_pl 6
      | i + 1, hx, _ => simp at hx
    · obtain ⟨A, cap, rfl, _, _⟩ := hv.pl_inv
      exact .pl0 6 A cap hv.pl_cap
  · exact cmade_calls l hf S
theorem fz_chgsAV (n : Nat) (S : Heap) (l : List Oyez.Chg) : Fz n S (chgsAV l) (chgsAV l) := .pl 6 _ fun i x hx j y hy => fz_chgs n S l x (List.mem_of_getElem? hx) y (List.mem_of_getElem? hy)
theorem halike {S : Heap} {lo : Nat} {l : List Oyez.Chg} {v : AV} (h : OwnC asIs lo S l v) (hf : l.length ≤ 2 ^ 40) (hw : ∀ c ∈ l, c.old.length ≤ 2 ^ 40 ∧ c.new.length ≤ 2 ^ 40) : ACalls Tryz.prog 42 [v, chgsAV l] S fun v s => v = .bool true ∧ s = S := by
  have k := calike_calls l l hf hw
  simp only [decide_true] at k
  refine APure.lend k rfl (fun i x y hx hy => ?_) (fun C C' c hv => ?_)
  · match i, hx, hy with
    | 0, hx, hy => simp only [List.getElem?_cons_zero, Option.some.injEq] at hx hy; subst hx; subst hy; exact h.fz
    | 1, hx, hy => simp only [List.getElem?_cons_zero, List.getElem?_cons_succ, Option.some.injEq] at hx hy; subst hx; subst hy; exact fz_chgsAV _ _ _
    | i + 2, hx, _ => simp at hx
  · cases hv; exact .bool _
/-- one object as it is, the others with other values in as many cells -/
structure Keep2 (r : Nat) (τ τ' : Heap) : Prop where
  out : r < τ.length → τ'[r]? = τ[r]?
  cells : ∀ (q : Nat) (cs : List AV), τ[q]? = some (.cells cs) → ∃ cs', τ'[q]? = some (.cells cs') ∧ cs'.length = cs.length
  len : τ.length ≤ τ'.length
theorem Keep2.refl (r : Nat) (τ : Heap) : Keep2 r τ τ := ⟨fun _ => rfl, fun q cs h => ⟨cs, h, rfl⟩, Nat.le_refl _⟩
theorem Keep2.app {r : Nat} {τ τ' : Heap} (h : Keep2 r τ τ') (g : Heap) : Keep2 r τ (τ' ++ g) := by
  have hl := h.len
  refine ⟨fun h1 => ?_, fun r cs h1 => ?_, by rw [List.length_append]; omega⟩
  · rw [List.getElem?_append_left (by omega)]; exact h.out h1
  · obtain ⟨cs', h2, h3⟩ := h.cells r cs h1
    exact ⟨cs', get_app h2, h3⟩
theorem Keep2.set {r : Nat} {τ τ' : Heap} (h : Keep2 r τ τ') {q : Nat} {cs cs' : List AV} (h1 : q ≠ r) (hq : τ'[q]? = some (.cells cs)) (hl : cs'.length = cs.length) : Keep2 r τ (τ'.set q (.cells cs')) := by
  refine ⟨fun g1 => ?_, fun p ds g1 => ?_, by rw [List.length_set]; exact h.len⟩
  · rw [List.getElem?_set_ne h1]; exact h.out g1
  · obtain ⟨ds', g2, g3⟩ := h.cells p ds g1
    by_cases e : q = p
    · subst e
      rw [hq] at g2
      obtain rfl : cs = ds' := by simpa using g2
      exact ⟨cs', List.getElem?_set_self (List.getElem?_eq_some_iff.1 hq).1, by omega⟩
    · exact ⟨ds', by rw [List.getElem?_set_ne e]; exact g2, g3⟩
end Ab

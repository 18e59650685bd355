/-
  COPIES: a file of the call's own, read as what it holds, and its words cleared; the reference's join and what Join and Settle give.
  WHAT JOIN AND SETTLE GIVE, never written again; arguments told with less; a row's room within a piece of code.
-/
import Derived.Test.YtdifgaapdnbliaaGreatDoorP28
import Derived.Test.YtdifgaapdnbliaaGreatDoorP39
import Derived.Test.YtdifgaapdnbliaaGreatDoorP35
import Derived.Test.YtdifgaapdnbliaaGreatDoorP37
import Derived.Test.YtdifgaapdnbliaaGreatDoorP29
import Derived.Test.YtdifgaapdnbliaaGreatDoorP33
set_option linter.unusedSimpArgs false
set_option linter.unusedVariables false
set_option linter.unusedSectionVars false
namespace Ab
open Go Go.RowKit Go.Proofs
/-- a file of the call's own, as it lies; each list of words is as X says -/
structure OwnIn (X : List (List UInt8) → List AV → Prop) (τ : Heap) (lo : Nat) (f : List Oyez.Rec) (v : AV) : Prop where
  row : (f = [] ∧ v = .nils) ∨ (f ≠ [] ∧ v = .arr 3 lo 0 f.length ∧ ∃ cs, τ[lo]? = some (.cells cs) ∧ cs.length = f.length * 3 ∧
    ∀ (i : Nat) (r : Oyez.Rec), f[i]? = some r → ∃ w, List.take 3 (List.drop (i * 3) cs) = [.int .i64 r.kind, .int .i64 r.number, w] ∧
      ((r.words = [] ∧ w = .pl 1 []) ∨ ∃ (q : Nat) (xs : List AV), lo < q ∧ q < lo + 1 + (wne f).length ∧ w = .arr 1 q 0 r.words.length ∧ τ[q]? = some (.cells xs) ∧ X r.words xs))
theorem OwnIn.many {τ : Heap} {lo : Nat} {f : List Oyez.Rec} {v : AV} (h : OwnIn asIs τ lo f v) : OwnIn asMany τ lo f v := by
  refine ⟨?_⟩
  rcases h.row with h | ⟨h1, h2, cs, h3, h4, h5⟩
  · exact .inl h
  · refine .inr ⟨h1, h2, cs, h3, h4, fun i r hr => ?_⟩
    obtain ⟨w, g1, g2⟩ := h5 i r hr
    refine ⟨w, g1, ?_⟩
    rcases g2 with g2 | ⟨q, xs, a1, a2, a3, a4, a5⟩
    · exact .inl g2
    · exact .inr ⟨q, xs, a1, a2, a3, a4, by rw [asMany, show xs = strs r.words from a5]; simp [strs]⟩
/-- what is lent is the file -/
theorem OwnIn.fz {τ : Heap} {lo : Nat} {f : List Oyez.Rec} {v : AV} (h : OwnIn asIs τ lo f v) : Fz 0 τ v (fileAV f) := by
  rcases h.row with ⟨rfl, rfl⟩ | ⟨h1, rfl, cs, h3, h4, h5⟩
  · exact .nils_pl 3
  · have hl : f.length = (f.map recAV).length := by simp
    rw [hl]
    have hcell : ∀ (i : Nat) (r : Oyez.Rec), f[i]? = some r → ∃ w, (∀ j, j < 3 → cs[i * 3 + j]? = [AV.int .i64 r.kind, .int .i64 r.number, w][j]?) ∧ Fz 0 τ w (wordsAV r.words) := by
      intro i r hr
      obtain ⟨w, g1, g2⟩ := h5 i r hr
      refine ⟨w, fun j hj => ?_, ?_⟩
      · rw [← g1, List.getElem?_take_of_lt hj, List.getElem?_drop]
      · rcases g2 with ⟨g2, rfl⟩ | ⟨q, xs, a1, a2, rfl, a4, a5⟩
        · rw [g2]; exact .pl0 1 1
        · rw [show xs = strs r.words from a5] at a4
          exact fz_strs0 _ a4
    refine Fz.arr 3 lo 0 cs (f.map recAV) (fun i j => (cs[i * 3 + j]?).getD .any) (Nat.zero_le _) h3 (fun i x hx => ?_) (fun i x hx j y hy => ?_)
    · rw [List.getElem?_map, Option.map_eq_some_iff] at hx
      obtain ⟨r, hr, rfl⟩ := hx
      obtain ⟨w, g1, g2⟩ := hcell i r hr
      refine ⟨rfl, fun j y hy => ?_⟩
      have hj : j < 3 := (List.getElem?_eq_some_iff.1 hy).1
      refine ⟨?_, ?_⟩
      · match j, hj, hy with
        | 0, _, hy => simp [AV.cells] at hy; subst hy; rfl
        | 1, _, hy => simp [AV.cells] at hy; subst hy; rfl
        | 2, _, hy => simp [AV.cells] at hy; subst hy; rfl
      · have := g1 j hj
        rw [Nat.zero_add, this]
        match j, hj with
        | 0, _ => rfl
        | 1, _ => rfl
        | 2, _ => rfl
    · rw [List.getElem?_map, Option.map_eq_some_iff] at hx
      obtain ⟨r, hr, rfl⟩ := hx
      obtain ⟨w, g1, g2⟩ := hcell i r hr
      have hj : j < 3 := (List.getElem?_eq_some_iff.1 hy).1
      rw [g1 j hj]
      match j, hj, hy with
      | 0, _, hy => simp [AV.cells] at hy; subst hy; exact .int _ _
      | 1, _, hy => simp [AV.cells] at hy; subst hy; exact .int _ _
      | 2, _, hy => simp [AV.cells] at hy; subst hy; exact g2
/-- objects between two numbers have other values in as many cells; the others are as they were -/
structure Keep (lo hi : Nat) (τ τ' : Heap) : Prop where
  out : ∀ r, r < τ.length → ¬ (lo < r ∧ r < hi) → τ'[r]? = τ[r]?
  cells : ∀ (r : Nat) (cs : List AV), τ[r]? = some (.cells cs) → ∃ cs', τ'[r]? = some (.cells cs') ∧ cs'.length = cs.length
  len : τ.length ≤ τ'.length
theorem Keep.refl (lo hi : Nat) (τ : Heap) : Keep lo hi τ τ := ⟨fun _ _ _ => rfl, fun r cs h => ⟨cs, h, rfl⟩, Nat.le_refl _⟩
theorem Keep.app {lo hi : Nat} {τ τ' : Heap} (h : Keep lo hi τ τ') (g : Heap) : Keep lo hi τ (τ' ++ g) := by
  have hl := h.len
  refine ⟨fun r h1 h2 => ?_, fun r cs h1 => ?_, by rw [List.length_append]; omega⟩
  · rw [List.getElem?_append_left (by omega)]; exact h.out r h1 h2
  · obtain ⟨cs', h2, h3⟩ := h.cells r cs h1
    have := (List.getElem?_eq_some_iff.1 h2).1
    exact ⟨cs', by rw [List.getElem?_append_left this]; exact h2, h3⟩
theorem Keep.set {lo hi : Nat} {τ τ' : Heap} (h : Keep lo hi τ τ') {q : Nat} {cs cs' : List AV} (h1 : lo < q) (h2 : q < hi) (hq : τ'[q]? = some (.cells cs)) (hl : cs'.length = cs.length) : Keep lo hi τ (τ'.set q (.cells cs')) := by
  refine ⟨fun r g1 g2 => ?_, fun r ds g1 => ?_, by rw [List.length_set]; exact h.len⟩
  · rw [List.getElem?_set_ne (by omega)]; exact h.out r g1 g2
  · obtain ⟨ds', g2, g3⟩ := h.cells r ds g1
    by_cases e : q = r
    · subst e
      rw [hq] at g2
      obtain rfl : cs = ds' := by simpa using g2
      exact ⟨cs', List.getElem?_set_self (List.getElem?_eq_some_iff.1 hq).1, by omega⟩
    · exact ⟨ds', by rw [List.getElem?_set_ne e]; exact g2, g3⟩
/-- the file whose words are cleared -/
theorem Keep.own {lo hi : Nat} {τ τ' : Heap} (h : Keep lo hi τ τ') {f : List Oyez.Rec} {v : AV} (ho : OwnIn asMany τ lo f v) : OwnIn asMany τ' lo f v := by
  refine ⟨?_⟩
  rcases ho.row with h1 | ⟨h1, h2, cs, h3, h4, h5⟩
  · exact .inl h1
  · have hlo := (List.getElem?_eq_some_iff.1 h3).1
    refine .inr ⟨h1, h2, cs, by rw [h.out lo hlo (by omega)]; exact h3, h4, fun i r hr => ?_⟩
    obtain ⟨w, g1, g2⟩ := h5 i r hr
    refine ⟨w, g1, ?_⟩
    rcases g2 with g2 | ⟨q, xs, a1, a2, a3, a4, a5⟩
    · exact .inl g2
    · obtain ⟨xs', b1, b2⟩ := h.cells q xs a4
      exact .inr ⟨q, xs', a1, a2, a3, b1, b2.trans a5⟩
theorem OwnIn.more {X : List (List UInt8) → List AV → Prop} {τ : Heap} {lo : Nat} {f : List Oyez.Rec} {v : AV} (h : OwnIn X τ lo f v) (g : Heap) : OwnIn X (τ ++ g) lo f v := by
  refine ⟨?_⟩
  rcases h.row with h1 | ⟨h1, h2, cs, h3, h4, h5⟩
  · exact .inl h1
  · refine .inr ⟨h1, h2, cs, get_app h3, h4, fun i r hr => ?_⟩
    obtain ⟨w, g1, g2⟩ := h5 i r hr
    refine ⟨w, g1, ?_⟩
    rcases g2 with g2 | ⟨q, xs, a1, a2, a3, a4, a5⟩
    · exact .inl g2
    · exact .inr ⟨q, xs, a1, a2, a3, get_app a4, a5⟩
end Ab
namespace Oyez
end Oyez
namespace Ab
open Go Go.RowKit Go.Proofs
variable [Mode]
end Ab
namespace Ab
open Go Go.RowKit Go.Proofs
attribute [local irreducible] aws awp aw1 Og Om Oc Oa Ogd Ov Ot awd aw1d awh aw1h Ogh Ohd awl Ogl Ohl awv Ogv Ohv QThen QBlock QFn QFnM QRo QBe ACode AYield
/-- own words, read as what they hold once objects n and behind are never written again -/
theorem fz_strsN {n : Nat} {τ : Heap} {q : Nat} (ws : List (List UInt8)) (hn : n ≤ q) (h : τ[q]? = some (.cells (strs ws))) : Fz n τ (.arr 1 q 0 ws.length) (wordsAV ws) := by
  have hl : ws.length = (strs ws).length := by simp [strs]
  rw [hl]
  refine Fz.arr 1 q 0 (strs ws) (strs ws) (fun i _ => (strs ws).getD i .any) hn h (fun i x hx => ?_) (fun i x hx j y hy => ?_)
  · have hx' := hx
    simp only [strs, List.getElem?_map, Option.map_eq_some_iff] at hx
    obtain ⟨s, hs, rfl⟩ := hx
    refine ⟨rfl, fun j y hy => ?_⟩
    match j, hy with
    | 0, hy =>
      simp [AV.cells] at hy; subst hy
      refine ⟨rfl, ?_⟩
      rw [Nat.zero_add, Nat.mul_one, Nat.add_zero, List.getD_eq_getElem?_getD, hx']
      rfl
    | j + 1, hy => simp [AV.cells] at hy
  · have hx' := hx
    simp only [strs, List.getElem?_map, Option.map_eq_some_iff] at hx
    obtain ⟨s, hs, rfl⟩ := hx
    match j, hy with
    | 0, hy =>
      simp [AV.cells] at hy; subst hy
      rw [List.getD_eq_getElem?_getD, hx']
      exact .str _
    | j + 1, hy => simp [AV.cells] at hy
theorem OwnIn.fzN {n : Nat} {τ : Heap} {lo : Nat} {f : List Oyez.Rec} {v : AV} (hn : n ≤ lo) (h : OwnIn asIs τ lo f v) : Fz n τ v (fileAV f) := by
  rcases h.row with ⟨rfl, rfl⟩ | ⟨h1, rfl, cs, h3, h4, h5⟩
  · exact .nils_pl 3
  · have hl : f.length = (f.map recAV).length := by simp
    rw [hl]
    have hcell : ∀ (i : Nat) (r : Oyez.Rec), f[i]? = some r → ∃ w, (∀ j, j < 3 → cs[i * 3 + j]? = [AV.int .i64 r.kind, .int .i64 r.number, w][j]?) ∧ Fz n τ w (wordsAV r.words) := by
      intro i r hr
      obtain ⟨w, g1, g2⟩ := h5 i r hr
      refine ⟨w, fun j hj => ?_, ?_⟩
      · rw [← g1, List.getElem?_take_of_lt hj, List.getElem?_drop]
      · rcases g2 with ⟨g2, rfl⟩ | ⟨q, xs, a1, a2, rfl, a4, a5⟩
        · rw [g2]; exact .pl0 1 1
        · rw [show xs = strs r.words from a5] at a4
          exact fz_strsN _ (by omega) a4
    refine Fz.arr 3 lo 0 cs (f.map recAV) (fun i j => (cs[i * 3 + j]?).getD .any) hn h3 (fun i x hx => ?_) (fun i x hx j y hy => ?_)
    · rw [List.getElem?_map, Option.map_eq_some_iff] at hx
      obtain ⟨r, hr, rfl⟩ := hx
      obtain ⟨w, g1, g2⟩ := hcell i r hr
      refine ⟨rfl, fun j y hy => ?_⟩
      have hj : j < 3 := (List.getElem?_eq_some_iff.1 hy).1
      refine ⟨?_, ?_⟩
      · match j, hj, hy with
        | 0, _, hy => simp [AV.cells] at hy; subst hy; rfl
        | 1, _, hy => simp [AV.cells] at hy; subst hy; rfl
        | 2, _, hy => simp [AV.cells] at hy; subst hy; rfl
      · have := g1 j hj
        rw [Nat.zero_add, this]
        match j, hj with
        | 0, _ => rfl
        | 1, _ => rfl
        | 2, _ => rfl
    · rw [List.getElem?_map, Option.map_eq_some_iff] at hx
      obtain ⟨r, hr, rfl⟩ := hx
      obtain ⟨w, g1, g2⟩ := hcell i r hr
      have hj : j < 3 := (List.getElem?_eq_some_iff.1 hy).1
      rw [g1 j hj]
      match j, hj, hy with
      | 0, _, hy => simp [AV.cells] at hy; subst hy; exact .int _ _
      | 1, _, hy => simp [AV.cells] at hy; subst hy; exact .int _ _
      | 2, _, hy => simp [AV.cells] at hy; subst hy; exact g2
end Ab

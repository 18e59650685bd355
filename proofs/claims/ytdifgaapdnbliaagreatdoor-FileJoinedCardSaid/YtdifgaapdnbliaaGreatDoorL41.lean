/-
  ROWS OF RECORDS WHOSE WORDS ARE ANY VALUES: slices.IndexFunc, slices.DeleteFunc and slices.BinarySearchFunc by their places.
  COPIES SETTLED, the choices being a slice of the caller's own.
  COPIES: a file of the call's own, read as what it holds, and its words cleared; the reference's join and what Join and Settle give.
  strings.Join OVER WORDS THAT ARE NEVER WRITTEN AGAIN; what a file has at a place, as a text.
  WHAT THE STATEMENTS ASK OF FILES: what is at a place, as a text; the places of some files; is a place among some; strings.HasPrefix.
  WHAT JOIN AND SETTLE GIVE, never written again; arguments told with less; a row's room within a piece of code.
-/
import Derived.Test.YtdifgaapdnbliaaGreatDoorL18
import Derived.Test.YtdifgaapdnbliaaGreatDoorL19
import Derived.Test.YtdifgaapdnbliaaGreatDoorL24
import Derived.Test.YtdifgaapdnbliaaGreatDoorL15
import Derived.Test.YtdifgaapdnbliaaGreatDoorL29
import Derived.Test.YtdifgaapdnbliaaGreatDoorL31
import Derived.Test.YtdifgaapdnbliaaGreatDoorL25
import Derived.Test.YtdifgaapdnbliaaGreatDoorL26
import Derived.Test.YtdifgaapdnbliaaGreatDoorL38
set_option linter.unusedSimpArgs false
set_option linter.unusedVariables false
set_option linter.unusedSectionVars false
namespace Ab
open Go Go.RowKit Go.Proofs
section
variable [Mode]
/-- a result told with less: its room is not told, nor the cells behind the ones that count -/
theorem ACalls.fit {P : Program} {f : FuncId} {args : List AV} {σ : Heap} {R : AV → Heap → Prop}
    (h : ACalls P f args σ fun v σ' => ∃ (v' : AV) (r : Nat) (cs tl : List AV), (v = v' ∨ ∃ k2 r2 o2 l2 c2, v = .arc k2 r2 o2 l2 c2 ∧ v' = .arr k2 r2 o2 l2) ∧ σ'[r]? = some (.cells (cs ++ tl)) ∧ R v' (σ'.set r (.cells cs))) : ACalls P f args σ R := by
  have fin : ∀ {C' : Ctx} {v : AV} {d : Value} {σ' : Heap}, Inv C' σ' → VR C' v d → (∃ (v' : AV) (r : Nat) (cs tl : List AV), (v = v' ∨ ∃ k2 r2 o2 l2 c2, v = .arc k2 r2 o2 l2 c2 ∧ v' = .arr k2 r2 o2 l2) ∧ σ'[r]? = some (.cells (cs ++ tl)) ∧ R v' (σ'.set r (.cells cs))) →
      ∃ (v' : AV) (σ2 : Heap), Inv C' σ2 ∧ VR C' v' d ∧ R v' σ2 := by
    rintro C' v d σ' hI' hv' ⟨v', r, ds, tl, hvv, hr', hR⟩
    have hb : ∃ b, C'.blk[r]? = some b := by
      have := (List.getElem?_eq_some_iff.1 hr').1
      have hl := hI'.len
      exact ⟨_, List.getElem?_eq_getElem (by omega)⟩
    obtain ⟨b, hb⟩ := hb
    refine ⟨v', _, hI'.retell hb hr' rfl fun c hc' hrel => ?_, ?_, hR⟩
    · obtain ⟨carr, e, lo, hi, rfl, h1, h2, h3⟩ := hrel.cells_inv
      refine .cells ds carr e lo hi (by rw [List.length_append] at h1; omega) h2 fun i x d hx hd => h3 i x d ?_ hd
      rw [List.getElem?_append_left (List.getElem?_eq_some_iff.1 hx).1]
      exact hx
    · rcases hvv with rfl | ⟨k2, r2, o2, l2, c2, rfl, rfl⟩
      · exact hv'
      · obtain ⟨b2, e2, n2, q1, q2, q3, q4, rfl⟩ := hv'.arc_inv
        exact .arr k2 r2 o2 l2 b2 c2 e2 n2 q1 q2 q3 q4
  rcases h with h | h
  · refine .inl ⟨h.1, fun C cargs hI hv => (h.2 C cargs hI hv).mono ?_⟩
    rintro en w' ⟨d, C', av, σ', rfl, rfl, hE, hI', hv', hR⟩
    obtain ⟨v', σ2, a1, a2, a3⟩ := fin hI' hv' hR
    exact ⟨d, C', v', σ2, rfl, rfl, hE, a1, a2, a3⟩
  · refine .inr fun C cargs hI hv => ?_
    obtain ⟨d, C', av, σ', hrun, hE, hI', hv', hR⟩ := h C cargs hI hv
    obtain ⟨v', σ2, a1, a2, a3⟩ := fin hI' hv' hR
    exact ⟨d, C', v', σ2, hrun, hE, a1, a2, a3⟩
end
attribute [local irreducible] aws awp aw1 Og Om Oc Oa Ogd Ov Ot awd aw1d awh aw1h Ogh Ohd awl Ogl Ohl awv Ogv Ohv QThen QBlock QFn QFnM QRo QBe ACode AYield
/-- a record's cells: its place, and its words as any value -/
abbrev PV := Oyez.Place × AV
def pvC (x : PV) : List AV := [.int .i64 x.1.kind, .int .i64 x.1.number, x.2]
def cellsV (l : List PV) : List AV := l.flatMap pvC
theorem aeqs_pl (p q : Oyez.Place) : aeqs [1, 1] [.int .i64 p.kind, .int .i64 p.number] [.int .i64 q.kind, .int .i64 q.number] = some (decide (p = q)) := by
  have h : (p.kind == q.kind && (p.number == q.number && true)) = decide (p = q) := by
    rw [Bool.eq_iff_iff]
    simp
    constructor
    · rintro ⟨h1, h2⟩; exact Oyez.Place.ext' h1 h2
    · rintro rfl; exact ⟨rfl, rfl⟩
  simp only [aeqs, aeq1, and_self, if_true]
  rw [h]
end Ab
namespace Ab
open Go Go.RowKit Go.Proofs
attribute [local irreducible] aws awp aw1 Og Om Oc Oa Ogd Ov Ot awd aw1d awh aw1h Ogh Ohd awl Ogl Ohl awv Ogv Ohv QThen QBlock QFn QFnM QRo QBe ACode AYield
end Ab
namespace Ab
open Go Go.RowKit Go.Proofs
theorem rowsQ_get (n : Nat) : ∀ (f : List Oyez.Rec) (qs : List Nat), qs.length = (wne f).length → ∀ (i : Nat) (r : Oyez.Rec), f[i]? = some r →
    ∃ w, (rowsQ n f qs)[i]? = some (.agg [.int .i64 r.kind, .int .i64 r.number, w]) ∧ ((r.words = [] ∧ w = .pl 1 []) ∨ ∃ j q : Nat, qs[j]? = some q ∧ (wne f)[j]? = some r.words ∧ w = .arr 1 (n + q) 0 r.words.length)
  | [], qs, _, i, r, h => by simp at h
  | x :: t, qs, hl, i, r, h => by
    rw [wne_cons] at hl ⊢
    by_cases hx : x.words = []
    · rw [if_pos hx] at hl ⊢
      rw [rowsQ, if_pos hx]
      cases i with
      | zero => simp at h; subst h; exact ⟨_, rfl, .inl ⟨hx, rfl⟩⟩
      | succ i => exact rowsQ_get n t qs hl i r (by simpa using h)
    · rw [if_neg hx] at hl ⊢
      cases qs with
      | nil => simp at hl
      | cons q0 qs =>
        rw [rowsQ, if_neg hx]
        simp only [List.headD_cons, List.tail_cons]
        cases i with
        | zero => simp at h; subst h; exact ⟨_, rfl, .inr ⟨0, q0, rfl, rfl, rfl⟩⟩
        | succ i =>
          obtain ⟨w, h1, h2⟩ := rowsQ_get n t qs (by simpa using hl) i r (by simpa using h)
          refine ⟨w, by simpa using h1, ?_⟩
          rcases h2 with h2 | ⟨j, q, g1, g2, g3⟩
          · exact .inl h2
          · exact .inr ⟨j + 1, q, by simpa using g1, by simpa using g2, g3⟩
/-- a file of the call's own, as it lies; each list of words is as X says -/
structure OwnIn (X : List (List UInt8) → List AV → Prop) (τ : Heap) (lo : Nat) (f : List Oyez.Rec) (v : AV) : Prop where
  row : (f = [] ∧ v = .nils) ∨ (f ≠ [] ∧ v = .arr 3 lo 0 f.length ∧ ∃ cs, τ[lo]? = some (.cells cs) ∧ cs.length = f.length * 3 ∧
    ∀ (i : Nat) (r : Oyez.Rec), f[i]? = some r → ∃ w, List.take 3 (List.drop (i * 3) cs) = [.int .i64 r.kind, .int .i64 r.number, w] ∧
      ((r.words = [] ∧ w = .pl 1 []) ∨ ∃ (q : Nat) (xs : List AV), lo < q ∧ q < lo + 1 + (wne f).length ∧ w = .arr 1 q 0 r.words.length ∧ τ[q]? = some (.cells xs) ∧ X r.words xs))
theorem own_in (pre post : Heap) (f : List Oyez.Rec) : OwnIn asIs (pre ++ (ownG pre.length 0 f ++ post)) pre.length f (ownV pre.length 0 f) := by
  refine ⟨?_⟩
  by_cases hf : f = []
  · exact .inl ⟨hf, by rw [ownV, if_pos hf]⟩
  · refine .inr ⟨hf, by rw [ownV, if_neg hf, Nat.add_zero], _, by rw [List.getElem?_append_right (Nat.le_refl _), Nat.sub_self, ownG, if_neg hf, List.cons_append, List.getElem?_cons_zero], ?_, fun i r hr => ?_⟩
    · rw [flat_len (k := 3) _ fun x hx => (rowsQ_cells _ _ _ x hx).1, rowsQ_len]
    · have hi := (List.getElem?_eq_some_iff.1 hr).1
      obtain ⟨w, h1, h2⟩ := rowsQ_get pre.length f (List.range' (0 + 1) (wne f).length) (by simp) i r hr
      refine ⟨w, ?_, ?_⟩
      · apply List.ext_getElem?
        intro j
        rcases Nat.lt_or_ge j 3 with hj | hj
        · rw [List.getElem?_take_of_lt hj, List.getElem?_drop, flat_get (k := 3) _ (fun x hx => (rowsQ_cells _ _ _ x hx).1) (by decide), show (i * 3 + j) / 3 = i by omega, show (i * 3 + j) % 3 = j by omega, h1]
          rfl
        · rw [List.getElem?_eq_none (by simp; omega), List.getElem?_eq_none (by simpa using hj)]
      · rcases h2 with h2 | ⟨j, q, g1, g2, g3⟩
        · exact .inl h2
        · have hj : j < (wne f).length := (List.getElem?_eq_some_iff.1 g2).1
          rw [List.getElem?_range' hj] at g1
          simp at g1
          subst g1
          refine .inr ⟨pre.length + (1 + j), strs r.words, by omega, by omega, g3, ?_, rfl⟩
          rw [List.getElem?_append_right (by omega), show pre.length + (1 + j) - pre.length = j + 1 by omega, ownG, if_neg hf, List.cons_append, List.getElem?_cons_succ, List.getElem?_append_left (by simpa using hj), List.getElem?_map, g2]
          rfl
theorem OwnIn.many {τ : Heap} {lo : Nat} {f : List Oyez.Rec} {v : AV} (h : OwnIn asIs τ lo f v) : OwnIn asMany τ lo f v := by
  refine ⟨?_⟩
  rcases h.row with h | ⟨h1, h2, cs, h3, h4, h5⟩
  · exact .inl h
  · refine .inr ⟨h1, h2, cs, h3, h4, fun i r hr => ?_⟩
    obtain ⟨w, g1, g2⟩ := h5 i r hr
    refine ⟨w, g1, ?_⟩
    rcases g2 with g2 | ⟨q, xs, a1, a2, a3, a4, a5⟩
    · exact .inl g2
    · exact .inr ⟨q, xs, a1, a2, a3, a4, by rw [asMany, show xs = strs r.words from a5]; simp [strs]⟩
/-- what is lent is the file -/
theorem OwnIn.fz {τ : Heap} {lo : Nat} {f : List Oyez.Rec} {v : AV} (h : OwnIn asIs τ lo f v) : Fz 0 τ v (fileAV f) := by
  rcases h.row with ⟨rfl, rfl⟩ | ⟨h1, rfl, cs, h3, h4, h5⟩
  · exact .nils_pl 3
  · have hl : f.length = (f.map recAV).length := by simp
    rw [hl]
    have hcell : ∀ (i : Nat) (r : Oyez.Rec), f[i]? = some r → ∃ w, (∀ j, j < 3 → cs[i * 3 + j]? = [AV.int .i64 r.kind, .int .i64 r.number, w][j]?) ∧ Fz 0 τ w (wordsAV r.words) := by
      intro i r hr
      obtain ⟨w, g1, g2⟩ := h5 i r hr
      refine ⟨w, fun j hj => ?_, ?_⟩
      · rw [← g1, List.getElem?_take_of_lt hj, List.getElem?_drop]
      · rcases g2 with ⟨g2, rfl⟩ | ⟨q, xs, a1, a2, rfl, a4, a5⟩
        · rw [g2]; exact .pl0 1 1
        · rw [show xs = strs r.words from a5] at a4
          exact fz_strs0 _ a4
    refine Fz.arr 3 lo 0 cs (f.map recAV) (fun i j => (cs[i * 3 + j]?).getD .any) (Nat.zero_le _) h3 (fun i x hx => ?_) (fun i x hx j y hy => ?_)
    · rw [List.getElem?_map, Option.map_eq_some_iff] at hx
      obtain ⟨r, hr, rfl⟩ := hx
      obtain ⟨w, g1, g2⟩ := hcell i r hr
      refine ⟨rfl, fun j y hy => ?_⟩
      have hj : j < 3 := (List.getElem?_eq_some_iff.1 hy).1
      refine ⟨?_, ?_⟩
      · match j, hj, hy with
        | 0, _, hy => simp [AV.cells] at hy; subst hy; rfl
        | 1, _, hy => simp [AV.cells] at hy; subst hy; rfl
        | 2, _, hy => simp [AV.cells] at hy; subst hy; rfl
      · have := g1 j hj
        rw [Nat.zero_add, this]
        match j, hj with
        | 0, _ => rfl
        | 1, _ => rfl
        | 2, _ => rfl
    · rw [List.getElem?_map, Option.map_eq_some_iff] at hx
      obtain ⟨r, hr, rfl⟩ := hx
      obtain ⟨w, g1, g2⟩ := hcell i r hr
      have hj : j < 3 := (List.getElem?_eq_some_iff.1 hy).1
      rw [g1 j hj]
      match j, hj, hy with
      | 0, _, hy => simp [AV.cells] at hy; subst hy; exact .int _ _
      | 1, _, hy => simp [AV.cells] at hy; subst hy; exact .int _ _
      | 2, _, hy => simp [AV.cells] at hy; subst hy; exact g2
/-- objects between two numbers have other values in as many cells; the others are as they were -/
structure Keep (lo hi : Nat) (τ τ' : Heap) : Prop where
  out : ∀ r, r < τ.length → ¬ (lo < r ∧ r < hi) → τ'[r]? = τ[r]?
  cells : ∀ (r : Nat) (cs : List AV), τ[r]? = some (.cells cs) → ∃ cs', τ'[r]? = some (.cells cs') ∧ cs'.length = cs.length
  len : τ.length ≤ τ'.length
theorem Keep.refl (lo hi : Nat) (τ : Heap) : Keep lo hi τ τ := ⟨fun _ _ _ => rfl, fun r cs h => ⟨cs, h, rfl⟩, Nat.le_refl _⟩
theorem Keep.app {lo hi : Nat} {τ τ' : Heap} (h : Keep lo hi τ τ') (g : Heap) : Keep lo hi τ (τ' ++ g) := by
  have hl := h.len
  refine ⟨fun r h1 h2 => ?_, fun r cs h1 => ?_, by rw [List.length_append]; omega⟩
  · rw [List.getElem?_append_left (by omega)]; exact h.out r h1 h2
  · obtain ⟨cs', h2, h3⟩ := h.cells r cs h1
    have := (List.getElem?_eq_some_iff.1 h2).1
    exact ⟨cs', by rw [List.getElem?_append_left this]; exact h2, h3⟩
theorem Keep.set {lo hi : Nat} {τ τ' : Heap} (h : Keep lo hi τ τ') {q : Nat} {cs cs' : List AV} (h1 : lo < q) (h2 : q < hi) (hq : τ'[q]? = some (.cells cs)) (hl : cs'.length = cs.length) : Keep lo hi τ (τ'.set q (.cells cs')) := by
  refine ⟨fun r g1 g2 => ?_, fun r ds g1 => ?_, by rw [List.length_set]; exact h.len⟩
  · rw [List.getElem?_set_ne (by omega)]; exact h.out r g1 g2
  · obtain ⟨ds', g2, g3⟩ := h.cells r ds g1
    by_cases e : q = r
    · subst e
      rw [hq] at g2
      obtain rfl : cs = ds' := by simpa using g2
      exact ⟨cs', List.getElem?_set_self (List.getElem?_eq_some_iff.1 hq).1, by omega⟩
    · exact ⟨ds', by rw [List.getElem?_set_ne e]; exact g2, g3⟩
/-- the file whose words are cleared -/
theorem Keep.own {lo hi : Nat} {τ τ' : Heap} (h : Keep lo hi τ τ') {f : List Oyez.Rec} {v : AV} (ho : OwnIn asMany τ lo f v) : OwnIn asMany τ' lo f v := by
  refine ⟨?_⟩
  rcases ho.row with h1 | ⟨h1, h2, cs, h3, h4, h5⟩
  · exact .inl h1
  · have hlo := (List.getElem?_eq_some_iff.1 h3).1
    refine .inr ⟨h1, h2, cs, by rw [h.out lo hlo (by omega)]; exact h3, h4, fun i r hr => ?_⟩
    obtain ⟨w, g1, g2⟩ := h5 i r hr
    refine ⟨w, g1, ?_⟩
    rcases g2 with g2 | ⟨q, xs, a1, a2, a3, a4, a5⟩
    · exact .inl g2
    · obtain ⟨xs', b1, b2⟩ := h.cells q xs a4
      exact .inr ⟨q, xs', a1, a2, a3, b1, b2.trans a5⟩
theorem OwnIn.more {X : List (List UInt8) → List AV → Prop} {τ : Heap} {lo : Nat} {f : List Oyez.Rec} {v : AV} (h : OwnIn X τ lo f v) (g : Heap) : OwnIn X (τ ++ g) lo f v := by
  refine ⟨?_⟩
  rcases h.row with h1 | ⟨h1, h2, cs, h3, h4, h5⟩
  · exact .inl h1
  · refine .inr ⟨h1, h2, cs, get_app h3, h4, fun i r hr => ?_⟩
    obtain ⟨w, g1, g2⟩ := h5 i r hr
    refine ⟨w, g1, ?_⟩
    rcases g2 with g2 | ⟨q, xs, a1, a2, a3, a4, a5⟩
    · exact .inl g2
    · exact .inr ⟨q, xs, a1, a2, a3, get_app a4, a5⟩
end Ab
namespace Oyez
end Oyez
namespace Ab
open Go Go.RowKit Go.Proofs
attribute [local irreducible] aws awp aw1 Og Om Oc Oa Ogd Ov Ot awd aw1d awh aw1h Ogh Ohd awl Ogl Ohl awv Ogv Ohv QThen QBlock QFn QFnM QRo QBe ACode AYield
end Ab
namespace Oyez
end Oyez
namespace Ab
open Go Go.RowKit Go.Proofs
attribute [local irreducible] aws awp aw1 Og Om Oc Oa Ogd Ov Ot awd aw1d awh aw1h Ogh Ohd awl Ogl Ohl awv Ogv Ohv QThen QBlock QFn QFnM QRo QBe ACode AYield
/-! ### places -/
def placesAV (l : List Oyez.Place) : AV := .pl 2 (l.map placeAV)
attribute [simp] placesAV
def idxP (l : List Oyez.Place) (p : Oyez.Place) : Int := if p ∈ l then (l.idxOf p : Nat) else -1
/-- an own slice, read as what it holds -/
theorem Acc.fz0 {σ g X : Heap} {k : Nat} {v : AV} {l : List AV} {o : Option Nat} (hk : 0 < k) (h : Acc σ g k v l o) (hf : ∀ x ∈ l, ∀ y ∈ x.cells, Fz 0 (σ ++ (g ++ X)) y y) : Fz 0 (σ ++ (g ++ X)) v (.pl k l) := by
  have hv := h.val
  cases o with
  | none => obtain ⟨rfl, rfl⟩ := hv; exact .nils_pl k
  | some j =>
    obtain ⟨rfl, hg⟩ := hv
    have hget := flat_get l (fun x hx => (h.len x hx).1) hk
    refine .arr k _ 0 _ l (fun i j => ((l[i]?).bind fun x => x.cells[j]?).getD .any) (Nat.zero_le _) (by
      rw [hget_add, List.getElem?_append_left (List.getElem?_eq_some_iff.1 hg).1]; exact hg) (fun i x hx => ⟨(h.len x (List.mem_of_getElem? hx)).1, fun j y hy => ⟨(h.len x (List.mem_of_getElem? hx)).2 y (List.mem_of_getElem? hy), ?_⟩⟩) (fun i x hx j y hy => ?_)
    · have hc := (h.len x (List.mem_of_getElem? hx)).1
      have hj := (List.getElem?_eq_some_iff.1 hy).1
      rw [hget, Nat.zero_add]
      have e1 : (i * k + j) / k = i := by rw [Nat.mul_comm, Nat.mul_add_div hk, Nat.div_eq_of_lt (by omega)]; omega
      have e2 : (i * k + j) % k = j := by rw [Nat.mul_comm, Nat.mul_add_mod, Nat.mod_eq_of_lt (by omega)]
      rw [e1, e2, hx]
      simp [-AV.cells, hy]
    · rw [hx]
      simp only [Option.bind_some, hy, Option.getD_some]
      exact hf x (List.mem_of_getElem? hx) y (List.mem_of_getElem? hy)
theorem fz_placeL (n : Nat) (S : Heap) (l : List Oyez.Place) : ∀ x ∈ l.map placeAV, ∀ y ∈ x.cells, Fz n S y y := fun x hx y hy => by
  obtain ⟨r, _, rfl⟩ := List.mem_map.1 hx
  simp [AV.cells] at hy
  rcases hy with rfl | rfl
  · exact .int _ _
  · exact .int _ _
end Ab
namespace Ab
open Go Go.RowKit Go.Proofs
variable [Mode]
end Ab
namespace Ab
open Go Go.RowKit Go.Proofs
attribute [local irreducible] aws awp aw1 Og Om Oc Oa Ogd Ov Ot awd aw1d awh aw1h Ogh Ohd awl Ogl Ohl awv Ogv Ohv QThen QBlock QFn QFnM QRo QBe ACode AYield
/-- own words, read as what they hold once objects n and behind are never written again -/
theorem fz_strsN {n : Nat} {τ : Heap} {q : Nat} (ws : List (List UInt8)) (hn : n ≤ q) (h : τ[q]? = some (.cells (strs ws))) : Fz n τ (.arr 1 q 0 ws.length) (wordsAV ws) := by
  have hl : ws.length = (strs ws).length := by simp [strs]
  rw [hl]
  refine Fz.arr 1 q 0 (strs ws) (strs ws) (fun i _ => (strs ws).getD i .any) hn h (fun i x hx => ?_) (fun i x hx j y hy => ?_)
  · have hx' := hx
    simp only [strs, List.getElem?_map, Option.map_eq_some_iff] at hx
    obtain ⟨s, hs, rfl⟩ := hx
    refine ⟨rfl, fun j y hy => ?_⟩
    match j, hy with
    | 0, hy =>
      simp [AV.cells] at hy; subst hy
      refine ⟨rfl, ?_⟩
      rw [Nat.zero_add, Nat.mul_one, Nat.add_zero, List.getD_eq_getElem?_getD, hx']
      rfl
    | j + 1, hy => simp [AV.cells] at hy
  · have hx' := hx
    simp only [strs, List.getElem?_map, Option.map_eq_some_iff] at hx
    obtain ⟨s, hs, rfl⟩ := hx
    match j, hy with
    | 0, hy =>
      simp [AV.cells] at hy; subst hy
      rw [List.getD_eq_getElem?_getD, hx']
      exact .str _
    | j + 1, hy => simp [AV.cells] at hy
theorem OwnIn.fzN {n : Nat} {τ : Heap} {lo : Nat} {f : List Oyez.Rec} {v : AV} (hn : n ≤ lo) (h : OwnIn asIs τ lo f v) : Fz n τ v (fileAV f) := by
  rcases h.row with ⟨rfl, rfl⟩ | ⟨h1, rfl, cs, h3, h4, h5⟩
  · exact .nils_pl 3
  · have hl : f.length = (f.map recAV).length := by simp
    rw [hl]
    have hcell : ∀ (i : Nat) (r : Oyez.Rec), f[i]? = some r → ∃ w, (∀ j, j < 3 → cs[i * 3 + j]? = [AV.int .i64 r.kind, .int .i64 r.number, w][j]?) ∧ Fz n τ w (wordsAV r.words) := by
      intro i r hr
      obtain ⟨w, g1, g2⟩ := h5 i r hr
      refine ⟨w, fun j hj => ?_, ?_⟩
      · rw [← g1, List.getElem?_take_of_lt hj, List.getElem?_drop]
      · rcases g2 with ⟨g2, rfl⟩ | ⟨q, xs, a1, a2, rfl, a4, a5⟩
        · rw [g2]; exact .pl0 1 1
        · rw [show xs = strs r.words from a5] at a4
          exact fz_strsN _ (by omega) a4
    refine Fz.arr 3 lo 0 cs (f.map recAV) (fun i j => (cs[i * 3 + j]?).getD .any) hn h3 (fun i x hx => ?_) (fun i x hx j y hy => ?_)
    · rw [List.getElem?_map, Option.map_eq_some_iff] at hx
      obtain ⟨r, hr, rfl⟩ := hx
      obtain ⟨w, g1, g2⟩ := hcell i r hr
      refine ⟨rfl, fun j y hy => ?_⟩
      have hj : j < 3 := (List.getElem?_eq_some_iff.1 hy).1
      refine ⟨?_, ?_⟩
      · match j, hj, hy with
        | 0, _, hy => simp [AV.cells] at hy; subst hy; rfl
        | 1, _, hy => simp [AV.cells] at hy; subst hy; rfl
        | 2, _, hy => simp [AV.cells] at hy; subst hy; rfl
      · have := g1 j hj
        rw [Nat.zero_add, this]
        match j, hj with
        | 0, _ => rfl
        | 1, _ => rfl
        | 2, _ => rfl
    · rw [List.getElem?_map, Option.map_eq_some_iff] at hx
      obtain ⟨r, hr, rfl⟩ := hx
      obtain ⟨w, g1, g2⟩ := hcell i r hr
      have hj : j < 3 := (List.getElem?_eq_some_iff.1 hy).1
      rw [g1 j hj]
      match j, hj, hy with
      | 0, _, hy => simp [AV.cells] at hy; subst hy; exact .int _ _
      | 1, _, hy => simp [AV.cells] at hy; subst hy; exact .int _ _
      | 2, _, hy => simp [AV.cells] at hy; subst hy; exact g2
theorem conf_fz (σ mid : Heap) (l : List Oyez.Place) : Fz σ.length (σ ++ (mid ++ confG l)) (confV σ.length mid.length l) (placesAV l) := by
  unfold confV confG placesAV
  by_cases h : l = []
  · rw [if_pos h, h]; exact .nils_pl 2
  · rw [if_neg h, if_neg h]
    have := Acc.fz (σ := σ) (g := mid ++ [.cells (cellsP l)]) (k := 2) (v := .arr 2 (σ.length + mid.length) 0 l.length) (l := l.map placeAV) (o := some mid.length) ⟨fun x hx => by
      obtain ⟨p, _, rfl⟩ := List.mem_map.1 hx
      exact ⟨rfl, by simp [AV.cells, AV.one]⟩, by simp, by rw [cellsP_map, List.getElem?_append_right (Nat.le_refl _), Nat.sub_self]; rfl⟩ (fz_placeL _ _ _)
    exact this
theorem tup3 {n : Nat} {σ : Heap} {a b c a' b' c' : AV} (h1 : Fz n σ a a') (h2 : Fz n σ b b') (h3 : Fz n σ c c') : Fz n σ (.tup [a, b, c]) (.tup [a', b', c']) := by simp [h1, h2, h3]
/-- Join, what it gives being never written again -/
theorem joinP33 (a b c : List Oyez.Rec) (ha : Few a) (hb : Few b) (hc : Few c) (hl : a.length ≤ 2 ^ 38 ∧ b.length ≤ 2 ^ 38 ∧ c.length ≤ 2 ^ 38) :
    APure Tryz.prog 33 [fileAV a, fileAV b, fileAV c] (.tup [fileAV (joinR a b c).1, placesAV (joinR a b c).2.1, .int .i64 (joinR a b c).2.2]) := by
  refine APure.of fun σ => ?_
  refine (join33_calls a b c ha hb hc hl σ).mono ?_
  rintro v s ⟨rfl, rfl⟩
  refine ⟨_, rfl, tup3 ?_ (conf_fz _ _ _) (.int _ _)⟩
  have := (own_in σ (confG (joinR a b c).2.1) (joinR a b c).1).fzN (Nat.le_refl _)
  simpa using this
end Ab

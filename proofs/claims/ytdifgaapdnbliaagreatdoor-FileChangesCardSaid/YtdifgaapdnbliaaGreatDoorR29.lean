/-
  slices.Insert OF ONE RECORD INTO AN OWN ROW: in place where there is room, else into a new row.
  slices.Insert OF ONE RECORD INTO AN OWN ROW, whatever its room.
  THE ORDER OF RECORDS in a copy that goes its own way.
  slices.BinarySearchFunc OVER AN OWN ROW OF RECORDS; a record put at its place in an own row.
-/
import Derived.Test.YtdifgaapdnbliaaGreatDoorR13
import Derived.Test.YtdifgaapdnbliaaGreatDoorR18
import Derived.Test.YtdifgaapdnbliaaGreatDoorR23
import Derived.Test.YtdifgaapdnbliaaGreatDoorR24
import Derived.Test.YtdifgaapdnbliaaGreatDoorR12
set_option linter.unusedSimpArgs false
set_option linter.unusedVariables false
set_option linter.unusedSectionVars false
namespace Ab
open Go Go.RowKit Go.Proofs
attribute [local irreducible] aws awp aw1 Og Om Oc Oa Ogd Ov Ot awd aw1d awh aw1h Ogh Ohd awl Ogl Ohl awv Ogv Ohv QThen QBlock QFn QFnM QRo QBe ACode AYield
theorem acopyC_arc {r off len c off2 len2 c2 m : Nat} {σ : Heap} {D : List AV} (hr : σ[r]? = some (.cells D)) (hm : Nat.min len2 len = m) (h1 : (off + m) * 3 ≤ D.length) (h2 : (off2 + m) * 3 ≤ D.length) (ho : ∀ x ∈ sub D (off2 * 3) (m * 3), AV.one x = true) :
    acopyC Tryz.prog #[23, 23] (.arc 3 r off len c) (.arc 3 r off2 len2 c2) σ = some (.int .i64 m, σ.set r (.cells (wr D (off * 3) (sub D (off2 * 3) (m * 3))))) := by
  have he : telem Tryz.prog 23 = some 59 := by simp
  have hs : tsa Tryz.prog 59 = some (3, true) := by simp
  have ha : (sub D (off2 * 3) (m * 3)).all AV.one = true := List.all_eq_true.2 ho
  simp only [acopyC, he, hs, hr, hm]
  rw [if_pos (by decide), if_pos ⟨trivial, trivial, h1, h2, ha⟩]
theorem acopyC_arr {r r2 off len c off2 len2 m : Nat} {σ : Heap} {D E : List AV} (hr : σ[r]? = some (.cells D)) (hr2 : σ[r2]? = some (.cells E)) (hm : Nat.min len2 len = m) (h1 : (off + m) * 3 ≤ D.length) (h2 : (off2 + m) * 3 ≤ E.length) (ho : ∀ x ∈ sub E (off2 * 3) (m * 3), AV.one x = true) :
    acopyC Tryz.prog #[23, 23] (.arc 3 r off len c) (.arr 3 r2 off2 len2) σ = some (.int .i64 m, σ.set r (.cells (wr D (off * 3) (sub E (off2 * 3) (m * 3))))) := by
  have he : telem Tryz.prog 23 = some 59 := by simp
  have hs : tsa Tryz.prog 59 = some (3, true) := by simp
  have ha : (sub E (off2 * 3) (m * 3)).all AV.one = true := List.all_eq_true.2 ho
  simp only [acopyC, he, hs, hr, hr2, hm]
  rw [if_pos (by decide), if_pos ⟨trivial, trivial, h1, h2, ha⟩]
theorem ins_place {n i : Nat} {cs ds tl : List AV} (hc : cs.length = n * 3) (hd : ds.length = 3) (hi : i < n) :
    wr (wr (cs ++ tl) ((i + 1) * 3) (cs.drop (i * 3))) (i * 3) ds = insC cs ds i ++ tl.drop 3 := by
  have e1 : ((cs ++ tl).take ((i + 1) * 3)).length = i * 3 + 3 := by rw [List.length_take, List.length_append]; omega
  have e2 : (cs.drop (i * 3)).length = (n - i) * 3 := by rw [List.length_drop]; omega
  have e3 : (cs ++ tl).drop ((i + 1) * 3 + (cs.drop (i * 3)).length) = tl.drop 3 := by
    rw [e2, show (i + 1) * 3 + (n - i) * 3 = cs.length + 3 by omega, List.drop_append, List.drop_eq_nil_of_le (by omega)]
    simp
  unfold wr insC
  rw [e3, hd]
  rw [List.append_assoc ((cs ++ tl).take ((i + 1) * 3)), List.take_append_of_le_length (by omega), List.take_take, Nat.min_eq_left (by omega), List.take_append_of_le_length (by omega), List.drop_left' e1]
  simp
set_option maxHeartbeats 2000000 in
set_option maxRecDepth 8000 in
theorem insert_arc {r r2 n i cap : Nat} {cs ds : List AV} (σ : Heap) (hne : r ≠ r2) (hr : σ[r]? = some (.cells (cs ++ List.replicate ((cap - n) * 3) .any))) (hr2 : σ[r2]? = some (.cells ds)) (hc : cs.length = n * 3) (hd : ds.length = 3) (ho : ∀ x ∈ cs, AV.one x = true) (hod : ∀ x ∈ ds, AV.one x = true)
    (hi : i < n) (hcap : n ≤ cap) (hn : n ≤ 2 ^ 20) :
    ACalls Tryz.prog 126 [.arc 3 r 0 n cap, .int .i64 i, .arr 3 r2 0 1] σ fun v σ' =>
      (v = .arr 3 σ.length 0 (n + 1) ∧ σ' = σ ++ [.cells (insC cs ds i)]) ∨
      (n + 1 ≤ cap ∧ v = .arc 3 r 0 (n + 1) cap ∧ σ' = σ.set r (.cells (insC cs ds i ++ List.replicate ((cap - (n + 1)) * 3) .any))) := by
  refine acalls_fn Tryz.func126 rfl (enters_fn Tryz.func126 (by decide) rfl) ?_
  have hz : ¬ ((i : Int) = n) := by omega
  have h0 : (i : Int) ≤ n := by omega
  have h1 : i ≤ n := by omega
  have hci : ¬ cap = i := by omega
  have hw : IntKind.i64.wrap ((n : Int) + 1) = n + 1 := w64 (by omega) (by omega)
  have hw2 : IntKind.i64.wrap ((n : Int) + 1 - i) = n + 1 - i := w64 (by omega) (by omega)
  have hw3 : IntKind.i64.wrap ((i : Int) + 1) = i + 1 := w64 (by omega) (by omega)
  rcases Nat.lt_or_ge cap (n + 1) with hlt | hge
  · have hlt' : (cap : Int) < n + 1 := by omega
    obtain ⟨Z, hZl, hZ⟩ := grow_eq hr hc hi hlt hn
    have hic : i ≤ cap := by omega
    have hc0 : ¬ cap = 0 := by omega
    have hin : i ≤ n + 1 := by omega
    have hin' : ¬ i = n + 1 := by omega
    have hi1 : (0 : Int) ≤ (i : Int) + 1 := by omega
    have hi2 : i + 1 ≤ n + 1 := by omega
    have hi3 : ¬ i + 1 = n + 1 := by omega
    have hin2 : ¬ i = n := by omega
    have hrl := (List.getElem?_eq_some_iff.1 hr).1
    have hrl2 := (List.getElem?_eq_some_iff.1 hr2).1
    have hA : (cs.take (i * 3) ++ Z).length = (n + 1) * 3 := by rw [List.length_append, List.length_take, hZl, hc]; omega
    have k1 : sub ds 0 3 = ds := by unfold sub; rw [List.drop_zero, List.take_of_length_le (by omega)]
    have c1 : acopy Tryz.prog #[23, 23] (.arr 3 σ.length i (n + 1 - i)) (.arr 3 r2 0 1) (σ ++ [.cells (cs.take (i * 3) ++ Z)]) = some (.int .i64 1, σ ++ [.cells (wr (cs.take (i * 3) ++ Z) (i * 3) ds)]) := by
      rw [acopy_arr (news := ds) (m := 1) (A := cs.take (i * 3) ++ Z) (by simp) ?_ (by omega) (by rw [hA]; omega)]
      · simp [-acopy]
      · rw [acells_row (cs := ds) (by rw [List.getElem?_append_left hrl2]; exact hr2) (by omega) (by rw [show 0 * 3 = 0 from rfl, show 1 * 3 = 3 from rfl, k1]; exact hod), show 0 * 3 = 0 from rfl, show 1 * 3 = 3 from rfl, k1]
    obtain ⟨B, hB⟩ : ∃ B, wr (cs.take (i * 3) ++ Z) (i * 3) ds = B := ⟨_, rfl⟩
    have hBl : B.length = (n + 1) * 3 := by rw [← hB]; unfold wr; simp [List.length_take, List.length_drop, hc, hd, hZl]; omega
    have k2 : sub (cs ++ List.replicate ((cap - n) * 3) .any) (i * 3) ((n - i) * 3) = cs.drop (i * 3) := by
      unfold sub
      rw [List.drop_append_of_le_length (by omega), List.take_append_of_le_length (by rw [List.length_drop]; omega), List.take_of_length_le (by rw [List.length_drop]; omega)]
    have c2 : acopy Tryz.prog #[23, 23] (.arr 3 σ.length (i + 1) (n - i)) (.arc 3 r i (n - i) (cap - i)) (σ ++ [.cells B]) = some (.int .i64 ((n - i : Nat) : Int), σ ++ [.cells (wr B ((i + 1) * 3) (cs.drop (i * 3)))]) := by
      rw [acopy_arr (news := cs.drop (i * 3)) (m := n - i) (A := B) (by simp) ?_ (by omega) (by rw [hBl]; omega)]
      · simp [-acopy]
      · rw [acells_rowc (cs := cs ++ List.replicate ((cap - n) * 3) .any) (by rw [List.getElem?_append_left hrl]; exact hr) (by rw [List.length_append, hc]; omega) (by rw [k2]; exact fun x hx => ho x (List.mem_of_mem_drop hx)), k2]
    rw [hB] at c1
    simp [-aappend, -aappendZ, -acopy, -acopyC, Tryz.ntmps126, hz, h0, h1, hcap, hci, hw, hw2, hw3, hlt', hr, hr2, hZ, hic, hc0, hin, hin', c1]
    refine ACode_drawH [8] mixed (by kernel_rfl) ?_
    simp [-aappend, -aappendZ, -acopy, -acopyC, Tryz.ntmps126, h1, hcap, hci, hw3, hi1, hi2, hi3, hin2, c2, -wr]
    rw [← hB]
    exact ins_grow hc hd hZl hi
  · have hge' : ¬ ((cap : Int) < n + 1) := by omega
    have hn1 : (0 : Int) ≤ (n : Int) + 1 := by omega
    have hcp : n + 1 ≤ cap := hge
    have hc0 : ¬ cap = 0 := by omega
    have hi1 : (0 : Int) ≤ (i : Int) + 1 := by omega
    have hi2 : i + 1 ≤ n + 1 := by omega
    have hi3 : ¬ cap = i + 1 := by omega
    have hin : i ≤ n + 1 := by omega
    simp [-aappend, -aappendZ, -acopy, -acopyC, Tryz.ntmps126, hz, h0, h1, hcap, hci, hw, hw2, hw3, hge', hr, hr2, hn1, hcp, hc0, hi1, hi2, hi3, hin]
    refine StA.of ((overlaps_calls σ hne.symm hr2 hr (by omega) (by rw [List.length_append, hc]; omega)).mono ?_)
    rintro _ _ ⟨rfl, rfl⟩
    simp [-aappend, -aappendZ, -acopy, -acopyC, Tryz.ntmps126, hz, h0, h1, hcap, hci, hw, hw2, hw3, hge', hr, hr2, hn1, hcp, hc0, hi1, hi2, hi3, hin]
    refine ACode_drawH [8] mixed (by kernel_rfl) ?_
    simp [-aappend, -aappendZ, -acopy, -acopyC, Tryz.ntmps126, hz, h0, h1, hcap, hci, hw, hw2, hw3, hge', hr, hr2, hn1, hcp, hc0, hi1, hi2, hi3, hin]
    have hol : ∀ x ∈ cs.drop (i * 3), AV.one x = true := fun x hx => ho x (List.mem_of_mem_drop hx)
    have k1 : sub ds (0 * 3) (1 * 3) = ds := by unfold sub; rw [Nat.zero_mul, List.drop_zero, List.take_of_length_le (by omega)]
    have k2 : sub (cs ++ List.replicate ((cap - n) * 3) .any) (i * 3) ((n - i) * 3) = cs.drop (i * 3) := by
      unfold sub
      rw [List.drop_append_of_le_length (by omega), List.take_append_of_le_length (by rw [List.length_drop]; omega), List.take_of_length_le (by rw [List.length_drop]; omega)]
    have hDl : (cs ++ List.replicate ((cap - n) * 3) AV.any).length = cap * 3 := by rw [List.length_append, List.length_replicate, hc]; omega
    have hrl := (List.getElem?_eq_some_iff.1 hr).1
    rw [acopy_arc, acopyC_arc (m := n - i) hr (Nat.min_eq_right (by omega)) (by rw [hDl]; omega) (by rw [hDl]; omega) (by rw [k2]; exact hol), k2]
    simp only [Om_some]
    rw [acopy_arc, acopyC_arr (m := 1) (D := wr (cs ++ List.replicate ((cap - n) * 3) .any) ((i + 1) * 3) (cs.drop (i * 3))) (E := ds) (by rw [List.getElem?_set_self hrl]) (by rw [List.getElem?_set_ne hne]; exact hr2) (Nat.min_eq_left (by omega))
      (by unfold wr; simp only [List.length_append, List.length_take, List.length_drop, List.length_replicate]; omega) (by omega) (by rw [k1]; exact hod), k1]
    simp only [Om_some]
    rw [List.set_set, ins_place hc hd hi, List.drop_replicate, show (cap - n) * 3 - 3 = (cap - (n + 1)) * 3 by omega]
end Ab
namespace Ab
open Go Go.RowKit Go.Proofs
attribute [local irreducible] aws awp aw1 Og Om Oc Oa Ogd Ov Ot awd aw1d awh aw1h Ogh Ohd awl Ogl Ohl awv Ogv Ohv QThen QBlock QFn QFnM QRo QBe ACode AYield
/-- what an insertion does: the row in which it is all, the others as they were -/
def InsQ (σ : Heap) (r n i : Nat) (cs ds : List AV) (v : AV) (σ' : Heap) : Prop :=
  ∃ r', v = .arr 3 r' 0 (n + 1) ∧ σ'[r']? = some (.cells (insC cs ds i)) ∧ σ.length ≤ σ'.length ∧ (r' = r ∨ σ.length ≤ r') ∧ ∀ j, j ≠ r → j < σ.length → σ'[j]? = σ[j]?
set_option maxHeartbeats 2000000 in
set_option maxRecDepth 8000 in
theorem insert_end {r r2 n : Nat} {cs ds : List AV} (σ : Heap) (hne : r ≠ r2) (hr : σ[r]? = some (.cells cs)) (hr2 : σ[r2]? = some (.cells ds)) (hc : cs.length = n * 3) (hd : ds.length = 3) (hod : ∀ x ∈ ds, AV.one x = true) (hn : n ≤ 2 ^ 20) :
    ACalls Tryz.prog 126 [.arr 3 r 0 n, .int .i64 n, .arr 3 r2 0 1] σ (InsQ σ r n n cs ds) := by
  refine acalls_fn Tryz.func126 rfl (enters_fn Tryz.func126 (by decide) rfl) ?_
  have he : telem Tryz.prog 23 = some 59 := by simp
  have hs : tsa Tryz.prog 59 = some (3, true) := by simp
  have hz : tzk Tryz.prog 59 3 = true := by simp
  have hb : tby Tryz.prog 59 = 40 := by simp
  have k1 : sub ds (0 * 3) (1 * 3) = ds := by unfold sub; rw [Nat.zero_mul, List.drop_zero, List.take_of_length_le (by omega)]
  have ha : acells 3 (.arr 3 r2 0 1) σ = some (ds, 1) := by rw [acells_row hr2 (by omega) (by rw [k1]; exact hod), k1]
  have hap : aappend Tryz.prog #[23, 23] (.arr 3 r 0 n) (.arr 3 r2 0 1) σ = some (.arr 3 σ.length 0 (n + 1), σ.set r .dead ++ [.cells (cs ++ ds)]) := by
    have hb' : (n + 1) * 40 ≤ 140737488355328 := by omega
    simp [-acells, aappend, he, hs, hz, hb, ha, hr, hc, hb']
  have hw : IntKind.i64.wrap ((n : Int) + 1) = n + 1 := w64 (by omega) (by omega)
  simp (maxSteps := 400000) [-aappend, -aappendZ, -acopy, -acopyC, Tryz.ntmps126, hap]
  have hrl := (List.getElem?_eq_some_iff.1 hr).1
  refine ⟨σ.length, rfl, ?_, by simp, .inr (Nat.le_refl _), fun j hj hl => ?_⟩
  · rw [List.getElem?_append_right (by simp)]
    simp [insC, ← hc]
  · rw [List.getElem?_append_left (by simpa using hl), List.getElem?_set_ne (Ne.symm hj)]
theorem insert_calls {r r2 n i : Nat} {cs ds : List AV} (σ : Heap) (hne : r ≠ r2) (hr : σ[r]? = some (.cells cs)) (hr2 : σ[r2]? = some (.cells ds)) (hc : cs.length = n * 3) (hd : ds.length = 3) (ho : ∀ x ∈ cs, AV.one x = true) (hod : ∀ x ∈ ds, AV.one x = true) (hi : i ≤ n) (hn : n ≤ 2 ^ 20) :
    ACalls Tryz.prog 126 [.arr 3 r 0 n, .int .i64 i, .arr 3 r2 0 1] σ (InsQ σ r n i cs ds) := by
  rcases Nat.lt_or_ge i n with hlt | hge
  · have hrl := (List.getElem?_eq_some_iff.1 hr).1
    refine ACalls.room (enters_fn Tryz.func126 (by decide) rfl) hr (by rw [hc]; omega) fun cap hcap => ?_
    refine (insert_arc (σ.set r (.cells (cs ++ List.replicate ((cap - n) * 3) .any))) hne (by rw [List.getElem?_set_self hrl]) (by rw [List.getElem?_set_ne hne]; exact hr2) hc hd ho hod hlt hcap hn).mono ?_
    rintro v σ' (⟨rfl, rfl⟩ | ⟨hcp, rfl, rfl⟩)
    · refine ⟨_, cs, List.replicate ((cap - n) * 3) .any, .inl rfl, ?_, ?_⟩
      · rw [List.getElem?_append_left (by simpa using hrl), List.getElem?_set_self hrl]
      · refine ⟨σ.length, by rw [List.length_set], ?_, by simp, .inr (Nat.le_refl _), fun j hj hl => ?_⟩
        · rw [List.getElem?_set_ne (by omega), List.getElem?_append_right (by simp)]
          simp
        · rw [List.getElem?_set_ne (Ne.symm hj), List.getElem?_append_left (by simpa using hl), List.getElem?_set_ne (Ne.symm hj)]
    · refine ⟨.arr 3 r 0 (n + 1), insC cs ds i, List.replicate ((cap - (n + 1)) * 3) .any, .inr ⟨_, _, _, _, _, rfl, rfl⟩, ?_, ?_⟩
      · rw [List.getElem?_set_self (by simpa using hrl)]
      · refine ⟨r, rfl, ?_, by simp, .inl rfl, fun j hj hl => ?_⟩
        · rw [List.getElem?_set_self (by simpa using hrl)]
        · rw [List.getElem?_set_ne (Ne.symm hj), List.getElem?_set_ne (Ne.symm hj), List.getElem?_set_ne (Ne.symm hj)]
  · obtain rfl : i = n := by omega
    exact insert_end σ hne hr hr2 hc hd hod hn
end Ab
namespace Ab
open Go Go.RowKit Go.Proofs
attribute [local irreducible] aws awp aw1 Og Om Oc Oa Ogd Ov Ot awd aw1d awh aw1h Ogh Ohd awl Ogl Ohl awv Ogv Ohv QThen QBlock QFn QFnM QRo QBe ACode AYield
/-- that of two records -/
def ordB (a b : Oyez.Rec) : Int := if a.kind = b.kind then a.number - b.number else a.kind - b.kind
/-- the numbers of a record are small -/
def SmallR (a : Oyez.Rec) : Prop := -2 ^ 40 ≤ a.kind ∧ a.kind ≤ 2 ^ 40 ∧ -2 ^ 40 ≤ a.number ∧ a.number ≤ 2 ^ 40
end Ab
namespace Ab
open Go Go.RowKit Go.Proofs
attribute [local irreducible] aws awp aw1 Og Om Oc Oa Ogd Ov Ot awd aw1d awh aw1h Ogh Ohd awl Ogl Ohl awv Ogv Ohv QThen QBlock QFn QFnM QRo QBe ACode AYield
theorem cellsR_append (l m : List Oyez.Rec) : cellsR (l ++ m) = cellsR l ++ cellsR m := by unfold cellsR; rw [List.flatMap_append]
theorem cellsR_take (l : List Oyez.Rec) (i : Nat) (h : i ≤ l.length) : (cellsR l).take (i * 3) = cellsR (l.take i) ∧ (cellsR l).drop (i * 3) = cellsR (l.drop i) := by
  have e : cellsR l = cellsR (l.take i) ++ cellsR (l.drop i) := by rw [← cellsR_append, List.take_append_drop]
  have h1 : (cellsR (l.take i)).length = i * 3 := by rw [cellsR_len, List.length_take]; omega
  rw [e, ← h1]
  exact ⟨List.take_left, List.drop_left⟩
/-- a record at a place of a list -/
def insAt (l : List Oyez.Rec) (t : Oyez.Rec) (i : Nat) : List Oyez.Rec := l.take i ++ t :: l.drop i
theorem insC_cells (l : List Oyez.Rec) (t : Oyez.Rec) (i : Nat) (h : i ≤ l.length) : insC (cellsR l) (recCells t) i = cellsR (insAt l t i) := by
  obtain ⟨h1, h2⟩ := cellsR_take l i h
  unfold insC insAt
  rw [h1, h2, cellsR_append]
  show _ = _ ++ (recCells t ++ cellsR (l.drop i))
  rw [List.append_assoc]
/-- it is the place of a record -/
structure PlaceAt (l : List Oyez.Rec) (t : Oyez.Rec) (i : Nat) : Prop where
  le : i ≤ l.length
  lo : ∀ (m : Nat) (h : m < l.length), m < i → l[m].place.lt t.place = true
  hi : ∀ (m : Nat) (h : m < l.length), i ≤ m → l[m].place.lt t.place = false
theorem PlaceAt.found {l : List Oyez.Rec} {t : Oyez.Rec} {i : Nat} (hs : Oyez.RSorted l) (h : PlaceAt l t i) : t.place ∈ l.map Oyez.Rec.place ↔ ∃ hi : i < l.length, l[i].place = t.place := by
  constructor
  · intro hm
    obtain ⟨x, hx, e⟩ := List.mem_map.1 hm
    obtain ⟨m, hml, rfl⟩ := List.mem_iff_getElem.1 hx
    have h1 : i ≤ m := by
      rcases Nat.lt_or_ge m i with h2 | h2
      · have := h.lo m hml h2
        rw [e, Oyez.Place.lt_irrefl] at this
        cases this
      · exact h2
    rcases Nat.lt_or_ge i m with h2 | h2
    · have h3 := h.hi i (by omega) (Nat.le_refl _)
      unfold Oyez.RSorted Oyez.Sorted at hs
      rw [List.pairwise_map] at hs
      have := List.pairwise_iff_getElem.1 hs i m (by omega) hml h2
      rw [e, h3] at this
      cases this
    · obtain rfl : m = i := by omega
      exact ⟨hml, e⟩
  · rintro ⟨hi, e⟩
    exact e ▸ List.mem_map_of_mem (List.getElem_mem hi)
theorem PlaceAt.sorted {l : List Oyez.Rec} {t : Oyez.Rec} {i : Nat} (hs : Oyez.RSorted l) (h : PlaceAt l t i) (hn : t.place ∉ l.map Oyez.Rec.place) : Oyez.RSorted (insAt l t i) := by
  unfold Oyez.RSorted Oyez.Sorted insAt at *
  rw [List.pairwise_map] at hs ⊢
  have e : l = l.take i ++ l.drop i := (List.take_append_drop i l).symm
  rw [e, List.pairwise_append] at hs
  obtain ⟨s1, s2, s3⟩ := hs
  have low : ∀ x ∈ l.take i, x.place.lt t.place = true := fun x hx => by
    obtain ⟨m, hm, rfl⟩ := List.mem_iff_getElem.1 hx
    rw [List.length_take] at hm
    rw [List.getElem_take]
    exact h.lo m (by omega) (by omega)
  have high : ∀ x ∈ l.drop i, t.place.lt x.place = true := fun x hx => by
    have hxl : x ∈ l := List.mem_of_mem_drop hx
    obtain ⟨m, hm, rfl⟩ := List.mem_iff_getElem.1 hx
    rw [List.length_drop] at hm
    have h1 := h.hi (i + m) (by omega) (by omega)
    rw [List.getElem_drop] at hxl ⊢
    cases h2 : t.place.lt l[i + m].place with
    | true => rfl
    | false => exact absurd (Oyez.Place.lt_tri h1 h2 ▸ List.mem_map_of_mem hxl) hn
  refine List.pairwise_append.2 ⟨s1, List.pairwise_cons.2 ⟨high, s2⟩, fun x hx y hy => ?_⟩
  rcases List.mem_cons.1 hy with rfl | hy
  · exact low x hx
  · exact s3 x hx y hy
theorem InsQ.acc {τ g : Heap} {l : List Oyez.Rec} {t : Oyez.Rec} {i j : Nat} {v : AV} {σ' : Heap} (h : InsQ (τ ++ g) (τ.length + j) l.length i (cellsR l) (recCells t) v σ') (hi : i ≤ l.length) :
    ∃ g' j', σ' = τ ++ g' ∧ Acc τ g' 3 v ((insAt l t i).map recAV) (some j') := by
  obtain ⟨r', rfl, h1, h2, h3, h4⟩ := h
  rw [List.length_append] at h2
  have ht : σ'.take τ.length = τ := by
    apply List.ext_getElem?
    intro k
    rcases Nat.lt_or_ge k τ.length with hk | hk
    · rw [List.getElem?_take_of_lt hk, h4 k (by omega) (by rw [List.length_append]; omega), List.getElem?_append_left hk]
    · rw [List.getElem?_eq_none (by rw [List.length_take]; omega), List.getElem?_eq_none hk]
  have hr' : τ.length ≤ r' := by
    rcases h3 with h3 | h3
    · omega
    · rw [List.length_append] at h3; omega
  have hl : (insAt l t i).length = l.length + 1 := by
    unfold insAt
    rw [List.length_append, List.length_cons, List.length_take, List.length_drop]
    omega
  refine ⟨σ'.drop τ.length, r' - τ.length, ?_, ⟨fun x hx => ?_, ?_, ?_⟩⟩
  · conv => lhs; rw [← List.take_append_drop τ.length σ', ht]
  · obtain ⟨r, _, rfl⟩ := List.mem_map.1 hx
    exact ⟨rfl, by simp [AV.cells, AV.one]⟩
  · rw [List.length_map, hl, show τ.length + (r' - τ.length) = r' by omega]
  · rw [List.getElem?_drop, show τ.length + (r' - τ.length) = r' by omega, h1, insC_cells l t i hi, cellsR_map]
theorem wu64 {n : Int} (h1 : 0 ≤ n) (h2 : n ≤ 9223372036854775807) : IntKind.u64.wrap n = n := by
  unfold IntKind.wrap
  have e1 : (IntKind.bits .u64) = 64 := rfl
  have e2 : IntKind.signed .u64 = false := rfl
  simp only [e1, e2, Bool.false_and, Bool.false_eq_true, if_false]
  have e3 : (2 ^ 64 : Int) = 18446744073709551616 := by decide
  rw [e3]; omega
end Ab

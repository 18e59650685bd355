/-
  slices.Insert OF ONE RECORD INTO AN OWN ROW: in place where there is room, else into a new row.
-/
import Derived.Test.YtdifgaapdnbliaaGreatDoorP15
import Derived.Test.YtdifgaapdnbliaaGreatDoorP14
set_option linter.unusedSimpArgs false
set_option linter.unusedVariables false
set_option linter.unusedSectionVars false
namespace Ab
open Go Go.RowKit Go.Proofs
attribute [local irreducible] aws awp aw1 Og Om Oc Oa Ogd Ov Ot awd aw1d awh aw1h Ogh Ohd awl Ogl Ohl awv Ogv Ohv QThen QBlock QFn QFnM QRo QBe ACode AYield
theorem acopyC_arc {r off len c off2 len2 c2 m : Nat} {σ : Heap} {D : List AV} (hr : σ[r]? = some (.cells D)) (hm : Nat.min len2 len = m) (h1 : (off + m) * 3 ≤ D.length) (h2 : (off2 + m) * 3 ≤ D.length) (ho : ∀ x ∈ sub D (off2 * 3) (m * 3), AV.one x = true) :
    acopyC Tryz.prog #[23, 23] (.arc 3 r off len c) (.arc 3 r off2 len2 c2) σ = some (.int .i64 m, σ.set r (.cells (wr D (off * 3) (sub D (off2 * 3) (m * 3))))) := by
  have he : telem Tryz.prog 23 = some 59 := by simp
  have hs : tsa Tryz.prog 59 = some (3, true) := by simp
  have ha : (sub D (off2 * 3) (m * 3)).all AV.one = true := List.all_eq_true.2 ho
  simp only [acopyC, he, hs, hr, hm]
  rw [if_pos (by decide), if_pos ⟨trivial, trivial, h1, h2, ha⟩]
theorem acopyC_arr {r r2 off len c off2 len2 m : Nat} {σ : Heap} {D E : List AV} (hr : σ[r]? = some (.cells D)) (hr2 : σ[r2]? = some (.cells E)) (hm : Nat.min len2 len = m) (h1 : (off + m) * 3 ≤ D.length) (h2 : (off2 + m) * 3 ≤ E.length) (ho : ∀ x ∈ sub E (off2 * 3) (m * 3), AV.one x = true) :
    acopyC Tryz.prog #[23, 23] (.arc 3 r off len c) (.arr 3 r2 off2 len2) σ = some (.int .i64 m, σ.set r (.cells (wr D (off * 3) (sub E (off2 * 3) (m * 3))))) := by
  have he : telem Tryz.prog 23 = some 59 := by simp
  have hs : tsa Tryz.prog 59 = some (3, true) := by simp
  have ha : (sub E (off2 * 3) (m * 3)).all AV.one = true := List.all_eq_true.2 ho
  simp only [acopyC, he, hs, hr, hr2, hm]
  rw [if_pos (by decide), if_pos ⟨trivial, trivial, h1, h2, ha⟩]
theorem ins_place {n i : Nat} {cs ds tl : List AV} (hc : cs.length = n * 3) (hd : ds.length = 3) (hi : i < n) :
    wr (wr (cs ++ tl) ((i + 1) * 3) (cs.drop (i * 3))) (i * 3) ds = insC cs ds i ++ tl.drop 3 := by
  have e1 : ((cs ++ tl).take ((i + 1) * 3)).length = i * 3 + 3 := by rw [List.length_take, List.length_append]; omega
  have e2 : (cs.drop (i * 3)).length = (n - i) * 3 := by rw [List.length_drop]; omega
  have e3 : (cs ++ tl).drop ((i + 1) * 3 + (cs.drop (i * 3)).length) = tl.drop 3 := by
    rw [e2, show (i + 1) * 3 + (n - i) * 3 = cs.length + 3 by omega, List.drop_append, List.drop_eq_nil_of_le (by omega)]
    simp
  unfold wr insC
  rw [e3, hd]
  rw [List.append_assoc ((cs ++ tl).take ((i + 1) * 3)), List.take_append_of_le_length (by omega), List.take_take, Nat.min_eq_left (by omega), List.take_append_of_le_length (by omega), List.drop_left' e1]
  simp
set_option maxHeartbeats 2000000 in
set_option maxRecDepth 8000 in
theorem insert_arc {r r2 n i cap : Nat} {cs ds : List AV} (σ : Heap) (hne : r ≠ r2) (hr : σ[r]? = some (.cells (cs ++ List.replicate ((cap - n) * 3) .any))) (hr2 : σ[r2]? = some (.cells ds)) (hc : cs.length = n * 3) (hd : ds.length = 3) (ho : ∀ x ∈ cs, AV.one x = true) (hod : ∀ x ∈ ds, AV.one x = true)
    (hi : i < n) (hcap : n ≤ cap) (hn : n ≤ 2 ^ 20) :
    ACalls Tryz.prog 126 [.arc 3 r 0 n cap, .int .i64 i, .arr 3 r2 0 1] σ fun v σ' =>
      (v = .arr 3 σ.length 0 (n + 1) ∧ σ' = σ ++ [.cells (insC cs ds i)]) ∨
      (n + 1 ≤ cap ∧ v = .arc 3 r 0 (n + 1) cap ∧ σ' = σ.set r (.cells (insC cs ds i ++ List.replicate ((cap - (n + 1)) * 3) .any))) := by
  refine acalls_fn Tryz.func126 rfl (enters_fn Tryz.func126 (by decide) rfl) ?_
  have hz : ¬ ((i : Int) = n) := by omega
  have h0 : (i : Int) ≤ n := by omega
  have h1 : i ≤ n := by omega
  have hci : ¬ cap = i := by omega
  have hw : IntKind.i64.wrap ((n : Int) + 1) = n + 1 := w64 (by omega) (by omega)
  have hw2 : IntKind.i64.wrap ((n : Int) + 1 - i) = n + 1 - i := w64 (by omega) (by omega)
  have hw3 : IntKind.i64.wrap ((i : Int) + 1) = i + 1 := w64 (by omega) (by omega)
  rcases Nat.lt_or_ge cap (n + 1) with hlt | hge
  · have hlt' : (cap : Int) < n + 1 := by omega
    obtain ⟨Z, hZl, hZ⟩ := grow_eq hr hc hi hlt hn
    have hic : i ≤ cap := by omega
    have hc0 : ¬ cap = 0 := by omega
    have hin : i ≤ n + 1 := by omega
    have hin' : ¬ i = n + 1 := by omega
    have hi1 : (0 : Int) ≤ (i : Int) + 1 := by omega
    have hi2 : i + 1 ≤ n + 1 := by omega
    have hi3 : ¬ i + 1 = n + 1 := by omega
    have hin2 : ¬ i = n := by omega
    have hrl := (List.getElem?_eq_some_iff.1 hr).1
    have hrl2 := (List.getElem?_eq_some_iff.1 hr2).1
    have hA : (cs.take (i * 3) ++ Z).length = (n + 1) * 3 := by rw [List.length_append, List.length_take, hZl, hc]; omega
    have k1 : sub ds 0 3 = ds := by unfold sub; rw [List.drop_zero, List.take_of_length_le (by omega)]
    have c1 : acopy Tryz.prog #[23, 23] (.arr 3 σ.length i (n + 1 - i)) (.arr 3 r2 0 1) (σ ++ [.cells (cs.take (i * 3) ++ Z)]) = some (.int .i64 1, σ ++ [.cells (wr (cs.take (i * 3) ++ Z) (i * 3) ds)]) := by
      rw [acopy_arr (news := ds) (m := 1) (A := cs.take (i * 3) ++ Z) (by simp) ?_ (by omega) (by rw [hA]; omega)]
      · simp [-acopy]
      · rw [acells_row (cs := ds) (by rw [List.getElem?_append_left hrl2]; exact hr2) (by omega) (by rw [show 0 * 3 = 0 from rfl, show 1 * 3 = 3 from rfl, k1]; exact hod), show 0 * 3 = 0 from rfl, show 1 * 3 = 3 from rfl, k1]
    obtain ⟨B, hB⟩ : ∃ B, wr (cs.take (i * 3) ++ Z) (i * 3) ds = B := ⟨_, rfl⟩
    have hBl : B.length = (n + 1) * 3 := by rw [← hB]; unfold wr; simp [List.length_take, List.length_drop, hc, hd, hZl]; omega
    have k2 : sub (cs ++ List.replicate ((cap - n) * 3) .any) (i * 3) ((n - i) * 3) = cs.drop (i * 3) := by
      unfold sub
      rw [List.drop_append_of_le_length (by omega), List.take_append_of_le_length (by rw [List.length_drop]; omega), List.take_of_length_le (by rw [List.length_drop]; omega)]
    have c2 : acopy Tryz.prog #[23, 23] (.arr 3 σ.length (i + 1) (n - i)) (.arc 3 r i (n - i) (cap - i)) (σ ++ [.cells B]) = some (.int .i64 ((n - i : Nat) : Int), σ ++ [.cells (wr B ((i + 1) * 3) (cs.drop (i * 3)))]) := by
      rw [acopy_arr (news := cs.drop (i * 3)) (m := n - i) (A := B) (by simp) ?_ (by omega) (by rw [hBl]; omega)]
      · simp [-acopy]
      · rw [acells_rowc (cs := cs ++ List.replicate ((cap - n) * 3) .any) (by rw [List.getElem?_append_left hrl]; exact hr) (by rw [List.length_append, hc]; omega) (by rw [k2]; exact fun x hx => ho x (List.mem_of_mem_drop hx)), k2]
    rw [hB] at c1
    simp [-aappend, -aappendZ, -acopy, -acopyC, Tryz.ntmps126, hz, h0, h1, hcap, hci, hw, hw2, hw3, hlt', hr, hr2, hZ, hic, hc0, hin, hin', c1]
    refine ACode_drawH [8] mixed (by kernel_rfl) ?_
    simp [-aappend, -aappendZ, -acopy, -acopyC, Tryz.ntmps126, h1, hcap, hci, hw3, hi1, hi2, hi3, hin2, c2, -wr]
    rw [← hB]
    exact ins_grow hc hd hZl hi
  · have hge' : ¬ ((cap : Int) < n + 1) := by omega
    have hn1 : (0 : Int) ≤ (n : Int) + 1 := by omega
    have hcp : n + 1 ≤ cap := hge
    have hc0 : ¬ cap = 0 := by omega
    have hi1 : (0 : Int) ≤ (i : Int) + 1 := by omega
    have hi2 : i + 1 ≤ n + 1 := by omega
    have hi3 : ¬ cap = i + 1 := by omega
    have hin : i ≤ n + 1 := by omega
    simp [-aappend, -aappendZ, -acopy, -acopyC, Tryz.ntmps126, hz, h0, h1, hcap, hci, hw, hw2, hw3, hge', hr, hr2, hn1, hcp, hc0, hi1, hi2, hi3, hin]
    refine StA.of ((overlaps_calls σ hne.symm hr2 hr (by omega) (by rw [List.length_append, hc]; omega)).mono ?_)
    rintro _ _ ⟨rfl, rfl⟩
    simp [-aappend, -aappendZ, -acopy, -acopyC, Tryz.ntmps126, hz, h0, h1, hcap, hci, hw, hw2, hw3, hge', hr, hr2, hn1, hcp, hc0, hi1, hi2, hi3, hin]
    refine ACode_drawH [8] mixed (by kernel_rfl) ?_
    simp [-aappend, -aappendZ, -acopy, -acopyC, Tryz.ntmps126, hz, h0, h1, hcap, hci, hw, hw2, hw3, hge', hr, hr2, hn1, hcp, hc0, hi1, hi2, hi3, hin]
    have hol : ∀ x ∈ cs.drop (i * 3), AV.one x = true := fun x hx => ho x (List.mem_of_mem_drop hx)
    have k1 : sub ds (0 * 3) (1 * 3) = ds := by unfold sub; rw [Nat.zero_mul, List.drop_zero, List.take_of_length_le (by omega)]
    have k2 : sub (cs ++ List.replicate ((cap - n) * 3) .any) (i * 3) ((n - i) * 3) = cs.drop (i * 3) := by
      unfold sub
      rw [List.drop_append_of_le_length (by omega), List.take_append_of_le_length (by rw [List.length_drop]; omega), List.take_of_length_le (by rw [List.length_drop]; omega)]
    have hDl : (cs ++ List.replicate ((cap - n) * 3) AV.any).length = cap * 3 := by rw [List.length_append, List.length_replicate, hc]; omega
    have hrl := (List.getElem?_eq_some_iff.1 hr).1
    rw [acopy_arc, acopyC_arc (m := n - i) hr (Nat.min_eq_right (by omega)) (by rw [hDl]; omega) (by rw [hDl]; omega) (by rw [k2]; exact hol), k2]
    simp only [Om_some]
    rw [acopy_arc, acopyC_arr (m := 1) (D := wr (cs ++ List.replicate ((cap - n) * 3) .any) ((i + 1) * 3) (cs.drop (i * 3))) (E := ds) (by rw [List.getElem?_set_self hrl]) (by rw [List.getElem?_set_ne hne]; exact hr2) (Nat.min_eq_left (by omega))
      (by unfold wr; simp only [List.length_append, List.length_take, List.length_drop, List.length_replicate]; omega) (by omega) (by rw [k1]; exact hod), k1]
    simp only [Om_some]
    rw [List.set_set, ins_place hc hd hi, List.drop_replicate, show (cap - n) * 3 - 3 = (cap - (n + 1)) * 3 by omega]
end Ab

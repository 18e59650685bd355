/-
  strings.Join, a record's line.
-/
import Derived.Test.YtdifgaapdnbliaaGreatDoorI2
set_option linter.unusedSimpArgs false
set_option linter.unusedVariables false
namespace Ab
open Go Go.RowKit Go.Proofs
attribute [local irreducible] aws awp aw1 Og Om Oc Oa Ogd Ov Ot awd aw1d awh aw1h Ogh Ohd QThen QBlock QFn QFnM ACode AYield
def join32 (ws : List (List UInt8)) : List UInt8 := [32].intercalate ws
theorem join_arr (σ : Heap) (r : Nat) (ws : List (List UInt8)) (h : σ[r]? = some (.cells (ws.map AV.str))) (hl : ws.length ≤ 2 ^ 40) (hj : (join32 ws).length ≤ 2 ^ 40) :
    ACalls Tryz.prog 49 [.arr 1 r 0 ws.length, .str [32]] σ (fun v σ' => v = .str (join32 ws) ∧ σ' = σ) := by
  refine .inl ⟨enters_fn Tryz.func49 (by decide) rfl, fun C cargs hI hv => callsIn_wide.2 ?_⟩
  obtain ⟨x, q, rfl, h1, h2⟩ := hv.inv
  obtain ⟨y, q, rfl, h3, h4⟩ := h2.inv
  obtain rfl := h4.of_nil
  obtain ⟨b, cap, e, n, hb, hc1, hc2, hc3, rfl⟩ := h1.arr_inv
  rw [h3.str_inv]
  have hmap : (ws.map fun w => ByteArray.mk ⟨w⟩).map (·.data.toList) = ws := by
    rw [List.map_map]
    exact List.map_id'' (fun w => rfl) ws
  obtain ⟨_, c, hc, _⟩ := hI.live r b _ hb h rfl
  have hbl : b < C.w.heap.size := (Array.getElem?_eq_some_iff.1 hc).1
  have key := Tryz.strings_Join b (0 * 1) cap (ws.map fun w => ByteArray.mk ⟨w⟩) ⟨⟨[32]⟩⟩ C.w (fun j x hx => by
    rw [List.getElem?_map, Option.map_eq_some_iff] at hx
    obtain ⟨w, hw, rfl⟩ := hx
    obtain ⟨v, hv, hvr⟩ := hI.cell_at hb h j (.str w) (by rw [List.getElem?_map, hw]; rfl)
    rw [Nat.zero_mul, Nat.zero_add, hv, hvr.str_inv]) hbl (by rw [List.length_map]; omega) (by rw [List.length_map]; exact hc1) (by
      rw [hmap]
      have : (join32 ws).length ≤ 140737488355328 := by omega
      exact this)
  rw [hmap, List.length_map] at key
  refine key.mono ?_
  rintro e w' ⟨rfl, hbw⟩
  have hE := Ext.below hI.plt hbw (fun h => False.elim h)
  refine ⟨_, C.at_ w', .str (join32 ws), σ, rfl, rfl, hE, hI.below hbw, ?_, rfl, rfl⟩
  have : VR (C.at_ w') (.str (join32 ws)) (.string ⟨⟨join32 ws⟩⟩) := .str _
  simpa [join32, Lib.join] using this
theorem joined_arr (σ : Heap) (r : Nat) (ws : List (List UInt8)) (h : σ[r]? = some (.cells (ws.map AV.str))) (hl : ws.length ≤ 2 ^ 40) (hj : (join32 ws).length ≤ 2 ^ 40) :
    ACalls Tryz.prog 159 [.arr 1 r 0 ws.length] σ (fun v σ' => v = .str (join32 ws) ∧ σ' = σ) := by
  refine acalls_fn Tryz.func159 rfl (enters_fn Tryz.func159 (by decide) rfl) ?_
  simp [Tryz.ntmps159]
  refine StA.of ((join_arr σ r ws h hl hj).mono ?_)
  rintro v σ' ⟨rfl, rfl⟩
  simp
end Ab

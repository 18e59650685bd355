/-
  THE DESK: the words at a place, and the state there.
-/
import Derived.Test.YtdifgaapdnbliaaGreatDoorI2
import Derived.Test.YtdifgaapdnbliaaGreatDoorB18
set_option linter.unusedSimpArgs false
set_option linter.unusedVariables false
namespace Ab
open Go Go.RowKit Go.Proofs
attribute [local irreducible] aws awp aw1 Og Om Oc Oa Ogd Ov Ot awd aw1d awh aw1h Ogh Ohd awl Ogl Ohl awv Ogv Ohv QThen QBlock QFn QFnM QRo QBe ACode AYield
/-- the words of record i of a slice -/
def recAt (rv : AV) (i : Int) (σ : Heap) : Option AV := match rv with
  | .pl 3 l => if 0 ≤ i ∧ i.toNat < l.length then (l[i.toNat]?).bind (fun x => if x.cells.length = 3 then x.cells[2]? else none) else none
  | .arr 3 r 0 len => if 0 ≤ i ∧ i.toNat < len then (match σ[r]? with
    | some (.cells cs) => if i.toNat * 3 + 3 ≤ cs.length then cs[i.toNat * 3 + 2]? else none
    | _ => none) else none
  | _ => none
/-- what a desk has at a place -/
def deskAt (rv : AV) (es : List (AV × AV)) (k n : Int) (σ : Heap) : Option (AV × Bool) :=
  match afind [1, 1] [.int .i64 k, .int .i64 n] es 0 with
  | some none => some (.nils, false)
  | some (some (_, .int .i64 i)) => (recAt rv i σ).map (·, true)
  | _ => none
theorem got_calls (σ : Heap) (d m : Nat) (rv : AV) (es : List (AV × AV)) (h1 : σ[d]? = some (.cells [rv, .mp m])) (h2 : σ[m]? = some (.map es)) (k n : Int) (w : AV) (is : Bool) (h : deskAt rv es k n σ = some (w, is)) :
    ACalls Tryz.prog 131 [.ptr d 0, .agg [.int .i64 k, .int .i64 n]] σ (fun v σ' => v = .tup [w, .bool is] ∧ ∃ g, σ' = σ ++ g) := by
  have hd := (List.getElem?_eq_some_iff.1 h1).1
  have hm := (List.getElem?_eq_some_iff.1 h2).1
  have h1' : ∀ g : Heap, (σ ++ g)[d]? = some (.cells [rv, .mp m]) := fun g => by rw [List.getElem?_append_left hd]; exact h1
  have h2' : ∀ g : Heap, (σ ++ g)[m]? = some (.map es) := fun g => by rw [List.getElem?_append_left hm]; exact h2
  refine acalls_fn Tryz.func131 rfl (enters_fn Tryz.func131 (by decide) rfl) ?_
  unfold deskAt at h
  split at h
  · rename_i hf
    simp only [Option.some.injEq, Prod.mk.injEq] at h
    obtain ⟨rfl, rfl⟩ := h
    simp [Tryz.ntmps131]
    refine ACode_draw0 mixed (by kernel_rfl) ?_
    simp [h1', h2', alookup, hf]
  · rename_i j i hf
    rw [Option.map_eq_some_iff] at h
    obtain ⟨w', hw, h⟩ := h
    simp only [Prod.mk.injEq] at h
    obtain ⟨rfl, rfl⟩ := h
    unfold recAt at hw
    split at hw
    · rename_i l
      split at hw
      · rename_i hi
        rw [Option.bind_eq_some_iff] at hw
        obtain ⟨x, hx, hw⟩ := hw
        split at hw
        · rename_i hx3
          obtain ⟨l3, rfl⟩ : ∃ l3, x = .agg l3 := by cases x <;> simp [AV.cells] at hx3 <;> exact ⟨_, rfl⟩
          simp only [AV.cells] at hx3 hw
          have hil : i < (l.length : Int) := by omega
          have hx2 : ∀ h : i.toNat < l.length, l[i.toNat]'h = .agg l3 := fun h => by
            rw [List.getElem?_eq_getElem h] at hx
            exact Option.some.inj hx
          simp [Tryz.ntmps131]
          refine ACode_draw0 mixed (by kernel_rfl) ?_
          have hw2 : ∀ h : 2 < l3.length, l3[2]'h = w' := fun h => by
            rw [List.getElem?_eq_getElem h] at hw
            exact Option.some.inj hw
          simp [h1', h2', alookup, hf, hi.1, hil, hx, hx2, hx3, hw, hw2]
        · cases hw
      · cases hw
    · rename_i r len
      split at hw
      · rename_i hi
        split at hw
        · rename_i cs hr
          split at hw
          · rename_i hc
            have hil : i < (len : Int) := by omega
            have hr' : ∀ g : Heap, (σ ++ g)[r]? = some (.cells cs) := fun g => by rw [List.getElem?_append_left (List.getElem?_eq_some_iff.1 hr).1]; exact hr
            have hc2 : i.toNat * 3 + 2 + 1 ≤ cs.length := by omega
            simp [Tryz.ntmps131]
            refine ACode_draw0 mixed (by kernel_rfl) ?_
            simp [h1', h2', alookup, hf, hi.1, hil, hr', hc2, hw]
          · cases hw
        · cases hw
      · cases hw
    · cases hw
  · cases h
theorem get_more {σ g : Heap} {r : Nat} {o : AObj} (h : σ[r]? = some o) : (σ ++ g)[r]? = some o := by
  rw [List.getElem?_append_left (List.getElem?_eq_some_iff.1 h).1]; exact h
theorem recAt_frame {rv : AV} {i : Int} {σ g : Heap} {w : AV} (h : recAt rv i σ = some w) : recAt rv i (σ ++ g) = some w := by
  unfold recAt at h ⊢
  split at h
  · exact h
  · split at h
    · rename_i hi
      rw [if_pos hi]
      split at h
      · rename_i cs hr
        rw [get_more hr]
        exact h
      · cases h
    · cases h
  · cases h
theorem deskAt_frame {rv : AV} {es : List (AV × AV)} {k n : Int} {σ g : Heap} {w : AV × Bool} (h : deskAt rv es k n σ = some w) : deskAt rv es k n (σ ++ g) = some w := by
  unfold deskAt at h ⊢
  split at h
  · exact h
  · rw [Option.map_eq_some_iff] at h
    obtain ⟨x, hx, h⟩ := h
    rw [recAt_frame hx, Option.map_some, h]
  · cases h
theorem state_calls (σ : Heap) (d m : Nat) (rv : AV) (es : List (AV × AV)) (h1 : σ[d]? = some (.cells [rv, .mp m])) (h2 : σ[m]? = some (.map es)) (k n : Int) (w : AV) (is : Bool) (h : deskAt rv es k n σ = some (w, is)) (hw : w.one = true)
    (hz : ∀ S : Heap, Fz σ.length S w w) : ACalls Tryz.prog 138 [.ptr d 0, .agg [.int .i64 k, .int .i64 n]] σ (fun v σ' => v = .agg [.bool is, w] ∧ σ' = σ) := by
  have hc : w.cells = [w] := by cases w <;> first | rfl | (simp [AV.one] at hw)
  have hr : w.known = true := by cases w <;> first | rfl | (simp [AV.one] at hw)
  refine ACalls.forget (ACalls.mono (R := fun v σ' => v = .agg [.bool is, w] ∧ ∃ g, σ' = σ ++ g) ?_ fun v σ' => ?_)
  · refine acalls_fn Tryz.func138 rfl (enters_fn Tryz.func138 (by decide) rfl) ?_
    simp [Tryz.ntmps138]
    refine StA.of ((got_calls (σ ++ [.cells [.int .i64 k, .int .i64 n], .cells [.bool false, .nils]]) d m rv es (get_more h1) (get_more h2) k n w is (deskAt_frame h)).mono ?_)
    rintro v σ' ⟨rfl, g, rfl⟩
    clear hz h
    cases w <;> first | (simp [AV.one] at hw; done) | simp
  · rintro ⟨rfl, g, rfl⟩
    have hf : Fz σ.length (σ ++ g) (.agg [.bool is, w]) (.agg [.bool is, w]) := .agg _ _ rfl fun i x y hx hy => by
      rw [hx] at hy
      obtain rfl := Option.some.inj hy
      match i, hx with
      | 0, hx => simp at hx; subst hx; exact .bool _
      | 1, hx => simp at hx; subst hx; exact hz _
      | i + 2, hx => simp at hx
    exact ⟨g, _, rfl, hf, rfl, rfl⟩
end Ab

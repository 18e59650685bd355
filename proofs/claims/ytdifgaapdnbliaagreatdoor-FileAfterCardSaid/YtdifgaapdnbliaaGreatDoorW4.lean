/-
  WORDS OF THE CALL's OWN: as they are, as many; read as what they hold.
-/
import Derived.Test.YtdifgaapdnbliaaGreatDoorR3
set_option linter.unusedSimpArgs false
set_option linter.unusedVariables false
namespace Ab
open Go Go.RowKit Go.Proofs
/-- as they are -/
def asIs (ws : List (List UInt8)) (xs : List AV) : Prop := xs = strs ws
/-- as many -/
def asMany (ws : List (List UInt8)) (xs : List AV) : Prop := xs.length = ws.length
theorem fz_strs0 {τ : Heap} {q : Nat} (ws : List (List UInt8)) (h : τ[q]? = some (.cells (strs ws))) : Fz 0 τ (.arr 1 q 0 ws.length) (wordsAV ws) := by
  have hl : ws.length = (strs ws).length := by simp [strs]
  rw [hl]
  refine Fz.arr 1 q 0 (strs ws) (strs ws) (fun i _ => (strs ws).getD i .any) (Nat.zero_le _) h (fun i x hx => ?_) (fun i x hx j y hy => ?_)
  · have hx' := hx
    simp only [strs, List.getElem?_map, Option.map_eq_some_iff] at hx
    obtain ⟨s, hs, rfl⟩ := hx
    refine ⟨rfl, fun j y hy => ?_⟩
    match j, hy with
    | 0, hy =>
      simp [AV.cells] at hy; subst hy
      refine ⟨rfl, ?_⟩
      rw [Nat.zero_add, Nat.mul_one, Nat.add_zero, List.getD_eq_getElem?_getD, hx']
      rfl
    | j + 1, hy => simp [AV.cells] at hy
  · have hx' := hx
    simp only [strs, List.getElem?_map, Option.map_eq_some_iff] at hx
    obtain ⟨s, hs, rfl⟩ := hx
    match j, hy with
    | 0, hy =>
      simp [AV.cells] at hy; subst hy
      rw [List.getD_eq_getElem?_getD, hx']
      exact .str _
    | j + 1, hy => simp [AV.cells] at hy
theorem set_behind {σ g : Heap} {q : Nat} (h : σ.length ≤ q) (o : AObj) : (σ ++ g).set q o = σ ++ g.set (q - σ.length) o := by
  rw [List.set_append_right _ _ h]
end Ab

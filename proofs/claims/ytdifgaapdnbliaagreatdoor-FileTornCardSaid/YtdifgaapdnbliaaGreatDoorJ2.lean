/-
  WHAT IS KNOWN OF CALLS, with whatever objects more: the state at a place.
-/
import Derived.Test.YtdifgaapdnbliaaGreatDoorJ1
import Derived.Test.YtdifgaapdnbliaaGreatDoorK4
import Derived.Test.YtdifgaapdnbliaaGreatDoorB18
set_option linter.unusedSimpArgs false
set_option linter.unusedVariables false
namespace Ab
open Go Go.RowKit Go.Proofs
attribute [local irreducible] aws awp aw1 Og Om Oc Oa Ogd Ov Ot awd aw1d awh aw1h Ogh Ohd awl Ogl Ohl awv Ogv Ohv QThen QBlock QFn QFnM QRo QBe ACode AYield
theorem fzB_mono {n m : Nat} (hnm : n ≤ m) : ∀ (k : Nat) (v : AV), fzB n k v = true → fzB m k v = true := by
  intro k
  induction k with
  | zero => intro v h; cases h
  | succ k ih =>
    intro v h
    cases v <;> simp only [fzB, decide_eq_true_eq, Bool.false_eq_true] at h ⊢
    case ptr => omega
    case yld => omega
    case arr => omega
    case pl l => exact List.all_eq_true.2 fun x hx => List.all_eq_true.2 fun y hy => ih _ (List.all_eq_true.1 (List.all_eq_true.1 h x hx) y hy)
    case agg l => exact List.all_eq_true.2 fun x hx => ih _ (List.all_eq_true.1 h x hx)
    case tup l => exact List.all_eq_true.2 fun x hx => ih _ (List.all_eq_true.1 h x hx)
def stateF : FOrc := fun f args σ => if f = 138 then (match args with
  | [.ptr d o, .agg [.int .i64 k, .int .i64 n]] => if o = 0 then (match σ[d]? with
    | some (.cells [rv, .mp m]) => (match σ[m]? with
      | some (.map es) => (match deskAt rv es k n σ with
        | some (w, is) => if w.one = true ∧ fzB σ.length 20 w = true then some (.agg [.bool is, w]) else none
        | none => none)
      | _ => none)
    | _ => none) else none
  | _ => none) else none
theorem stateF_good : stateF.Good Tryz.prog := by
  intro f args σ v hf g
  unfold stateF at hf
  split at hf
  · rename_i he
    subst he
    split at hf
    · rename_i d o k n
      split at hf
      · rename_i ho
        subst ho
        split at hf
        · rename_i rv m h1
          split at hf
          · rename_i es h2
            split at hf
            · rename_i w is h3
              split at hf
              · rename_i hc
                simp only [Option.some.injEq] at hf
                subst hf
                exact state_calls (σ ++ g) d m rv es (get_more h1) (get_more h2) k n w is (deskAt_frame h3) hc.1 fun S => fzB_sound 20 _ _ (fzB_mono (by simp) _ _ hc.2)
              · cases hf
            · cases hf
          · cases hf
        · cases hf
      · cases hf
    · cases hf
  · cases hf
def ofF (F : FOrc) : Orc := fun f args σ => (F f args σ).map (·, σ)
theorem ofF_good {F : FOrc} (h : F.Good Tryz.prog) : (ofF F).Good Tryz.prog := by
  intro f args σ v σ' hf
  unfold ofF at hf
  rw [Option.map_eq_some_iff] at hf
  obtain ⟨v', h1, h2⟩ := hf
  simp only [Prod.mk.injEq] at h2
  obtain ⟨rfl, rfl⟩ := h2
  have := h f args σ v' h1 []
  simpa using this
abbrev lawO : Orc := orO awakeO (ofF stateF)
theorem lawO_good : lawO.Good Tryz.prog := orO_good awakeO_good (ofF_good stateF_good)
end Ab

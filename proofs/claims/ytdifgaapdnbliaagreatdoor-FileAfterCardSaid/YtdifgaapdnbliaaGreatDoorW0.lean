/-
  THE WALK CUT: what holds behind a piece of code is said once, and the rest is walked once, however many ways lead there.
-/
import Derived.Test.YtdifgaapdnbliaaGreatDoorB8
set_option linter.unusedSimpArgs false
set_option linter.unusedVariables false
set_option linter.unusedSectionVars false
namespace Ab
open Go Go.RowKit
variable [Mode]
variable {P : Program}
theorem Cs.mono {b : Bool} {X Y X' Y' : Prop} (h : Cs b X Y) (hx : X → X') (hy : Y → Y') : Cs b X' Y' := ⟨fun e => hx (h.1 e), fun e => hy (h.2 e)⟩
theorem AYield.mono0 {r : Nat} {args : List AV} {σ : Heap} {K K' : AV → Heap → Prop} (h : AYield P r args σ K) (hk : ∀ v s, K v s → K' v s) : AYield P r args σ K' := by
  unfold AYield at h ⊢
  split at h
  · refine ⟨h.1, h.2.mono fun e env σ hq => ?_⟩
    cases e with
    | normal =>
      simp only [QBegin] at hq ⊢
      split at hq
      · refine ⟨hq.1, hq.2.mono fun e env σ hr => ?_⟩
        cases e with
        | normal =>
          simp only [QRound] at hr ⊢
          split at hr
          · exact hk _ _ hr
          · exact hr.elim
        | _ => exact hr
      · exact hq.elim
    | _ => exact hq
  · exact h.elim
theorem aw1_mono {o : Oper} {K K' : AV → Heap → Prop} {env : Env} {σ : Heap} (h : aw1 P o K env σ) (hk : ∀ v s, K v s → K' v s) : aw1 P o K' env σ := by
  unfold aw1 at h ⊢
  split at h
  · split at h
    · exact h.mono hk
    · exact h.mono0 hk
    · exact h.elim
  · split at h
    · exact hk _ _ h
    · exact h.elim
theorem aws_mono {ops : List Oper} : ∀ {l : List Oper} {K K' : Env → Heap → Prop} {env : Env} {σ : Heap}, aws P ops l K env σ → (∀ env s, K env s → K' env s) → aws P ops l K' env σ := by
  intro l
  induction l with
  | nil => intro K K' env σ h hk; exact hk _ _ h
  | cons o rest ih =>
    intro K K' env σ h hk
    unfold aws at h ⊢
    split at h
    · exact aw1_mono h fun v s h => ih h hk
    · exact h.mono (fun h => aw1_mono h fun v s h => ih h hk) fun h => ih h hk
    · exact h.elim
theorem awp_mono {rd : Option Nat} (c : Code) : ∀ {Q Q' : Exit → Env → Heap → Prop} {env : Env} {σ : Heap}, awp P rd c Q env σ → (∀ e env s, Q e env s → Q' e env s) → awp P rd c Q' env σ := by
  induction c with
  | skip => intro Q Q' env σ h hq; exact hq _ _ _ h
  | label l => intro Q Q' env σ h hq; exact hq _ _ _ h
  | exit id => intro Q Q' env σ h hq; exact hq _ _ _ h
  | goto l => intro Q Q' env σ h hq; exact hq _ _ _ h
  | ret => intro Q Q' env σ h hq; exact hq _ _ _ h
  | region id ops draw =>
    intro Q Q' env σ h hq
    cases draw with
    | false => exact aws_mono (l := ops.toList) h fun env s h => hq _ _ _ h
    | true => exact ACode.mono h hq
  | seq x y ihx ihy =>
    intro Q Q' env σ h hq
    refine ihx (Q := QThen (awp P rd y Q) Q) h fun e env s h => ?_
    cases e with
    | normal => exact ihy h hq
    | _ => exact hq _ _ _ h
  | cond t x y ihx ihy =>
    intro Q Q' env σ h hq
    unfold awp at h ⊢
    split at h
    · exact h.mono (fun h => ihx h hq) fun h => ihy h hq
    · exact h.elim
  | block id x ih =>
    intro Q Q' env σ h hq
    refine ih (Q := QBlock id Q) h fun e env s h => ?_
    cases e with
    | exit id' =>
      simp only [QBlock] at h ⊢
      split at h
      · rename_i e; rw [if_pos e]; exact hq _ _ _ h
      · rename_i e; rw [if_neg e]; exact hq _ _ _ h
    | _ => exact hq _ _ _ h
  | _ => intro Q Q' env σ h hq; exact ACode.mono h hq
/-- **THE CUT.** -/
theorem awp_cut {rd : Option Nat} {c : Code} (I : Env → Heap → Prop) {N : Env → Heap → Prop} {Q : Exit → Env → Heap → Prop} {env : Env} {σ : Heap} (head : awp P rd c (QThen I Q) env σ) (tail : ∀ env σ, I env σ → N env σ) : awp P rd c (QThen N Q) env σ :=
  awp_mono c head fun e env s h => by
    cases e with
    | normal => exact tail _ _ h
    | _ => exact h
end Ab

/-
  BETWEEN THE KIT's CONTRACTS AND OURS: a call for which all blocks that lie there are kept.
-/
import Derived.Test.YtdifgaapdnbliaaGreatDoorI1
import Derived.Test.YtdifgaapdnbliaaGreatDoorB16
set_option linter.unusedSimpArgs false
set_option linter.unusedVariables false
namespace Ab
open Go Go.RowKit Go.Proofs
variable {P : Program}
/-- a state in which nothing is owned, and all that lies there is kept -/
structure All (C : Ctx) : Prop where
  inv : Inv C []
  blk : C.blk = []
  pers : ∀ b, b < C.w.heap.size → C.pers b
theorem APure.callsC {f : FuncId} {args : List AV} {v : AV} (hen : Enters P f) (h : APure P f args v) {C : Ctx} (hC : All C) {cargs : List Value} (hv : VRs C args cargs) :
    Calls P f cargs.toArray C.w fun e w' => (∃ c C', e = .returned c ∧ VR C' v c) ∧ Below C.w.heap.size C.w w' := by
  rcases h [] with h | h
  · refine (callsIn_wide.1 (h.2 C cargs hC.inv hv)).mono ?_
    rintro e w' ⟨c, C', av, σ', rfl, rfl, hE, hI', hv', rfl, rfl⟩
    refine ⟨⟨c, C', rfl, hv'⟩, ?_⟩
    have hb := hC.inv.base
    have hb' := hI'.base
    rw [hE.w0] at hb'
    exact ⟨hb'.os.trans hb.os.symm, hb'.tape.trans hb.tape.symm, hb'.output.trans hb.output.symm, hE.size, fun k hk => hE.keep k (hC.pers k hk)⟩
  · obtain ⟨c, C', av, σ', hr, _⟩ := h C cargs hC.inv hv
    rw [hen] at hr
    cases hr
/-- the state at a later world -/
def Ctx.to (C : Ctx) (w : World) : Ctx := { C with pers := fun b => b < w.heap.size, w }
theorem All.to {C : Ctx} (hC : All C) {w : World} (hb : Below C.w.heap.size C.w w) : All (C.to w) ∧ Ext C (C.to w) := by
  have hE := Ext.below hC.inv.plt hb (fun h => False.elim h)
  have hE2 : Ext (C.at_ w) (C.to w) := ⟨rfl, ⟨[], by simp [Ctx.at_, Ctx.to]⟩, fun b h => Nat.lt_of_lt_of_le (hC.inv.plt b h) hb.size, fun _ _ => rfl, fun _ _ h => h, Nat.le_refl _, fun _ => Nat.le_refl _⟩
  refine ⟨⟨⟨by simpa [Ctx.to] using hC.inv.len, hC.inv.glob, hC.inv.base.trans (hb.mono hC.inv.base.size), fun b h => Nat.lt_of_lt_of_le (hC.inv.plt b (hC.inv.basep b h)) hb.size, fun b h => h, fun r b o _ h => by simp at h, fun r r' b o o' _ _ h => by simp at h⟩, hC.blk, fun b h => h⟩, hE.trans hE2⟩
/-- A CONTRACT FROM A WALK in which all blocks that lie there are kept. -/
theorem APure.kitA {f : FuncId} {args : List AV} {v : AV} (hen : Enters P f) (hfz : ∀ (σ : Heap) (x : AV), x ∈ args → Fz 0 σ x x)
    (h : ∀ (C : Ctx), All C → ∀ (cargs : List Value), VRs C args cargs → Calls P f cargs.toArray C.w fun e w' => (∃ c, e = .returned c ∧ ∀ C', VR C' v c) ∧ Below C.w.heap.size C.w w') : APure P f args v := by
  intro σ
  refine .inl ⟨hen, fun C cargs hI hv => callsIn_wide.2 ?_⟩
  have hI0 := hI.base0
  have hA : All ⟨C.w0, [], fun b => b < C.w.heap.size, C.w⟩ := ⟨⟨rfl, hI.glob, hI.base, fun b hb => Nat.lt_of_lt_of_le hb hI.base.size, fun b hb => hb, fun r b o h => by simp at h, fun r r' b o o' h => by simp at h⟩, rfl, fun b hb => hb⟩
  have hE : Ext (C.frz 0 σ) ⟨C.w0, [], fun b => b < C.w.heap.size, C.w⟩ := ⟨rfl, ⟨[], by simp [Ctx.frz]⟩, fun b hb => hI0.plt b hb, fun _ _ => rfl, fun _ _ h => h, Nat.le_refl _, fun _ => Nat.le_refl _⟩
  have hv1 : VRs ⟨C.w0, [], fun b => b < C.w.heap.size, C.w⟩ args cargs := ⟨hv.len, fun i x c hx hc => ((hv.at_ i x c hx hc).frz hI (hfz σ x (List.mem_of_getElem? hx))).ext hE⟩
  refine (h _ hA cargs hv1).mono ?_
  rintro e w' ⟨⟨c, rfl, hc⟩, hb⟩
  have hE2 := Ext.below hI.plt hb (fun h => False.elim h)
  exact ⟨c, C.at_ w', v, σ, rfl, rfl, hE2, hI.below hb, hc _, rfl, rfl⟩
end Ab

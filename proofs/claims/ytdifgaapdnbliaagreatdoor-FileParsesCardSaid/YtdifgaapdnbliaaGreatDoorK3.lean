/-
  Print's contract.
-/
import Derived.Test.YtdifgaapdnbliaaGreatDoorK2
set_option linter.unusedSimpArgs false
set_option linter.unusedVariables false
namespace Ab
open Go Go.RowKit Go.Proofs
attribute [local irreducible] aws awp aw1 Og Om Oc Oa Ogd Ov Ot awd aw1d awh aw1h Ogh Ohd awl Ogl Ohl QThen QBlock QFn QFnM QRo QBe ACode AYield
theorem print_len {f : List Oyez.Rec} (h : ∀ r ∈ f, Oyez.recErr r = 0) : (Oyez.print f).length ≤ 65 * f.length := by
  induction f with
  | nil => simp [Oyez.print]
  | cons r f ih =>
    have h1 := (Oyez.recErr_place (h r (by simp))).2
    have h2 := ih fun x hx => h x (by simp [hx])
    have h3 : (Oyez.line r.kind r.number r.words).length ≤ 64 := by
      unfold Oyez.wordsErr at h1
      split at h1
      · cases h1
      · split at h1
        · cases h1
        · split at h1
          · cases h1
          · omega
    simp only [Oyez.print, List.flatMap_cons, List.length_append, List.length_cons, List.length_nil] at h2 ⊢
    omega
theorem fz_words (n : Nat) (σ : Heap) (ws : List (List UInt8)) : Fz n σ (wordsAV ws) (wordsAV ws) := .pl 1 _ fun i x hx j y hy => by
  obtain ⟨w, _, rfl⟩ : ∃ w, w ∈ ws ∧ AV.str w = x := by simpa [strs] using List.mem_of_getElem? hx
  cases j with
  | zero => simp [AV.cells] at hy; subst hy; exact .str w
  | succ j => simp [AV.cells] at hy
theorem fz_file (n : Nat) (σ : Heap) (f : List Oyez.Rec) : Fz n σ (fileAV f) (fileAV f) := .pl 3 _ fun i x hx j y hy => by
  obtain ⟨r, _, rfl⟩ : ∃ r, r ∈ f ∧ recAV r = x := by simpa using List.mem_of_getElem? hx
  match j, hy with
  | 0, hy => simp [AV.cells, recAV] at hy; subst hy; exact .int _ _
  | 1, hy => simp [AV.cells, recAV] at hy; subst hy; exact .int _ _
  | 2, hy => simp [AV.cells, recAV] at hy; subst hy; exact fz_words n σ r.words
  | j + 3, hy => simp [AV.cells, recAV] at hy
def printC (f : List Oyez.Rec) : List UInt8 × Int := if Oyez.check f = 0 then (Oyez.print f, 0) else ([], Oyez.check f)
theorem print_calls (f : List Oyez.Rec) (hf : Few f) : APure Tryz.prog 46 [fileAV f] (.tup [.str (printC f).1, .int .i64 (printC f).2]) := by
  by_cases h0 : Oyez.check f = 0
  · have hright := Oyez.check_zero h0
    have hlen : (Oyez.print f).length ≤ 2 ^ 40 := by
      have := print_len hright.recs
      have := hright.len
      omega
    unfold printC
    rw [if_pos h0]
    by_cases hn : f = []
    · subst hn
      refine APure.kitA enters46 (fun σ x hx => ?_) fun C hC cargs hv => ?_
      · simp only [List.mem_singleton] at hx
        subst hx
        exact fz_file 0 σ []
      · obtain ⟨c, cs, rfl, h1, h2⟩ := hv.inv
        obtain rfl := h2.of_nil
        have hck := (check_calls [] hf).callsC enters51 hC hv
        obtain ⟨A, cap, rfl, hcap, hrow⟩ := h1.pl_inv
        refine (print_kit0 C.w A cap (hck.mono ?_)).mono ?_
        · rintro e w' ⟨⟨c, C', rfl, hc⟩, hb⟩
          rw [hc.int_inv, h0]
          exact ⟨rfl, hb⟩
        · rintro e w' ⟨rfl, hb⟩
          exact ⟨⟨_, rfl, fun C' => .tup _ [.string ⟨⟨[]⟩⟩, .int .i64 0] rfl (VRs.cons (.str _) (.cons (.int _ _) (.nil _))).at_⟩, hb⟩
    · refine APure.kitA enters46 (fun σ x hx => ?_) fun C hC cargs hv => ?_
      · simp only [List.mem_singleton] at hx
        subst hx
        exact fz_file 0 σ f
      · obtain ⟨c, cs, rfl, h1, h2⟩ := hv.inv
        obtain rfl := h2.of_nil
        have hck := (check_calls f hf).callsC enters51 hC hv
        obtain ⟨A, cap, rfl, hcap, hrow⟩ := h1.pl_inv
        rw [List.length_map] at hcap hck
        rcases hrow with hrow | ⟨b, o, rfl, hrow⟩
        · simp at hrow; exact absurd hrow hn
        · have hck2 : Calls Tryz.prog 51 #[.slice (some ⟨b, o, none⟩) f.length cap] C.w fun e w' => e = .returned (.int .i64 0) ∧ Below C.w.heap.size C.w w' := by
            refine hck.mono ?_
            rintro e w' ⟨⟨c, C', rfl, hc⟩, hb⟩
            rw [hc.int_inv, h0]
            exact ⟨rfl, hb⟩
          have := print_kit f hf h0 C hC cap b o hrow hcap hlen hck2
          rw [List.length_map]
          refine this.mono ?_
          rintro e w' ⟨rfl, hb⟩
          exact ⟨⟨_, rfl, fun C' => .tup _ [.string ⟨⟨Oyez.print f⟩⟩, .int .i64 0] rfl (VRs.cons (.str _) (.cons (.int _ _) (.nil _))).at_⟩, hb⟩
  · unfold printC
    rw [if_neg h0]
    intro σ
    refine acalls_fn Tryz.func46 rfl enters46 ?_
    simp [Tryz.ntmps46]
    refine (check_calls f hf).use ?_
    simp [h0]
end Ab

/-
  ROWS WHOSE ARGUMENTS ARE LISTS OF CHANGES: read as what they hold.
  FileAfter: for all lists of changes the call returns true, and all that is passed reads afterwards as it read before. Conditions: none beyond the row's own (the listed variables are laid as the program's text lays them: tied by the card).
-/
import Derived.Test.YtdifgaapdnbliaaGreatDoorQ5a
import Derived.Test.YtdifgaapdnbliaaGreatDoorU2
import Derived.Test.YtdifgaapdnbliaaGreatDoorX11
import Derived.Test.YtdifgaapdnbliaaGreatDoorQ6f
set_option linter.unusedSimpArgs false
set_option linter.unusedVariables false
namespace Ab
open Go Go.RowKit Go.Proofs Go.ChangeShapes Go.WideShapes Go.ChangeAt
theorem trod_struct6 {H : Type} {enc : TypeId × Value → H} {P : Program} {w : World} {base : Nat} {spare : Nat → Bool} {held : Bool} {t : TypeId} {f0 f1 f2 f3 f4 f5 : Field} {fuel : Nat} {cs : List Value} {x : DataW H × List MemPlace} (ht : P.underlying t = some (.struct #[f0, f1, f2, f3, f4, f5])) (h : DataW.trod enc P w base spare held fuel t cs = some x) :
    ∃ y0 y1 y2 y3 y4 y5 n, DataW.trod enc P w base spare held n f0.type ((cs.drop f0.offset).take (P.cellsOf f0.type)) = some y0 ∧ DataW.trod enc P w base spare held n f1.type ((cs.drop f1.offset).take (P.cellsOf f1.type)) = some y1 ∧
      DataW.trod enc P w base spare held n f2.type ((cs.drop f2.offset).take (P.cellsOf f2.type)) = some y2 ∧ DataW.trod enc P w base spare held n f3.type ((cs.drop f3.offset).take (P.cellsOf f3.type)) = some y3 ∧
      DataW.trod enc P w base spare held n f4.type ((cs.drop f4.offset).take (P.cellsOf f4.type)) = some y4 ∧ DataW.trod enc P w base spare held n f5.type ((cs.drop f5.offset).take (P.cellsOf f5.type)) = some y5 := by
  obtain ⟨xs, n, _, rfl, hl, hlen, hf⟩ := DataW.trod_struct ht h
  match xs, hlen with
  | [y0, y1, y2, y3, y4, y5], _ => exact ⟨y0, y1, y2, y3, y4, y5, n, by simpa using hf 0 f0 rfl, by simpa using hf 1 f1 rfl, by simpa using hf 2 f2 rfl, by simpa using hf 3 f3 rfl, by simpa using hf 4 f4 rfl, by simpa using hf 5 f5 rfl⟩
set_option maxRecDepth 100000 in
/-- changes -/
theorem open_chgs {H : Type} {enc : TypeId × Value → H} {W : World} {sp : Nat → Bool} {held : Bool} {v : Value} {d : DataW H} {p : List MemPlace} (hval : Value.okWide Tryz.prog W .any 0 62 v) (hd : DataW.Trod enc Tryz.prog W 0 sp held 62 v d p) :
    ∃ l : List Oyez.Chg, l.length ≤ 9223372036854775807 ∧ (∀ c ∈ l, c.old.length ≤ 9223372036854775807 ∧ c.new.length ≤ 9223372036854775807) ∧ ∀ C : Ctx, C.w = W → (∀ b, b < W.heap.size → C.pers b) → VR C (chgsAV l) v := by
  obtain ⟨a, len, cap, rfl⟩ := okWide_slice Tryz.underlying62 hval
  obtain ⟨fuel, hf⟩ := hd
  obtain ⟨v', l, he, h1, h3, h2⟩ := open_list (e := 74) (k := 6) chgAV (fun c => c.old.length ≤ 9223372036854775807 ∧ c.new.length ≤ 9223372036854775807) Tryz.underlying62 (by kernel_rfl) (by decide) (fun n cs y hl hy => by
    obtain ⟨y0, y1, y2, y3, y4, y5, m, g0, g1, g2, g3, g4, g5⟩ := trod_struct6 Tryz.underlying74 hy
    match cs, hl with
    | [c0, c1, c2, c3, c4, c5], _ =>
      obtain ⟨n0, e0, _, _⟩ := DataW.trod_int (k := .i64) Tryz.underlying52 g0
      obtain ⟨n1, e1, _, _⟩ := DataW.trod_int (k := .i64) Tryz.underlying3 g1
      obtain ⟨b2, e2, _⟩ := DataW.trod_bool Tryz.underlying4 g2
      obtain ⟨b3, e3, _⟩ := DataW.trod_bool Tryz.underlying4 g3
      obtain ⟨v4, ws, e4, w4, _, r4⟩ := open_strs g4
      obtain ⟨v5, us, e5, w5, _, r5⟩ := open_strs g5
      have e0' : c0 = .int .i64 n0 := by
        have : ([c0, c1, c2, c3, c4, c5].drop 0).take 1 = [Value.int .i64 n0] := e0
        simpa using this
      have e1' : c1 = .int .i64 n1 := by
        have : ([c0, c1, c2, c3, c4, c5].drop 1).take 1 = [Value.int .i64 n1] := e1
        simpa using this
      have e2' : c2 = .bool b2 := by
        have : ([c0, c1, c2, c3, c4, c5].drop 2).take 1 = [Value.bool b2] := e2
        simpa using this
      have e3' : c3 = .bool b3 := by
        have : ([c0, c1, c2, c3, c4, c5].drop 3).take 1 = [Value.bool b3] := e3
        simpa using this
      have e4' : c4 = v4 := by
        have : ([c0, c1, c2, c3, c4, c5].drop 4).take 1 = [v4] := e4
        simpa using this
      have e5' : c5 = v5 := by
        have : ([c0, c1, c2, c3, c4, c5].drop 5).take 1 = [v5] := e5
        simpa using this
      subst e0'; subst e1'; subst e2'; subst e3'; subst e4'; subst e5'
      refine ⟨⟨n0, n1, b2, b3, ws, us⟩, ⟨rfl, fun j z c hz hc => ?_⟩, w4, w5⟩
      match j, hz, hc with
      | 0, hz, hc => simp [AV.cells] at hz hc; subst hz; subst hc; exact ⟨rfl, fun C _ _ => .int _ _⟩
      | 1, hz, hc => simp [AV.cells] at hz hc; subst hz; subst hc; exact ⟨rfl, fun C _ _ => .int _ _⟩
      | 2, hz, hc => simp [AV.cells] at hz hc; subst hz; subst hc; exact ⟨rfl, fun C _ _ => .bool _⟩
      | 3, hz, hc => simp [AV.cells] at hz hc; subst hz; subst hc; exact ⟨rfl, fun C _ _ => .bool _⟩
      | 4, hz, hc =>
        have hz' : z = wordsAV ws := by simpa [chgAV, AV.cells] using hz.symm
        simp at hc
        subst hz'; subst hc
        exact ⟨rfl, r4⟩
      | 5, hz, hc =>
        have hz' : z = wordsAV us := by simpa [chgAV, AV.cells] using hz.symm
        simp at hc
        subst hz'; subst hc
        exact ⟨rfl, r5⟩
      | j + 6, hz, _ => simp [AV.cells] at hz) hf
  simp [Value.cells] at he
  subst he
  exact ⟨l, h1, h3, h2⟩
end Ab
namespace Go.Proofs.YtdifgaapdnbliaaGreatDoor.fileAfter
open Go Ab Go.ChangeShapes Go.WideShapes Go.ChangeAt Go.RowKit Go.ChangeMaps
theorem own : ownKnob Tryz.prog.godebug = none := by kernel_rfl
theorem enters : Enters Tryz.prog 6 := enters_fn Tryz.func6 (by decide) rfl
set_option maxRecDepth 100000 in
theorem lifted (os : Os) (started : os.Started) (H : Type) (enc : TypeId × Value → H) :
    ReturnsInHanded {} Tryz.checked os 6 .any (fun w args => (Rows.fileAfterSpec.pre enc Tryz.prog Tryz.f6 Rows.fileAfterRow.domain false w args ∧ laidMetH Tryz.prog Rows.fileAfterRow.laid w) ∧ sizedMet enc Tryz.prog Tryz.f6 (OpenSpec.ofChange Rows.fileAfterSpec) false w args)
      (Rows.fileAfterSpec.post enc Tryz.prog Tryz.f6 false true false false) := by
  refine returnsInHanded_of_change_and (C := Tryz.checked) (X := fun w _ => laidMetH Tryz.prog Rows.fileAfterRow.laid w) (fun _ _ _ hh h => h.of_heap hh) own started (by kernel_rfl) Tryz.func6
    (ChangeSpec.witness_shaped (enc := enc) (C := Tryz.checked) (os := os) (X := fun w _ => laidMetH Tryz.prog Rows.fileAfterRow.laid w) false (World.laidAll Tryz.prog os Rows.fileAfterRow.laid) #[.slice none 0 0, .slice none 0 0] 8 (World.laidAll_os _ _ _)
      (World.shaped_of_ZipB (by kernel_rfl) (by kernel_rfl)) (by kernel_rfl) (by kernel_rfl) (by kernel_rfl)
      (by rw [MakeChecks.laidMetH_plain _ _ _ (by kernel_rfl)]; exact laidMet_laidAll _ (by kernel_rfl) (by kernel_rfl))) ?_
  intro W base args ds gs before hval0 hW _ _ hL _
  have hval : ∀ (j : Nat) t v, Tryz.f6.params[j]? = some t → args[j]? = some v → Value.okWide Tryz.prog W .any base t v := hval0
  have hW' := hW
  obtain ⟨p, q, hA0, hV, rfl, _, _⟩ := hW
  have hA : DataW.TrodAll enc Tryz.prog W 0 (fun _ => true) true Tryz.f6.params.toList args.toList ds p := hA0
  rw [Tryz.params6] at hA hval
  obtain ⟨v0, v1, d0, d1, p0, p1, rfl, rfl, rfl, h0, h1⟩ := trodAll_two hA
  obtain ⟨rfl, rfl⟩ := trodVars_none hV
  obtain ⟨a, la, wa, ra⟩ := open_chgs (hval 0 62 v0 rfl rfl) h0
  obtain ⟨b, lb, wb, rb⟩ := open_chgs (hval 1 62 v1 rfl rfl) h1
  have hlt0 : ∀ x ∈ p0, x.block < W.heap.size := fun x hx => hW'.lt x (by simp [hx])
  have hlt1 : ∀ x ∈ p1, x.block < W.heap.size := fun x hx => hW'.lt x (by simp [hx])
  rw [MakeChecks.laidMetH_plain _ _ _ (by kernel_rfl)] at hL
  obtain ⟨ps, hL, _⟩ := hL
  have hG : GoodW W := goodW_of hL
  refine (APure.law (cargs := [v0, v1]) enters (after6_calls a b la lb wa wb) hG fun C hC hp => vrs_cons (ra C hC hp) (vrs_cons (rb C hC hp) (.nil _))).mono fun e W' ⟨he, hb⟩ => ?_
  subst he
  exact ⟨_, rfl, _, _, _, _, _, _, hW', trodAll_mk1 (shut_bool Tryz.underlying4 true), trodAll_mk2 (Below.trod laidOut (by kernel_rfl) (of_decide_eq_true (by kernel_rfl)) h0 hb hlt0) (Below.trod laidOut (by kernel_rfl) (of_decide_eq_true (by kernel_rfl)) h1 hb hlt1), rfl, hb.frame _, fun h => by cases h⟩
theorem said : Rows.FileAfterSaid :=
  OpenClaim.holds_of_wide 6 Tryz.f6 rfl rfl rfl rfl rfl rfl rfl ⟨rfl, rfl, rfl, rfl, rfl⟩ rfl rfl rfl rfl rfl (by kernel_rfl) Tryz.func6 facts
    (of_decide_eq_true (by kernel_rfl)) (by unfold Func.isWrapper; first | (rw [if_pos (by decide +kernel)]; kernel_rfl) | (rw [if_neg (by decide +kernel)]; exact ⟨rfl, rfl⟩))
    (fun os started H enc _ => lifted os started H enc)
theorem plain (f : FuncId) (fn : Func) (hf : Tryz.pinned.checked.prog.funcNamed "oyez/oyezlaw11.FileAfter" = some f) (hfn : Tryz.pinned.checked.prog.funcs[f]? = some fn) :
    true = Tryz.pinned.checked.prog.looks [] ∧ ∀ (j : Nat) t, fn.params[j]? = some t → Tryz.pinned.checked.prog.wantsStandIn t = false := by
  obtain rfl : f = 6 := Option.some.inj ((show Tryz.prog.funcNamed "oyez/oyezlaw11.FileAfter" = some 6 by kernel_rfl).symm.trans hf) |>.symm
  obtain rfl : fn = Tryz.f6 := (Option.some.inj (Tryz.func6.symm.trans hfn)).symm
  refine ⟨by kernel_rfl, fun j t ht => ?_⟩
  rw [Tryz.params6] at ht
  obtain rfl : t = 62 := by simpa using Array.mem_of_getElem? ht
  exact (show Tryz.prog.wantsStandIn 62 = false by kernel_rfl)
theorem card : Rows.FileAfterCardSaid :=
  Claim7.holds_tied_plain_at .later [] _ _ _ _ said (fun _ h => by cases h) (by kernel_rfl) (fun _ h => by cases h) fileAfter_row_tie rfl ⟨rfl, rfl⟩ (by kernel_rfl) rfl plain (by kernel_rfl)
end Go.Proofs.YtdifgaapdnbliaaGreatDoor.fileAfter

/-
  FileChanges: the walk.
-/
import Derived.Test.YtdifgaapdnbliaaGreatDoorR25
import Derived.Test.YtdifgaapdnbliaaGreatDoorR41
import Derived.Test.YtdifgaapdnbliaaGreatDoorR40
import Derived.Test.YtdifgaapdnbliaaGreatDoorR42
set_option linter.unusedSimpArgs false
set_option linter.unusedVariables false
set_option linter.unusedSectionVars false
namespace Ab
open Go Go.RowKit Go.Proofs
attribute [local irreducible] aws awp aw1 Og Om Oc Oa Ogd Ov Ot awd aw1d awh aw1h Ogh Ohd awl Ogl Ohl awv Ogv Ohv QThen QBlock QFn QFnM QRo QBe ACode AYield
theorem fewC_of {l : List Oyez.Chg} (h : manyB l = false) : l.length ≤ 90 ∧ ∀ c ∈ l, (c.old.length ≤ 10 ∧ tot1 c.old ≤ 2 ^ 20) ∧ c.new.length ≤ 10 ∧ tot1 c.new ≤ 2 ^ 20 := by
  unfold manyB at h
  rw [Bool.or_eq_false_iff] at h
  refine ⟨by simpa using h.2, fun c hc => ?_⟩
  have hq : (longB c.old || longB c.new) = false := by
    cases hq : (longB c.old || longB c.new) with
    | false => rfl
    | true => exact absurd (List.any_eq_true.2 ⟨c, hc, hq⟩) (by rw [h.1]; simp)
  rw [Bool.or_eq_false_iff] at hq
  exact ⟨longB_few hq.1, longB_few hq.2⟩
theorem back_words (l : List Oyez.Chg) (h : ∀ c ∈ l, c.old.length ≤ 10 ∧ c.new.length ≤ 10) : (backR l).1.length ≤ l.length ∧ ∀ c ∈ (backR l).1, c.old.length ≤ 10 ∧ c.new.length ≤ 10 := by
  unfold backR
  split
  · exact ⟨Nat.zero_le _, fun c hc => by simp at hc⟩
  · refine ⟨by unfold Oyez.back; simp, fun c hc => ?_⟩
    unfold Oyez.back at hc
    obtain ⟨d, hd, rfl⟩ := List.mem_map.1 hc
    exact ⟨(h d hd).2, (h d hd).1⟩
theorem make_words (l : List Oyez.Chg) : ∀ (f : List Oyez.Rec), (∀ r ∈ f, r.words.length ≤ 10) → (∀ c ∈ l, c.old.length ≤ 10 ∧ c.new.length ≤ 10) → ∀ r ∈ Oyez.make f l, r.words.length ≤ 10 := by
  induction l with
  | nil => intro f hf _; exact hf
  | cons c t ih =>
    intro f hf h
    refine ih (Oyez.make1 f c) (fun r hr => ?_) fun d hd => h d (List.mem_cons_of_mem _ hd)
    unfold Oyez.make1 at hr
    split at hr
    · rcases Oyez.mem_put hr with rfl | hr
      · exact (h c (by simp)).2
      · exact hf r hr
    · exact hf r (Oyez.mem_drop.1 hr).1
theorem makeR_small (f : List Oyez.Rec) (l : List Oyez.Chg) (hf : ∀ r ∈ f, r.words.length ≤ 10) (h : ∀ c ∈ l, c.old.length ≤ 10 ∧ c.new.length ≤ 10) : (makeR f l).1.length ≤ 100 ∧ ∀ r ∈ (makeR f l).1, r.words.length ≤ 10 := by
  unfold makeR
  split
  · exact ⟨Nat.zero_le _, fun x hx => by simp at hx⟩
  · split
    · exact ⟨Nat.zero_le _, fun x hx => by simp at hx⟩
    · split
      · exact ⟨Nat.zero_le _, fun x hx => by simp at hx⟩
      · split
        · exact ⟨Nat.zero_le _, fun x hx => by simp at hx⟩
        · exact ⟨by dsimp only; omega, make_words l f hf h⟩
theorem diffR_small (f g : List Oyez.Rec) : (diffR f g).1.length ≤ 100 ∧ ∀ c ∈ (diffR f g).1, c.old.length ≤ 2 ^ 40 ∧ c.new.length ≤ 2 ^ 40 := by
  unfold diffR
  by_cases h : chk2 f g = 0
  · rw [if_neg (by simp [h])]
    have k1 : Oyez.check f = 0 := by
      unfold chk2 at h
      split at h
      · contradiction
      · rename_i k; simpa using k
    have k2 : Oyez.check g = 0 := by
      unfold chk2 at h
      rw [if_neg (by simp [k1])] at h
      exact h
    have d := Oyez.diff_right (Oyez.check_zero k1) (Oyez.check_zero k2)
    exact ⟨by have := d.len; dsimp only; omega, (right_fewC d).2⟩
  · rw [if_pos h]
    exact ⟨Nat.zero_le _, fun x hx => by simp at hx⟩
set_option maxHeartbeats 40000000 in
theorem changes_calls (f g : List Oyez.Rec) (l : List Oyez.Chg) (lf : f.length ≤ 9223372036854775807) (lg : g.length ≤ 9223372036854775807) (ll : l.length ≤ 9223372036854775807)
    (wf : ∀ r ∈ f, r.words.length ≤ 9223372036854775807) (wg : ∀ r ∈ g, r.words.length ≤ 9223372036854775807) (wl : ∀ c ∈ l, c.old.length ≤ 9223372036854775807 ∧ c.new.length ≤ 9223372036854775807) : APure Tryz.prog 13 [fileAV f, fileAV g, chgsAV l] (.bool true) := by
  refine APure.of fun σ => ?_
  suffices hh : ∀ Post : AV → Heap → Prop, (∀ s, (∃ g, s = σ ++ g) → Post (.bool true) s) → ACalls Tryz.prog 13 [fileAV f, fileAV g, chgsAV l] σ Post from hh _ fun s ⟨g, h⟩ => ⟨g, h, .bool _⟩
  intro Post hPost
  refine acalls_fn Tryz.func13 rfl (enters_fn Tryz.func13 (by decide) rfl) ?_
  have quit : ∀ s, s = σ → Post (.bool true) s := fun s h => hPost s ⟨[], by rw [h, List.append_nil]⟩
  simp [-awp_cond, Tryz.ntmps13]
  refine (great_calls f lf wf).use ?_
  cases gf : greatB f with
  | true =>
    simp [gf]
    refine awake_calls.use ?_
    first | exact quit _ rfl | (simp; exact quit _ rfl)
  | false =>
  simp [-awp_cond, gf]
  refine (great_calls g lg wg).use ?_
  cases gg : greatB g with
  | true =>
    simp [gf, gg]
    refine awake_calls.use ?_
    first | exact quit _ rfl | (simp; exact quit _ rfl)
  | false =>
  simp [-awp_cond, gf, gg]
  refine (many_calls l ll wl).use ?_
  cases gl : manyB l with
  | true =>
    simp [gf, gg, gl]
    refine awake_calls.use ?_
    first | exact quit _ rfl | (simp; exact quit _ rfl)
  | false =>
  obtain ⟨nf, ff⟩ := few_of gf
  obtain ⟨ng, fg⟩ := few_of gg
  obtain ⟨nl, fl⟩ := fewC_of gl
  have hf' : Few f := fun r hr => by have := ff r hr; omega
  have hg' : Few g := fun r hr => by have := fg r hr; omega
  have hl' : FewC l := fun c hc => by have := fl c hc; omega
  have sf : Small f := fun r hr => by have := ff r hr; omega
  have sg : Small g := fun r hr => by have := fg r hr; omega
  have w40f : ∀ r ∈ f, r.words.length ≤ 2 ^ 40 := fun r hr => by have := (ff r hr).1; omega
  have w40g : ∀ r ∈ g, r.words.length ≤ 2 ^ 40 := fun r hr => by have := (fg r hr).1; omega
  have w40l : ∀ c ∈ l, c.old.length ≤ 2 ^ 40 ∧ c.new.length ≤ 2 ^ 40 := fun c hc => by have := fl c hc; omega
  have sB := back_words l fun c hc => ⟨(fl c hc).1.1, (fl c hc).2.1⟩
  have sM := makeR_small f l (fun r hr => (ff r hr).1) fun c hc => ⟨(fl c hc).1.1, (fl c hc).2.1⟩
  have sD := diffR_small f g
  simp [-awp_cond, gf, gg, gl]
  rw [awp_cond]
  simp [-awp_cond, gf, gg, gl]
  refine (own_calls f (by omega) fun r hr => by have := (ff r hr).1; omega).use ?_
  try simp [-awp_cond, gf, gg, gl]
  refine (own_calls g (by omega) fun r hr => by have := (fg r hr).1; omega).use ?_
  try simp [-awp_cond, gf, gg, gl]
  refine (owned_calls l (by omega) fun c hc => by have := fl c hc; omega).use ?_
  try simp [-awp_cond, gf, gg, gl]
  refine (theirs_calls f (by omega)).use ?_
  try simp [-awp_cond, gf, gg, gl]
  refine (theirs_calls g (by omega)).use ?_
  try simp [-awp_cond, gf, gg, gl]
  refine (changed_calls l (by omega)).use ?_
  try simp [-awp_cond, gf, gg, gl]
  refine (refCheck_calls f sf).use ?_
  try simp [-awp_cond, gf, gg, gl]
  refine (refCheck_calls g sg).use ?_
  try simp [-awp_cond, gf, gg, gl]
  refine (refCheckC_calls l hl').use ?_
  try simp [-awp_cond, gf, gg, gl]
  refine (checkC_calls l hl').use ?_
  simp [-awp_cond, gf, gg, gl]
  rw [awp_cond]
  simp [-awp_cond, gf, gg, gl]
  have cB := back71_calls l hl' (by omega)
  have cM := makeO75 f l hf' hl'
  have cD := diff68_calls f g hf' hg' ⟨by omega, by omega⟩
  have eB : (Oyez.checkChg l = 0 → backR l = (Oyez.back l, 0)) ∧ (Oyez.checkChg l ≠ 0 → backR l = ([], Oyez.checkChg l)) := by
    unfold backR
    exact ⟨fun h => by rw [if_neg (by simp [h])], fun h => by rw [if_pos h]⟩
  have eM : (Oyez.check f = 0 → Oyez.checkChg l = 0 → makeR f l = refMakeR f l) ∧ (Oyez.check f = 0 → Oyez.checkChg l ≠ 0 → makeR f l = ([], Oyez.checkChg l)) ∧ (Oyez.check f ≠ 0 → makeR f l = ([], Oyez.check f)) := by
    refine ⟨fun h1 h2 => ?_, fun h1 h2 => ?_, fun h1 => ?_⟩
    · unfold makeR
      rw [if_neg (by simp [h1]), if_neg (by simp [h2])]
      rfl
    · unfold makeR
      rw [if_neg (by simp [h1]), if_pos h2]
    · unfold makeR
      rw [if_pos h1]
  have eD : (Oyez.check f = 0 → Oyez.check g = 0 → diffR f g = (Oyez.diff f g, 0)) ∧ (Oyez.check f = 0 → Oyez.check g ≠ 0 → diffR f g = ([], Oyez.check g)) ∧ (Oyez.check f ≠ 0 → diffR f g = ([], Oyez.check f)) := by
    refine ⟨fun h1 h2 => ?_, fun h1 h2 => ?_, fun h1 => ?_⟩ <;> simp [diffR, chk2, h1] <;> simp [h2]
  obtain ⟨B, hB⟩ : ∃ B, backR l = B := ⟨_, rfl⟩
  obtain ⟨M, hM⟩ : ∃ M, makeR f l = M := ⟨_, rfl⟩
  obtain ⟨D, hD⟩ : ∃ D, diffR f g = D := ⟨_, rfl⟩
  rw [hB] at cB eB sB
  rw [hM] at cM eM sM
  rw [hD] at cD eD sD
  have lB2 : B.2 = Oyez.checkChg l := by
    by_cases h : Oyez.checkChg l = 0
    · rw [eB.1 h, h]
    · rw [eB.2 h]
  refine awp_cut (fun env s => ∃ (u : List AV) (x16 : AV), env = { t := u } ∧ u.length = 179 ∧ tg u 0 = fileAV f ∧ tg u 1 = fileAV g ∧ tg u 2 = chgsAV l ∧ tg u 7 = fileAV f ∧ tg u 8 = fileAV g ∧ tg u 9 = chgsAV l ∧ tg u 10 = fileAV f ∧ tg u 11 = fileAV g ∧ tg u 12 = chgsAV l ∧ tg u 13 = .int .i64 (Oyez.check f) ∧ tg u 14 = .int .i64 (Oyez.check g) ∧ tg u 15 = .int .i64 (Oyez.checkChg l) ∧
    tg u 16 = x16 ∧ tg u 17 = .nils ∧ tg u 18 = .nils ∧ s = σ ∧ ((x16 = .nils ∧ B.1 = []) ∨ x16 = chgsAV B.1)) ?_ ?_
  · by_cases h : Oyez.checkChg l = 0
    · simp [gf, gg, gl, h]
      refine (refBack_calls l (by omega)).use ?_
      simp [gf, gg, gl, h, eB.1 h]
    · simp [gf, gg, gl, h, eB.2 h]
  · rintro env s ⟨u, x16, rfl, hl, g0, g1, g2, g7, g8, g9, g10, g11, g12, g13, g14, g15, g16, g17, g18, hs0, c16⟩
    obtain rfl := hs0.symm
    clear hs0
    simp [-awp_cond, hl, g0, g1, g2, g7, g8, g9, g10, g11, g12, g13, g14, g15, g16, g17, g18]
    refine StA.of ((cB σ).mono ?_)
    rintro _ τ1 ⟨v1, rfl, ⟨ga, hga⟩, ho1⟩
    simp [-awp_cond, hl, g0, g1, g2, g7, g8, g9, g10, g11, g12, g13, g14, g15, g16, g17, g18, lB2]
    refine StA.of ((hmade x16 B.1 c16 (by omega) _).mono ?_)
    rintro _ s ⟨rfl, hs4⟩
    obtain rfl := hs4.symm
    simp [-awp_cond, hl, g0, g1, g2, g7, g8, g9, g10, g11, g12, g13, g14, g15, g16, g17, g18, lB2]
    refine StA.of ((halike ho1 (by omega) (fun c hc => by have := sB.2 c hc; omega)).mono ?_)
    rintro _ s ⟨rfl, hs5⟩
    obtain rfl := hs5.symm
    simp [-awp_cond, hl, g0, g1, g2, g7, g8, g9, g10, g11, g12, g13, g14, g15, g16, g17, g18, lB2]
    rw [awp_cond]
    simp [-awp_cond, hl, g0, g1, g2, g7, g8, g9, g10, g11, g12, g13, g14, g15, g16, g17, g18, lB2]
    refine awp_cut (fun env s => ∃ u, env = { t := u } ∧ u.length = 179 ∧ tg u 0 = fileAV f ∧ tg u 1 = fileAV g ∧ tg u 2 = chgsAV l ∧ tg u 7 = fileAV f ∧ tg u 8 = fileAV g ∧ tg u 9 = chgsAV l ∧ tg u 10 = fileAV f ∧ tg u 11 = fileAV g ∧ tg u 12 = chgsAV l ∧ tg u 13 = .int .i64 (Oyez.check f) ∧ tg u 14 = .int .i64 (Oyez.check g) ∧
      tg u 17 = .nils ∧ tg u 18 = .nils ∧ tg u 19 = v1 ∧ tg u 21 = .int .i64 (if Oyez.check f = 0 then Oyez.checkChg l else Oyez.check f) ∧ s = τ1) ?_ ?_
    · by_cases h : Oyez.check f = 0
      · simp [hl, g0, g1, g2, g7, g8, g9, g10, g11, g12, g13, g14, g15, g16, g17, g18, h]
      · simp [hl, g0, g1, g2, g7, g8, g9, g10, g11, g12, g13, g14, g15, g16, g17, g18, h]
    · clear hl g0 g1 g2 g7 g8 g9 g10 g11 g12 g13 g14 g15 g16 g17 g18 u
      rintro env s ⟨u, rfl, hl, g0, g1, g2, g7, g8, g9, g10, g11, g12, g13, g14, g17, g18, g19, g21, hs0⟩
      obtain rfl := hs0.symm
      clear hs0
      simp [-awp_cond, hl, g0, g1, g2, g7, g8, g9, g10, g11, g12, g13, g14, g17, g18, g19, g21]
      refine awp_cut (fun env s => ∃ (u : List AV) (x18 : AV), env = { t := u } ∧ u.length = 179 ∧ tg u 0 = fileAV f ∧ tg u 1 = fileAV g ∧ tg u 2 = chgsAV l ∧ tg u 7 = fileAV f ∧ tg u 8 = fileAV g ∧ tg u 9 = chgsAV l ∧ tg u 10 = fileAV f ∧ tg u 11 = fileAV g ∧ tg u 12 = chgsAV l ∧ tg u 13 = .int .i64 (Oyez.check f) ∧ tg u 14 = .int .i64 (Oyez.check g) ∧
        tg u 17 = .nils ∧ tg u 18 = x18 ∧ tg u 19 = v1 ∧ tg u 21 = .int .i64 M.2 ∧ s = τ1 ∧ ((x18 = .nils ∧ M.1 = []) ∨ x18 = fileAV M.1)) ?_ ?_
      · by_cases h : Oyez.check f = 0
        · by_cases h2 : Oyez.checkChg l = 0
          · have cR := refMake_calls f l (Oyez.check_zero h) (Oyez.checkChg_zero h2)
            rw [← eM.1 h h2] at cR
            simp [hl, g0, g1, g2, g7, g8, g9, g10, g11, g12, g13, g14, g17, g18, g19, g21, h, h2]
            refine cR.use ?_
            simp [hl, g0, g1, g2, g7, g8, g9, g10, g11, g12, g13, g14, g17, g18, g19, g21, h, h2]
          · simp [hl, g0, g1, g2, g7, g8, g9, g10, g11, g12, g13, g14, g17, g18, g19, g21, h, h2, eM.2.1 h h2]
        · simp [hl, g0, g1, g2, g7, g8, g9, g10, g11, g12, g13, g14, g17, g18, g19, g21, h, eM.2.2 h]
      · clear hl g0 g1 g2 g7 g8 g9 g10 g11 g12 g13 g14 g17 g18 g19 g21 u
        rintro env s ⟨u, x18, rfl, hl, g0, g1, g2, g7, g8, g9, g10, g11, g12, g13, g14, g17, g18, g19, g21, hs0, c18⟩
        obtain rfl := hs0.symm
        clear hs0
        simp [-awp_cond, hl, g0, g1, g2, g7, g8, g9, g10, g11, g12, g13, g14, g17, g18, g19, g21]
        refine StA.of ((cM τ1).mono ?_)
        rintro _ τ2 ⟨gb, v2, hgb, rfl, ho2⟩
        simp [-awp_cond, hl, g0, g1, g2, g7, g8, g9, g10, g11, g12, g13, g14, g17, g18, g19, g21]
        refine StA.of ((ours_nil x18 M.1 c18 (by omega) _).mono ?_)
        rintro _ s ⟨rfl, hs6⟩
        obtain rfl := hs6.symm
        simp [-awp_cond, hl, g0, g1, g2, g7, g8, g9, g10, g11, g12, g13, g14, g17, g18, g19, g21]
        refine StA.of ((same19_own ho2 (by omega) (fun x hx => by have := sM.2 x hx; omega)).mono ?_)
        rintro _ s ⟨rfl, hs7⟩
        obtain rfl := hs7.symm
        simp [-awp_cond, hl, g0, g1, g2, g7, g8, g9, g10, g11, g12, g13, g14, g17, g18, g19, g21]
        rw [awp_cond]
        simp [-awp_cond, hl, g0, g1, g2, g7, g8, g9, g10, g11, g12, g13, g14, g17, g18, g19, g21]
        refine awp_cut (fun env s => ∃ u, env = { t := u } ∧ u.length = 179 ∧ tg u 0 = fileAV f ∧ tg u 1 = fileAV g ∧ tg u 2 = chgsAV l ∧ tg u 7 = fileAV f ∧ tg u 8 = fileAV g ∧ tg u 9 = chgsAV l ∧ tg u 10 = fileAV f ∧ tg u 11 = fileAV g ∧
          tg u 13 = .int .i64 (if Oyez.check f = 0 then Oyez.check g else Oyez.check f) ∧ tg u 17 = .nils ∧ tg u 19 = v1 ∧ tg u 22 = v2 ∧ s = τ2) ?_ ?_
        · by_cases h : Oyez.check f = 0
          · simp [hl, g0, g1, g2, g7, g8, g9, g10, g11, g12, g13, g14, g17, g18, g19, g21, h]
          · simp [hl, g0, g1, g2, g7, g8, g9, g10, g11, g12, g13, g14, g17, g18, g19, g21, h]
        · clear hl g0 g1 g2 g7 g8 g9 g10 g11 g12 g13 g14 g17 g18 g19 g21 u
          rintro env s ⟨u, rfl, hl, g0, g1, g2, g7, g8, g9, g10, g11, g13, g17, g19, g22, hs0⟩
          obtain rfl := hs0.symm
          clear hs0
          simp [-awp_cond, hl, g0, g1, g2, g7, g8, g9, g10, g11, g13, g17, g19, g22]
          refine awp_cut (fun env s => ∃ (u : List AV) (x17 : AV), env = { t := u } ∧ u.length = 179 ∧ tg u 0 = fileAV f ∧ tg u 1 = fileAV g ∧ tg u 2 = chgsAV l ∧ tg u 7 = fileAV f ∧ tg u 8 = fileAV g ∧ tg u 9 = chgsAV l ∧
            tg u 13 = .int .i64 D.2 ∧ tg u 17 = x17 ∧ tg u 19 = v1 ∧ tg u 22 = v2 ∧ s = τ2 ∧ ((x17 = .nils ∧ D.1 = []) ∨ x17 = chgsAV D.1)) ?_ ?_
          · by_cases h : Oyez.check f = 0
            · by_cases h2 : Oyez.check g = 0
              · have cR := refDiff_calls f g (by omega) (by omega) w40f (Oyez.check_zero h).range (Oyez.check_zero h2).range
                have eDD := eD.1 h h2
                simp [hl, g0, g1, g2, g7, g8, g9, g10, g11, g13, g17, g19, g22, h, h2]
                refine cR.use ?_
                simp [hl, g0, g1, g2, g7, g8, g9, g10, g11, g13, g17, g19, g22, h, h2, eDD]
              · simp [hl, g0, g1, g2, g7, g8, g9, g10, g11, g13, g17, g19, g22, h, h2, eD.2.1 h h2]
            · simp [hl, g0, g1, g2, g7, g8, g9, g10, g11, g13, g17, g19, g22, h, eD.2.2 h]
          · clear hl g0 g1 g2 g7 g8 g9 g10 g11 g13 g17 g19 g22 u
            rintro env s ⟨u, x17, rfl, hl, g0, g1, g2, g7, g8, g9, g13, g17, g19, g22, hs0, c17⟩
            obtain rfl := hs0.symm
            clear hs0
            simp [hl, g0, g1, g2, g7, g8, g9, g13, g17, g19, g22]
            refine StA.of ((cD τ2).mono ?_)
            rintro _ τ3 ⟨v3, rfl, ⟨gd, hgd⟩, ho3⟩
            have l12 : τ1.length ≤ τ2.length := by rw [hgb, List.length_append]; omega
            have l01 : σ.length ≤ τ1.length := by rw [hga, List.length_append]; omega
            have l23 : τ2.length ≤ τ3.length := by rw [hgd, List.length_append]; omega
            have hC1 : ChgC σ.length τ1.length τ3 v1 B.1 := by
              have := (ho1.cl.more gb).more gd
              rwa [← hgb, ← hgd] at this
            have hC2 : FileC τ1.length τ2.length τ3 v2 M.1 := by
              have := ho2.cl.more gd
              rwa [← hgd] at this
            have hC3 : ChgC τ2.length τ3.length τ3 v3 D.1 := ho3.cl
            have hpr : ∃ g, τ3 = σ ++ g := ⟨ga ++ (gb ++ gd), by rw [hgd, hgb, hga]; simp⟩
            obtain ⟨o2, c2, al2⟩ := hC2.one
            simp [hl, g0, g1, g2, g7, g8, g9, g13, g17, g19, g22]
            refine StA.of ((hmade x17 D.1 c17 (by omega) _).mono ?_)
            rintro _ s ⟨rfl, hs6⟩
            obtain rfl := hs6.symm
            simp [hl, g0, g1, g2, g7, g8, g9, g13, g17, g19, g22]
            refine StA.of ((halike ho3 (by omega) sD.2).mono ?_)
            rintro _ s ⟨rfl, hs7⟩
            obtain rfl := hs7.symm
            simp [-alen, hl, g0, g1, g2, g7, g8, g9, g13, g17, g19, g22, al2]
            clear hga hgb hgd
            refine ACode_loopT (fun env σ' => ∃ (u : List AV) (j : Nat), env = { t := u } ∧ u.length = 179 ∧ tg u 0 = fileAV f ∧ tg u 1 = fileAV g ∧ tg u 2 = chgsAV l ∧ tg u 7 = fileAV f ∧ tg u 8 = fileAV g ∧ tg u 9 = chgsAV l ∧ tg u 19 = v1 ∧ tg u 23 = v3 ∧
              tg u 134 = v2 ∧ tg u 135 = .int .i64 M.1.length ∧ tg u 136 = .int .i64 j ∧ j ≤ M.1.length ∧ FileC τ1.length τ2.length σ' v2 M.1 ∧ ChgC σ.length τ1.length σ' v1 B.1 ∧ ChgC τ2.length τ3.length σ' v3 D.1 ∧ τ3.length ≤ σ'.length ∧ ∃ g, σ' = σ ++ g)
              (fun env _ => match tg env.t 136 with | .int _ i => M.1.length - i.toNat | _ => 0) ⟨_, 0, rfl, by simp [hl], by simp [hl, g0], by simp [hl, g1], by simp [hl, g2], by simp [hl, g7], by simp [hl, g8], by simp [hl, g9], by simp [hl, g19], by simp [hl], by simp [hl], by simp [hl], by simp [hl], by omega, hC2, hC1, hC3, Nat.le_refl _, hpr⟩ ?_
            clear hl g0 g1 g2 g7 g8 g9 g13 g17 g19 g22 u ho1 ho2 ho3 hC1 hC2 hC3 hpr
            rintro env τ ⟨u, j, rfl, hl, g0, g1, g2, g7, g8, g9, g19, g23, g134, g135, g136, hj, hC2, hC1, hC3, hlen, hpr⟩
            have hml : M.1.length < 2 ^ 40 := by omega
            rcases Nat.lt_or_ge j M.1.length with hlt | hge
            · have hlt' : (j : Int) < (M.1.length : Int) := by omega
              have hxj := w64 (n := (j : Int) + 1) (by omega) (by omega)
              rcases hC2 with ⟨h, _⟩ | ⟨q, hv0, hC⟩
              · rw [h] at hlt; simp at hlt
              have hlow := hC.low
              obtain ⟨cs, hcs, hcl, hrow⟩ := hC.row
              obtain ⟨w, hw1, hw2⟩ := hrow j M.1[j] (List.getElem?_eq_getElem hlt)
              have hb3 : j * 3 + 3 ≤ M.1.length * 3 := by omega
              obtain ⟨h, hh⟩ := hpr
              have fin : ∀ τ', Sm τ1.length τ2.length q τ τ' → FileC τ1.length τ2.length τ' v2 M.1 ∧ ChgC σ.length τ1.length τ' v1 B.1 ∧ ChgC τ2.length τ3.length τ' v3 D.1 ∧ τ3.length ≤ τ'.length := fun τ' hs => ⟨.inr ⟨q, hv0, hs.own hC⟩, hC1.sm hs (.inl (Nat.le_refl _)), hC3.sm hs (.inr (Nat.le_refl _)), Nat.le_trans hlen hs.len⟩
              rcases hw2 with ⟨hwe, rfl⟩ | ⟨p', xs, hp1, hp2, hp3, rfl, hp4, hxs⟩
              · obtain ⟨k1, k2, k3, k4⟩ := fin _ ((Sm.refl _ _ q τ).app [.cells [.int .i64 M.1[j].kind, .int .i64 M.1[j].number, .pl 1 []]])
                simp [hl, g0, g1, g2, g7, g8, g9, g19, g23, g134, g135, g136, hlt', hlt, hv0, hcs, hcl, hw1, hb3, hxj]
                exact ⟨⟨j + 1, by simp, by omega, by rw [← hv0]; exact k1, k2, k3, by simpa using k4, ⟨_, by rw [hh, List.append_assoc]⟩⟩, by omega⟩
              · have hqa : ∀ X : Heap, (τ ++ X)[p']? = _ := fun X => get_app hp4
                obtain ⟨k1, k2, k3, k4⟩ := fin _ (((Sm.refl _ _ q τ).app [.cells [.int .i64 M.1[j].kind, .int .i64 M.1[j].number, .arr 1 p' 0 M.1[j].words.length]]).set hp1 hp2 hp3 (hqa _) (cs' := List.replicate M.1[j].words.length (AV.str []) ++ List.drop M.1[j].words.length xs) (by rw [List.length_append, List.length_replicate, List.length_drop]; omega))
                simp [hl, g0, g1, g2, g7, g8, g9, g19, g23, g134, g135, g136, hlt', hlt, hv0, hcs, hcl, hw1, hb3, hxj, hqa, hxs]
                exact ⟨⟨j + 1, by simp, by omega, by rw [← hv0]; exact k1, k2, k3, by simpa using k4, ⟨_, by rw [hh, List.append_assoc, set_behind (by omega)]⟩⟩, by omega⟩
            · obtain rfl : j = M.1.length := by omega
              obtain ⟨o1, c1, al1⟩ := hC1.one
              obtain ⟨o3, c3, al3⟩ := hC3.one
              have q1 : v1.known = true := known_of_all (by rw [c1]; simp [-AV.one, o1])
              have q3 : v3.known = true := known_of_all (by rw [c3]; simp [-AV.one, o3])
              have hn0 : AV.nils.cells = [AV.nils] := rfl
              simp [-AV.cells, -AV.one, -AV.known, -alen, hn0, q1, q3, c1, c3, o1, o3, hl, g0, g1, g2, g7, g8, g9, g19, g23, g134, g135, g136]
              simp
              have pR : (τ ++ [AObj.cells [v1, v3]])[τ.length]? = some (.cells [v1, v3]) := by simp
              refine ACode_loopT (fun env σ' => ∃ (u : List AV) (i : Nat), env = { t := u } ∧ u.length = 179 ∧ tg u 0 = fileAV f ∧ tg u 1 = fileAV g ∧ tg u 2 = chgsAV l ∧ tg u 7 = fileAV f ∧ tg u 8 = fileAV g ∧ tg u 9 = chgsAV l ∧
                tg u 145 = .arr 1 τ.length 0 2 ∧ tg u 146 = .int .i64 2 ∧ tg u 147 = .int .i64 i ∧ i ≤ 2 ∧ (∃ g, σ' = σ ++ g) ∧ σ'[τ.length]? = some (.cells [v1, v3]) ∧ ChgC σ.length τ1.length σ' v1 B.1 ∧ ChgC τ2.length τ3.length σ' v3 D.1)
                (fun env _ => match tg env.t 147 with | .int _ i => 2 - i.toNat | _ => 0) ⟨_, 0, rfl, by simp [hl], by simp [hl, g0], by simp [hl, g1], by simp [hl, g2], by simp [hl, g7], by simp [hl, g8], by simp [hl, g9], by simp [hl], by simp [hl], by simp [hl], by omega, by obtain ⟨g, hg⟩ := hpr; exact ⟨g ++ [AObj.cells [v1, v3]], by rw [hg, List.append_assoc]⟩, pR, hC1.more _, hC3.more _⟩ ?_
              clear hl g0 g1 g2 g7 g8 g9 g19 g23 g134 g135 g136 hC1 hC2 hC3 pR u hpr hge hj
              rintro env t0 ⟨u, i, rfl, hl, g0, g1, g2, g7, g8, g9, g145, g146, g147, hi, hpr, hR, hC1, hC3⟩
              rcases Nat.lt_or_ge i 2 with hi2 | hi2
              · have hi2' : (i : Int) < 2 := by omega
                have hx := w64 (n := (i : Int) + 1) (by omega) (by omega)
                obtain ⟨v, F, lo, hi', q, hv, k1, k2, k3, kl, kn⟩ := pick_chgs hC1 hC3 l01 l12 hi2
                have nF := kl (by omega) (by omega)
                have ov : v.one = true ∧ ∀ X, alen Tryz.prog 62 v X = some (.int .i64 F.length) := by
                  rcases k3 with ⟨rfl, rfl⟩ | ⟨rfl, _⟩
                  · exact ⟨rfl, fun X => by simp⟩
                  · exact ⟨rfl, fun X => by simp⟩
                obtain ⟨ov, alv⟩ := ov
                have hi1 : i ≤ 1 := by omega
                have hvi : [v1, v3][i]'(by simpa using hi2) = v := (List.getElem?_eq_some_iff.1 hv).2
                have hRl := (List.getElem?_eq_some_iff.1 hR).1
                simp [-alen, -AV.one, hl, g0, g1, g2, g7, g8, g9, g145, g146, g147, hi2', hi2, hi1, hR, hvi, ov, alv]
                refine ACode_loopT (fun env σ' => ∃ (u : List AV) (j : Nat), env = { t := u } ∧ u.length = 179 ∧ tg u 0 = fileAV f ∧ tg u 1 = fileAV g ∧ tg u 2 = chgsAV l ∧ tg u 7 = fileAV f ∧ tg u 8 = fileAV g ∧ tg u 9 = chgsAV l ∧
                  tg u 145 = .arr 1 τ.length 0 2 ∧ tg u 146 = .int .i64 2 ∧ tg u 147 = .int .i64 i ∧ tg u 151 = v ∧ tg u 152 = .int .i64 F.length ∧ tg u 153 = .int .i64 j ∧ j ≤ F.length ∧ Sm lo hi' q t0 σ' ∧ ∃ g, σ' = σ ++ g)
                  (fun env _ => match tg env.t 153 with | .int _ i => F.length - i.toNat | _ => 0) ⟨_, 0, rfl, by simp [hl], by simp [hl, g0], by simp [hl, g1], by simp [hl, g2], by simp [hl, g7], by simp [hl, g8], by simp [hl, g9], by simp [hl, g145], by simp [hl, g146], by simp [hl, g147], by simp [hl], by simp [hl], by simp [hl], by omega, .refl _ _ _ _, hpr⟩ ?_
                clear hl g0 g1 g2 g7 g8 g9 g145 g146 g147 u
                rintro env t1 ⟨u, j, rfl, hl, g0, g1, g2, g7, g8, g9, g145, g146, g147, g151, g152, g153, hj, hK, hpr'⟩
                rcases Nat.lt_or_ge j F.length with hlt | hge
                · have hlt' : (j : Int) < (F.length : Int) := by omega
                  have hxj := w64 (n := (j : Int) + 1) (by omega) (by omega)
                  rcases k3 with ⟨h, _⟩ | ⟨hv0, hC⟩
                  · rw [h] at hlt; simp at hlt
                  obtain ⟨cs, hcs, hcl, hrow⟩ := (hK.ownC hC).row
                  obtain ⟨w1, w2, hw, hwa, hwb⟩ := hrow j F[j] (List.getElem?_eq_getElem hlt)
                  have hb6 : j * 6 + 6 ≤ F.length * 6 := by omega
                  obtain ⟨h, hh⟩ := hpr'
                  have ow1 : w1.one = true := by rcases hwa with ⟨_, rfl⟩ | ⟨_, _, _, _, _, rfl, _⟩ <;> rfl
                  have ow2 : w2.one = true := by rcases hwb with ⟨_, rfl⟩ | ⟨_, _, _, _, _, rfl, _⟩ <;> rfl
                  have hno : AV.nils.one = true := rfl
                  have hstr : (AV.str []).one = true := rfl
                  have hob : ∀ X : Heap, (t1 ++ ([AObj.cells [.int .i64 F[j].kind, .int .i64 F[j].number, .bool F[j].had, .bool F[j].has, w1, w2]] ++ X))[t1.length]? = some (AObj.cells [.int .i64 F[j].kind, .int .i64 F[j].number, .bool F[j].had, .bool F[j].has, w1, w2]) := fun X => by simp
                  simp [-awp_seq, -AV.one, one_int, one_bool, hno, ow1, ow2, hl, g0, g1, g2, g7, g8, g9, g145, g146, g147, g151, g152, g153, hlt', hlt, hv0, hcs, hcl, hw, hb6]
                  rw [awp_seq]
                  simp [-awp_seq, -AV.one, one_int, one_bool, hno, ow1, ow2, hl, g0, g1, g2, g7, g8, g9, g145, g146, g147, g151, g152, g153, hlt', hlt, hv0, hcs, hcl, hw, hb6]
                  rw [awp_seq]
                  simp [-awp_seq, -AV.one, one_int, one_bool, hno, ow1, ow2, hl, g0, g1, g2, g7, g8, g9, g145, g146, g147, g151, g152, g153, hlt', hlt, hv0, hcs, hcl, hw, hb6]
                  rw [awp_seq]
                  simp [-awp_seq, -AV.one, one_int, one_bool, hno, ow1, ow2, hl, g0, g1, g2, g7, g8, g9, g145, g146, g147, g151, g152, g153, hlt', hlt, hv0, hcs, hcl, hw, hb6]
                  rw [awp_seq]
                  simp [-awp_seq, -AV.one, one_int, one_bool, hno, ow1, ow2, hl, g0, g1, g2, g7, g8, g9, g145, g146, g147, g151, g152, g153, hlt', hlt, hv0, hcs, hcl, hw, hb6]
                  rw [awp_seq]
                  have lt1 : τ.length < t1.length := by have := hK.len; omega
                  have hih : hi' ≤ τ.length := by omega
                  refine awp_cut (fun env s => ∃ u, env = { t := u } ∧ u.length = 179 ∧ tg u 0 = fileAV f ∧ tg u 1 = fileAV g ∧ tg u 2 = chgsAV l ∧ tg u 7 = fileAV f ∧ tg u 8 = fileAV g ∧ tg u 9 = chgsAV l ∧
                    tg u 145 = .arr 1 τ.length 0 2 ∧ tg u 146 = .int .i64 2 ∧ tg u 147 = .int .i64 i ∧ tg u 151 = v ∧ tg u 152 = .int .i64 F.length ∧ tg u 153 = .int .i64 j ∧ tg u 29 = .ptr t1.length 0 ∧
                    Sm lo hi' q t0 s ∧ (∃ g, s = σ ++ g) ∧ s[t1.length]? = some (AObj.cells [.int .i64 F[j].kind, .int .i64 F[j].number, .bool F[j].had, .bool F[j].has, w1, w2]) ∧ WdC lo hi' q s w2 F[j].new) ?_ ?_
                  · have hwb' := hwb.sm ((Sm.refl lo hi' q t1).app [AObj.cells [.int .i64 F[j].kind, .int .i64 F[j].number, .bool F[j].had, .bool F[j].has, w1, w2]])
                    have hob0 := hob []
                    simp only [List.append_nil] at hob0
                    rcases hwa with ⟨hwe, rfl⟩ | ⟨p', xs, hp1, hp2, hp3, rfl, hp4, hxs⟩
                    · simp [-AV.one, one_int, one_bool, hno, hstr, ow1, ow2, hl, g0, g1, g2, g7, g8, g9, g145, g146, g147, g151, g152, g153, hv0]
                      exact ⟨hK.app _, ⟨_, by rw [hh, List.append_assoc]⟩, hwb'⟩
                    · have hqa : ∀ X : Heap, (t1 ++ X)[p']? = _ := fun X => get_app hp4
                      have hs := ((Sm.refl lo hi' q t1).app [AObj.cells [.int .i64 F[j].kind, .int .i64 F[j].number, .bool F[j].had, .bool F[j].has, .arr 1 p' 0 F[j].old.length, w2]]).set hp1 hp2 hp3 (hqa _) (cs' := List.replicate F[j].old.length (AV.str []) ++ List.drop F[j].old.length xs) (by rw [List.length_append, List.length_replicate, List.length_drop]; omega)
                      have hs2 := (hK.app [AObj.cells [.int .i64 F[j].kind, .int .i64 F[j].number, .bool F[j].had, .bool F[j].has, .arr 1 p' 0 F[j].old.length, w2]]).set hp1 hp2 hp3 (hqa _) (cs' := List.replicate F[j].old.length (AV.str []) ++ List.drop F[j].old.length xs) (by rw [List.length_append, List.length_replicate, List.length_drop]; omega)
                      have hx5 : ((t1 ++ [AObj.cells [.int .i64 F[j].kind, .int .i64 F[j].number, .bool F[j].had, .bool F[j].has, .arr 1 p' 0 F[j].old.length, w2]]).set p' (.cells (List.replicate F[j].old.length (AV.str []) ++ List.drop F[j].old.length xs)))[t1.length]? = some (AObj.cells [.int .i64 F[j].kind, .int .i64 F[j].number, .bool F[j].had, .bool F[j].has, .arr 1 p' 0 F[j].old.length, w2]) := by rw [List.getElem?_set_ne (by omega)]; exact hob0
                      simp [-AV.one, one_int, one_bool, hno, hstr, ow1, ow2, hl, g0, g1, g2, g7, g8, g9, g145, g146, g147, g151, g152, g153, hv0, hqa, hxs]
                      exact ⟨hs2, ⟨_, by rw [hh, List.append_assoc, set_behind (by omega)]⟩, (List.getElem?_eq_some_iff.1 hx5).2, hwb.sm hs⟩
                  · clear hl g0 g1 g2 g7 g8 g9 g145 g146 g147 g151 g152 g153 u
                    rintro env t2 ⟨u, rfl, hl, g0, g1, g2, g7, g8, g9, g145, g146, g147, g151, g152, g153, g29, hK2, ⟨h2, hh2⟩, hob2, hwc⟩
                    have l2 : t1.length < t2.length := (List.getElem?_eq_some_iff.1 hob2).1
                    rcases hwc with ⟨hwe, rfl⟩ | ⟨p', xs, hp1, hp2, hp3, rfl, hp4, hxs⟩
                    · simp [hl, g0, g1, g2, g7, g8, g9, g145, g146, g147, g151, g152, g153, g29, hob2, hxj]
                      exact ⟨⟨hv0, j + 1, by simp, by omega, hK2, h2, hh2⟩, by omega⟩
                    · simp [hl, g0, g1, g2, g7, g8, g9, g145, g146, g147, g151, g152, g153, g29, hob2, hxj, hp4, hxs]
                      exact ⟨⟨hv0, j + 1, by simp, by omega, hK2.set hp1 hp2 hp3 hp4 (by rw [List.length_append, List.length_replicate, List.length_drop]; omega), ⟨_, by rw [hh2, set_behind (by omega)]⟩⟩, by omega⟩
                · obtain rfl : j = F.length := by omega
                  have ⟨kC1, kC3⟩ := kn _ hK
                  simp [-alen, -AV.one, hl, g0, g1, g2, g7, g8, g9, g145, g146, g147, g151, g152, g153, hx]
                  exact ⟨⟨i + 1, by simp, by omega, hpr', by rw [hK.out _ hRl (by omega)]; exact hR, kC1, kC3⟩, by omega⟩
              · obtain rfl : i = 2 := by omega
                simp [hl, g0, g1, g2, g7, g8, g9, g145, g146, g147]
                refine (same_calls f f (by omega) w40f).use ?_
                simp [hl, g0, g1, g2, g7, g8, g9, g145, g146, g147]
                refine (same_calls g g (by omega) w40g).use ?_
                simp [hl, g0, g1, g2, g7, g8, g9, g145, g146, g147]
                refine (calike_calls l l (by omega) w40l).use ?_
                simp [hl, g0, g1, g2, g7, g8, g9, g145, g146, g147]
                refine awake_calls.use ?_
                first | exact hPost _ hpr | (simp [hl]; exact hPost _ hpr)
end Ab

/-
  WHAT THE LAWS OF DRAWN FILES SHARE: files that are right, the places that copies of a file can have.
  Put, Drop, Make.
  Get, Drop.
-/
import Derived.Test.YtdifgaapdnbliaaGreatDoorN18
import Derived.Test.YtdifgaapdnbliaaGreatDoorN35
import Derived.Test.YtdifgaapdnbliaaGreatDoorN38
import Derived.Test.YtdifgaapdnbliaaGreatDoorN40
import Derived.Test.YtdifgaapdnbliaaGreatDoorN34
import Derived.Test.YtdifgaapdnbliaaGreatDoorN42
set_option linter.unusedSimpArgs false
set_option linter.unusedVariables false
set_option linter.unusedSectionVars false
namespace Ab
open Go Go.RowKit Go.Proofs
theorem right_fewF {f : List Oyez.Rec} (h : Oyez.check f = 0) : Few f ∧ f.length ≤ 40 ∧ (Oyez.print f).length ≤ 2600 ∧ ∀ r ∈ f, r.words.length ≤ 2 ^ 40 := by
  have hr := Oyez.check_zero h
  have hl := hr.len
  have hp := print_len hr.recs
  have key : ∀ r ∈ f, tot1 r.words ≤ 64 ∧ r.words.length ≤ 6 := fun r hm => by
    obtain ⟨_, h2⟩ := (Oyez.recErr_iff r).1 (hr.recs r hm)
    obtain ⟨h3, h4, h5⟩ := Oyez.wordsErr_zero h2
    refine ⟨?_, h3⟩
    unfold Oyez.line at h5
    rw [List.length_append, flat_len32] at h5
    omega
  exact ⟨fun r hm => ⟨by have := (key r hm).1; omega, by have := (key r hm).2; omega⟩, hl, by omega, fun r hm => by have := (key r hm).2; omega⟩
theorem GoodF.right {f : List Oyez.Rec} (h : GoodF f) (hl : f.length ≤ 40) : Oyez.Right f := ⟨hl, h.recs, h.sorted⟩
/-- the byte that a damage makes -/
def dmg (b : UInt8) (dm : Nat) : UInt8 := UInt8.ofNat (b.toNat + (1 + dm / 256 % 255))
/-- a copy of a file, and where its records may be -/
structure CopyOf (f a : List Oyez.Rec) (e : List Oyez.Place) : Prop where
  good : GoodF a
  len : a.length ≤ f.length + 3
  few : e.length ≤ 3
  at_ : ∀ r ∈ a, r.place ∈ f.map Oyez.Rec.place ∨ r.place ∈ e
theorem CopyOf.mem {f a : List Oyez.Rec} {e : List Oyez.Place} (h : CopyOf f a e) : ∀ p ∈ a.map Oyez.Rec.place, p ∈ f.map Oyez.Rec.place ++ e := fun p hp => by
  obtain ⟨r, hr, rfl⟩ := List.mem_map.1 hp
  exact List.mem_append.2 (h.at_ r hr)
end Ab
namespace Oyez
theorem drop_drop (f : List Rec) (p : Place) : drop (drop f p) p = drop f p := by unfold drop; rw [List.filter_filter]; simp
theorem put_drop (f : List Rec) (r : Rec) : put (drop f r.place) r = put f r := by unfold put; rw [drop_drop]
theorem insertR_len (r : Rec) : ∀ l : List Rec, (insertR r l).length = l.length + 1
  | [] => rfl
  | q :: t => by
    unfold insertR
    split
    · rfl
    · rw [List.length_cons, insertR_len r t, List.length_cons]
theorem put_len (f : List Rec) (r : Rec) : (put f r).length ≤ f.length + 1 := by
  unfold put
  rw [insertR_len]
  have := List.length_filter_le (fun r' : Rec => !decide (r'.place = r.place)) f
  unfold drop
  omega
theorem drop_le (f : List Rec) (p : Place) : (drop f p).length ≤ f.length := List.length_filter_le _ _
theorem make_snoc (f : List Rec) (l : List Chg) (c : Chg) : make f (l ++ [c]) = make1 (make f l) c := by unfold make; rw [List.foldl_append]; rfl
/-- what Make's file keeps while it is being made -/
structure Mk (n : Nat) (f : List Rec) : Prop where
  sorted : RSorted f
  len : f.length ≤ n
  words : ∀ r ∈ f, r.words.length ≤ 6
theorem Mk.drop {n : Nat} {f : List Rec} (h : Mk n f) (p : Place) : Mk n (drop f p) := ⟨drop_sorted h.sorted p, Nat.le_trans (drop_le f p) h.len, fun r hr => h.words r (mem_drop.1 hr).1⟩
theorem Mk.put {n : Nat} {f : List Rec} (h : Mk n f) {r : Rec} (hr : r.words.length ≤ 6) : Mk (n + 1) (put f r) := ⟨put_sorted h.sorted r, Nat.le_trans (put_len f r) (Nat.succ_le_succ h.len), fun x hx => by
  rcases mem_put hx with rfl | hx
  · exact hr
  · exact h.words x hx⟩
theorem Mk.up {n m : Nat} {f : List Rec} (h : Mk n f) (hn : n ≤ m) : Mk m f := ⟨h.sorted, Nat.le_trans h.len hn, h.words⟩
theorem Right.mks {f : List Rec} (h : Right f) : Mk 40 f := ⟨h.sorted, h.len, fun r hr => ((recErr_iff r).1 (h.recs r hr)).2 |> fun k => (wordsErr_zero k).1⟩
end Oyez
namespace Ab
open Go Go.RowKit Go.Proofs
attribute [local irreducible] aws awp aw1 Og Om Oc Oa Ogd Ov Ot awd aw1d awh aw1h Ogh Ohd awl Ogl Ohl awv Ogv Ohv QThen QBlock QFn QFnM QRo QBe ACode AYield
def putR (f : List Oyez.Rec) (r : Oyez.Rec) : List Oyez.Rec × Int := if Oyez.check f ≠ 0 then ([], Oyez.check f) else if Oyez.recErr r ≠ 0 then ([], Oyez.recErr r) else if 40 < (Oyez.put f r).length then ([], 2) else (Oyez.put f r, 0)
def makeR (f : List Oyez.Rec) (l : List Oyez.Chg) : List Oyez.Rec × Int := if Oyez.check f ≠ 0 then ([], Oyez.check f) else if Oyez.checkChg l ≠ 0 then ([], Oyez.checkChg l) else if Oyez.fits f l = false then ([], 7) else if 40 < (Oyez.make f l).length then ([], 2) else (Oyez.make f l, 0)
theorem withP (f : List Oyez.Rec) (r : Oyez.Rec) (hs : Oyez.RSorted f) (hl : f.length ≤ 2 ^ 19) (hw : ∀ x ∈ f, x.words.length ≤ 2 ^ 40) (hwr : r.words.length ≤ 2 ^ 40) : APure Tryz.prog 134 [fileAV f, recAV r] (fileAV (Oyez.put f r)) := by
  refine APure.of fun σ => (with_calls f r hs hl hw hwr σ).mono ?_
  rintro _ _ ⟨g, q, Y, rfl, rfl, h1, h2⟩
  rw [← h1]
  exact ⟨g, rfl, h2.fz (Nat.le_refl _)⟩
theorem RA.down {lo lo' : Nat} {τ : Heap} {q : Nat} {Y : List (Oyez.Rec × AV)} (h : RA lo τ q Y) (hl : lo' ≤ lo) : RA lo' τ q Y := ⟨Nat.le_trans hl h.low, h.row, fun y hy => (h.wd y hy).mono hl fun j _ h2 o ho => ⟨ho, h2⟩⟩
set_option maxHeartbeats 4000000 in
theorem putO65 (f : List Oyez.Rec) (r : Oyez.Rec) (hf : Few f) (hw : tot1 r.words ≤ 2 ^ 38) (hwl : r.words.length ≤ 2 ^ 38) (σ : Heap) : ACalls Tryz.prog 65 [fileAV f, recAV r] σ fun v s => ∃ g w, s = σ ++ g ∧ v = .tup [w, .int .i64 (putR f r).2] ∧ FileO σ.length s w (putR f r).1 := by
  suffices hh : ∀ Post : AV → Heap → Prop, (∀ v g, (∃ w, v = .tup [w, .int .i64 (putR f r).2] ∧ FileO σ.length (σ ++ g) w (putR f r).1) → Post v (σ ++ g)) → ACalls Tryz.prog 65 [fileAV f, recAV r] σ Post from hh _ fun v g h => by
    obtain ⟨w, h1, h2⟩ := h
    exact ⟨g, w, rfl, h1, h2⟩
  intro Post hPost
  obtain ⟨R, hR⟩ : ∃ R, putR f r = R := ⟨_, rfl⟩
  rw [hR] at hPost
  unfold putR at hR
  have c127 := recError_calls r hw hwl
  refine acalls_fn Tryz.func65 rfl (enters_fn Tryz.func65 (by decide) rfl) ?_
  simp [Tryz.ntmps65, recAV]
  refine (check_calls f hf).use ?_
  by_cases h0 : Oyez.check f = 0
  · rw [if_neg (by simp [h0])] at hR
    have rf := Oyez.check_zero h0
    have hm := rf.mks
    simp [h0]
    refine (c127).use ?_
    by_cases h1 : Oyez.recErr r = 0
    · rw [if_neg (by simp [h1])] at hR
      have c134 := with_calls f r rf.sorted (by have := rf.len; omega) (fun x hx => by have := hm.words x hx; omega) (by omega)
      simp [h1]
      refine StA.of ((c134 _).mono ?_)
      rintro _ _ ⟨g, q, Y, rfl, rfl, hY, hRA⟩
      have hYl : (Y.length : Int) = ((Oyez.put f r).length : Int) := by rw [← hY]; simp
      by_cases h2 : 40 < (Oyez.put f r).length
      · rw [if_pos h2] at hR
        subst hR
        have h2' : (40 : Int) < ((Oyez.put f r).length : Int) := by omega
        simp [hYl, h2']
        exact hPost _ _ ⟨_, rfl, .inl ⟨rfl, rfl⟩⟩
      · rw [if_neg h2] at hR
        subst hR
        have h2' : ¬ (40 : Int) < ((Oyez.put f r).length : Int) := by omega
        simp [hYl, h2']
        exact hPost _ _ ⟨_, rfl, .inr ⟨q, Y, rfl, hY, by simpa using hRA.down (lo' := σ.length) (by simp)⟩⟩
    · rw [if_pos (by simp [h1])] at hR
      subst hR
      simp [h1]
      exact hPost _ _ ⟨_, rfl, .inl ⟨rfl, rfl⟩⟩
  · rw [if_pos (by simp [h0])] at hR
    subst hR
    simp [h0]
    exact hPost _ _ ⟨_, rfl, .inl ⟨rfl, rfl⟩⟩
theorem putP65 (f : List Oyez.Rec) (r : Oyez.Rec) (hf : Few f) (hw : tot1 r.words ≤ 2 ^ 38) (hwl : r.words.length ≤ 2 ^ 38) : APure Tryz.prog 65 [fileAV f, recAV r] (.tup [fileAV (putR f r).1, .int .i64 (putR f r).2]) := by
  refine APure.of fun σ => (putO65 f r hf hw hwl σ).mono ?_
  rintro _ _ ⟨g, w, rfl, rfl, h⟩
  exact ⟨g, rfl, Fz.tup2 (h.fz (Nat.le_refl _)) (.int _ _)⟩
set_option maxHeartbeats 8000000 in
theorem makeP75 (f : List Oyez.Rec) (l : List Oyez.Chg) (hf : Few f) (hl : FewC l) : APure Tryz.prog 75 [fileAV f, chgsAV l] (.tup [fileAV (makeR f l).1, .int .i64 (makeR f l).2]) := by
  refine APure.of fun σ => ?_
  suffices hh : ∀ Post : AV → Heap → Prop, (∀ v g, (v = .tup [fileAV (makeR f l).1, .int .i64 (makeR f l).2] ∨ (makeR f l).1 = [] ∧ v = .tup [.nils, .int .i64 (makeR f l).2]) → Post v (σ ++ g)) → ACalls Tryz.prog 75 [fileAV f, chgsAV l] σ Post from hh _ fun v g h => by
    refine ⟨g, rfl, ?_⟩
    rcases h with rfl | ⟨h, rfl⟩
    · exact Fz.tup2 (fz_file _ _ _) (.int _ _)
    · rw [h]
      exact Fz.tup2 (.nils_pl 3) (.int _ _)
  intro Post hPost
  obtain ⟨R, hR⟩ : ∃ R, makeR f l = R := ⟨_, rfl⟩
  rw [hR] at hPost
  have hPost0 : ∀ v, (v = .tup [fileAV R.1, .int .i64 R.2] ∨ R.1 = [] ∧ v = .tup [.nils, .int .i64 R.2]) → Post v σ := fun v h => by
    have := hPost v [] h
    rwa [List.append_nil] at this
  unfold makeR at hR
  refine acalls_fn Tryz.func75 rfl (enters_fn Tryz.func75 (by decide) rfl) ?_
  simp [Tryz.ntmps75]
  refine ACode_scopeT ?_
  simp
  refine (check_calls f hf).use ?_
  by_cases h0 : Oyez.check f = 0
  · rw [if_neg (by simp [h0])] at hR
    have rf := Oyez.check_zero h0
    have hm := rf.mks
    simp [h0]
    refine (checkC_calls l hl).use ?_
    by_cases h1 : Oyez.checkChg l = 0
    · rw [if_neg (by simp [h1])] at hR
      have rl := Oyez.checkChg_zero h1
      simp [h1]
      refine StA.of ((laid_calls f rf.sorted (by have := rf.len; omega) σ).mono ?_)
      rintro _ _ ⟨rfl, rfl⟩
      simp
      have hD : DeskAt (σ ++ deskG σ.length f) (.ptr σ.length 0) f := ⟨σ.length, σ.length + 1, rfl, by unfold deskG; simp, by unfold deskG; simp⟩
      obtain ⟨T, hT⟩ : ∃ T, deskG σ.length f = T := ⟨_, rfl⟩
      rw [hT] at hD ⊢
      have hDm := fun g => hD.more g
      refine ACode_loopT (fun env σ' => ∃ (u : List AV) (i : Nat) (g : Heap), env = { t := u } ∧ u.length = 72 ∧ tg u 0 = fileAV f ∧ tg u 1 = chgsAV l ∧ tg u 8 = .ptr σ.length 0 ∧ tg u 9 = .bool true ∧ tg u 27 = chgsAV l ∧ tg u 28 = .int .i64 l.length ∧ tg u 29 = .int .i64 i ∧ σ' = σ ++ (T ++ g) ∧ i ≤ l.length ∧ ∀ c ∈ l.take i, Oyez.getIn f c.place = c.was)
        (fun env _ => match tg env.t 29 with | .int _ i => l.length - i.toNat | _ => 0) ⟨_, 0, [], rfl, by simp, by simp, by simp, by simp, by simp, by simp, by simp, by simp, by simp, by omega, by simp⟩ ?_
      rintro env _ ⟨u, i, g, rfl, hl2, g0, g1, g8, g9, g27, g28, g29, rfl, hi, hfit⟩
      rcases Nat.lt_or_ge i l.length with hlt | hge
      · have hlt' : (i : Int) < (l.length : Int) := by omega
        have hll := rl.len
        have hx := w64 (n := (i : Int) + 1) (by omega) (by omega)
        obtain ⟨c, hc⟩ : ∃ c, l[i] = c := ⟨_, rfl⟩
        have hcm : c ∈ l := hc ▸ List.getElem_mem hlt
        have gc := rl.each c hcm
        have bc := chgErr_good gc
        have wc := chgErr_words gc
        have htk : l.take (i + 1) = l.take i ++ [c] := by rw [List.take_succ_eq_append_getElem hlt, hc]
        have hgl : (getW (Oyez.getIn f c.place)).length ≤ 2 ^ 40 := by
          cases h : Oyez.getIn f c.place with
          | none => exact Nat.zero_le _
          | some ws =>
            obtain ⟨r, hr, _, rfl⟩ := Oyez.getIn_mem h
            have := hm.words r hr
            show r.words.length ≤ 2 ^ 40
            omega
        simp [hl2, g0, g1, g8, g9, g27, g28, g29, hlt', hlt, hc, Nat.add_assoc]
        refine ACode_draw0 mixed (by kernel_rfl) ?_
        simp [hl2, g0, g1, g8, g9, g27, g28, g29, hlt', hlt, hc, Nat.add_assoc]
        refine Ou_use0 (cplace_calls c) ?_
        try simp [hl2, g0, g1, g8, g9, g27, g28, g29, hlt', hlt, hc, Nat.add_assoc]
        refine Ou_of0 (by
          have k := dstate_calls (hDm (g ++ [AObj.cells (chgCells c)])) c.place
          simpa [chgCells] using k) ?_
        try simp [hl2, g0, g1, g8, g9, g27, g28, g29, hlt', hlt, hc, Nat.add_assoc]
        refine Ou_use0 (was_calls bc) ?_
        try simp [hl2, g0, g1, g8, g9, g27, g28, g29, hlt', hlt, hc, Nat.add_assoc]
        refine Ou_use0 (same113_calls _ c.was hgl) ?_
        by_cases he : Oyez.getIn f c.place = c.was
        · simp [hl2, g0, g1, g8, g9, g27, g28, g29, hlt', hlt, hc, hx, he, Nat.add_assoc]
          refine ⟨⟨i + 1, by simp, by omega, fun d hd => ?_⟩, by omega⟩
          rw [htk, List.mem_append, List.mem_singleton] at hd
          rcases hd with hd | rfl
          · exact hfit d hd
          · exact he
        · have hfn : Oyez.fits f l = false := by
            unfold Oyez.fits
            rw [List.all_eq_false]
            exact ⟨c, hcm, by simpa using he⟩
          rw [if_pos hfn] at hR
          subst hR
          simp [hl2, g0, g1, g8, g9, g27, g28, g29, hlt', hlt, hc, hx, he, Nat.add_assoc]
          exact hPost _ _ (.inr ⟨rfl, rfl⟩)
      · have hge' : ¬ (i : Int) < (l.length : Int) := by omega
        have hfy : Oyez.fits f l = true := by
          unfold Oyez.fits
          rw [List.all_eq_true]
          intro c hc
          rw [List.take_of_length_le hge] at hfit
          simpa using hfit c hc
        rw [if_neg (by simp [hfy])] at hR
        have ctw := twinP f (by have := rf.len; omega) (fun r hr => by have := hm.words r hr; omega)
        simp [hl2, g0, g1, g8, g9, g27, g28, g29, hge']
        refine ctw.use ?_
        simp [hl2, g0, g1, g8, g9, g27, g28, g29, hge']
        clear g0 g1 g8 g9 g27 g28 g29 hfit hi hge hge' ctw
        refine ACode_loopT (fun env σ' => ∃ (u : List AV) (i : Nat) (g : Heap), env = { t := u } ∧ u.length = 72 ∧ tg u 12 = fileAV (Oyez.make f (l.take i)) ∧ tg u 46 = chgsAV l ∧ tg u 47 = .int .i64 l.length ∧ tg u 48 = .int .i64 i ∧ σ' = σ ++ g ∧ i ≤ l.length ∧ Oyez.Mk (40 + i) (Oyez.make f (l.take i)))
          (fun env _ => match tg env.t 48 with | .int _ i => l.length - i.toNat | _ => 0) ⟨_, 0, _, rfl, by simp [hl2], by simp [hl2, Oyez.make], by simp [hl2], by simp [hl2], by simp [hl2], rfl, by omega, by simpa [Oyez.make] using hm⟩ ?_
        clear hl2 u
        rintro env _ ⟨u, i, g, rfl, hl2, g12, g46, g47, g48, rfl, hi, hM⟩
        have hll := rl.len
        rcases Nat.lt_or_ge i l.length with hlt | hge
        · have hlt' : (i : Int) < (l.length : Int) := by omega
          have hx := w64 (n := (i : Int) + 1) (by omega) (by omega)
          obtain ⟨c, hc⟩ : ∃ c, l[i] = c := ⟨_, rfl⟩
          have hcm : c ∈ l := hc ▸ List.getElem_mem hlt
          have wc := chgErr_words (rl.each c hcm)
          have htk : l.take (i + 1) = l.take i ++ [c] := by rw [List.take_succ_eq_append_getElem hlt, hc]
          have hsn := Oyez.make_snoc f (l.take i) c
          rw [← htk] at hsn
          obtain ⟨O, hO⟩ : ∃ O, Oyez.make f (l.take i) = O := ⟨_, rfl⟩
          rw [hO] at hM g12 hsn
          have hMd := hM.drop c.place
          have c133 := withoutP O c.place (by have := hM.len; omega) (fun r hr => by have := hM.words r hr; omega)
          have c134 := withP (Oyez.drop O c.place) ⟨c.kind, c.number, c.new⟩ hMd.sorted (by have := hMd.len; omega) (fun r hr => by have := hMd.words r hr; omega) (by show c.new.length ≤ _; omega)
          rw [show Oyez.put (Oyez.drop O c.place) ⟨c.kind, c.number, c.new⟩ = Oyez.put O ⟨c.kind, c.number, c.new⟩ from Oyez.put_drop O ⟨c.kind, c.number, c.new⟩] at c134
          simp [hl2, g12, g46, g47, g48, hlt', hlt, hc, Nat.add_assoc]
          refine (cplace_calls c).use ?_
          simp [hl2, g12, g46, g47, g48, hlt', hlt, hc, Nat.add_assoc]
          refine c133.use ?_
          unfold Oyez.make1 at hsn
          cases hh : c.has with
          | true =>
            rw [hh, if_pos rfl] at hsn
            simp [hl2, g12, g46, g47, g48, hlt', hlt, hc, hh, Nat.add_assoc]
            refine c134.use ?_
            simp [hl2, g12, g46, g47, g48, hlt', hlt, hc, hh, hx, Nat.add_assoc]
            exact ⟨⟨i + 1, by rw [hsn], by simp, by omega, by rw [hsn]; exact (hM.put (by show c.new.length ≤ 6; omega)).up (by omega)⟩, by omega⟩
          | false =>
            rw [hh, if_neg (by simp)] at hsn
            simp [hl2, g12, g46, g47, g48, hlt', hlt, hc, hh, hx, Nat.add_assoc]
            exact ⟨⟨i + 1, by rw [hsn], by simp, by omega, by rw [hsn]; exact hMd.up (by omega)⟩, by omega⟩
        · have hge' : ¬ (i : Int) < (l.length : Int) := by omega
          rw [List.take_of_length_le hge] at g12 hM
          by_cases h2 : 40 < (Oyez.make f l).length
          · rw [if_pos h2] at hR
            subst hR
            have h2' : (40 : Int) < ((Oyez.make f l).length : Int) := by omega
            simp [hl2, g12, g46, g47, g48, hge', h2']
            exact hPost _ _ (.inr ⟨rfl, rfl⟩)
          · rw [if_neg h2] at hR
            subst hR
            have h2' : ¬ (40 : Int) < ((Oyez.make f l).length : Int) := by omega
            simp [hl2, g12, g46, g47, g48, hge', h2']
            exact hPost _ _ (.inl rfl)
    · rw [if_pos (by simp [h1])] at hR
      subst hR
      simp [h1]
      exact hPost0 _ (.inr ⟨rfl, rfl⟩)
  · rw [if_pos (by simp [h0])] at hR
    subst hR
    simp [h0]
    exact hPost0 _ (.inr ⟨rfl, rfl⟩)
end Ab
namespace Ab
open Go Go.RowKit Go.Proofs
attribute [local irreducible] aws awp aw1 Og Om Oc Oa Ogd Ov Ot awd aw1d awh aw1h Ogh Ohd awl Ogl Ohl awv Ogv Ohv QThen QBlock QFn QFnM QRo QBe ACode AYield
def getR (f : List Oyez.Rec) (p : Oyez.Place) : List (List UInt8) × Int := if Oyez.check f ≠ 0 then ([], Oyez.check f) else match Oyez.getIn f p with | none => ([], 1) | some ws => (ws, 0)
def dropR (f : List Oyez.Rec) (p : Oyez.Place) : List Oyez.Rec × Int := if (getR f p).2 ≠ 0 then ([], (getR f p).2) else (Oyez.drop f p, 0)
theorem gotD_calls {σ : Heap} {d : AV} {f : List Oyez.Rec} (hd : DeskAt σ d f) (p : Oyez.Place) : ACalls Tryz.prog 131 [d, placeAV p] σ (fun v σ' => v = .tup [wordsAV (getW (Oyez.getIn f p)), .bool (Oyez.getIn f p).isSome] ∧ σ' = σ) := by
  obtain ⟨r, m, rfl, h1, h2⟩ := hd.ex
  refine ACalls.forget ?_
  cases hg : Oyez.getIn f p with
  | none =>
    refine (got_calls σ r m (fileAV f) (ents f) h1 h2 p.kind p.number .nils false (by rw [deskAt_file, hg])).mono ?_
    rintro v σ' ⟨rfl, g, rfl⟩
    exact ⟨g, _, rfl, Fz.tup2 (.nils_pl 1) (.bool _), rfl, rfl⟩
  | some ws =>
    refine (got_calls σ r m (fileAV f) (ents f) h1 h2 p.kind p.number (wordsAV ws) true (by rw [deskAt_file, hg])).mono ?_
    rintro v σ' ⟨rfl, g, rfl⟩
    exact ⟨g, _, rfl, Fz.tup2 (fz_words _ _ _) (.bool _), rfl, rfl⟩
set_option maxHeartbeats 4000000 in
theorem getO63 (f : List Oyez.Rec) (p : Oyez.Place) (hf : Few f) (σ : Heap) : ACalls Tryz.prog 63 [fileAV f, placeAV p] σ fun v s => ∃ g v1, s = σ ++ g ∧ v = .tup [v1, .int .i64 (getR f p).2] ∧ WdO σ.length s v1 (getR f p).1 := by
  suffices hh : ∀ Post : AV → Heap → Prop, (∀ v s, (∃ g v1, s = σ ++ g ∧ v = .tup [v1, .int .i64 (getR f p).2] ∧ WdO σ.length s v1 (getR f p).1) → Post v s) → ACalls Tryz.prog 63 [fileAV f, placeAV p] σ Post from hh _ fun v s h => h
  intro Post hPost
  obtain ⟨R, hR⟩ : ∃ R, getR f p = R := ⟨_, rfl⟩
  rw [hR] at hPost
  unfold getR at hR
  refine acalls_fn Tryz.func63 rfl (enters_fn Tryz.func63 (by decide) rfl) ?_
  simp [Tryz.ntmps63]
  refine (check_calls f hf).use ?_
  by_cases h0 : Oyez.check f = 0
  · rw [if_neg (by simp [h0])] at hR
    have rf := Oyez.check_zero h0
    simp [h0]
    refine ACode_drawV [1] [(2, 0)] mixed (by kernel_rfl) (by kernel_rfl) ?_
    simp
    refine OuH_of (laid_calls f rf.sorted (by have := rf.len; omega) _) ?_
    have hD : ∀ S : Heap, DeskAt (S ++ deskG S.length f) (.ptr S.length 0) f := fun S => ⟨S.length, S.length + 1, rfl, by unfold deskG; simp, by unfold deskG; simp⟩
    simp
    have key : ∀ S : Heap, S = σ ++ [AObj.cells [AV.int .i64 p.kind, AV.int .i64 p.number]] → ACalls Tryz.prog 131 [.ptr (σ.length + 1) 0, placeAV p] (S ++ deskG S.length f) (fun v σ' => v = .tup [wordsAV (getW (Oyez.getIn f p)), .bool (Oyez.getIn f p).isSome] ∧ σ' = S ++ deskG S.length f) := by
      rintro S rfl
      have k := gotD_calls (hD (σ ++ [AObj.cells [AV.int .i64 p.kind, AV.int .i64 p.number]])) p
      simpa using k
    have key := key _ rfl
    obtain ⟨T, hT⟩ : ∃ T, deskG (σ.length + 1) f = T := ⟨_, rfl⟩
    simp [hT] at key
    rw [hT]
    refine Ou_of0 key ?_
    cases hg : Oyez.getIn f p with
    | none =>
      rw [hg] at hR
      subst hR
      simp [getW]
      exact hPost _ _ ⟨_, _, rfl, rfl, .inl ⟨rfl, .inl rfl⟩⟩
    | some ws =>
      rw [hg] at hR
      subst hR
      obtain ⟨r, hr, _, hrw⟩ := Oyez.getIn_mem hg
      have hwl := rf.mks.words r hr
      rw [hrw] at hwl
      simp [getW]
      refine StA.of ((clone_calls ws (by omega) _).mono ?_)
      rintro _ _ ⟨rfl, rfl⟩
      simp
      by_cases hw0 : ws = []
      · subst hw0
        exact hPost _ _ ⟨_, _, by simp [cloneG]; rfl, rfl, .inl ⟨rfl, .inr (by simp [cloneV])⟩⟩
      · refine hPost _ _ ⟨AObj.cells [AV.int .i64 p.kind, AV.int .i64 p.number] :: (T ++ cloneG ws), _, by simp [hT], rfl, ?_⟩
        refine .inr ⟨_, ?_, by simp [cloneV, hw0]; rfl, ?_⟩
        · simp
        · simp [cloneG, hw0]
  · rw [if_pos (by simp [h0])] at hR
    subst hR
    simp [h0]
    exact hPost _ _ ⟨_, _, rfl, rfl, .inl ⟨rfl, .inl rfl⟩⟩
theorem getP63 (f : List Oyez.Rec) (p : Oyez.Place) (hf : Few f) : APure Tryz.prog 63 [fileAV f, placeAV p] (.tup [wordsAV (getR f p).1, .int .i64 (getR f p).2]) := by
  refine APure.of fun σ => (getO63 f p hf σ).mono ?_
  rintro _ _ ⟨g, w, rfl, rfl, h⟩
  exact ⟨g, rfl, Fz.tup2 (h.fz (Nat.le_refl _)) (.int _ _)⟩
theorem getR_two {f : List Oyez.Rec} {p : Oyez.Place} (h : (getR f p).2 = 0) : Oyez.check f = 0 ∧ (Oyez.getIn f p).isSome = true := by
  unfold getR at h
  by_cases h0 : Oyez.check f = 0
  · rw [if_neg (by simp [h0])] at h
    refine ⟨h0, ?_⟩
    cases hg : Oyez.getIn f p with
    | none => rw [hg] at h; simp at h
    | some ws => rfl
  · rw [if_pos h0] at h
    exact absurd h h0
set_option maxHeartbeats 4000000 in
theorem dropO64 (f : List Oyez.Rec) (p : Oyez.Place) (hf : Few f) (σ : Heap) : ACalls Tryz.prog 64 [fileAV f, placeAV p] σ fun v s => ∃ g w, s = σ ++ g ∧ v = .tup [w, .int .i64 (dropR f p).2] ∧ FileO σ.length s w (dropR f p).1 := by
  suffices hh : ∀ Post : AV → Heap → Prop, (∀ v s, (∃ g w, s = σ ++ g ∧ v = .tup [w, .int .i64 (dropR f p).2] ∧ FileO σ.length s w (dropR f p).1) → Post v s) → ACalls Tryz.prog 64 [fileAV f, placeAV p] σ Post from hh _ fun v s h => h
  intro Post hPost
  obtain ⟨R, hR⟩ : ∃ R, dropR f p = R := ⟨_, rfl⟩
  rw [hR] at hPost
  unfold dropR at hR
  have c63 := getP63 f p hf
  have two := getR_two (f := f) (p := p)
  obtain ⟨G, hG⟩ : ∃ G, getR f p = G := ⟨_, rfl⟩
  rw [hG] at hR c63 two
  refine acalls_fn Tryz.func64 rfl (enters_fn Tryz.func64 (by decide) rfl) ?_
  simp [Tryz.ntmps64]
  refine c63.use ?_
  by_cases h1 : G.2 = 0
  · rw [if_neg (by simp [h1])] at hR
    subst hR
    have rf := Oyez.check_zero (two h1).1
    have hm := rf.mks
    have c133 := without_calls f p (by have := rf.len; omega) (fun x hx => by have := hm.words x hx; omega)
    simp [h1]
    refine StA.of ((c133 _).mono ?_)
    rintro _ _ ⟨g, q, Y, rfl, rfl, hY, hRA⟩
    simp
    exact hPost _ _ ⟨_, _, rfl, rfl, .inr ⟨q, Y, rfl, hY, by simpa using hRA.down (lo' := σ.length) (by simp)⟩⟩
  · rw [if_pos (by simp [h1])] at hR
    subst hR
    simp [h1]
    exact hPost _ _ ⟨_, _, rfl, rfl, .inl ⟨rfl, rfl⟩⟩
theorem dropP64 (f : List Oyez.Rec) (p : Oyez.Place) (hf : Few f) : APure Tryz.prog 64 [fileAV f, placeAV p] (.tup [fileAV (dropR f p).1, .int .i64 (dropR f p).2]) := by
  refine APure.of fun σ => (dropO64 f p hf σ).mono ?_
  rintro _ _ ⟨g, w, rfl, rfl, h⟩
  exact ⟨g, rfl, Fz.tup2 (h.fz (Nat.le_refl _)) (.int _ _)⟩
end Ab

/-
  A LOOP WHOSE ROUNDS FREEZE what lies: Make with what it gives as the call's own.
-/
import Derived.Test.YtdifgaapdnbliaaGreatDoorR40
set_option linter.unusedSimpArgs false
set_option linter.unusedVariables false
set_option linter.unusedSectionVars false
namespace Ab
open Go Go.RowKit
variable [Mode]
variable {P : Program}
/-- A PIECE OF CODE ahead of which objects n and behind are never written again. -/
theorem ACode.frz {rd : Option Nat} {c : Code} {Q : Exit → Env → Heap → Prop} {u u' : List AV} {m : List Nat} {σ : Heap} (n : Nat) (h : ACode P rd c Q { t := u', m := m } (cold n σ)) (hl : u'.length = u.length)
    (hz : ∀ (i : Nat) (x y : AV), u[i]? = some x → u'[i]? = some y → Fz n σ x y) : ACode P rd c Q { t := u, m := m } σ := by
  intro C a ro hI he hr
  have he' : ER (C.ice n σ) { t := u', m := m } a := ⟨⟨hl ▸ he.t.len, fun i y c hy hc => by
    have hi : i < u'.length := (List.getElem?_eq_some_iff.1 hy).1
    have hx : u[i]? = some (u[i]'(by omega)) := List.getElem?_eq_getElem (by omega)
    exact ((he.t.at_ i _ c hx hc).frz hI (hz i _ y hx hy)).ext (Ext.frz_ice n σ)⟩, he.m, fun i r d h1 h2 => he.mark i r d h1 h2⟩
  exact wpIn_mono (h (C.ice n σ) a ro (hI.ice n) he' (hr.ext (Ext.ice n σ))) fun _ _ _ hp => hp.ext (Ext.ice n σ)
/-- A LOOP whose rounds begin so. -/
theorem ACode_loopTZ {rd : Option Nat} {c : Code} {Q : Exit → Env → Heap → Prop} {env : Env} {σ : Heap} (I : Env → Heap → Prop) (μ : Env → Heap → Nat) (h0 : I env σ)
    (round : ∀ env σ, I env σ → awp P rd c (QThen (fun env' σ' => I env' σ' ∧ μ env' σ' < μ env σ) Q) env σ ∨ ∃ (n : Nat) (u' : List AV), u'.length = env.t.length ∧ (∀ (i : Nat) (x y : AV), env.t[i]? = some x → u'[i]? = some y → Fz n σ x y) ∧ awp P rd c (QThen (fun env' σ' => I env' σ' ∧ μ env' σ' < μ env σ) Q) { t := u', m := env.m } (cold n σ)) : @StC _ P rd ⟨.loop c⟩ ⟨Q⟩ env σ :=
  ACode_loop I μ h0 fun env σ hi => by
    rcases round env σ hi with h | ⟨n, u', h1, h2, h3⟩
    · exact awp_sound c h
    · exact (awp_sound c h3).frz n h1 h2
/-- these temporaries, and none else -/
def pickT (u : List AV) (l : List (Nat × AV)) : List AV := l.foldl (fun t p => ts t p.1 p.2) (List.replicate u.length .any)
theorem pickT_len (u : List AV) (l : List (Nat × AV)) : (pickT u l).length = u.length := by
  unfold pickT
  suffices h : ∀ (l : List (Nat × AV)) (t : List AV), (l.foldl (fun t p => ts t p.1 p.2) t).length = t.length by rw [h, List.length_replicate]
  intro l
  induction l with
  | nil => intro t; rfl
  | cons p l ih => intro t; rw [List.foldl_cons, ih]; simp [ts]
theorem pickT_fz {n : Nat} {σ : Heap} {u : List AV} {l : List (Nat × AV)} (h : ∀ p ∈ l, Fz n σ (tg u p.1) p.2) : ∀ (i : Nat) (x y : AV), u[i]? = some x → (pickT u l)[i]? = some y → Fz n σ x y := by
  unfold pickT
  suffices hh : ∀ (l : List (Nat × AV)), (∀ p ∈ l, Fz n σ (tg u p.1) p.2) → ∀ t : List AV, (∀ (i : Nat) (x y : AV), u[i]? = some x → t[i]? = some y → Fz n σ x y) → ∀ (i : Nat) (x y : AV), u[i]? = some x → (l.foldl (fun t p => ts t p.1 p.2) t)[i]? = some y → Fz n σ x y from
    hh l h _ fun i x y _ hy => by
      rw [List.getElem?_replicate] at hy
      split at hy
      · cases hy; exact .any _
      · cases hy
  intro l
  induction l with
  | nil => intro _ t ht; exact ht
  | cons p l ih =>
    intro h t ht
    refine ih (fun q hq => h q (List.mem_cons_of_mem _ hq)) _ fun i x y hx hy => ?_
    have hp := h p (by simp)
    unfold ts at hy
    rw [List.getElem?_set] at hy
    split at hy
    · rename_i e
      subst e
      split at hy
      · cases hy
        unfold tg at hp
        rwa [List.getD_eq_getElem?_getD, hx] at hp
      · cases hy
    · exact ht i x y hx hy
end Ab
namespace Ab
open Go Go.RowKit Go.Proofs
attribute [local irreducible] aws awp aw1 Og Om Oc Oa Ogd Ov Ot awd aw1d awh aw1h Ogh Ohd awl Ogl Ohl awv Ogv Ohv QThen QBlock QFn QFnM QRo QBe ACode AYield
theorem fz_chgsZ (n : Nat) (S : Heap) (l : List Oyez.Chg) : Fz n S (chgsAV l) (chgsAV l) := .pl 6 _ fun i x hx j y hy => fz_chgs n S l x (List.mem_of_getElem? hx) y (List.mem_of_getElem? hy)
/-- with, of a file of the call's own -/
theorem with_own {S g : Heap} {q : Nat} {Y : List (Oyez.Rec × AV)} (r : Oyez.Rec) (h : RA S.length (S ++ g) q Y) (hs : Oyez.RSorted (Y.map Prod.fst)) (hl : (Y.map Prod.fst).length ≤ 2 ^ 19) (hw : ∀ x ∈ Y.map Prod.fst, x.words.length ≤ 2 ^ 40) (hwr : r.words.length ≤ 2 ^ 40) :
    ACalls Tryz.prog 134 [.arr 3 q 0 Y.length, recAV r] (S ++ g) fun v s => ∃ g2 q2 Y2, s = S ++ g2 ∧ v = .arr 3 q2 0 Y2.length ∧ Y2.map Prod.fst = Oyez.put (Y.map Prod.fst) r ∧ RA S.length s q2 Y2 := by
  have hc := cold_app (σ := S) (g := g)
  refine ACalls.freeze (args := [.arr 3 q 0 Y.length, recAV r]) (args' := [fileAV (Y.map Prod.fst), recAV r]) S.length ?_ rfl fun i x y hx hy => ?_
  · refine (with_calls (Y.map Prod.fst) r hs hl hw hwr _).mono ?_
    rintro v s ⟨g2, q2, Y2, rfl, rfl, h1, h2⟩
    refine ⟨List.replicate g.length .dead ++ g2, q2, Y2, by rw [hc, List.append_assoc], rfl, h1, h2.down (by rw [hc]; simp)⟩
  · match i, hx, hy with
    | 0, hx, hy => simp only [List.getElem?_cons_zero, Option.some.injEq] at hx hy; subst hx; subst hy; exact h.fz (Nat.le_refl _)
    | 1, hx, hy =>
      simp only [List.getElem?_cons_zero, List.getElem?_cons_succ, Option.some.injEq] at hx hy
      subst hx; subst hy
      exact Fz.agg_iff.2 (FzL.cons_iff.2 ⟨.int _ _, FzL.cons_iff.2 ⟨.int _ _, FzL.cons_iff.2 ⟨fz_words _ _ _, FzL.nil_iff.2 trivial⟩⟩⟩)
    | i + 2, hx, _ => simp at hx
set_option maxHeartbeats 8000000 in
theorem makeO75 (f : List Oyez.Rec) (l : List Oyez.Chg) (hf : Few f) (hl : FewC l) (σ : Heap) : ACalls Tryz.prog 75 [fileAV f, chgsAV l] σ fun v s => ∃ g w, s = σ ++ g ∧ v = .tup [w, .int .i64 (makeR f l).2] ∧ FileO σ.length s w (makeR f l).1 := by
  suffices hh : ∀ Post : AV → Heap → Prop, (∀ v g, (∃ w, v = .tup [w, .int .i64 (makeR f l).2] ∧ FileO σ.length (σ ++ g) w (makeR f l).1) → Post v (σ ++ g)) → ACalls Tryz.prog 75 [fileAV f, chgsAV l] σ Post from hh _ fun v g h => by
    obtain ⟨w, h1, h2⟩ := h
    exact ⟨g, w, rfl, h1, h2⟩
  intro Post hPost
  obtain ⟨R, hR⟩ : ∃ R, makeR f l = R := ⟨_, rfl⟩
  rw [hR] at hPost
  have hPost0 : ∀ v, (R.1 = [] ∧ v = .tup [.nils, .int .i64 R.2]) → Post v σ := fun v h => by
    have := hPost v [] ⟨.nils, h.2, .inl ⟨h.1, rfl⟩⟩
    rwa [List.append_nil] at this
  unfold makeR at hR
  refine acalls_fn Tryz.func75 rfl (enters_fn Tryz.func75 (by decide) rfl) ?_
  simp [Tryz.ntmps75]
  refine ACode_scopeT ?_
  simp
  refine (check_calls f hf).use ?_
  by_cases h0 : Oyez.check f = 0
  · rw [if_neg (by simp [h0])] at hR
    have rf := Oyez.check_zero h0
    have hm := rf.mks
    simp [h0]
    refine (checkC_calls l hl).use ?_
    by_cases h1 : Oyez.checkChg l = 0
    · rw [if_neg (by simp [h1])] at hR
      have rl := Oyez.checkChg_zero h1
      simp [h1]
      refine StA.of ((laid_calls f rf.sorted (by have := rf.len; omega) σ).mono ?_)
      rintro _ _ ⟨rfl, rfl⟩
      simp
      have hD : DeskAt (σ ++ deskG σ.length f) (.ptr σ.length 0) f := ⟨σ.length, σ.length + 1, rfl, by unfold deskG; simp, by unfold deskG; simp⟩
      obtain ⟨T, hT⟩ : ∃ T, deskG σ.length f = T := ⟨_, rfl⟩
      rw [hT] at hD ⊢
      have hDm := fun g => hD.more g
      refine ACode_loopT (fun env σ' => ∃ (u : List AV) (i : Nat) (g : Heap), env = { t := u } ∧ u.length = 72 ∧ tg u 0 = fileAV f ∧ tg u 1 = chgsAV l ∧ tg u 8 = .ptr σ.length 0 ∧ tg u 9 = .bool true ∧ tg u 27 = chgsAV l ∧ tg u 28 = .int .i64 l.length ∧ tg u 29 = .int .i64 i ∧ σ' = σ ++ (T ++ g) ∧ i ≤ l.length ∧ ∀ c ∈ l.take i, Oyez.getIn f c.place = c.was)
        (fun env _ => match tg env.t 29 with | .int _ i => l.length - i.toNat | _ => 0) ⟨_, 0, [], rfl, by simp, by simp, by simp, by simp, by simp, by simp, by simp, by simp, by simp, by omega, by simp⟩ ?_
      rintro env _ ⟨u, i, g, rfl, hl2, g0, g1, g8, g9, g27, g28, g29, rfl, hi, hfit⟩
      rcases Nat.lt_or_ge i l.length with hlt | hge
      · have hlt' : (i : Int) < (l.length : Int) := by omega
        have hll := rl.len
        have hx := w64 (n := (i : Int) + 1) (by omega) (by omega)
        obtain ⟨c, hc⟩ : ∃ c, l[i] = c := ⟨_, rfl⟩
        have hcm : c ∈ l := hc ▸ List.getElem_mem hlt
        have gc := rl.each c hcm
        have bc := chgErr_good gc
        have wc := chgErr_words gc
        have htk : l.take (i + 1) = l.take i ++ [c] := by rw [List.take_succ_eq_append_getElem hlt, hc]
        have hgl : (getW (Oyez.getIn f c.place)).length ≤ 2 ^ 40 := by
          cases h : Oyez.getIn f c.place with
          | none => exact Nat.zero_le _
          | some ws =>
            obtain ⟨r, hr, _, rfl⟩ := Oyez.getIn_mem h
            have := hm.words r hr
            show r.words.length ≤ 2 ^ 40
            omega
        simp [hl2, g0, g1, g8, g9, g27, g28, g29, hlt', hlt, hc, Nat.add_assoc]
        refine ACode_draw0 mixed (by kernel_rfl) ?_
        simp [hl2, g0, g1, g8, g9, g27, g28, g29, hlt', hlt, hc, Nat.add_assoc]
        refine Ou_use0 (cplace_calls c) ?_
        try simp [hl2, g0, g1, g8, g9, g27, g28, g29, hlt', hlt, hc, Nat.add_assoc]
        refine Ou_of0 (by
          have k := dstate_calls (hDm (g ++ [AObj.cells (chgCells c)])) c.place
          simpa [chgCells] using k) ?_
        try simp [hl2, g0, g1, g8, g9, g27, g28, g29, hlt', hlt, hc, Nat.add_assoc]
        refine Ou_use0 (was_calls bc) ?_
        try simp [hl2, g0, g1, g8, g9, g27, g28, g29, hlt', hlt, hc, Nat.add_assoc]
        refine Ou_use0 (same113_calls _ c.was hgl) ?_
        by_cases he : Oyez.getIn f c.place = c.was
        · simp [hl2, g0, g1, g8, g9, g27, g28, g29, hlt', hlt, hc, hx, he, Nat.add_assoc]
          refine ⟨⟨i + 1, by simp, by omega, fun d hd => ?_⟩, by omega⟩
          rw [htk, List.mem_append, List.mem_singleton] at hd
          rcases hd with hd | rfl
          · exact hfit d hd
          · exact he
        · have hfn : Oyez.fits f l = false := by
            unfold Oyez.fits
            rw [List.all_eq_false]
            exact ⟨c, hcm, by simpa using he⟩
          rw [if_pos hfn] at hR
          subst hR
          simp [hl2, g0, g1, g8, g9, g27, g28, g29, hlt', hlt, hc, hx, he, Nat.add_assoc]
          exact hPost _ _ ⟨_, rfl, .inl ⟨rfl, rfl⟩⟩
      · have hge' : ¬ (i : Int) < (l.length : Int) := by omega
        have hfy : Oyez.fits f l = true := by
          unfold Oyez.fits
          rw [List.all_eq_true]
          intro c hc
          rw [List.take_of_length_le hge] at hfit
          simpa using hfit c hc
        rw [if_neg (by simp [hfy])] at hR
        simp [hl2, g0, g1, g8, g9, g27, g28, g29, hge']
        refine StA.of ((twin_calls f (by have := rf.len; omega) (fun r hr => by have := hm.words r hr; omega) (fileAV f) _ (fun g => acells_file f _) (fun S => by simp)).mono ?_)
        rintro _ _ ⟨g2, rfl, hC⟩
        obtain ⟨q, Y, rfl, hY, hRA⟩ := hC.ra
        have hRA2 := hRA.down (lo' := σ.length) (by simp)
        rw [List.append_assoc] at hRA2
        simp [hl2, g0, g1, g8, g9, g27, g28, g29, hge']
        clear g0 g1 g8 g9 g27 g28 g29 hfit hi hge hge'
        refine ACode_loopTZ (fun env σ' => ∃ (u : List AV) (i : Nat) (g : Heap) (q : Nat) (Y : List (Oyez.Rec × AV)), env = { t := u } ∧ u.length = 72 ∧ tg u 12 = .arr 3 q 0 Y.length ∧ tg u 46 = chgsAV l ∧ tg u 47 = .int .i64 l.length ∧ tg u 48 = .int .i64 i ∧ σ' = σ ++ g ∧ i ≤ l.length ∧ Y.map Prod.fst = Oyez.make f (l.take i) ∧ RA σ.length (σ ++ g) q Y ∧ Oyez.Mk (40 + i) (Oyez.make f (l.take i)))
          (fun env _ => match tg env.t 48 with | .int _ i => l.length - i.toNat | _ => 0) ⟨_, 0, _, q, Y, rfl, by simp [hl2], by simp [hl2], by simp [hl2], by simp [hl2], by simp [hl2], by simp; rfl, by omega, by simpa [Oyez.make] using hY, by simpa using hRA2, by simpa [Oyez.make] using hm⟩ ?_
        clear hl2 u hC hRA hRA2 hY Y q
        rintro env _ ⟨u, i, g, q, Y, rfl, hl2, g12, g46, g47, g48, rfl, hi, hY, hRA, hM⟩
        have hll := rl.len
        rcases Nat.lt_or_ge i l.length with hlt | hge
        · skip
          refine .inr ⟨σ.length, pickT u [(12, fileAV (Oyez.make f (l.take i))), (46, chgsAV l), (47, .int .i64 l.length), (48, .int .i64 i)], pickT_len _ _, pickT_fz (by simp only [List.mem_cons, List.not_mem_nil, or_false]; rintro p (rfl | rfl | rfl | rfl) <;> dsimp only <;> first | (rw [g12, ← hY]; exact hRA.fz (Nat.le_refl _)) | (rw [g46]; exact fz_chgsZ _ _ _) | (rw [g47]; exact .int _ _) | (rw [g48]; exact .int _ _)), ?_⟩
          have e0 : (match tg u 48 with | .int _ i => l.length - i.toNat | _ => 0) = l.length - i := by rw [g48]; simp
          have hl2' := (pickT_len u [(12, fileAV (Oyez.make f (l.take i))), (46, chgsAV l), (47, .int .i64 l.length), (48, .int .i64 i)]).trans hl2
          have k12 : tg (pickT u [(12, fileAV (Oyez.make f (l.take i))), (46, chgsAV l), (47, .int .i64 l.length), (48, .int .i64 i)]) 12 = fileAV (Oyez.make f (l.take i)) := by simp [pickT, hl2]
          have k46 : tg (pickT u [(12, fileAV (Oyez.make f (l.take i))), (46, chgsAV l), (47, .int .i64 l.length), (48, .int .i64 i)]) 46 = chgsAV l := by simp [pickT, hl2]
          have k47 : tg (pickT u [(12, fileAV (Oyez.make f (l.take i))), (46, chgsAV l), (47, .int .i64 l.length), (48, .int .i64 i)]) 47 = .int .i64 l.length := by simp [pickT, hl2]
          have k48 : tg (pickT u [(12, fileAV (Oyez.make f (l.take i))), (46, chgsAV l), (47, .int .i64 l.length), (48, .int .i64 i)]) 48 = .int .i64 i := by simp [pickT, hl2]
          obtain ⟨u', hu'⟩ : ∃ x, pickT u [(12, fileAV (Oyez.make f (l.take i))), (46, chgsAV l), (47, .int .i64 l.length), (48, .int .i64 i)] = x := ⟨_, rfl⟩
          rw [hu'] at hl2' k12 k46 k47 k48 ⊢
          rw [cold_app]
          obtain ⟨dd, hdd⟩ : ∃ x, List.replicate g.length AObj.dead = x := ⟨_, rfl⟩
          rw [hdd]
          dsimp only
          rw [e0]
          have hlt' : (i : Int) < (l.length : Int) := by omega
          have hx := w64 (n := (i : Int) + 1) (by omega) (by omega)
          obtain ⟨c, hc⟩ : ∃ c, l[i] = c := ⟨_, rfl⟩
          have hcm : c ∈ l := hc ▸ List.getElem_mem hlt
          have wc := chgErr_words (rl.each c hcm)
          have htk : l.take (i + 1) = l.take i ++ [c] := by rw [List.take_succ_eq_append_getElem hlt, hc]
          have hsn := Oyez.make_snoc f (l.take i) c
          rw [← htk] at hsn
          obtain ⟨O, hO⟩ : ∃ O, Oyez.make f (l.take i) = O := ⟨_, rfl⟩
          rw [hO] at hM k12 hsn
          have hMd := hM.drop c.place
          have c133 := without_calls O c.place (by have := hM.len; omega) (fun r hr => by have := hM.words r hr; omega)
          have epd : Oyez.put (Oyez.drop O c.place) ⟨c.kind, c.number, c.new⟩ = Oyez.put O ⟨c.kind, c.number, c.new⟩ := Oyez.put_drop O ⟨c.kind, c.number, c.new⟩
          have c134 := fun (S g : Heap) (q : Nat) (Y : List (Oyez.Rec × AV)) (hY : Y.map Prod.fst = Oyez.drop O c.place) (hR : RA S.length (S ++ g) q Y) => with_own (S := S) (g := g) (q := q) (Y := Y) ⟨c.kind, c.number, c.new⟩ hR (by rw [hY]; exact hMd.sorted) (by rw [hY]; have := hMd.len; omega) (by rw [hY]; exact fun r hr => by have := hMd.words r hr; omega) (by show c.new.length ≤ _; omega)
          simp [hl2', k12, k46, k47, k48, hlt', hlt, hc, Nat.add_assoc]
          refine (cplace_calls c).use ?_
          simp [hl2', k12, k46, k47, k48, hlt', hlt, hc, Nat.add_assoc]
          refine StA.of ((c133 _).mono ?_)
          rintro _ _ ⟨g3, q3, Y3, rfl, rfl, hY3, hR3⟩
          unfold Oyez.make1 at hsn
          have l134 : ∀ Z : Heap, Z = σ ++ (dd ++ [AObj.cells (chgCells c)]) ++ g3 → ACalls Tryz.prog 134 [.arr 3 q3 0 Y3.length, .agg [.int .i64 c.kind, .int .i64 c.number, wordsAV c.new]] Z fun v s => ∃ g2 q2 Y2, s = σ ++ (dd ++ [AObj.cells (chgCells c)]) ++ g2 ∧ v = .arr 3 q2 0 Y2.length ∧ Y2.map Prod.fst = Oyez.put O ⟨c.kind, c.number, c.new⟩ ∧ RA (σ ++ (dd ++ [AObj.cells (chgCells c)])).length s q2 Y2 := by
            rintro _ rfl
            have k := c134 (σ ++ (dd ++ [AObj.cells (chgCells c)])) g3 q3 Y3 hY3 hR3
            rw [hY3, epd] at k
            exact k
          clear c134
          cases hh : c.has with
          | true =>
            rw [hh, if_pos rfl] at hsn
            simp [hl2', k12, k46, k47, k48, hlt', hlt, hc, hh, Nat.add_assoc]
            refine StA.of ((l134 _ (by simp [chgCells, hh])).mono ?_)
            rintro _ _ ⟨g4, q4, Y4, rfl, rfl, hY4, hR4⟩
            have hR5 := hR4.down (lo' := σ.length) (by simp)
            simp [hl2', k12, k46, k47, k48, hlt', hlt, hc, hh, hx, Nat.add_assoc]
            exact ⟨⟨i + 1, _, q4, Y4, ⟨rfl, rfl⟩, by simp, rfl, by omega, by rw [hY4, hsn], by simpa using hR5, by rw [hsn]; exact (hM.put (by show c.new.length ≤ 6; omega)).up (by omega)⟩, by omega⟩
          | false =>
            rw [hh, if_neg (by simp)] at hsn
            have hR5 := hR3.down (lo' := σ.length) (by simp)
            simp [hl2', k12, k46, k47, k48, hlt', hlt, hc, hh, hx, Nat.add_assoc]
            exact ⟨⟨i + 1, _, q3, Y3, ⟨rfl, rfl⟩, by simp, rfl, by omega, by rw [hY3, hsn], by simpa [chgCells, hh] using hR5, by rw [hsn]; exact hMd.up (by omega)⟩, by omega⟩
        · have hge' : ¬ (i : Int) < (l.length : Int) := by omega
          rw [List.take_of_length_le hge] at hY hM
          have hYl : (Y.length : Int) = ((Oyez.make f l).length : Int) := by rw [← hY]; simp
          refine .inl ?_
          by_cases h2 : 40 < (Oyez.make f l).length
          · rw [if_pos h2] at hR
            subst hR
            have h2' : (40 : Int) < ((Oyez.make f l).length : Int) := by omega
            simp [hl2, g12, g46, g47, g48, hge', hYl, h2']
            exact hPost _ _ ⟨_, rfl, .inl ⟨rfl, rfl⟩⟩
          · rw [if_neg h2] at hR
            subst hR
            have h2' : ¬ (40 : Int) < ((Oyez.make f l).length : Int) := by omega
            simp [hl2, g12, g46, g47, g48, hge', hYl, h2']
            exact hPost _ _ ⟨_, rfl, .inr ⟨q, Y, rfl, hY, hRA⟩⟩
    · rw [if_pos (by simp [h1])] at hR
      subst hR
      simp [h1]
      exact hPost0 _ ⟨rfl, rfl⟩
  · rw [if_pos (by simp [h0])] at hR
    subst hR
    simp [h0]
    exact hPost0 _ ⟨rfl, rfl⟩
end Ab

/-
  FileMade: the walk.
-/
import Derived.Test.YtdifgaapdnbliaaGreatDoorN30
import Derived.Test.YtdifgaapdnbliaaGreatDoorN34
import Derived.Test.YtdifgaapdnbliaaGreatDoorN43
import Derived.Test.YtdifgaapdnbliaaGreatDoorN25
set_option linter.unusedSimpArgs false
set_option linter.unusedVariables false
set_option linter.unusedSectionVars false
namespace Oyez
def neverSaid : List S := [[110, 101, 118, 101, 114], [115, 97, 105, 100]]
theorem never_rec {p : Place} (hp : p ∈ allPlaces) : recErr ⟨p.kind, p.number, neverSaid⟩ = 0 := by
  rw [mem_allPlaces] at hp
  refine (recErr_iff _).2 ⟨?_, ?_⟩
  · unfold placeErr
    rw [if_neg (by simp; omega), if_neg (by simp; omega)]
  · show wordsErr p.kind p.number neverSaid = 0
    unfold wordsErr
    rw [if_neg (by decide), if_neg (by decide), if_neg]
    have h1 : (name p.kind).length ≤ 6 := by
      have : p.kind = 0 ∨ p.kind = 1 ∨ p.kind = 2 ∨ p.kind = 3 ∨ p.kind = 4 := by omega
      rcases this with h | h | h | h | h <;> rw [h] <;> decide
    have h2 : (digits p.number).length ≤ 3 := digits_len 2 p.number.toNat (by omega)
    unfold line neverSaid
    simp only [List.length_append, List.length_cons, List.length_nil, List.flatMap_cons, List.flatMap_nil]
    omega
theorem never_ne {f : List Rec} (hf : ∀ r ∈ f, ∀ w ∈ r.words, w ∈ Ab.wordL) (p : Place) : getIn f p ≠ some neverSaid := fun h => by
  obtain ⟨r, hr, _, h2⟩ := getIn_mem h
  have := hf r hr [110, 101, 118, 101, 114] (by rw [h2]; exact List.mem_cons_self)
  revert this
  decide
theorem right_put {f : List Rec} (hf : Right f) {r : Rec} (hr : recErr r = 0) (hl : f.length ≤ 39) : Right (put f r) := ⟨by have := put_len f r; omega, fun x hx => by
  rcases mem_put hx with rfl | hx
  · exact hr
  · exact hf.recs x hx, put_sorted hf.sorted r⟩
theorem right_drop {f : List Rec} (hf : Right f) (p : Place) : Right (drop f p) := ⟨Nat.le_trans (drop_le f p) hf.len, fun x hx => hf.recs x (mem_drop.1 hx).1, drop_sorted hf.sorted p⟩
end Oyez
namespace Ab
open Go Go.RowKit Go.Proofs
attribute [local irreducible] aws awp aw1 Og Om Oc Oa Ogd Ov Ot awd aw1d awh aw1h Ogh Ohd awl Ogl Ohl awv Ogv Ohv QThen QBlock QFn QFnM QRo QBe ACode AYield
theorem makeR_ok {v f g : List Oyez.Rec} (hv : Oyez.Right v) (hf : Oyez.Right f) (hg : Oyez.Right g) (h : ∀ p, Oyez.getIn f p ≠ Oyez.getIn g p → Oyez.getIn v p = Oyez.getIn f p) (h2 : ∀ p, Oyez.getIn f p = Oyez.getIn g p → Oyez.getIn v p = Oyez.getIn g p) : makeR v (Oyez.diff f g) = (g, 0) := by
  unfold makeR
  rw [if_neg (by rw [Oyez.right_check hv]; simp), if_neg (by rw [Oyez.checkChg_of (Oyez.diff_right hf hg)]; simp), if_neg (by rw [(Oyez.fits_diff v f g).2 h]; simp), Oyez.make_diff hv.sorted hv.range hf hg h2, if_neg (by have := hg.len; omega)]
theorem makeR_no {v f g : List Oyez.Rec} (hv : Oyez.Right v) (hf : Oyez.Right f) (hg : Oyez.Right g) {p : Oyez.Place} (hp : Oyez.getIn f p ≠ Oyez.getIn g p) (hn : Oyez.getIn v p ≠ Oyez.getIn f p) : makeR v (Oyez.diff f g) = ([], 7) := by
  unfold makeR
  rw [if_neg (by rw [Oyez.right_check hv]; simp), if_neg (by rw [Oyez.checkChg_of (Oyez.diff_right hf hg)]; simp), if_pos]
  cases h : Oyez.fits v (Oyez.diff f g) with
  | false => rfl
  | true => exact absurd ((Oyez.fits_diff v f g).1 h p hp) hn
set_option maxHeartbeats 40000000 in
theorem made_law (l1 l2 : List UInt8) (h1 : l1.length ≤ 9223372036854775807) (h2 : l2.length ≤ 9223372036854775807) (dm : Nat) (hdm : dm < 256) : APure Tryz.prog 14 [.pl 1 (bytesL l1), .pl 1 (bytesL l2), .int .u8 dm] (.bool true) := by
  refine APure.of fun σ => ?_
  suffices hh : ∀ Post : AV → Heap → Prop, (∀ g, Post (.bool true) (σ ++ g)) → ACalls Tryz.prog 14 [.pl 1 (bytesL l1), .pl 1 (bytesL l2), .int .u8 dm] σ Post from hh _ fun g => ⟨g, rfl, .bool _⟩
  intro Post hPost
  refine acalls_fn Tryz.func14 rfl (enters_fn Tryz.func14 (by decide) rfl) ?_
  simp [Tryz.ntmps14]
  refine StA.of ((hang_calls σ _ rfl).mono ?_)
  rintro v σ' ⟨rfl, rfl⟩
  refine StA.of ((made20_calls (σ ++ [bellObj l1 0 0]) σ.length l1 0 0 (by simp) (by omega) h1).mono ?_)
  rintro v σ' ⟨f, a', c', rfl, hf, hfl, hfw, ha', rfl⟩
  simp
  refine StA.of ((hang_calls (σ ++ [bellObj l1 a' c']) _ rfl).mono ?_)
  rintro v σ' ⟨rfl, rfl⟩
  have rf := Oyez.check_zero hf
  have gf : GoodF f := ⟨rf.recs, rf.sorted, hfw⟩
  simp
  refine StA.of ((copied_calls (σ ++ [bellObj l1 a' c', bellObj l2 0 0]) (σ.length + 1) l2 0 0 f (by simp) (by omega) h2 gf (by omega)).mono ?_)
  rintro v σ' ⟨g, ea, a2, c2, rfl, gg, hgl, hea, hap, ha2, rfl⟩
  have rg : Oyez.Right g := gg.right (by omega)
  have xg := Oyez.right_check rg
  have nev := Oyez.never_ne hfw
  have dif : ∀ {a b : List Oyez.Rec}, Oyez.Right a → Oyez.Right b → APure Tryz.prog 68 [fileAV a, fileAV b] (.tup [chgsAV (Oyez.diff a b), .int .i64 0]) := by
    intro a b ra rb
    have k := diffP68 a b (right_fewF (Oyez.right_check ra)).1 (right_fewF (Oyez.right_check rb)).1 (by have := ra.len; have := rb.len; omega)
    rw [diffR_right ra rb] at k
    exact k
  have d1 := Oyez.diff_right rf rg
  have d2 := Oyez.diff_right rg rf
  have q1 := dif rf rg
  have q2 := dif rg rf
  have mk : ∀ (v : List Oyez.Rec), Oyez.Right v → APure Tryz.prog 75 [fileAV v, chgsAV (Oyez.diff f g)] (.tup [fileAV (makeR v (Oyez.diff f g)).1, .int .i64 (makeR v (Oyez.diff f g)).2]) := fun v rv => makeP75 v _ (right_fewF (Oyez.right_check rv)).1 (right_fewC d1).1
  have m1 := mk f rf
  rw [makeR_ok rf rf rg (fun _ _ => rfl) (fun _ h => h)] at m1
  have m2 := makeP75 g (Oyez.diff g f) (right_fewF (Oyez.right_check rg)).1 (right_fewC d2).1
  rw [makeR_ok rg rg rf (fun _ _ => rfl) (fun _ h => h)] at m2
  have b1 := backP71 (Oyez.diff f g) (right_fewC d1).1 (by have := d1.len; omega)
  rw [backR_diff rf rg] at b1
  have sam : ∀ a b : List Oyez.Rec, Oyez.Right a → Oyez.Right b → APure Tryz.prog 19 [fileAV a, fileAV b] (.bool (decide (a = b))) := by
    intro a b ra rb
    exact same_calls a b (by have := ra.len; omega) (right_fewF (Oyez.right_check ra)).2.2.2
  have s1 := sam g g rg rg
  have s2 := sam f f rf rf
  have s3 := sam f g rf rg
  have s4 := calike_calls (Oyez.diff g f) (Oyez.diff g f) (by have := d2.len; omega) (right_fewC d2).2
  have c1 := checkC_calls (Oyez.diff f g) (right_fewC d1).1
  rw [Oyez.checkChg_of d1] at c1
  have hnil := Oyez.diff_nil rf rg
  have hmem := fun c (hc : c ∈ Oyez.diff f g) => Oyez.mem_diff hc
  have mkn := fun (v : List Oyez.Rec) (rv : Oyez.Right v) (p : Oyez.Place) (hp : Oyez.getIn f p ≠ Oyez.getIn g p) (hn : Oyez.getIn v p ≠ Oyez.getIn f p) => makeR_no rv rf rg hp hn
  have mky := fun (v : List Oyez.Rec) (rv : Oyez.Right v) (h : ∀ p, Oyez.getIn f p ≠ Oyez.getIn g p → Oyez.getIn v p = Oyez.getIn f p) (h2 : ∀ p, Oyez.getIn f p = Oyez.getIn g p → Oyez.getIn v p = Oyez.getIn g p) => makeR_ok rv rf rg h h2
  have hDl := d1.len
  simp
  refine q1.use ?_
  simp
  refine m1.use ?_
  simp
  refine b1.use ?_
  simp
  refine m2.use ?_
  simp
  refine q2.use ?_
  simp
  refine s1.use ?_
  simp
  refine s2.use ?_
  simp
  refine s4.use ?_
  simp
  refine s3.use ?_
  simp
  have hb : (decide (Oyez.diff f g = []) != decide (f = g)) = false := by simp [hnil]
  simp [hb]
  refine c1.use ?_
  simp
  refine ACode_loopT (fun env σ' => ∃ (u : List AV) (i : Nat) (T : Heap), env = { t := u } ∧ u.length = 226 ∧ tg u 2 = .int .u8 dm ∧ tg u 7 = fileAV f ∧ tg u 8 = fileAV g ∧ tg u 9 = chgsAV (Oyez.diff f g) ∧ tg u 115 = chgsAV (Oyez.diff f g) ∧ tg u 116 = .int .i64 (Oyez.diff f g).length ∧ tg u 117 = .int .i64 i ∧ σ' = σ ++ T ∧ i ≤ (Oyez.diff f g).length)
    (fun env _ => match tg env.t 117 with | .int _ i => (Oyez.diff f g).length - i.toNat | _ => 0) ⟨_, 0, _, rfl, by simp, by simp, by simp, by simp, by simp, by simp, by simp, by simp, rfl, by omega⟩ ?_
  rintro env _ ⟨u, i, T, rfl, hl, g2, g7, g8, g9, g115, g116, g117, rfl, hi⟩
  rcases Nat.lt_or_ge i (Oyez.diff f g).length with hlt | hge
  · have hlt' : (i : Int) < ((Oyez.diff f g).length : Int) := by omega
    have hx := w64 (n := (i : Int) + 1) (by omega) (by omega)
    have hcm := List.getElem_mem hlt
    obtain ⟨p, hp, hne, hc⟩ := hmem _ hcm
    have cf := has_calls f p rf.recs (by omega)
    have cg := has_calls g p rg.recs (by omega)
    have hwf : ∀ ws, Oyez.getIn f p = some ws → (Oyez.glueW ws).length ≤ 64 ∧ ws.length ≤ 6 := fun ws h => by
      obtain ⟨r, hr, _, rfl⟩ := Oyez.getIn_mem h
      exact Oyez.glue_rec (rf.recs r hr)
    have hwg : ∀ ws, Oyez.getIn g p = some ws → (Oyez.glueW ws).length ≤ 64 ∧ ws.length ≤ 6 := fun ws h => by
      obtain ⟨r, hr, _, rfl⟩ := Oyez.getIn_mem h
      exact Oyez.glue_rec (rg.recs r hr)
    have hinj := Oyez.hasS_inj (Oyez.wordSt_of rf.recs p) (Oyez.wordSt_of rg.recs p)
    cases hxe : Oyez.getIn f p with
    | none =>
      cases hye : Oyez.getIn g p with
      | none => exact absurd (hxe.trans hye.symm) hne
      | some ys =>
        rw [hxe] at cf hc
        rw [hye] at cg hc
        have jyl : 1 + (Oyez.glueW ys).length ≤ 9223372036854775807 := by have := (hwg ys hye).1; omega
        have jy := joinP_calls ys (by have := (hwg ys hye).2; omega) (by rw [join32_glue]; have := (hwg ys hye).1; omega)
        simp [hl, g2, g7, g8, g9, g115, g116, g117, hlt', hlt, hc, jyl, Oyez.chg, Nat.add_assoc]
        refine jy.use ?_
        simp [hl, g2, g7, g8, g9, g115, g116, g117, hlt', hlt, hc, jyl, Oyez.chg, Nat.add_assoc]
        refine cf.use ?_
        simp [hl, g2, g7, g8, g9, g115, g116, g117, hlt', hlt, hc, jyl, Oyez.chg, Oyez.hasS, Nat.add_assoc]
        refine cg.use ?_
        simp [hl, g2, g7, g8, g9, g115, g116, g117, hlt', hlt, hc, jyl, hx, Oyez.chg, Oyez.hasS, Nat.add_assoc]
        exact ⟨⟨i + 1, by simp, by omega⟩, by omega⟩
    | some xs =>
      have jxl : 1 + (Oyez.glueW xs).length ≤ 9223372036854775807 := by have := (hwf xs hxe).1; omega
      have jx := joinP_calls xs (by have := (hwf xs hxe).2; omega) (by rw [join32_glue]; have := (hwf xs hxe).1; omega)
      cases hye : Oyez.getIn g p with
      | none =>
        rw [hxe] at cf hc
        rw [hye] at cg hc
        simp [hl, g2, g7, g8, g9, g115, g116, g117, hlt', hlt, hc, jxl, Oyez.chg, Nat.add_assoc]
        refine jx.use ?_
        simp [hl, g2, g7, g8, g9, g115, g116, g117, hlt', hlt, hc, jxl, Oyez.chg, Nat.add_assoc]
        refine cf.use ?_
        simp [hl, g2, g7, g8, g9, g115, g116, g117, hlt', hlt, hc, jxl, Oyez.chg, Oyez.hasS, Nat.add_assoc]
        refine cg.use ?_
        simp [hl, g2, g7, g8, g9, g115, g116, g117, hlt', hlt, hc, jxl, hx, Oyez.chg, Oyez.hasS, Nat.add_assoc]
        exact ⟨⟨i + 1, by simp, by omega⟩, by omega⟩
      | some ys =>
        have jyl : 1 + (Oyez.glueW ys).length ≤ 9223372036854775807 := by have := (hwg ys hye).1; omega
        have jy := joinP_calls ys (by have := (hwg ys hye).2; omega) (by rw [join32_glue]; have := (hwg ys hye).1; omega)
        rw [hxe, hye] at hinj hc
        rw [hxe] at cf
        rw [hye] at cg
        have hgl : ¬ Oyez.glueW xs = Oyez.glueW ys := fun h => hne (by rw [hxe, hye]; exact hinj.1 (by simp [Oyez.hasS, h]))
        simp [hl, g2, g7, g8, g9, g115, g116, g117, hlt', hlt, hc, jxl, jyl, Oyez.chg, Nat.add_assoc]
        refine jx.use ?_
        simp [hl, g2, g7, g8, g9, g115, g116, g117, hlt', hlt, hc, jxl, jyl, Oyez.chg, Nat.add_assoc]
        refine jy.use ?_
        simp [hl, g2, g7, g8, g9, g115, g116, g117, hlt', hlt, hc, jxl, jyl, Oyez.chg, Nat.add_assoc]
        refine cf.use ?_
        simp [hl, g2, g7, g8, g9, g115, g116, g117, hlt', hlt, hc, jxl, jyl, Oyez.chg, Oyez.hasS, Nat.add_assoc]
        refine cg.use ?_
        simp [hl, g2, g7, g8, g9, g115, g116, g117, hlt', hlt, hc, jxl, jyl, hx, hgl, Oyez.chg, Oyez.hasS, Nat.add_assoc]
        exact ⟨⟨i + 1, by simp, by omega⟩, by omega⟩
  · have hge' : ¬ (i : Int) < ((Oyez.diff f g).length : Int) := by omega
    by_cases h0 : Oyez.diff f g = []
    · have hge0 : ¬ (i : Int) < 0 := by omega
      simp [hl, g2, g7, g8, g9, g115, g116, g117, hge', hge0, h0]
      refine awake_calls.use ?_
      exact hPost _
    · obtain ⟨n, hn⟩ : ∃ n, dm % (Oyez.diff f g).length = n := ⟨_, rfl⟩
      have hlp : 0 < (Oyez.diff f g).length := List.length_pos_iff.2 h0
      have hnl : n < (Oyez.diff f g).length := by rw [← hn]; exact Nat.mod_lt _ hlp
      have hmod : ((dm : Nat) : Int).tmod ((Oyez.diff f g).length : Int) = ((n : Nat) : Int) := by rw [← hn]; rfl
      have hw1 : IntKind.i64.wrap (dm : Int) = dm := w64 (by omega) (by omega)
      have hcm := List.getElem_mem hnl
      obtain ⟨p, hp, hne, hc⟩ := hmem _ hcm
      have hpa := Oyez.diffPl_range rf.range rg.range p hp
      have hnl' : (n : Int) < ((Oyez.diff f g).length : Int) := by omega
      have hlz : ¬ (Oyez.diff f g).length = 0 := by omega
      obtain ⟨u', hu'⟩ : ∃ u', Oyez.put f ⟨p.kind, p.number, Oyez.neverSaid⟩ = u' := ⟨_, rfl⟩
      have ru := Oyez.right_put rf (Oyez.never_rec hpa) (by omega)
      have hgu := fun q => Oyez.getIn_put f ⟨p.kind, p.number, Oyez.neverSaid⟩ q
      have hpl := Oyez.put_len f ⟨p.kind, p.number, Oyez.neverSaid⟩
      have c65 := putP65 f ⟨p.kind, p.number, Oyez.neverSaid⟩ (right_fewF hf).1 (by show tot1 Oyez.neverSaid ≤ _; decide) (by show Oyez.neverSaid.length ≤ _; decide)
      have hpR : putR f ⟨p.kind, p.number, Oyez.neverSaid⟩ = (Oyez.put f ⟨p.kind, p.number, Oyez.neverSaid⟩, 0) := by
        unfold putR
        rw [if_neg (by rw [hf]; simp), if_neg (by rw [Oyez.never_rec hpa]; simp), if_neg (by omega)]
      rw [hpR] at c65
      rw [hu'] at ru hgu c65
      have hgp : Oyez.getIn u' p = some Oyez.neverSaid := by rw [hgu p]; exact if_pos rfl
      have hgq : ∀ q, q ≠ p → Oyez.getIn u' q = Oyez.getIn f q := fun q hq => by rw [hgu q]; exact if_neg hq
      have k1 := mk u' ru
      rw [mkn u' ru p hne (by rw [hgp]; exact fun e => nev p e.symm)] at k1
      have c64 := dropP64 u' p (right_fewF (Oyez.right_check ru)).1
      have hdR : dropR u' p = (Oyez.drop u' p, 0) := by
        have hgr : getR u' p = (Oyez.neverSaid, 0) := by
          unfold getR
          rw [if_neg (by rw [Oyez.right_check ru]; simp), hgp]
        unfold dropR
        rw [hgr]
        rfl
      rw [hdR] at c64
      have rv := Oyez.right_drop ru p
      have hgv := Oyez.getIn_drop u' p
      obtain ⟨v', hv'⟩ : ∃ v', Oyez.drop u' p = v' := ⟨_, rfl⟩
      rw [hv'] at c64 rv hgv
      have k2 := mk v' rv
      have hvp : Oyez.getIn v' p = none := by rw [hgv p]; exact if_pos rfl
      have hvq : ∀ q, q ≠ p → Oyez.getIn v' q = Oyez.getIn f q := fun q hq => by rw [hgv q, if_neg hq]; exact hgq q hq
      have hend : ∃ O e, makeR v' (Oyez.diff f g) = (O, e) ∧ (((Oyez.getIn f p).isSome = false ∧ e = 0) ∨ ((Oyez.getIn f p).isSome = true ∧ e = 7)) := by
        cases hx : Oyez.getIn f p with
        | none =>
          refine ⟨g, 0, mky v' rv (fun q hq => ?_) (fun q hq => ?_), .inl ⟨rfl, rfl⟩⟩
          · by_cases e : q = p
            · rw [e, hvp, hx]
            · exact hvq q e
          · have e : q ≠ p := fun e => hne (by rw [← e]; exact hq)
            rw [hvq q e]
            exact hq
        | some xs => exact ⟨[], 7, mkn v' rv p hne (by rw [hvp, hx]; exact fun e => by cases e), .inr ⟨rfl, rfl⟩⟩
      obtain ⟨O, e, hOe, hcase⟩ := hend
      rw [hOe] at k2
      have hcp : (Oyez.diff f g)[n].had = (Oyez.getIn f p).isSome := by rw [hc]; rfl
      simp [hl, g2, g7, g8, g9, g115, g116, g117, hge', h0, hlz, hw1, hmod, hnl', hnl, hc, Oyez.chg, Nat.add_assoc]
      have hcold : ∀ X : AObj, cold (σ.length + (T.length + 1)) (σ ++ (T ++ [X, AObj.cells (strs Oyez.neverSaid)])) = σ ++ (T ++ [X, .dead]) := fun X => by
        have := cold_app (σ := σ ++ (T ++ [X])) (g := [AObj.cells (strs Oyez.neverSaid)])
        simpa using this
      have hrow : ∀ X : AObj, (σ ++ (T ++ [X, AObj.cells (strs Oyez.neverSaid)]))[σ.length + (T.length + 1)]? = some (AObj.cells (strs Oyez.neverSaid)) := fun X => by
        rw [hget_add]
        simp
      have l65 : ∀ X : AObj, ACalls Tryz.prog 65 [fileAV f, .agg [.int .i64 p.kind, .int .i64 p.number, .arr 1 (σ.length + (T.length + 1)) 0 2]] (σ ++ (T ++ [X, AObj.cells (strs Oyez.neverSaid)])) fun v s => v = .tup [fileAV u', .int .i64 0] ∧ s = σ ++ (T ++ [X, .dead]) := fun X => by
        have k := ACalls.freeze (args := [fileAV f, .agg [.int .i64 p.kind, .int .i64 p.number, .arr 1 (σ.length + (T.length + 1)) 0 2]]) (σ.length + (T.length + 1)) (c65 (cold (σ.length + (T.length + 1)) (σ ++ (T ++ [X, AObj.cells (strs Oyez.neverSaid)])))) rfl fun i x y hx hy => by
          match i, hx, hy with
          | 0, hx, hy => simp only [List.getElem?_cons_zero, Option.some.injEq] at hx hy; subst hx; subst hy; exact fz_file _ _ _
          | 1, hx, hy =>
            simp only [List.getElem?_cons_zero, List.getElem?_cons_succ, Option.some.injEq] at hx hy
            subst hx; subst hy
            exact Fz.agg_iff.2 (FzL.cons_iff.2 ⟨.int _ _, FzL.cons_iff.2 ⟨.int _ _, FzL.cons_iff.2 ⟨fz_strsN Oyez.neverSaid (Nat.le_refl _) (hrow X), FzL.nil_iff.2 trivial⟩⟩⟩)
          | i + 2, hx, _ => simp at hx
        rw [hcold] at k
        exact k
      refine StA.of ((l65 _).mono ?_)
      rintro _ _ ⟨rfl, rfl⟩
      clear l65 hcold hrow
      simp [hl, g2, g7, g8, g9, g115, g116, g117]
      refine k1.use ?_
      simp [hl, g2, g7, g8, g9, g115, g116, g117]
      refine c64.use ?_
      simp [hl, g2, g7, g8, g9, g115, g116, g117]
      refine k2.use ?_
      rcases hcase with ⟨hs, rfl⟩ | ⟨hs, rfl⟩
      · simp [hl, g2, g7, g8, g9, g115, g116, g117, hs]
        refine awake_calls.use ?_
        simp [hl]
        exact hPost _
      · simp [hl, g2, g7, g8, g9, g115, g116, g117, hs]
        refine awake_calls.use ?_
        simp [hl]
        exact hPost _
end Ab

/-
  twin, without, with: what they give is never written again.
-/
import Derived.Test.YtdifgaapdnbliaaGreatDoorR29
import Derived.Test.YtdifgaapdnbliaaGreatDoorR32
import Derived.Test.YtdifgaapdnbliaaGreatDoorR33
set_option linter.unusedSimpArgs false
set_option linter.unusedVariables false
set_option linter.unusedSectionVars false
namespace Oyez
theorem insertR_at (r : Rec) : ∀ (l : List Rec) (i : Nat), i ≤ l.length → (∀ (m : Nat) (h : m < l.length), m < i → l[m].place.lt r.place = true) → (∀ (m : Nat) (h : m < l.length), i ≤ m → l[m].place.lt r.place = false) → r.place ∉ l.map Rec.place → insertR r l = l.take i ++ r :: l.drop i := by
  intro l
  induction l with
  | nil =>
    intro i hi _ _ _
    obtain rfl : i = 0 := by simpa using hi
    rfl
  | cons q t ih =>
    intro i hi hlo hhi hn
    cases i with
    | zero =>
      have h0 := hhi 0 (by simp) (Nat.le_refl _)
      simp only [List.getElem_cons_zero] at h0
      have hne : ¬ q.place = r.place := fun e => hn (by simp [e])
      have hlt : r.place.lt q.place = true := by
        cases h : r.place.lt q.place with
        | true => rfl
        | false => exact absurd (Place.lt_tri h0 h) hne
      unfold insertR
      rw [if_pos hlt]
      rfl
    | succ i =>
      have h0 := hlo 0 (by simp) (by omega)
      simp only [List.getElem_cons_zero] at h0
      have hlt : ¬ r.place.lt q.place = true := fun h => by
        have := Place.lt_trans h0 h
        rw [Place.lt_irrefl] at this
        cases this
      unfold insertR
      rw [if_neg hlt, ih i (by simpa using hi) (fun m h hm => by have := hlo (m + 1) (by simpa using h) (by omega); simpa using this) (fun m h hm => by have := hhi (m + 1) (by simpa using h) (by omega); simpa using this) (fun h => hn (by simp at h ⊢; exact .inr h))]
      rfl
end Oyez
namespace Ab
open Go Go.RowKit Go.Proofs
attribute [local irreducible] aws awp aw1 Og Om Oc Oa Ogd Ov Ot awd aw1d awh aw1h Ogh Ohd awl Ogl Ohl awv Ogv Ohv QThen QBlock QFn QFnM QRo QBe ACode AYield
/-- words of a record in an own row q -/
def WdA (lo : Nat) (τ : Heap) (q : Nat) (w : AV) (ws : List (List UInt8)) : Prop := (ws = [] ∧ w = .pl 1 []) ∨ ∃ j, lo ≤ j ∧ j ≠ q ∧ w = .arr 1 j 0 ws.length ∧ τ[j]? = some (.cells (strs ws))
def pvY (y : Oyez.Rec × AV) : PV := (y.1.place, y.2)
/-- records in an own row q, their words in rows of their own -/
structure RA (lo : Nat) (τ : Heap) (q : Nat) (Y : List (Oyez.Rec × AV)) : Prop where
  low : lo ≤ q
  row : τ[q]? = some (.cells (cellsV (Y.map pvY)))
  wd : ∀ y ∈ Y, WdA lo τ q y.2 y.1.words
theorem WdA.one {lo : Nat} {τ : Heap} {q : Nat} {w : AV} {ws : List (List UInt8)} (h : WdA lo τ q w ws) : w.one = true := by
  rcases h with ⟨_, rfl⟩ | ⟨j, _, _, rfl, _⟩ <;> rfl
theorem WdA.fz {n lo : Nat} {τ : Heap} {q : Nat} {w : AV} {ws : List (List UInt8)} (hn : n ≤ lo) (h : WdA lo τ q w ws) : Fz n τ w (wordsAV ws) := by
  rcases h with ⟨rfl, rfl⟩ | ⟨j, h1, _, rfl, h3⟩
  · exact .pl0 1 1
  · exact fz_strsN _ (by omega) h3
theorem WdA.mono {lo lo' : Nat} {τ τ' : Heap} {q q' : Nat} {w : AV} {ws : List (List UInt8)} (h : WdA lo τ q w ws) (hl : lo' ≤ lo) (hk : ∀ j, lo ≤ j → j ≠ q → ∀ o, τ[j]? = some o → τ'[j]? = some o ∧ j ≠ q') : WdA lo' τ' q' w ws := by
  rcases h with h | ⟨j, h1, h2, h3, h4⟩
  · exact .inl h
  · have := hk j h1 h2 _ h4
    exact .inr ⟨j, by omega, this.2, h3, this.1⟩
theorem RA.fz {n lo : Nat} {τ : Heap} {q : Nat} {Y : List (Oyez.Rec × AV)} (hn : n ≤ lo) (h : RA lo τ q Y) : Fz n τ (.arr 3 q 0 Y.length) (fileAV (Y.map Prod.fst)) := by
  have hl : Y.length = ((Y.map Prod.fst).map recAV).length := by simp
  rw [hl]
  have hcell : ∀ (i : Nat) (r : Oyez.Rec), (Y.map Prod.fst)[i]? = some r → ∃ w, (∀ j, j < 3 → (cellsV (Y.map pvY))[i * 3 + j]? = [AV.int .i64 r.kind, .int .i64 r.number, w][j]?) ∧ Fz n τ w (wordsAV r.words) := by
    intro i r hr
    rw [List.getElem?_map, Option.map_eq_some_iff] at hr
    obtain ⟨y, hy, rfl⟩ := hr
    have hi := (List.getElem?_eq_some_iff.1 hy).1
    have hs := cellsV_sub (Y.map pvY) (i := i) (by simpa using hi)
    have hyi : (Y.map pvY)[i]'(by simpa using hi) = pvY y := by
      rw [List.getElem_map]
      rw [(List.getElem?_eq_some_iff.1 hy).2]
    rw [hyi] at hs
    refine ⟨y.2, fun j hj => ?_, (h.wd y (List.mem_of_getElem? hy)).fz hn⟩
    have := congrArg (fun l => l[j]?) hs
    simp only [List.getElem?_take_of_lt hj, List.getElem?_drop] at this
    exact this
  refine Fz.arr 3 q 0 (cellsV (Y.map pvY)) ((Y.map Prod.fst).map recAV) (fun i j => ((cellsV (Y.map pvY))[i * 3 + j]?).getD .any) (Nat.le_trans hn h.low) h.row (fun i x hx => ?_) (fun i x hx j y hy => ?_)
  · rw [List.getElem?_map, Option.map_eq_some_iff] at hx
    obtain ⟨r, hr, rfl⟩ := hx
    obtain ⟨w, g1, g2⟩ := hcell i r hr
    refine ⟨rfl, fun j y hy => ?_⟩
    have hj : j < 3 := (List.getElem?_eq_some_iff.1 hy).1
    refine ⟨?_, ?_⟩
    · match j, hj, hy with
      | 0, _, hy => simp [AV.cells] at hy; subst hy; rfl
      | 1, _, hy => simp [AV.cells] at hy; subst hy; rfl
      | 2, _, hy => simp [AV.cells] at hy; subst hy; rfl
    · have := g1 j hj
      rw [Nat.zero_add, this]
      match j, hj with
      | 0, _ => rfl
      | 1, _ => rfl
      | 2, _ => rfl
  · rw [List.getElem?_map, Option.map_eq_some_iff] at hx
    obtain ⟨r, hr, rfl⟩ := hx
    obtain ⟨w, g1, g2⟩ := hcell i r hr
    have hj : j < 3 := (List.getElem?_eq_some_iff.1 hy).1
    rw [g1 j hj]
    match j, hj, hy with
    | 0, _, hy => simp [AV.cells] at hy; subst hy; exact .int _ _
    | 1, _, hy => simp [AV.cells] at hy; subst hy; exact .int _ _
    | 2, _, hy => simp [AV.cells] at hy; subst hy; exact g2
theorem RC.ra {σ g : Heap} {F : List Oyez.Rec} {v : AV} (h : RC σ g F v) : ∃ q Y, v = .arr 3 q 0 Y.length ∧ Y.map Prod.fst = F ∧ RA σ.length (σ ++ g) q Y := by
  obtain ⟨j, X, rfl, hg, hX, hx⟩ := h.ex
  have hY : (F.zip (X.map Prod.snd)).map pvY = X := by
    apply List.ext_getElem
    · simp; omega
    · intro i h1 h2
      simp at h1
      have hF : F[i]? = some F[i] := List.getElem?_eq_getElem (by omega)
      obtain ⟨w, hw, _⟩ := hx i F[i] hF
      rw [List.getElem?_eq_getElem h2] at hw
      have hw := Option.some.inj hw
      rw [List.getElem_map, List.getElem_zip, hw]
      simp [pvY, hw]
  refine ⟨σ.length + j, F.zip (X.map Prod.snd), by simp [hX], by rw [List.map_fst_zip]; simp [hX], ⟨by omega, by rw [hget_add, hY]; exact hg, fun y hy => ?_⟩⟩
  obtain ⟨i, hi, rfl⟩ := List.getElem_of_mem hy
  simp at hi
  have hF : F[i]? = some F[i] := List.getElem?_eq_getElem (by omega)
  obtain ⟨w, hw, hd⟩ := hx i F[i] hF
  have hXi : i < X.length := by omega
  rw [List.getElem?_eq_getElem hXi] at hw
  have hw := Option.some.inj hw
  rw [List.getElem_zip]
  simp only [List.getElem_map, hw]
  rcases hd with hd | ⟨k, h1, h2, h3⟩
  · exact .inl hd
  · exact .inr ⟨σ.length + k, by omega, fun e => h3 (by rw [show j = k by omega]), h1, by rw [hget_add]; exact h2⟩
theorem keepV_map (Y : List (Oyez.Rec × AV)) (p : Oyez.Place) : keepV (Y.map pvY) p = (Y.filter fun y => !decide (y.1.place = p)).map pvY ∧ (Y.filter fun y => !decide (y.1.place = p)).map Prod.fst = Oyez.drop (Y.map Prod.fst) p := by
  unfold keepV Oyez.drop
  rw [List.filter_map, List.filter_map]
  exact ⟨rfl, rfl⟩
theorem acells_file (f : List Oyez.Rec) (S : Heap) : acells 3 (fileAV f) S = some (cellsR f, f.length) := by
  show (if 3 = 3 then some ((f.map recAV).flatMap AV.cells, (f.map recAV).length) else none) = _
  rw [if_pos rfl, cellsR_map, List.length_map]
set_option maxHeartbeats 4000000 in
theorem without_calls (f : List Oyez.Rec) (p : Oyez.Place) (hl : f.length ≤ 2 ^ 30) (hw : ∀ r ∈ f, r.words.length ≤ 2 ^ 40) (σ : Heap) :
    ACalls Tryz.prog 133 [fileAV f, placeAV p] σ fun v σ' => ∃ g q Y, σ' = σ ++ g ∧ v = .arr 3 q 0 Y.length ∧ Y.map Prod.fst = Oyez.drop f p ∧ RA σ.length σ' q Y := by
  suffices hh : ∀ Post : AV → Heap → Prop, (∀ v σ', (∃ g q Y, σ' = σ ++ g ∧ v = .arr 3 q 0 Y.length ∧ Y.map Prod.fst = Oyez.drop f p ∧ RA σ.length σ' q Y) → Post v σ') → ACalls Tryz.prog 133 [fileAV f, placeAV p] σ Post from hh _ fun _ _ h => h
  intro Post hPost
  refine acalls_fn Tryz.func133 rfl (enters_fn Tryz.func133 (by decide) rfl) ?_
  simp [Tryz.ntmps133]
  refine StA.of ((twin_calls f hl hw (fileAV f) (σ ++ [AObj.cells [.int .i64 p.kind, .int .i64 p.number]]) (fun g => acells_file f _) (fun S => by simp)).mono ?_)
  rintro v s ⟨g, rfl, h⟩
  obtain ⟨q, Y, rfl, rfl, hR⟩ := h.ra
  have hq : σ.length < q := by have := hR.low; simp at this; omega
  obtain ⟨k1, k2⟩ := keepV_map Y p
  have hYl : Y.length = (Y.map pvY).length := by simp
  have hd := delete_calls (r := q) (t := σ.length) (Y.map pvY) p (fun x hx => by
    obtain ⟨y, hy, rfl⟩ := List.mem_map.1 hx
    exact (hR.wd y hy).one) (by simp at hl ⊢; omega) (by omega) _ hR.row (by simp)
  rw [← hYl, k1] at hd
  refine StA.of (hd.mono ?_)
  rintro _ _ ⟨rfl, g2, rfl⟩
  have hql := (List.getElem?_eq_some_iff.1 hR.row).1
  refine hPost _ _ ⟨([AObj.cells [AV.int .i64 p.kind, AV.int .i64 p.number]] ++ g).set (q - σ.length) (.cells (cellsV ((Y.filter fun y => !decide (y.1.place = p)).map pvY))) ++ g2, q, Y.filter fun y => !decide (y.1.place = p), ?_, by simp, k2, ⟨by omega, ?_, fun y hy => ?_⟩⟩
  · rw [List.append_assoc σ, List.set_append_right _ _ (by omega), List.append_assoc]
  · rw [List.getElem?_append_left (by simpa using hql), List.getElem?_set_self hql]
  · refine (hR.wd y (List.mem_filter.1 hy).1).mono (by simp) fun j h1 h2 o ho => ⟨?_, h2⟩
    rw [List.getElem?_append_left (by rw [List.length_set]; exact (List.getElem?_eq_some_iff.1 ho).1), List.getElem?_set_ne (Ne.symm h2)]
    exact ho
set_option maxHeartbeats 8000000 in
theorem with_calls (f : List Oyez.Rec) (r : Oyez.Rec) (hs : Oyez.RSorted f) (hl : f.length ≤ 2 ^ 19) (hw : ∀ x ∈ f, x.words.length ≤ 2 ^ 40) (hwr : r.words.length ≤ 2 ^ 40) (σ : Heap) :
    ACalls Tryz.prog 134 [fileAV f, recAV r] σ fun v σ' => ∃ g q Y, σ' = σ ++ g ∧ v = .arr 3 q 0 Y.length ∧ Y.map Prod.fst = Oyez.put f r ∧ RA σ.length σ' q Y := by
  suffices hh : ∀ Post : AV → Heap → Prop, (∀ v σ', (∃ g q Y, σ' = σ ++ g ∧ v = .arr 3 q 0 Y.length ∧ Y.map Prod.fst = Oyez.put f r ∧ RA σ.length σ' q Y) → Post v σ') → ACalls Tryz.prog 134 [fileAV f, recAV r] σ Post from hh _ fun _ _ h => h
  intro Post hPost
  refine acalls_fn Tryz.func134 rfl (enters_fn Tryz.func134 (by decide) rfl) ?_
  have c83 := place83_any r.place (wordsAV r.words) rfl
  simp [Tryz.ntmps134, recAV]
  refine c83.use ?_
  simp
  refine StA.of ((without_calls f r.place (by omega) hw (σ ++ [AObj.cells [AV.int .i64 r.kind, AV.int .i64 r.number, AV.pl 1 (r.words.map AV.str)]])).mono ?_)
  rintro _ _ ⟨g, q, Y, rfl, rfl, hYd, hR⟩
  have hqlo := hR.low
  have hql := (List.getElem?_eq_some_iff.1 hR.row).1
  simp at hqlo
  have hge : ∀ Z : Heap, (σ ++ [AObj.cells [AV.int .i64 r.kind, AV.int .i64 r.number, AV.pl 1 (r.words.map AV.str)]] ++ g ++ Z)[σ.length]? = some (AObj.cells [AV.int .i64 r.kind, AV.int .i64 r.number, AV.pl 1 (r.words.map AV.str)]) := fun Z => by
    rw [List.append_assoc, List.append_assoc, List.getElem?_append_right (Nat.le_refl _), Nat.sub_self]
    rfl
  have hge0 := hge []
  rw [List.append_nil] at hge0
  obtain ⟨S, hS⟩ : ∃ S, σ ++ [AObj.cells [AV.int .i64 r.kind, AV.int .i64 r.number, AV.pl 1 (r.words.map AV.str)]] ++ g = S := ⟨_, rfl⟩
  rw [hS] at hR hge0 hql ⊢
  have hge1 : ∀ Z : Heap, (S ++ Z)[σ.length]? = some (AObj.cells [AV.int .i64 r.kind, AV.int .i64 r.number, AV.pl 1 (r.words.map AV.str)]) := fun Z => get_app hge0
  have hYs : ((Y.map pvY).map Prod.fst) = (Oyez.drop f r.place).map Oyez.Rec.place := by rw [← hYd]; simp [pvY]
  have hYl : Y.length = (Y.map pvY).length := by simp
  have hYf : Y.length ≤ f.length := by
    have := congrArg List.length hYd
    rw [List.length_map] at this
    rw [this]
    exact List.length_filter_le _ _
  have hbs := bsfV_calls (r := q) (Y.map pvY) r.place (fun x hx => by
    obtain ⟨y, hy, rfl⟩ := List.mem_map.1 hx
    exact (hR.wd y hy).one) (by rw [hYs]; exact Oyez.drop_sorted hs _) (by rw [← hYl]; omega) S hR.row
  rw [← hYl] at hbs
  simp [hge0]
  refine c83.use ?_
  simp [hge0]
  refine StA.of (hbs.mono ?_)
  rintro _ s1 ⟨hs1, i, B, rfl, hP⟩
  rw [hs1]
  clear hs1 s1
  simp [hge0, hge1]
  obtain ⟨S2, hS2⟩ : ∃ S2, S ++ [AObj.cells [AV.int .i64 r.kind, AV.int .i64 r.number, AV.pl 1 (r.words.map AV.str)]] = S2 := ⟨_, rfl⟩
  have hrow2 : ∀ Z : Heap, (S2 ++ Z)[S.length]? = some (AObj.cells [AV.int .i64 r.kind, AV.int .i64 r.number, AV.pl 1 (r.words.map AV.str)]) := fun Z => by
    rw [← hS2, List.append_assoc, List.getElem?_append_right (Nat.le_refl _), Nat.sub_self]
    rfl
  have hcr : cellsR [r] = [AV.int .i64 r.kind, AV.int .i64 r.number, AV.pl 1 (r.words.map AV.str)] := rfl
  have hS2l : S2.length = S.length + 1 := by rw [← hS2]; simp
  rw [hS2]
  refine StA.of ((twin_calls [r] (by simp) (fun x hx => by rw [List.mem_singleton.1 hx]; exact hwr) (.arr 3 S.length 0 1) S2 (fun Z => by
    rw [acells_row (hrow2 Z) (by simp) (by
      intro x hx
      have hx : x ∈ [AV.int .i64 r.kind, AV.int .i64 r.number, AV.pl 1 (r.words.map AV.str)] := hx
      simp at hx
      rcases hx with rfl | rfl | rfl <;> rfl), hcr]
    rfl) (fun Z => by simp)).mono ?_)
  rintro v s2 ⟨g2, hs2, hC⟩
  obtain ⟨q2, Y2, rfl, hY2, hR2⟩ := hC.ra
  rw [hs2]
  clear hs2 s2 hC
  obtain ⟨y2, rfl⟩ : ∃ y, Y2 = [y] := by
    match Y2, hY2 with
    | [y], _ => exact ⟨y, rfl⟩
  obtain rfl : y2.1 = r := by simpa using hY2
  have hq2lo := hR2.low
  have hq2l := (List.getElem?_eq_some_iff.1 hR2.row).1
  have hrowS2 : ∀ (j : Nat) (o : AObj), S[j]? = some o → (S2 ++ g2)[j]? = some o := fun j o h => by
    rw [← hS2, List.append_assoc]
    exact get_app h
  have hi : i ≤ Y.length := by rw [hYl]; exact hP.le
  have hins := insert_calls (r := q) (r2 := q2) (n := Y.length) (i := i) (S2 ++ g2) (by omega) (hrowS2 _ _ hR.row) hR2.row (by rw [cellsV_len, ← hYl]) (by rw [cellsV_len]; rfl) (cellsV_one fun x hx => by
    obtain ⟨y, hy, rfl⟩ := List.mem_map.1 hx
    exact (hR.wd y hy).one) (cellsV_one fun x hx => by
    obtain ⟨y, hy, rfl⟩ := List.mem_map.1 hx
    exact (hR2.wd y hy).one) hi (by omega)
  simp [hge0, hge1]
  refine StA.of (hins.mono ?_)
  rintro v s3 ⟨r', rfl, h1, h2, h3, h4⟩
  have hput : Oyez.put f y2.1 = (Oyez.drop f y2.1.place).take i ++ y2.1 :: (Oyez.drop f y2.1.place).drop i := by
    unfold Oyez.put
    refine Oyez.insertR_at y2.1 _ i (by rw [← hYd, List.length_map]; exact hi) (fun m h hm => ?_) (fun m h hm => ?_) fun h => ?_
    · have := hP.lo m (by rw [← hYl]; rw [← hYd, List.length_map] at h; exact h) hm
      simp only [← hYd, List.getElem_map] at this ⊢
      exact this
    · have := hP.hi m (by rw [← hYl]; rw [← hYd, List.length_map] at h; exact h) hm
      simp only [← hYd, List.getElem_map] at this ⊢
      exact this
    · obtain ⟨x, hx, he⟩ := List.mem_map.1 h
      have := (List.mem_filter.1 hx).2
      simp [he] at this
  have htk : s3.take σ.length = σ := by
    apply List.ext_getElem?
    intro k
    rcases Nat.lt_or_ge k σ.length with hk | hk
    · rw [List.getElem?_take_of_lt hk, h4 k (by omega) (by simp; omega)]
      have : S[k]? = σ[k]? := by rw [← hS, List.append_assoc, List.getElem?_append_left hk]
      rw [← this]
      have hkS : k < S.length := by omega
      rw [List.getElem?_eq_getElem hkS]
      exact hrowS2 k _ (List.getElem?_eq_getElem hkS)
    · rw [List.getElem?_eq_none (by rw [List.length_take]; omega), List.getElem?_eq_none hk]
  refine hPost _ _ ⟨s3.drop σ.length, r', Y.take i ++ y2 :: Y.drop i, ?_, ?_, ?_, ⟨?_, ?_, fun y hy => ?_⟩⟩
  · conv => lhs; rw [← List.take_append_drop σ.length s3, htk]
  · congr 1
    simp
    omega
  · rw [hput, ← hYd]
    simp
  · rcases h3 with h3 | h3
    · omega
    · simp at h3; omega
  · rw [h1]
    unfold insC
    rw [(cellsV_take (Y.map pvY) i (by rw [← hYl]; exact hi)).1, (cellsV_take (Y.map pvY) i (by rw [← hYl]; exact hi)).2, ← cellsV_append, ← cellsV_append]
    simp
  · have hy' : y ∈ Y ∨ y = y2 := by
      rcases List.mem_append.1 hy with h | h
      · exact .inl (List.mem_of_mem_take h)
      · rcases List.mem_cons.1 h with h | h
        · exact .inr h
        · exact .inl (List.mem_of_mem_drop h)
    rcases hy' with hy' | rfl
    · refine (hR.wd y hy').mono (by simp) fun j g1 g2 o ho => ?_
      have hjS := (List.getElem?_eq_some_iff.1 ho).1
      refine ⟨by rw [h4 j g2 (by simp; omega)]; exact hrowS2 j o ho, ?_⟩
      rcases h3 with h3 | h3
      · omega
      · simp at h3; omega
    · refine (hR2.wd y (by simp)).mono (by omega) fun j g1 g2 o ho => ?_
      have hjS := (List.getElem?_eq_some_iff.1 ho).1
      refine ⟨by rw [h4 j (by omega) hjS]; exact ho, ?_⟩
      rcases h3 with h3 | h3
      · omega
      · omega
/-- a file of the call's own, or none -/
def FileO (lo : Nat) (τ : Heap) (v : AV) (F : List Oyez.Rec) : Prop := (F = [] ∧ v = .nils) ∨ ∃ q Y, v = .arr 3 q 0 Y.length ∧ Y.map Prod.fst = F ∧ RA lo τ q Y
theorem FileO.fz {n lo : Nat} {τ : Heap} {v : AV} {F : List Oyez.Rec} (hn : n ≤ lo) (h : FileO lo τ v F) : Fz n τ v (fileAV F) := by
  rcases h with ⟨rfl, rfl⟩ | ⟨q, Y, rfl, rfl, h⟩
  · exact .nils_pl 3
  · exact h.fz hn
/-- words of the call's own, or none -/
def WdO (lo : Nat) (τ : Heap) (v : AV) (ws : List (List UInt8)) : Prop := (ws = [] ∧ (v = .nils ∨ v = .pl 1 [])) ∨ ∃ j, lo ≤ j ∧ v = .arr 1 j 0 ws.length ∧ τ[j]? = some (.cells (strs ws))
theorem WdO.fz {n lo : Nat} {τ : Heap} {v : AV} {ws : List (List UInt8)} (hn : n ≤ lo) (h : WdO lo τ v ws) : Fz n τ v (wordsAV ws) := by
  rcases h with ⟨rfl, rfl | rfl⟩ | ⟨j, h1, rfl, h3⟩
  · exact .nils_pl 1
  · exact .pl0 1 1
  · exact fz_strsN _ (by omega) h3
end Ab

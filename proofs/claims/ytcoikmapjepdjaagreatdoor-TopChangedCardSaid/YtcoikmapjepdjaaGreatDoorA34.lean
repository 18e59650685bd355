/-
  A COPY THAT WENT ITS OWN WAY (the statements' Copied).
-/
import Derived.Test.YtcoikmapjepdjaaGreatDoorA25
import Derived.Test.YtcoikmapjepdjaaGreatDoorA32
import Derived.Test.YtcoikmapjepdjaaGreatDoorA33
set_option linter.unusedSimpArgs false
set_option linter.unusedVariables false
set_option linter.unusedSectionVars false
namespace Ab
open Go Go.RowKit Go.Proofs
attribute [local irreducible] aws awp aw1 Og Om Oc Oa Ogd Ov Ot awd aw1d awh aw1h Ogh Ohd awl Ogl Ohl awv Ogv Ohv QThen QBlock QFn QFnM QRo QBe ACode AYield
theorem made_rec9 {k n : Int} {ws : List (List UInt8)} (hp : Oyez.placeErr k n = 0) (hl : ws.length ≤ 4) (hw : ∀ w ∈ ws, w ∈ wordL) : Oyez.recErr ⟨k, n, ws⟩ = 0 := by
  rw [Oyez.recErr_iff]
  refine ⟨hp, ?_⟩
  obtain ⟨⟨hk, hk4⟩, hn, hn2⟩ := Oyez.placeErr_rng hp
  unfold Oyez.wordsErr
  simp only
  have hall : ws.all Oyez.word = true := List.all_eq_true.2 fun w h => (wordL_word w (hw w h)).1
  rw [if_neg (by omega), hall, if_neg (by simp), if_neg]
  have h1 : (Oyez.name k).length ≤ 6 := by
    have : k = 0 ∨ k = 1 ∨ k = 2 ∨ k = 3 ∨ k = 4 := by omega
    rcases this with rfl | rfl | rfl | rfl | rfl <;> decide
  have h2 : (Oyez.digits n).length ≤ 3 := Oyez.digits_len 2 n.toNat (by omega)
  have h3 : ∀ l : List (List UInt8), (∀ w ∈ l, w ∈ wordL) → (l.flatMap fun w => (32 : UInt8) :: w).length ≤ 7 * l.length := by
    intro l
    induction l with
    | nil => intro _; simp
    | cons w t ih =>
      intro h
      have h4 := ih fun x hx => h x (List.mem_cons_of_mem _ hx)
      have h5 := (wordL_word w (h w (by simp))).2
      simp only [List.flatMap_cons, List.length_append, List.length_cons]
      omega
  have h4 := h3 ws hw
  unfold Oyez.line
  simp only [List.length_append, List.length_cons, List.length_nil]
  omega
/-- records as they are drawn -/
structure GoodF (f : List Oyez.Rec) : Prop where
  recs : ∀ r ∈ f, Oyez.recErr r = 0
  sorted : Oyez.RSorted f
  words : ∀ r ∈ f, ∀ w ∈ r.words, w ∈ wordL
theorem GoodF.nil : GoodF [] := ⟨by simp, by simp [Oyez.RSorted, Oyez.Sorted], by simp⟩
theorem bsf_nil (t : Oyez.Rec) (σ : Heap) : ACalls Tryz.prog 86 [.nils, recAV t, .fn (.func 87) [] []] σ fun v σ' => σ' = σ ∧ v = .tup [.int .i64 0, .bool false] := by
  refine ACalls.forget ?_
  refine acalls_fn Tryz.func86 rfl (enters_fn Tryz.func86 (by decide) rfl) ?_
  simp [Tryz.ntmps86]
  refine ACode_loopT (fun env σ' => ∃ (u : List AV), env = { t := u } ∧ u.length = 49 ∧ tg u 0 = .nils ∧ tg u 2 = .fn (.func 87) [] [] ∧ tg u 4 = .ptr σ.length 0 ∧ tg u 8 = .int .i64 0 ∧ tg u 9 = .int .i64 0 ∧ tg u 10 = .int .i64 0 ∧ σ' = σ ++ [.cells (recCells t)])
    (fun env _ => 0) ⟨_, rfl, by simp, by simp, by simp, by simp, by simp, by simp, by simp, by simp [recCells]⟩ ?_
  rintro env _ ⟨u, rfl, hl, g0, g2, g4, g8, g9, g10, rfl⟩
  simp [hl, g0, g2, g4, g8, g9, g10]
  refine ACode_draw0 mixed (by kernel_rfl) ?_
  simp [hl, g0, g2, g4, g8, g9, g10]
theorem search_acc {τ g : Heap} {v : AV} {F : List Oyez.Rec} {o : Option Nat} (hA : Acc τ g 3 v (F.map recAV) o) (hF : GoodF F) (hn : F.length ≤ 2 ^ 20) (t : Oyez.Rec) (ht : SmallR t) (X : Heap) :
    ACalls Tryz.prog 86 [v, recAV t, .fn (.func 87) [] []] (τ ++ (g ++ X)) fun v' σ' => σ' = τ ++ (g ++ X) ∧ ∃ i : Nat, v' = .tup [.int .i64 i, .bool (decide (t.place ∈ F.map Oyez.Rec.place))] ∧ PlaceAt F t i := by
  have hv := hA.val
  cases o with
  | none =>
    obtain ⟨rfl, hf⟩ := hv
    obtain rfl : F = [] := by simpa using hf
    refine (bsf_nil t _).mono ?_
    rintro v s ⟨rfl, rfl⟩
    exact ⟨rfl, 0, by simp, ⟨by simp, fun m h => by simp at h, fun m h => by simp at h⟩⟩
  | some j =>
    obtain ⟨rfl, hg⟩ := hv
    rw [List.length_map]
    rw [cellsR_map] at hg
    have hj := (List.getElem?_eq_some_iff.1 hg).1
    exact bsf_calls F t ht (fun x hx => smallR_of (hF.recs x hx)) hF.sorted hn _ (by
      rw [List.getElem?_append_right (by omega), Nat.add_sub_cancel_left, List.getElem?_append_left hj]; exact hg)
theorem insert_acc {τ g : Heap} {v : AV} {F : List Oyez.Rec} {o : Option Nat} (hA : Acc τ g 3 v (F.map recAV) o) (hn : F.length ≤ 2 ^ 20) (t : Oyez.Rec) {i : Nat} (hi : i ≤ F.length) :
    ACalls Tryz.prog 88 [v, .int .i64 i, .arr 3 (τ.length + g.length) 0 1] (τ ++ (g ++ [.cells (recCells t)])) fun v' σ' => ∃ g' o', σ' = τ ++ g' ∧ Acc τ g' 3 v' ((insAt F t i).map recAV) o' := by
  have hr2 : (τ ++ (g ++ [AObj.cells (recCells t)]))[τ.length + g.length]? = some (.cells (recCells t)) := by
    rw [List.getElem?_append_right (by omega), Nat.add_sub_cancel_left, List.getElem?_append_right (Nat.le_refl _), Nat.sub_self]
    rfl
  have hod : ∀ x ∈ recCells t, AV.one x = true := by simp [recCells, AV.one]
  have hv := hA.val
  cases o with
  | none =>
    obtain ⟨rfl, hf⟩ := hv
    obtain rfl : F = [] := by simpa using hf
    obtain rfl : i = 0 := by simpa using hi
    refine (insert_nil _ hr2 (by simp [recCells]) hod).mono ?_
    rintro v s ⟨rfl, rfl⟩
    refine ⟨g ++ [AObj.cells (recCells t)] ++ [AObj.cells (recCells t)], some (g ++ [AObj.cells (recCells t)]).length, by simp, ⟨fun x hx => ?_, ?_, ?_⟩⟩
    · obtain ⟨r, _, rfl⟩ := List.mem_map.1 hx
      exact ⟨rfl, by simp [AV.cells, AV.one]⟩
    · simp [insAt]
    · rw [List.getElem?_append_right (Nat.le_refl _), Nat.sub_self]
      simp [insAt, AV.cells, recCells]
  | some j =>
    obtain ⟨rfl, hg⟩ := hv
    rw [cellsR_map] at hg
    rw [List.length_map]
    have hj := (List.getElem?_eq_some_iff.1 hg).1
    have hone : ∀ x ∈ cellsR F, AV.one x = true := by
      intro x hx
      unfold cellsR at hx
      obtain ⟨r, _, h⟩ := List.mem_flatMap.1 hx
      simp [recCells] at h
      rcases h with rfl | rfl | rfl <;> rfl
    refine (insert_calls (r := τ.length + j) (r2 := τ.length + g.length) (n := F.length) (i := i) (cs := cellsR F) (ds := recCells t) _ (by omega) (by
      rw [List.getElem?_append_right (by omega), Nat.add_sub_cancel_left, List.getElem?_append_left hj]; exact hg) hr2 (cellsR_len F) (by simp [recCells]) hone hod hi hn).mono ?_
    intro v s h
    obtain ⟨g', j', h1, h2⟩ := InsQ.acc h hi
    exact ⟨g', some j', h1, h2⟩
set_option maxHeartbeats 8000000 in
theorem copied_calls (σ : Heap) (d : Nat) (l : List UInt8) (a : Nat) (c : Int) (f : List Oyez.Rec) (h : σ[d]? = some (bellObj l a c)) (ha : a ≤ l.length) (hl : l.length ≤ 9223372036854775807) (hf : GoodF f) (hfl : f.length ≤ 1000) :
    ACalls Tryz.prog 25 [.ptr d 0, fileAV f] σ (fun v σ' => ∃ (g : List Oyez.Rec) (e : List Oyez.Place) (a' : Nat) (c' : Int), v = fileAV g ∧ GoodF g ∧ g.length ≤ f.length + 3 ∧ e.length ≤ 3 ∧ (∀ r ∈ g, r.place ∈ f.map Oyez.Rec.place ∨ r.place ∈ e) ∧ a' ≤ l.length ∧ σ' = σ.set d (bellObj l a' c')) := by
  have hd := (List.getElem?_eq_some_iff.1 h).1
  have h0 : σ.set d (bellObj l a c) = σ := by
    apply List.ext_getElem?
    intro i
    rw [List.getElem?_set]
    split
    · rename_i e; subst e; exact h.symm
    · rfl
  have hwl : ∀ r ∈ f, r.words.length ≤ 2 ^ 30 := fun r hr => by
    have := (Oyez.wordsErr_zero ((Oyez.recErr_iff r).1 (hf.recs r hr)).2).1
    omega
  refine ACalls.forgetT ?_
  refine acalls_fn Tryz.func25 rfl (enters_fn Tryz.func25 (by decide) rfl) ?_
  simp [-aappend, Tryz.ntmps25]
  refine (own_calls f (by omega) hwl).use ?_
  simp [-aappend]
  have hpt : ∀ (X : AObj) (B : AObj) (g : Heap), (σ.set d B ++ (g ++ [X]))[σ.length + g.length]? = some X := fun X B g => by
    rw [List.getElem?_append_right (by rw [List.length_set]; omega), List.length_set, Nat.add_sub_cancel_left, List.getElem?_append_right (Nat.le_refl _), Nat.sub_self]; rfl
  have hst : ∀ (X Y : AObj) (B : AObj) (g : Heap), (σ.set d B ++ (g ++ [X])).set (σ.length + g.length) Y = σ.set d B ++ (g ++ [Y]) := fun X Y B g => by
    rw [List.set_append_right _ _ (by rw [List.length_set]; omega), List.length_set, Nat.add_sub_cancel_left, List.set_append_right _ _ (Nat.le_refl _), Nat.sub_self]; rfl
  refine ACode_loopT (fun env σ' => ∃ (u : List AV) (i : Nat) (v : AV) (F : List Oyez.Rec) (g : Heap) (o : Option Nat) (a2 : Nat) (c2 : Int), env = { t := u } ∧ u.length = 58 ∧ tg u 0 = .ptr d 0 ∧ tg u 5 = v ∧ tg u 12 = fileAV f ∧ tg u 13 = .int .i64 f.length ∧ tg u 14 = .int .i64 i ∧ σ' = σ.set d (bellObj l a2 c2) ++ g ∧ a2 ≤ l.length ∧ i ≤ f.length ∧
      (F.map Oyez.Rec.place).Sublist ((f.take i).map Oyez.Rec.place) ∧ (∀ r ∈ F, Oyez.recErr r = 0) ∧ (∀ r ∈ F, ∀ w ∈ r.words, w ∈ wordL) ∧ Acc σ g 3 v (F.map recAV) o)
    (fun env _ => match tg env.t 14 with | .int _ i => f.length - i.toNat | _ => 0) ⟨_, 0, .nils, [], [], none, a, c, rfl, by simp, by simp, by simp, by simp, by simp, by simp, by simp [h0], ha, by omega, by simp, by simp, by simp, by simpa using Acc.nil _ _ _⟩ ?_
  rintro env _ ⟨u, i, v, F, g, o, a2, c2, rfl, hl2, g0, g5, g12, g13, g14, rfl, ha2, hi, hsub, hrec, hwrd, hA⟩
  rcases Nat.lt_or_ge i f.length with hlt | hge
  · have hlt' : (i : Int) < (f.length : Int) := by omega
    have hx := w64 (n := (i : Int) + 1) (by omega) (by omega)
    simp [-aappend, hl2, g0, g5, g12, g13, g14, hlt', hlt]
    obtain ⟨R0, hR0⟩ : ∃ R0, f[i] = R0 := ⟨_, rfl⟩
    have hR0m : R0 ∈ f := hR0 ▸ List.getElem_mem hlt
    rw [hR0]
    have htk : f.take (i + 1) = f.take i ++ [R0] := by rw [List.take_succ_eq_append_getElem hlt, hR0]
    have hFl : F.length ≤ f.length := by
      have := hsub.length_le
      simp at this
      omega
    have hsub0 : (F.map Oyez.Rec.place).Sublist ((f.map Oyez.Rec.place).take (i + 1)) := by
      rw [← List.map_take, htk, List.map_append]
      exact hsub.trans (List.sublist_append_left _ _)
    have hsub1 : ∀ R : Oyez.Rec, R.place = R0.place → ((F ++ [R]).map Oyez.Rec.place).Sublist ((f.map Oyez.Rec.place).take (i + 1)) := fun R e => by
      rw [← List.map_take, htk, List.map_append, List.map_append, List.map_singleton, List.map_singleton, e]
      exact hsub.append (List.Sublist.refl _)
    have hpush : ∀ (R : Oyez.Rec) (B : AObj), ∃ v' g' o', aappend Tryz.prog #[57, 57] v (.arr 3 (σ.length + (g.length + 1)) 0 1) (σ.set d B ++ (g ++ [AObj.cells [.int .i64 R.kind, .int .i64 R.number, .pl 1 (R.words.map AV.str)], AObj.cells [.int .i64 R.kind, .int .i64 R.number, .pl 1 (R.words.map AV.str)]])) = some (v', σ.set d B ++ g') ∧ Acc σ g' 3 v' ((F ++ [R]).map recAV) o' := by
      intro R B
      have hA1 := (((hA.more [AObj.cells [.int .i64 R.kind, .int .i64 R.number, .pl 1 (R.words.map AV.str)]]).set d B).push (P := Tryz.prog) (t := 57) (e := 88) (ag := true) (x := recAV R) (by simp) (by simp) (by simp) (by omega) ⟨by simp [AV.cells], by simp [AV.cells, AV.one]⟩ (by simp; omega))
      obtain ⟨v', g', o', he, hA', _⟩ := hA1
      simp [-aappend] at he
      have hA2 : Acc σ g' 3 v' ((F ++ [R]).map recAV) o' := by
        have := hA'.len_eq (τ := σ) (by simp)
        simpa using this
      exact ⟨v', g', o', he, hA2⟩
    refine StA.of ((stroke_calls _ d l a2 c2 5 (bell_at hd _) ha2 hl (by omega) (by omega)).mono ?_)
    rintro v2 σ' ⟨n, a3, c3, rfl, k0, k1, ha3, rfl⟩
    rw [set_set hd]
    by_cases hn0 : n = 0
    · subst hn0
      simp [-aappend, hl2, g0, g5, g12, g13, g14, hlt', hlt, hx]
      exact ⟨⟨i + 1, by simp, F, _, o, a3, ⟨c3, rfl⟩, ha3, by omega, hsub0, hrec, hwrd, hA.more _⟩, by omega⟩
    · by_cases hn1 : n = 1
      · subst hn1
        simp [-aappend, hl2, g0, g5, g12, g13, g14, hlt', hlt, hx]
        refine StA.of ((Worded_calls _ d l a3 c3 3 (bell_at hd _) ha3 hl (by omega) (by omega)).mono ?_)
        rintro v3 σ' ⟨ws, a4, c4, rfl, hwl4, hwm, ha4, rfl⟩
        rw [set_set hd]
        obtain ⟨v', g', o', he, hA2⟩ := hpush ⟨R0.kind, R0.number, ws⟩ (bellObj l a4 c4)
        simp [-aappend, hl2, g0, g5, g12, g13, g14, hlt', hlt, hx, hpt, hst, he, Nat.add_assoc]
        have hrw : Oyez.recErr ⟨R0.kind, R0.number, ws⟩ = 0 := made_rec9 ((Oyez.recErr_iff R0).1 (hf.recs R0 hR0m)).1 (by omega) hwm
        refine ⟨⟨i + 1, by simp, F ++ [⟨R0.kind, R0.number, ws⟩], g', o', a4, ⟨c4, rfl⟩, ha4, by omega, hsub1 _ rfl, fun r hr => ?_, fun r hr => ?_, hA2⟩, by omega⟩
        · rcases List.mem_append.1 hr with hr | hr
          · exact hrec r hr
          · rw [List.mem_singleton.1 hr]; exact hrw
        · rcases List.mem_append.1 hr with hr | hr
          · exact hwrd r hr
          · rw [List.mem_singleton.1 hr]; exact hwm
      · obtain ⟨v', g', o', he, hA2⟩ := hpush R0 (bellObj l a3 c3)
        simp [-aappend, hl2, g0, g5, g12, g13, g14, hlt', hlt, hx, hn0, hn1, hpt, hst, he, Nat.add_assoc]
        refine ⟨⟨i + 1, by simp, F ++ [R0], g', o', a3, ⟨c3, rfl⟩, ha3, by omega, hsub1 _ rfl, fun r hr => ?_, fun r hr => ?_, hA2⟩, by omega⟩
        · rcases List.mem_append.1 hr with hr | hr
          · exact hrec r hr
          · rw [List.mem_singleton.1 hr]; exact hf.recs R0 hR0m
        · rcases List.mem_append.1 hr with hr | hr
          · exact hwrd r hr
          · rw [List.mem_singleton.1 hr]; exact hf.words R0 hR0m
  · have hge' : ¬ (i : Int) < (f.length : Int) := by omega
    simp [-aappend, hl2, g0, g5, g12, g13, g14, hge']
    have hsubf : (F.map Oyez.Rec.place).Sublist (f.map Oyez.Rec.place) := by rw [List.take_of_length_le hge] at hsub; exact hsub
    have gF : GoodF F := ⟨hrec, by
      have hs := hf.sorted
      unfold Oyez.RSorted Oyez.Sorted at hs ⊢
      exact hs.sublist hsubf, hwrd⟩
    have hFl : F.length ≤ f.length := by simpa using hsubf.length_le
    have hFp : ∀ r ∈ F, r.place ∈ f.map Oyez.Rec.place := fun r hr => hsubf.subset (List.mem_map_of_mem hr)
    refine StA.of ((stroke_calls _ d l a2 c2 3 (bell_at hd _) ha2 hl (by omega) (by omega)).mono ?_)
    rintro v2 σ' ⟨n, a3, c3, rfl, k0, k1, ha3, rfl⟩
    rw [set_set hd]
    obtain ⟨m, rfl⟩ : ∃ m : Nat, n = m := ⟨n.toNat, by omega⟩
    simp [-aappend, hl2, g0, g5]
    refine ACode_loopT (fun env σ' => ∃ (u : List AV) (k : Nat) (v : AV) (F : List Oyez.Rec) (e : List Oyez.Place) (g : Heap) (o : Option Nat) (a2 : Nat) (c2 : Int), env = { t := u } ∧ u.length = 58 ∧ tg u 0 = .ptr d 0 ∧ tg u 5 = v ∧ tg u 33 = .int .i64 m ∧ tg u 34 = .int .i64 k ∧ σ' = σ.set d (bellObj l a2 c2) ++ g ∧ a2 ≤ l.length ∧ k ≤ m ∧
        GoodF F ∧ F.length ≤ f.length + k ∧ e.length ≤ k ∧ (∀ r ∈ F, r.place ∈ f.map Oyez.Rec.place ∨ r.place ∈ e) ∧ Acc σ g 3 v (F.map recAV) o)
      (fun env _ => match tg env.t 34 with | .int _ i => m - i.toNat | _ => 0) ⟨_, 0, v, F, [], g, o, a3, c3, rfl, by simp [hl2], by simp [hl2, g0], by simp [hl2, g5], by simp [hl2], by simp [hl2], rfl, ha3, by omega, gF, by omega, by simp, fun r hr => .inl (hFp r hr), hA⟩ ?_
    clear hA hsub hrec hwrd g0 g5 g12 g13 g14 hl2 hsubf gF hFl hFp u v F g o ha2 ha3
    rintro env _ ⟨u, k, v, F, e, g, o, a2, c2, rfl, hl2, g0, g5, g33, g34, rfl, ha2, hk, gF, hFl, hel, hFp, hA⟩
    rcases Nat.lt_or_ge k m with hlt | hge
    · have hlt' : (k : Int) < (m : Int) := by omega
      have hx := w64 (n := (k : Int) + 1) (by omega) (by omega)
      simp [-aappend, hl2, g0, g5, g33, g34, hlt']
      refine StA.of ((stroke_calls _ d l a2 c2 4 (bell_at hd _) ha2 hl (by omega) (by omega)).mono ?_)
      rintro v2 σ' ⟨kk, a3, c3, rfl, k2, k3, ha3, rfl⟩
      rw [set_set hd]
      try simp [-aappend, hl2, g0, g5, g33, g34]
      refine StA.of ((strike_calls _ d l a3 c3 0 12 (bell_at hd _) ha3 hl (by omega) (by omega) (by omega)).mono ?_)
      rintro v2 σ' ⟨nn, a4, c4, rfl, k4, k5, ha4, rfl⟩
      rw [set_set hd]
      try simp [-aappend, hl2, g0, g5, g33, g34]
      refine StA.of ((Worded_calls _ d l a4 c4 2 (bell_at hd _) ha4 hl (by omega) (by omega)).mono ?_)
      rintro v3 σ' ⟨ws, a5, c5, rfl, hwl4, hwm, ha5, rfl⟩
      rw [set_set hd]
      obtain ⟨B, hB⟩ : ∃ B, B = bellObj l a5 c5 := ⟨_, rfl⟩
      rw [← hB]
      simp [-aappend, hl2, g0, g5, g33, g34, hpt, hst, Nat.add_assoc]
      obtain ⟨R, hR⟩ : ∃ R : Oyez.Rec, R = ⟨kk, nn, ws⟩ := ⟨_, rfl⟩
      have hRe : Oyez.recErr R = 0 := by
        rw [hR]
        refine made_rec9 ?_ (by omega) hwm
        unfold Oyez.placeErr
        rw [if_neg (by omega), if_neg (by omega)]
      have hRw : ∀ w ∈ R.words, w ∈ wordL := by rw [hR]; exact hwm
      have hA1 : Acc (σ.set d B) g 3 v (F.map recAV) o := hA.set d B
      have hF20 : F.length ≤ 2 ^ 20 := by omega
      have hsr := search_acc hA1 gF hF20 R (smallR_of hRe) [.cells (recCells R)]
      have hins := fun (i : Nat) (hi : i ≤ F.length) => insert_acc (hA1.more [.cells (recCells R)]) hF20 R hi
      simp [-aappend, hR, recCells] at hsr hins
      rw [← hR] at hsr hins
      have hnone : ∀ (F : List Oyez.Rec) (p : Oyez.Place), (¬ ∃ a, a ∈ F ∧ a.place = p) → p ∉ F.map Oyez.Rec.place := fun F p h hm => by
        obtain ⟨x, hx, e⟩ := List.mem_map.1 hm
        exact h ⟨x, hx, e⟩
      refine StA.of (hsr.mono ?_)
      rintro _ _ ⟨rfl, j, rfl, hP⟩
      by_cases hm : ∃ a, a ∈ F ∧ a.place = R.place
      · simp [-aappend, hl2, g0, g5, g33, g34, hm, hx, Nat.add_assoc]
        exact ⟨⟨k + 1, by simp, F, e, _, o, a5, ⟨c5, by rw [hB]⟩, ha5, by omega, gF, by omega, by omega, fun r hr => by simpa using hFp r hr, hA.more _⟩, by omega⟩
      · have hnm := hnone F R.place hm
        simp [-aappend, hl2, g0, g5, g33, g34, hm, hpt, Nat.add_assoc]
        refine StA.of ((hins j hP.le).mono ?_)
        rintro v' _ ⟨g', rfl, o', hA'⟩
        have gI : GoodF (insAt F R j) := ⟨fun r hr => by
          rcases mem_insAt.1 hr with rfl | hr
          · exact hRe
          · exact gF.recs r hr, hP.sorted gF.sorted hnm, fun r hr => by
          rcases mem_insAt.1 hr with rfl | hr
          · exact hRw
          · exact gF.words r hr⟩
        have hIl : (insAt F R j).length = F.length + 1 := by
          have := hP.le
          unfold insAt
          rw [List.length_append, List.length_cons, List.length_take, List.length_drop]
          omega
        simp [-aappend, hl2, g0, g5, g33, g34, hx, Nat.add_assoc]
        refine ⟨⟨k + 1, by simp, insAt F R j, R.place :: e, g', o', a5, ⟨c5, by rw [hB]⟩, ha5, by omega, gI, by omega, by simp; omega, fun r hr => ?_, hA'.len_eq (by simp)⟩, by omega⟩
        rcases mem_insAt.1 hr with rfl | hr
        · exact .inr (by simp)
        · rcases hFp r hr with h | h
          · exact .inl (by simpa using h)
          · exact .inr (by simp [h])
    · have hge' : ¬ (k : Int) < (m : Int) := by omega
      simp [-aappend, hl2, g0, g5, g33, g34, hge']
      refine ⟨σ.set d (bellObj l a2 c2), g, rfl, by simp, bell_hold hd, fileAV F, ?_, F, rfl, gF, by omega, e, by omega, fun r hr => by simpa using hFp r hr, a2, ha2, c2, rfl⟩
      exact (hA.len_eq (τ := σ.set d (bellObj l a2 c2)) (by simp)).fz (fz_recs _ _ _)
end Ab

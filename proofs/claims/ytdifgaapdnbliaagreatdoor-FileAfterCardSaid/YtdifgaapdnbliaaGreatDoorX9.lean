/-
  CHANGES THAT DO TWO LISTS: the reference.
-/
import Derived.Test.YtdifgaapdnbliaaGreatDoorW0
import Derived.Test.YtdifgaapdnbliaaGreatDoorX3
import Derived.Test.YtdifgaapdnbliaaGreatDoorX7
import Derived.Test.YtdifgaapdnbliaaGreatDoorV4
set_option linter.unusedSimpArgs false
set_option linter.unusedVariables false
namespace Oyez
/-- which change is that of a place -/
def idxC : List Chg → Place → Option Nat
  | [], _ => none
  | c :: t, p => if c.place = p then some 0 else (idxC t p).map (· + 1)
theorem idxC_find (p : Place) : ∀ l : List Chg, findC l p = (idxC l p).bind fun i => l[i]? := by
  intro l
  induction l with
  | nil => rfl
  | cons c t ih =>
    unfold findC at ih ⊢
    rw [List.find?_cons, idxC]
    by_cases e : c.place = p
    · simp [e]
    · rw [if_neg e, show decide (c.place = p) = false by simp [e]]
      simp only [ih]
      cases idxC t p <;> simp
theorem idxC_lt {p : Place} : ∀ {l : List Chg} {i : Nat}, idxC l p = some i → i < l.length := by
  intro l
  induction l with
  | nil => intro i h; cases h
  | cons c t ih =>
    intro i h
    rw [idxC] at h
    split at h
    · cases h; simp
    · rw [Option.map_eq_some_iff] at h
      obtain ⟨j, hj, rfl⟩ := h
      have := ih hj
      simp only [List.length_cons]
      omega
theorem findC_idx {l : List Chg} {p : Place} {i : Nat} (h : idxC l p = some i) : findC l p = some (l[i]'(idxC_lt h)) := by
  rw [idxC_find, h, Option.bind_some, List.getElem?_eq_getElem (idxC_lt h)]
theorem findC_idx0 {l : List Chg} {p : Place} (h : idxC l p = none) : findC l p = none := by rw [idxC_find, h]; rfl
end Oyez
namespace Ab
open Go Go.RowKit Go.Proofs
attribute [local irreducible] aws awp aw1 Og Om Oc Oa Ogd Ov Ot awd aw1d awh aw1h Ogh Ohd awl Ogl Ohl awv Ogv Ohv QThen QBlock QFn QFnM QRo QBe ACode AYield
theorem chgErr_good {c : Oyez.Chg} (h : Oyez.chgErr c = 0) : ¬ badC c := by
  obtain ⟨_, _, _, h1, h2, _⟩ := Oyez.chgErr_zero h
  rintro (⟨a, b⟩ | ⟨a, b⟩)
  · exact b (h1 a)
  · exact b (h2 a)
theorem wordsErr_len {k n : Int} {ws : List (List UInt8)} (h : Oyez.wordsErr k n ws = 0) : ws.length ≤ 6 := by
  unfold Oyez.wordsErr at h
  split at h
  · cases h
  · omega
theorem chgErr_words {c : Oyez.Chg} (h : Oyez.chgErr c = 0) : c.old.length ≤ 6 ∧ c.new.length ≤ 6 := by
  obtain ⟨_, h1, h2, _⟩ := Oyez.chgErr_zero h
  exact ⟨wordsErr_len h1, wordsErr_len h2⟩
def atI (o : Option Nat) : Int := match o with
  | none => -1
  | some i => i
set_option maxHeartbeats 1000000 in
theorem at_calls (l : List Oyez.Chg) (k n : Int) (hl0 : l.length ≤ 2 ^ 40) : APure Tryz.prog 108 [chgsAV l, .int .i64 k, .int .i64 n] (.int .i64 (atI (Oyez.idxC l ⟨k, n⟩))) := by
  intro σ
  obtain ⟨X, hX⟩ : ∃ X, Oyez.idxC l ⟨k, n⟩ = X := ⟨_, rfl⟩
  rw [hX]
  refine acalls_fn Tryz.func108 rfl (enters_fn Tryz.func108 (by decide) rfl) ?_
  simp [Tryz.ntmps108]
  refine ACode_loopT (fun env σ' => ∃ (u : List AV) (i : Nat), env = { t := u } ∧ u.length = 31 ∧ tg u 0 = chgsAV l ∧ tg u 1 = .int .i64 k ∧ tg u 2 = .int .i64 n ∧ tg u 7 = .int .i64 i ∧ σ' = σ ∧ i ≤ l.length ∧ (Oyez.idxC (l.drop i) ⟨k, n⟩).map (· + i) = X)
    (fun env _ => match tg env.t 7 with | .int _ i => l.length - i.toNat | _ => 0) ⟨_, 0, rfl, by simp, by simp, by simp, by simp, by simp, rfl, by omega, by simpa using hX⟩ ?_
  rintro env σ' ⟨u, i, rfl, hl, g0, g1, g2, g7, rfl, hi, hd⟩
  rcases Nat.lt_or_ge i l.length with hlt | hge
  · have hlt' : (i : Int) < (l.length : Int) := by omega
    have hx := w64 (n := (i : Int) + 1) (by omega) (by omega)
    rw [List.drop_eq_getElem_cons hlt, Oyez.idxC] at hd
    have hnext : ¬ l[i].place = ⟨k, n⟩ → (Oyez.idxC (l.drop (i + 1)) ⟨k, n⟩).map (· + (i + 1)) = X := fun hp => by
      rw [if_neg hp, Option.map_map] at hd
      rw [← hd]
      congr 1
      funext a
      simp only [Function.comp]
      omega
    by_cases hk : l[i].kind = k
    · by_cases hn : l[i].number = n
      · have hp : l[i].place = ⟨k, n⟩ := Oyez.Place.ext' hk hn
        rw [if_pos hp] at hd
        simp at hd
        subst hd
        simp [hl, g0, g1, g2, g7, hlt', hlt, hk, hn, atI]
      · have hp := hnext fun e => hn (by rw [show l[i].number = l[i].place.number from rfl, e])
        simp [hl, g0, g1, g2, g7, hlt', hlt, hk, hn, hx]
        exact ⟨⟨i + 1, by simp, by omega, hp⟩, by omega⟩
    · have hp := hnext fun e => hk (by rw [show l[i].kind = l[i].place.kind from rfl, e])
      simp [hl, g0, g1, g2, g7, hlt', hlt, hk, hx]
      exact ⟨⟨i + 1, by simp, by omega, hp⟩, by omega⟩
  · have hge' : ¬ (i : Int) < (l.length : Int) := by omega
    rw [List.drop_eq_nil_of_le hge, Oyez.idxC] at hd
    subst hd
    simp [hl, g0, g1, g2, g7, hge', atI]
/-- what the reference's After gives -/
def refAfterR (x y : List Oyez.Chg) : List Oyez.Chg × Int := match Oyez.after x y with
  | .error _ => ([], 7)
  | .ok l => if 80 < l.length then ([], 2) else (l, 0)
set_option maxRecDepth 10000 in
set_option maxHeartbeats 16000000 in
theorem refAfter_calls (x y : List Oyez.Chg) (hx : Oyez.RightC x) (hy : Oyez.RightC y) : APure Tryz.prog 40 [chgsAV x, chgsAV y] (.tup [chgsAV (refAfterR x y).1, .int .i64 (refAfterR x y).2]) := by
  have lx := hx.len
  have ly := hy.len
  refine APure.of fun σ => ?_
  obtain ⟨R, hR⟩ : ∃ R, refAfterR x y = R := ⟨_, rfl⟩
  rw [hR]
  unfold refAfterR at hR
  have hall := Oyez.after_eq hx.range hy.range
  refine acalls_fn Tryz.func40 rfl (enters_fn Tryz.func40 (by decide) rfl) ?_
  simp [-aappend, -alen, Tryz.ntmps40]
  refine ACode_loopT (fun env σ' => ∃ (u : List AV) (k : Nat) (v : AV) (g : Heap) (L : List Oyez.Chg) (o : Option Nat), env = { t := u } ∧ u.length = 99 ∧ tg u 0 = chgsAV x ∧ tg u 1 = chgsAV y ∧ tg u 6 = v ∧ tg u 7 = .int .i64 k ∧ σ' = σ ++ g ∧ k ≤ 5 ∧ Oyez.afterL x y (Oyez.upTo k 0) = .ok L ∧ Acc σ g 6 v (L.map chgAV) o)
    (fun env _ => match tg env.t 7 with | .int _ i => 5 - i.toNat | _ => 0) ⟨_, 0, .nils, [], [], none, rfl, by simp, by simp, by simp, by simp, by simp, by simp, by omega, rfl, Acc.nil _ _ _⟩ ?_
  rintro env σ' ⟨u, k, v, g, L, o, rfl, hl, g0, g1, g6, g7, rfl, hk, hL, hA⟩
  rcases Nat.lt_or_ge k 5 with hlt | hge
  · have hlt' : (k : Int) < 5 := by omega
    have hxk := w64 (n := (k : Int) + 1) (by omega) (by omega)
    simp [-aappend, -alen, hl, g0, g1, g6, g7, hlt', hlt]
    refine ACode_loopT (fun env σ' => ∃ (u : List AV) (n : Nat) (v : AV) (g : Heap) (L : List Oyez.Chg) (o : Option Nat), env = { t := u } ∧ u.length = 99 ∧ tg u 0 = chgsAV x ∧ tg u 1 = chgsAV y ∧ tg u 6 = v ∧ tg u 7 = .int .i64 k ∧ tg u 8 = .int .i64 n ∧ σ' = σ ++ g ∧ n ≤ 1000 ∧ Oyez.afterL x y (Oyez.upTo k n) = .ok L ∧ Acc σ g 6 v (L.map chgAV) o)
      (fun env _ => match tg env.t 8 with | .int _ i => 1000 - i.toNat | _ => 0) ⟨_, 0, v, g, L, o, rfl, by simp [hl], by simp [-aappend, -alen, hl, g0], by simp [hl, g1], by simp [hl, g6], by simp [hl, g7], by simp [hl], rfl, by omega, hL, hA⟩ ?_
    clear hL hA g0 g1 g6 g7 hl u v g L o
    rintro env σ' ⟨u, n, v, g, L, o, rfl, hl, g0, g1, g6, g7, g8, rfl, hn, hL, hA⟩
    rcases Nat.lt_or_ge n 1000 with hln | hgn
    · have hln' : (n : Int) < 1000 := by omega
      have hxn := w64 (n := (n : Int) + 1) (by omega) (by omega)
      have hLl : L.length ≤ 5000 := Nat.le_trans (Oyez.afterL_len hL) (Oyez.upTo_len k n)
      have hstep := Oyez.afterL_snoc hL ⟨k, n⟩
      rw [← Oyez.upTo_snoc hlt hln] at hstep
      simp [-aappend, -alen, hl, g0, g1, g6, g7, g8, hln', hln]
      refine (at_calls x k n (by omega)).use ?_
      try simp [-aappend, -alen, hl, g0, g1, g6, g7, g8, hln', hln]
      refine (at_calls y k n (by omega)).use ?_
      cases hix : Oyez.idxC x ⟨k, n⟩ with
      | none =>
        have hfx := Oyez.findC_idx0 hix
        cases hiy : Oyez.idxC y ⟨k, n⟩ with
        | none =>
          have hfy := Oyez.findC_idx0 hiy
          have hat : Oyez.afterAt x y ⟨k, n⟩ = .ok none := by unfold Oyez.afterAt; rw [hfx, hfy]
          rw [hat] at hstep
          simp [-aappend, -alen, hl, g0, g1, g6, g7, g8, hln', hln, hix, hiy, atI, hxn]
          exact ⟨⟨n + 1, by simp, by omega, L, by simpa using hstep, o, hA⟩, by omega⟩
        | some j =>
          have hj := Oyez.idxC_lt hiy
          have hfy := Oyez.findC_idx hiy
          have hat : Oyez.afterAt x y ⟨k, n⟩ = .ok (some y[j]) := by unfold Oyez.afterAt; rw [hfx, hfy]
          rw [hat] at hstep
          obtain ⟨v', g', o', he, hA', _⟩ := hA.push (P := Tryz.prog) (t := 44) (e := 57) (ag := true) (x := chgAV y[j]) (by simp) (by simp) (by simp) (by omega) ⟨by simp [AV.cells], by simp [AV.cells, AV.one]⟩ (by simp; omega)
          simp [-aappend] at he
          have hj0 : ¬ (j : Int) < 0 := by omega
          simp [-aappend, -alen, hl, g0, g1, g6, g7, g8, hln', hln, hix, hiy, atI, hxn, hj, hj0, he]
          exact ⟨⟨n + 1, by simp, by omega, L ++ [y[j]], by simpa using hstep, o', by rw [List.map_append]; exact hA'⟩, by omega⟩
      | some i =>
        have hi := Oyez.idxC_lt hix
        have hfx := Oyez.findC_idx hix
        have hi0 : ¬ (i : Int) < 0 := by omega
        cases hiy : Oyez.idxC y ⟨k, n⟩ with
        | none =>
          have hfy := Oyez.findC_idx0 hiy
          have hat : Oyez.afterAt x y ⟨k, n⟩ = .ok (some x[i]) := by unfold Oyez.afterAt; rw [hfx, hfy]
          rw [hat] at hstep
          obtain ⟨v', g', o', he, hA', _⟩ := hA.push (P := Tryz.prog) (t := 44) (e := 57) (ag := true) (x := chgAV x[i]) (by simp) (by simp) (by simp) (by omega) ⟨by simp [AV.cells], by simp [AV.cells, AV.one]⟩ (by simp; omega)
          simp [-aappend] at he
          simp [-aappend, -alen, hl, g0, g1, g6, g7, g8, hln', hln, hix, hiy, atI, hxn, hi, hi0, he]
          exact ⟨⟨n + 1, by simp, by omega, L ++ [x[i]], by simpa using hstep, o', by rw [List.map_append]; exact hA'⟩, by omega⟩
        | some j =>
          have hj := Oyez.idxC_lt hiy
          have hfy := Oyez.findC_idx hiy
          have hj0 : ¬ (j : Int) < 0 := by omega
          simp [-aappend, -alen, hl, g0, g1, g6, g7, g8, hln', hln, hix, hiy, atI, hxn, hi, hi0, hj, hj0]
          have gx := hx.each _ (List.getElem_mem hi)
          have gy := hy.each _ (List.getElem_mem hj)
          have bx := chgErr_good gx
          have by_ := chgErr_good gy
          obtain ⟨a1, a2, a3, a4⟩ := was_of bx
          obtain ⟨b1, b2, b3, b4⟩ := was_of by_
          have wx := chgErr_words gx
          have wy := chgErr_words gy
          obtain ⟨cx, hcx⟩ : ∃ c, x[i] = c := ⟨_, rfl⟩
          obtain ⟨cy, hcy⟩ : ∃ c, y[j] = c := ⟨_, rfl⟩
          rw [hcx] at gx bx a1 a2 a3 a4 wx hfx
          rw [hcy] at gy by_ b1 b2 b3 b4 wy hfy
          have hal1 := alike_calls cx.now cy.was (by rw [a3]; omega)
          have hal2 := alike_calls cx.was cy.now (by rw [a1]; omega)
          rw [a3, a4, b1, b2] at hal1
          rw [a1, a2, b3, b4] at hal2
          refine ACode_drawA mixed [8, 9] [10, 11] (fun q => [chgsAV x, AV.int .i64 i, .pp 6 (x.map chgAV) i 0, chgAV cx, chgsAV y, .int .i64 j, .pp 6 (y.map chgAV) j 0, chgAV cy].getD q .any) (fun _ => [.int .i64 0, .int .i64 0, .bool false, .bool false, .nils, .nils]) (fun q => if q = 8 then chgCells cx else chgCells cy) (by kernel_rfl)
            (LayA.of (n := 99) rfl rfl rfl (by kernel_rfl) (by simp [hl]) ?_ (by kernel_rfl) ?_ (by kernel_rfl) ?_ ?_ ?_) ?_
          · intro a ha
            simp at ha
            rcases ha with rfl | rfl <;> simp [zcOf]
          · intro p' a' u' ha hu o ty d x' ho hop τ q hq
            match p', ha, hu with
            | 0, ha, hu =>
              simp at ha hu
              subst ha; subst hu
              simp at ho
              subst ho
              simp at hop
              obtain ⟨rfl, rfl, rfl⟩ := hop
              simp [envF, tr, hq, hl, chgCells]
            | 1, ha, hu =>
              simp at ha hu
              subst ha; subst hu
              simp at ho
              subst ho
              simp at hop
              obtain ⟨rfl, rfl, rfl⟩ := hop
              simp [envF, tr, hq, hl, chgCells]
            | p' + 2, ha, _ => simp at ha
          · intro i' o ho hA' hU g'
            have hi' : i' < 12 := (List.getElem?_eq_some_iff.1 ho).1
            simp at hA' hU
            have hc : i' = 0 ∨ i' = 1 ∨ i' = 2 ∨ i' = 3 ∨ i' = 4 ∨ i' = 5 ∨ i' = 6 ∨ i' = 7 := by omega
            rcases hc with rfl | rfl | rfl | rfl | rfl | rfl | rfl | rfl <;>
              (simp at ho
               subst ho
               simp [envF, tr, hl, g0, g1, hi, hj, hcx, hcy])
          · intro q hq
            have hch : ∀ (n : Nat) (c : Oyez.Chg), Fz n [] (chgAV c) (chgAV c) := fun n c => .agg _ _ rfl fun i a b ha hb => by
              obtain rfl := Option.some.inj (ha.symm.trans hb)
              have hm := List.mem_of_getElem? ha
              simp only [List.mem_cons, List.not_mem_nil, or_false] at hm
              rcases hm with rfl | rfl | rfl | rfl | rfl | rfl
              · exact .int _ _
              · exact .int _ _
              · exact .bool _
              · exact .bool _
              · exact (Fz_strs _ _ _).2 trivial
              · exact (Fz_strs _ _ _).2 trivial
            have hls : ∀ (n : Nat) (l : List Oyez.Chg), Fz n [] (chgsAV l) (chgsAV l) := fun n l => .pl 6 _ fun i x hx j y hy => fz_chgs n [] l x (List.mem_of_getElem? hx) y (List.mem_of_getElem? hy)
            have hpp : ∀ (n : Nat) (l : List Oyez.Chg) (a b : Nat), Fz n [] (.pp 6 (l.map chgAV) a b) (.pp 6 (l.map chgAV) a b) := fun n l a b => .pp 6 _ a b fun i x hx j y hy => fz_chgs n [] l x (List.mem_of_getElem? hx) y (List.mem_of_getElem? hy)
            have hall : ∀ v ∈ [chgsAV x, AV.int .i64 i, .pp 6 (x.map chgAV) i 0, chgAV cx, chgsAV y, .int .i64 j, .pp 6 (y.map chgAV) j 0, chgAV cy], Fz (σ ++ g).length [] v v := by
              intro v hv
              simp only [List.mem_cons, List.not_mem_nil, or_false] at hv
              rcases hv with rfl | rfl | rfl | rfl | rfl | rfl | rfl | rfl
              · exact hls _ _
              · exact .int _ _
              · exact hpp _ _ _ _
              · exact hch _ _
              · exact hls _ _
              · exact .int _ _
              · exact hpp _ _ _ _
              · exact hch _ _
            rw [List.getD_eq_getElem?_getD]
            cases hv : ([chgsAV x, AV.int .i64 i, .pp 6 (x.map chgAV) i 0, chgAV cx, chgsAV y, .int .i64 j, .pp 6 (y.map chgAV) j 0, chgAV cy])[q]? with
            | none => exact .any _
            | some v => exact hall v (List.mem_of_getElem? hv)
          · intro a' ha2 y' hy'
            have hc : ∀ (n : Nat) (c : Oyez.Chg), ∀ y' ∈ chgCells c, Fz n [] y' y' := fun n c y' hy' => fz_chgs n [] [c] (chgAV c) (by simp) y' hy'
            have hy2 : y' ∈ (if a' = 8 then chgCells cx else chgCells cy) := hy'
            split at hy2
            · exact hc _ cx y' hy2
            · exact hc _ cy y' hy2
          · have hix0 : List.idxOf 8 [8, 9] = 0 := by decide
            have hix1 : List.idxOf 9 [8, 9] = 1 := by decide
            simp [-aappend, -alen, envF, tr, rrA, hl, hix0, hix1, chgCells, Nat.add_assoc]
            refine hal1.use ?_
            by_cases hn : cx.now = cy.was
            · simp [-aappend, -alen, hl, g0, g1, g6, g7, g8, hn, Nat.add_assoc]
              refine hal2.use ?_
              by_cases hw : cx.was = cy.now
              · have hat : Oyez.afterAt x y ⟨k, n⟩ = .ok none := by unfold Oyez.afterAt; rw [hfx, hfy]; simp [hn, hw]
                rw [hat] at hstep
                simp [-aappend, -alen, hl, g0, g1, g6, g7, g8, hn, hw, hxn, Nat.add_assoc]
                exact ⟨⟨n + 1, by simp, by omega, L, by simpa using hstep, o, hA.more _⟩, by omega⟩
              · have hch : Oyez.chg ⟨k, n⟩ cx.was cy.now = ⟨k, n, cx.had, cy.has, cx.old, cy.new⟩ := by
                  unfold Oyez.chg
                  unfold getW at a1 b3
                  rw [a1, a2, b3, b4]
                have hat : Oyez.afterAt x y ⟨k, n⟩ = .ok (some ⟨k, n, cx.had, cy.has, cx.old, cy.new⟩) := by unfold Oyez.afterAt; rw [hfx, hfy]; simp [hn, hw, hch]
                rw [hat] at hstep
                obtain ⟨v', g', o', he, hA', _⟩ := (hA.more [.cells (chgCells cx), .cells (chgCells cy)]).push (P := Tryz.prog) (t := 44) (e := 57) (ag := true) (x := chgAV ⟨k, n, cx.had, cy.has, cx.old, cy.new⟩) (by simp) (by simp) (by simp) (by omega) ⟨by simp [AV.cells], by simp [AV.cells, AV.one]⟩ (by simp; omega)
                simp [-aappend, chgCells, Nat.add_assoc] at he
                simp [-aappend, -alen, hl, g0, g1, g6, g7, g8, hn, hw, hxn, he, Nat.add_assoc]
                exact ⟨⟨n + 1, by simp, by omega, L ++ [_], by simpa using hstep, o', by rw [List.map_append]; exact hA'⟩, by omega⟩
            · have hat : Oyez.afterAt x y ⟨k, n⟩ = .error () := by unfold Oyez.afterAt; rw [hfx, hfy]; simp [hn]
              rw [hat] at hstep
              have herr : Oyez.after x y = .error () := by
                rw [← hall]
                have hsp : Oyez.allPlaces = Oyez.upTo k (n + 1) ++ Oyez.allPlaces.drop (1000 * k + (n + 1)) := by unfold Oyez.upTo; rw [List.take_append_drop]
                rw [hsp, Oyez.afterL_app, hstep]
              rw [herr] at hR
              simp only at hR
              subst hR
              simp [-aappend, -alen, hl, g0, g1, g6, g7, g8, hn, Nat.add_assoc]
    · obtain rfl : n = 1000 := by omega
      rw [Oyez.upTo_row] at hL
      simp [-aappend, -alen, hl, g0, g1, g6, g7, g8, hxk]
      exact ⟨⟨k + 1, by simp, by omega, L, hL, o, hA⟩, by omega⟩
  · obtain rfl : k = 5 := by omega
    rw [Oyez.upTo_all, hall] at hL
    rw [hL] at hR
    simp only at hR
    have hlen : ∀ S, alen Tryz.prog 44 v S = some (.int .i64 L.length) := by
      intro S
      have hv := hA.val
      cases o with
      | none =>
        obtain ⟨rfl, h⟩ := hv
        rw [List.map_eq_nil_iff.1 h]
        simp
      | some j =>
        obtain ⟨rfl, _⟩ := hv
        simp
    have hz := hA.fz (fz_chgs _ _ _)
    by_cases h80 : 80 < L.length
    · rw [if_pos h80] at hR
      subst hR
      have h80' : (80 : Int) < (L.length : Int) := by omega
      simp [-aappend, -alen, hl, g0, g1, g6, g7, hlen, h80, h80']
    · rw [if_neg h80] at hR
      subst hR
      have h80' : ¬ (80 : Int) < (L.length : Int) := by omega
      simp [-aappend, -alen, hl, g0, g1, g6, g7, hlen, h80, h80']
      exact hz
end Ab

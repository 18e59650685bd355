/-
  CHANGES THAT DO TWO LISTS: the walk of the program's After.
-/
import Derived.Test.YtcoikmapjepdjaaGreatDoorA31
import Derived.Test.YtcoikmapjepdjaaGreatDoorA37
set_option linter.unusedSimpArgs false
set_option linter.unusedVariables false
set_option linter.unusedSectionVars false
namespace Ab
open Go Go.RowKit Go.Proofs
attribute [local irreducible] aws awp aw1 Og Om Oc Oa Ogd Ov Ot awd aw1d awh aw1h Ogh Ohd awl Ogl Ohl awv Ogv Ohv QThen QBlock QFn QFnM QRo QBe ACode AYield
/-- the changes of places that another list has none of -/
def restC (x l : List Oyez.Chg) : List Oyez.Chg := l.filter fun d => decide (d.place ∉ x.map Oyez.Chg.place)
set_option maxHeartbeats 16000000 in
theorem after41_calls (x y : List Oyez.Chg) (hx : FewC x) (hy : FewC y) (lx : x.length ≤ 2 ^ 38) (ly : y.length ≤ 2 ^ 38) (σ : Heap) :
    ACalls Tryz.prog 27 [chgsAV x, chgsAV y] σ fun v σ' => ∃ v1, v = .tup [v1, .int .i64 (Oyez.afterR x y).2] ∧ (∃ g, σ' = σ ++ g) ∧ OwnC asIs σ.length σ' (Oyez.afterR x y).1 v1 := by
  obtain ⟨R, hR⟩ : ∃ R, Oyez.afterR x y = R := ⟨_, rfl⟩
  rw [hR]
  unfold Oyez.afterR at hR
  have nil : ∀ (E : Int) (S : Heap), R = ([], E) → ∃ v1, AV.tup [.nils, .int .i64 E] = .tup [v1, .int .i64 R.2] ∧ OwnC asIs σ.length S R.1 v1 := by
    rintro E S rfl
    exact ⟨.nils, rfl, ⟨.inl ⟨rfl, rfl⟩⟩⟩
  refine acalls_fn Tryz.func27 rfl (enters_fn Tryz.func27 (by decide) rfl) ?_
  simp [Tryz.ntmps27]
  refine ACode_loopT (fun env σ' => ∃ (u : List AV) (i : Nat), env = { t := u } ∧ u.length = 129 ∧ tg u 0 = chgsAV x ∧ tg u 1 = chgsAV y ∧ tg u 23 = .arr 1 σ.length 0 2 ∧ tg u 24 = .int .i64 2 ∧ tg u 25 = .int .i64 i ∧ σ' = σ ++ [.cells [chgsAV x, chgsAV y]] ∧ i ≤ 2 ∧ (0 < i → Oyez.checkChg x = 0) ∧ (1 < i → Oyez.checkChg y = 0))
    (fun env _ => match tg env.t 25 with | .int _ i => 2 - i.toNat | _ => 0) ⟨_, 0, rfl, by simp, by simp, by simp, by simp, by simp, by simp, by simp, by omega, fun h => by omega, fun h => by omega⟩ ?_
  rintro env _ ⟨u, i, rfl, hl, g0, g1, g23, g24, g25, rfl, hi, h0, h1⟩
  have w1 := w64 (n := (1 : Int)) (by omega) (by omega)
  have w2 := w64 (n := (2 : Int)) (by omega) (by omega)
  match i, hi with
  | 0, _ =>
    simp [hl, g0, g1, g23, g24, g25, w1, w2]
    refine (checkC_calls x hx).use ?_
    by_cases k : Oyez.checkChg x = 0
    · simp [hl, g0, g1, g23, g24, g25, w1, w2, k]
      exact ⟨1, rfl, by omega, fun h => by omega⟩
    · rw [if_pos k] at hR
      subst hR
      simp [hl, g0, g1, g23, g24, g25, w1, w2, k]
      exact OwnC.mk (.inl ⟨rfl, rfl⟩)
  | 1, _ =>
    have k := h0 (by omega)
    simp [hl, g0, g1, g23, g24, g25, w1, w2]
    refine (checkC_calls y hy).use ?_
    by_cases k2 : Oyez.checkChg y = 0
    · simp [hl, g0, g1, g23, g24, g25, w1, w2, k2, k]
      exact ⟨2, rfl, by omega⟩
    · rw [if_neg (by simp [k]), if_pos k2] at hR
      subst hR
      simp [hl, g0, g1, g23, g24, g25, w1, w2, k2]
      exact OwnC.mk (.inl ⟨rfl, rfl⟩)
  | 2, _ =>
    have k := h0 (by omega)
    have k2 := h1 (by omega)
    rw [if_neg (by simp [k]), if_neg (by simp [k2])] at hR
    have rx := Oyez.checkChg_zero k
    have ry := Oyez.checkChg_zero k2
    have good : ∀ c ∈ x ++ y, Oyez.chgErr c = 0 := fun c hc => by
      rcases List.mem_append.1 hc with hc | hc
      · exact rx.each c hc
      · exact ry.each c hc
    simp [hl, g0, g1, g23, g24, g25]
    refine ACode_loopT (fun env σ' => ∃ (u : List AV) (j : Nat) (g : Heap), env = { t := u } ∧ u.length = 129 ∧ tg u 0 = chgsAV x ∧ tg u 1 = chgsAV y ∧ tg u 9 = .mp (σ.length + 1) ∧ tg u 36 = chgsAV y ∧ tg u 37 = .int .i64 y.length ∧ tg u 38 = .int .i64 j ∧ σ' = σ ++ .cells [chgsAV x, chgsAV y] :: .map (entsC (y.take j)) :: g ∧ j ≤ y.length)
      (fun env _ => match tg env.t 38 with | .int _ i => y.length - i.toNat | _ => 0) ⟨_, 0, [], rfl, by simp [hl], by simp [hl, g0], by simp [hl, g1], by simp [hl], by simp [hl], by simp [hl], by simp [hl], by simp [entsC], by omega⟩ ?_
    clear hl g0 g1 g23 g24 g25 u
    rintro env _ ⟨u, j, g, rfl, hl, g0, g1, g9, g36, g37, g38, rfl, hj⟩
    rcases Nat.lt_or_ge j y.length with hlt | hge
    · have hlt' : (j : Int) < (y.length : Int) := by omega
      have hxj := w64 (n := (j : Int) + 1) (by omega) (by omega)
      have hno := afindC_none y[j].place (y.take j) 0 (Oyez.findC_none (Oyez.take_notin ry.sorted hlt))
      simp only [Oyez.Chg.place] at hno
      have hsnoc : entsC (y.take (j + 1)) = entsC (y.take j) ++ [(placeAV y[j].place, chgAV y[j])] := by
        unfold entsC
        rw [List.take_succ_eq_append_getElem hlt, List.map_append]
        rfl
      simp [hl, g0, g1, g9, g36, g37, g38, hlt', hlt]
      refine ACode_drawH [4] mixed (by kernel_rfl) ?_
      simp [hl, g0, g1, g9, g36, g37, g38, hlt', hlt, Nat.add_assoc]
      refine Ou_use0 (cplace_calls y[j]) ?_
      simp [-afind, hl, g0, g1, g9, g36, g37, g38, hlt', hlt, Nat.add_assoc, Oyez.Chg.place, hno, hxj]
      exact ⟨⟨j + 1, by simp, hsnoc.symm, by omega⟩, by omega⟩
    · obtain rfl : j = y.length := by omega
      simp [hl, g0, g1, g9, g36, g37, g38]
      have hchg : ∀ (c : Oyez.Chg) (d : Oyez.Chg), Oyez.chgErr c = 0 → Oyez.chgErr d = 0 → ∀ S : Heap, ACalls Tryz.prog 93 [placeAV c.place, stAV c.was, stAV d.now] S fun v s => v = .agg [.int .i64 c.kind, .int .i64 c.number, .bool c.had, .bool d.has, cloneV S.length c.old, cloneV (S.length + (cloneG c.old).length) d.new] ∧ s = S ++ (cloneG c.old ++ cloneG d.new) := by
        intro c d hc hd S
        obtain ⟨a1, a2, a3, a4⟩ := was_of (chgErr_good hc)
        obtain ⟨b1, b2, b3, b4⟩ := was_of (chgErr_good hd)
        have hwc := chgErr_words hc
        have hwd := chgErr_words hd
        have := change_calls c.place c.was d.now (by rw [a1]; omega) (by rw [b3]; omega) S
        rw [a1, a2, b3, b4] at this
        exact this
      have hsame : ∀ (c : Oyez.Chg) (d : Oyez.Chg), Oyez.chgErr c = 0 → (APure Tryz.prog 92 [stAV c.now, stAV d.was] (.bool (decide (c.now = d.was))) ∧ APure Tryz.prog 92 [stAV c.was, stAV d.now] (.bool (decide (c.was = d.now)))) := by
        intro c d hc
        obtain ⟨a1, a2, a3, a4⟩ := was_of (chgErr_good hc)
        have hwc := chgErr_words hc
        exact ⟨same113_calls _ _ (by rw [a3]; omega), same113_calls _ _ (by rw [a1]; omega)⟩
      refine ACode_loopT (fun env σ' => ∃ (u : List AV) (i : Nat) (v : AV) (g : Heap), env = { t := u } ∧ u.length = 129 ∧ tg u 0 = chgsAV x ∧ tg u 1 = chgsAV y ∧ tg u 9 = .mp (σ.length + 1) ∧ tg u 12 = v ∧ tg u 47 = chgsAV x ∧ tg u 48 = .int .i64 x.length ∧ tg u 49 = .int .i64 i ∧ σ' = σ ++ .cells [chgsAV x, chgsAV y] :: .map (entsC (Oyez.leftC x y i)) :: g ∧ i ≤ x.length ∧
          MC σ (.cells [chgsAV x, chgsAV y] :: .map (entsC (Oyez.leftC x y i)) :: g) ((x.take i).filterMap (Oyez.aft1 y)) v ∧ ∀ c ∈ x.take i, ¬ Oyez.clash1 y c)
        (fun env _ => match tg env.t 49 with | .int _ i => x.length - i.toNat | _ => 0) ⟨_, 0, .nils, g, rfl, by simp [hl], by simp [hl, g0], by simp [hl, g1], by simp [hl, g9], by simp [hl], by simp [hl], by simp [hl], by simp [hl], by simp [Oyez.leftC_zero], by omega, by simpa using MC.nil _ _, by simp⟩ ?_
      clear hl g0 g1 g9 g36 g37 g38 u g
      rintro env _ ⟨u, i, v, g, rfl, hl, g0, g1, g9, g12, g47, g48, g49, rfl, hi, hM, hnc⟩
      rcases Nat.lt_or_ge i x.length with hlt | hge
      · have hlt' : (i : Int) < (x.length : Int) := by omega
        have hxi := w64 (n := (i : Int) + 1) (by omega) (by omega)
        have hfind := Oyez.leftC_find (y := y) rx.sorted hlt
        have hsub : ((x.take i).filterMap (Oyez.aft1 y)).length ≤ 2 ^ 40 := Nat.le_trans (List.length_filterMap_le _ _) (by simp; omega)
        have htk : x.take (i + 1) = x.take i ++ [x[i]] := List.take_succ_eq_append_getElem hlt
        have hkeep := Oyez.leftC_keep (y := y) hlt
        have hsucc := Oyez.leftC_succ x y hlt
        have hlen := hM.len
        obtain ⟨c, hc⟩ : ∃ c, x[i] = c := ⟨_, rfl⟩
        have gc : Oyez.chgErr c = 0 := good c (hc ▸ List.mem_append_left _ (List.getElem_mem hlt))
        have ha1 := Oyez.aft1_chg (y := y) gc
        rw [hc] at hfind htk hkeep hsucc
        cases hfy : Oyez.findC y c.place with
        | none =>
          rw [hfy] at hfind
          have hno := afindC_none c.place _ 0 hfind
          simp only [Oyez.Chg.place] at hno
          have hput := MC.put (g := g ++ [.cells (chgCells c), .cells [.int .i64 0, .int .i64 0, .bool false, .bool false, .nils, .nils]]) (hM.more [.cells (chgCells c), .cells [.int .i64 0, .int .i64 0, .bool false, .bool false, .nils, .nils]]) hsub c
          obtain ⟨v', g', he, hM'⟩ := hput
          simp [-aappend, chgCells, Nat.add_assoc] at he
          try simp [-aappend, -afind, hl, g0, g1, g9, g12, g47, g48, g49, hlt', hlt, hc]
          refine (cplace_calls c).use ?_
          try simp [-aappend, -afind, hl, g0, g1, g9, g12, g47, g48, g49, hlt', hlt, hc, Oyez.Chg.place, hno, Nat.add_assoc]
          refine ACode_drawV [7, 8, 9] [(0, 1), (0, 2)] mixed (by kernel_rfl) (by kernel_rfl) ?_
          try simp [-aappend, -afind, hl, g0, g1, g9, g12, g47, g48, g49, hlt', hlt, hc, Nat.add_assoc]
          refine Ou_use0 (cplace_calls c) ?_
          try simp [-aappend, -afind, hl, g0, g1, g9, g12, g47, g48, g49, hlt', hlt, hc, Nat.add_assoc]
          refine Ou_use0 (was_calls (chgErr_good gc)) ?_
          try simp [-aappend, -afind, hl, g0, g1, g9, g12, g47, g48, g49, hlt', hlt, hc, Nat.add_assoc]
          refine Ou_use0 (now_calls (chgErr_good gc)) ?_
          try simp [-aappend, -afind, hl, g0, g1, g9, g12, g47, g48, g49, hlt', hlt, hc, Nat.add_assoc]
          refine OuH_of (hchg c c gc gc _) ?_
          try simp [-AV.one, one_int, one_bool, one_clone, -aappend, -afind, hl, g0, g1, g9, g12, g47, g48, g49, hlt', hlt, hc, hxi, he, Nat.add_assoc]
          have e2 : (x.take (i + 1)).filterMap (Oyez.aft1 y) = (x.take i).filterMap (Oyez.aft1 y) ++ [c] := by
            rw [htk, List.filterMap_append]
            simp [ha1.1 hfy, Oyez.chg_self gc]
          have hnc' : ∀ e ∈ x.take (i + 1), ¬ Oyez.clash1 y e := by
            intro e he
            rw [htk] at he
            rcases List.mem_append.1 he with he | he
            · exact hnc e he
            · rw [List.mem_singleton] at he
              subst he
              rintro ⟨d, hd, _⟩
              rw [hfy] at hd
              cases hd
          exact ⟨⟨i + 1, by simp, g', ⟨by rw [hkeep hfy], rfl⟩, by omega, by rw [hkeep hfy, e2]; exact hM', hnc'⟩, by omega⟩
        | some d =>
          rw [hfy] at hfind
          have gd : Oyez.chgErr d = 0 := good d (List.mem_append_right _ (Oyez.findC_mem hfy).1)
          have bc := chgErr_good gc
          have bd := chgErr_good gd
          obtain ⟨jj, hj1, hj2⟩ := afindC_some c.place d _ 0 (Oyez.leftC_sorted ry.sorted i) hfind
          rw [← hsucc] at hj2
          simp only [Nat.zero_add, Oyez.Chg.place] at hj1
          have hm1 := hM.more [.cells (chgCells c), .cells (chgCells d)]
          have hm2 := MC.map (g := g ++ [.cells (chgCells c), .cells (chgCells d)]) hm1 (entsC (Oyez.leftC x y (i + 1)))
          have haft := ha1.2 d hfy
          simp [-aappend, -afind, hl, g0, g1, g9, g12, g47, g48, g49, hlt', hlt, hc]
          refine (cplace_calls c).use ?_
          simp [-aappend, -afind, hl, g0, g1, g9, g12, g47, g48, g49, hlt', hlt, hc, Oyez.Chg.place, hj1, Nat.add_assoc]
          refine ACode_draw0 mixed (by kernel_rfl) ?_
          simp [-aappend, -afind, hl, g0, g1, g9, g12, g47, g48, g49, hlt', hlt, hc, Nat.add_assoc]
          refine Ou_use0 (now_calls bc) ?_
          try simp [-aappend, -afind, hl, g0, g1, g9, g12, g47, g48, g49, hlt', hlt, hc, Nat.add_assoc]
          refine Ou_use0 (was_calls bd) ?_
          try simp [-aappend, -afind, hl, g0, g1, g9, g12, g47, g48, g49, hlt', hlt, hc, Nat.add_assoc]
          refine Ou_use0 (hsame c d gc).1 ?_
          by_cases hn : c.now = d.was
          case neg =>
            have herr := Oyez.after_clash rx.sorted (hc ▸ List.getElem_mem hlt) ⟨d, hfy, hn⟩
            rw [herr] at hR
            simp only at hR
            subst hR
            simp [-aappend, -afind, hl, g0, g1, g9, g12, g47, g48, g49, hlt', hlt, hc, hn, Nat.add_assoc]
            exact OwnC.mk (.inl ⟨rfl, rfl⟩)
          have hnc' : ∀ e ∈ x.take (i + 1), ¬ Oyez.clash1 y e := by
            intro e he
            rw [htk] at he
            rcases List.mem_append.1 he with he | he
            · exact hnc e he
            · rw [List.mem_singleton] at he
              subst he
              rintro ⟨d', hd, hne⟩
              rw [hfy] at hd
              cases hd
              exact hne hn
          simp [-aappend, -afind, hl, g0, g1, g9, g12, g47, g48, g49, hlt', hlt, hc, hn, Nat.add_assoc]
          refine (cplace_calls c).use ?_
          simp [-aappend, -afind, hl, g0, g1, g9, g12, g47, g48, g49, hlt', hlt, hc, hn, Oyez.Chg.place, hj1, hj2, Nat.add_assoc]
          refine ACode_draw0 mixed (by kernel_rfl) ?_
          simp [-aappend, -afind, hl, g0, g1, g9, g12, g47, g48, g49, hlt', hlt, hc, Nat.add_assoc]
          refine Ou_use0 (was_calls bc) ?_
          try simp [-aappend, -afind, hl, g0, g1, g9, g12, g47, g48, g49, hlt', hlt, hc, Nat.add_assoc]
          refine Ou_use0 (now_calls bd) ?_
          try simp [-aappend, -afind, hl, g0, g1, g9, g12, g47, g48, g49, hlt', hlt, hc, Nat.add_assoc]
          refine Ou_use0 (hsame c d gc).2 ?_
          by_cases hw : c.was = d.now
          · rw [if_pos hw] at haft
            have e2 : (x.take (i + 1)).filterMap (Oyez.aft1 y) = (x.take i).filterMap (Oyez.aft1 y) := by
              rw [htk, List.filterMap_append]
              simp [haft]
            simp [-aappend, -afind, hl, g0, g1, g9, g12, g47, g48, g49, hlt', hlt, hc, hn, hw, hxi, Nat.add_assoc]
            exact ⟨⟨i + 1, by simp, _, ⟨rfl, rfl⟩, by omega, by rw [e2]; exact hm2, hnc'⟩, by omega⟩
          · rw [if_neg hw] at haft
            obtain ⟨c1, c2, c3, c4⟩ := was_of bc
            obtain ⟨d1, d2, d3, d4⟩ := was_of bd
            have hch : Oyez.chg c.place c.was d.now = ⟨c.kind, c.number, c.had, d.has, c.old, d.new⟩ := by
              unfold Oyez.chg
              unfold getW at c1 d3
              rw [c1, c2, d3, d4]
              rfl
            rw [hch] at haft
            have e2 : (x.take (i + 1)).filterMap (Oyez.aft1 y) = (x.take i).filterMap (Oyez.aft1 y) ++ [⟨c.kind, c.number, c.had, d.has, c.old, d.new⟩] := by
              rw [htk, List.filterMap_append]
              simp [haft]
            obtain ⟨v', g', he, hM'⟩ := MC.put hm2 hsub ⟨c.kind, c.number, c.had, d.has, c.old, d.new⟩
            simp [-aappend, chgCells, Nat.add_assoc] at he
            simp [-aappend, -afind, hl, g0, g1, g9, g12, g47, g48, g49, hlt', hlt, hc, hn, hw, Nat.add_assoc]
            refine ACode_drawV [7, 8, 9] [(0, 1), (0, 2)] mixed (by kernel_rfl) (by kernel_rfl) ?_
            simp [-aappend, -afind, hl, g0, g1, g9, g12, g47, g48, g49, hlt', hlt, hc, Nat.add_assoc]
            refine Ou_use0 (cplace_calls c) ?_
            try simp [-aappend, -afind, hl, g0, g1, g9, g12, g47, g48, g49, hlt', hlt, hc, Nat.add_assoc]
            refine Ou_use0 (was_calls bc) ?_
            try simp [-aappend, -afind, hl, g0, g1, g9, g12, g47, g48, g49, hlt', hlt, hc, Nat.add_assoc]
            refine Ou_use0 (now_calls bd) ?_
            try simp [-aappend, -afind, hl, g0, g1, g9, g12, g47, g48, g49, hlt', hlt, hc, Nat.add_assoc]
            refine OuH_of (hchg c d gc gd _) ?_
            simp [-AV.one, one_int, one_bool, one_clone, -aappend, -afind, hl, g0, g1, g9, g12, g47, g48, g49, hlt', hlt, hc, hxi, he, Nat.add_assoc]
            exact ⟨⟨i + 1, by simp, g', ⟨rfl, rfl⟩, by omega, by rw [e2]; exact hM', hnc'⟩, by omega⟩
      · obtain rfl : i = x.length := by omega
        rw [List.take_length] at hM hnc
        simp [-aappend, -afind, hl, g0, g1, g9, g12, g47, g48, g49]
        refine ACode_loopT (fun env σ' => ∃ (u : List AV) (j : Nat) (v : AV) (g : Heap), env = { t := u } ∧ u.length = 129 ∧ tg u 0 = chgsAV x ∧ tg u 1 = chgsAV y ∧ tg u 9 = .mp (σ.length + 1) ∧ tg u 12 = v ∧ tg u 98 = chgsAV y ∧ tg u 99 = .int .i64 y.length ∧ tg u 100 = .int .i64 j ∧ σ' = σ ++ .cells [chgsAV x, chgsAV y] :: .map (entsC (Oyez.leftC x y x.length)) :: g ∧ j ≤ y.length ∧
            MC σ (.cells [chgsAV x, chgsAV y] :: .map (entsC (Oyez.leftC x y x.length)) :: g) (x.filterMap (Oyez.aft1 y) ++ restC x (y.take j)) v)
          (fun env _ => match tg env.t 100 with | .int _ i => y.length - i.toNat | _ => 0) ⟨_, 0, v, g, rfl, by simp [hl], by simp [hl, g0], by simp [hl, g1], by simp [hl, g9], by simp [hl, g12], by simp [hl], by simp [hl], by simp [hl], by simp, by omega, by simpa [restC] using hM⟩ ?_
        clear hl g0 g1 g9 g12 g47 g48 g49 hM u v g
        rintro env _ ⟨u, j, v, g, rfl, hl, g0, g1, g9, g12, g98, g99, g100, rfl, hj, hM⟩
        rcases Nat.lt_or_ge j y.length with hlt | hge
        · have hlt' : (j : Int) < (y.length : Int) := by omega
          have hxj := w64 (n := (j : Int) + 1) (by omega) (by omega)
          have hend := Oyez.leftC_end (x := x) ry.sorted hlt
          have hsub : (x.filterMap (Oyez.aft1 y) ++ restC x (y.take j)).length ≤ 2 ^ 40 := by
            unfold restC
            rw [List.length_append]
            have h1 := List.length_filterMap_le (Oyez.aft1 y) x
            have h2 := List.length_filter_le (fun d : Oyez.Chg => decide (d.place ∉ x.map Oyez.Chg.place)) (y.take j)
            rw [List.length_take] at h2
            omega
          have htk : y.take (j + 1) = y.take j ++ [y[j]] := List.take_succ_eq_append_getElem hlt
          obtain ⟨c, hc⟩ : ∃ c, y[j] = c := ⟨_, rfl⟩
          have gc : Oyez.chgErr c = 0 := good c (hc ▸ List.mem_append_right _ (List.getElem_mem hlt))
          have bc := chgErr_good gc
          rw [hc] at hend htk
          by_cases hin : c.place ∈ x.map Oyez.Chg.place
          · rw [if_pos hin] at hend
            have hno := afindC_none c.place _ 0 hend
            simp only [Oyez.Chg.place] at hno
            have e2 : restC x (y.take (j + 1)) = restC x (y.take j) := by
              unfold restC
              rw [htk, List.filter_append, List.filter_cons, if_neg (by simpa using hin), List.filter_nil, List.append_nil]
            simp [-aappend, -afind, hl, g0, g1, g9, g12, g98, g99, g100, hlt', hlt, hc]
            refine (cplace_calls c).use ?_
            simp [-aappend, -afind, hl, g0, g1, g9, g12, g98, g99, g100, hlt', hlt, hc, Oyez.Chg.place, hno, hxj, Nat.add_assoc]
            exact ⟨⟨j + 1, by simp, by omega, by rw [e2]; exact hM.more [.cells (chgCells c), .cells [.int .i64 0, .int .i64 0, .bool false, .bool false, .nils, .nils]]⟩, by omega⟩
          · rw [if_neg hin] at hend
            obtain ⟨jj, hj1, hj2⟩ := afindC_some c.place c _ 0 (Oyez.leftC_sorted ry.sorted x.length) hend
            simp only [Nat.zero_add, Oyez.Chg.place] at hj1
            have e2 : restC x (y.take (j + 1)) = restC x (y.take j) ++ [c] := by
              unfold restC
              rw [htk, List.filter_append, List.filter_cons, if_pos (by simpa using hin), List.filter_nil]
            have hm1 := hM.more [.cells (chgCells c), .cells (chgCells c)]
            obtain ⟨v', g', he, hM'⟩ := MC.put (g := g ++ [.cells (chgCells c), .cells (chgCells c)]) hm1 hsub c
            simp [-aappend, chgCells, Nat.add_assoc] at he
            simp [-aappend, -afind, hl, g0, g1, g9, g12, g98, g99, g100, hlt', hlt, hc]
            refine (cplace_calls c).use ?_
            simp [-aappend, -afind, hl, g0, g1, g9, g12, g98, g99, g100, hlt', hlt, hc, Oyez.Chg.place, hj1, Nat.add_assoc]
            refine ACode_drawV [7, 8, 9] [(0, 1), (0, 2)] mixed (by kernel_rfl) (by kernel_rfl) ?_
            simp [-aappend, -afind, hl, g0, g1, g9, g12, g98, g99, g100, hlt', hlt, hc, Nat.add_assoc]
            refine Ou_use0 (cplace_calls c) ?_
            try simp [-aappend, -afind, hl, g0, g1, g9, g12, g98, g99, g100, hlt', hlt, hc, Nat.add_assoc]
            refine Ou_use0 (was_calls bc) ?_
            try simp [-aappend, -afind, hl, g0, g1, g9, g12, g98, g99, g100, hlt', hlt, hc, Nat.add_assoc]
            refine Ou_use0 (now_calls bc) ?_
            try simp [-aappend, -afind, hl, g0, g1, g9, g12, g98, g99, g100, hlt', hlt, hc, Nat.add_assoc]
            refine OuH_of (hchg c c gc gc _) ?_
            simp [-AV.one, one_int, one_bool, one_clone, -aappend, -afind, hl, g0, g1, g9, g12, g98, g99, g100, hlt', hlt, hc, hxj, he, Nat.add_assoc]
            exact ⟨⟨j + 1, by simp, by omega, by rw [e2, ← List.append_assoc]; exact hM'⟩, by omega⟩
        · obtain rfl : j = y.length := by omega
          rw [List.take_length] at hM
          have hAA : x.filterMap (Oyez.aft1 y) ++ restC x y = Oyez.aftA x y := rfl
          rw [hAA] at hM
          by_cases hL : Oyez.aftA x y = []
          · rw [hL] at hM
            obtain rfl := hM.zero
            have hok := Oyez.after_perm rx.sorted ry.sorted hnc (l := []) (by rw [hL]) List.Pairwise.nil
            rw [hok] at hR
            simp at hR
            subst hR
            simp [hl, g0, g1, g9, g12, g98, g99, g100]
            refine sortCh_nil.use ?_
            simp [hl, g0, g1, g9, g12, g98, g99, g100]
            exact OwnC.mk (.inl ⟨rfl, rfl⟩)
          · obtain ⟨r, vals, rfl, hvl, hr, hrow, hfin⟩ := hM.sorted hL
            have hvn : vals.length ≤ 2 ^ 40 := by
              rw [hvl]
              unfold Oyez.aftA
              rw [List.length_append]
              have h1 := List.length_filterMap_le (Oyez.aft1 y) x
              have h2 := List.length_filter_le (fun d : Oyez.Chg => decide (d.place ∉ x.map Oyez.Chg.place)) y
              omega
            simp [hl, g0, g1, g9, g12, g98, g99, g100]
            refine StA.of ((sortCh_calls vals hrow hr hvn).mono ?_)
            rintro _ _ ⟨rfl, rows', hp, hs, rfl⟩
            obtain ⟨L', hp', ho', hown⟩ := hfin rows' hp hs
            have hok := Oyez.after_perm rx.sorted ry.sorted hnc hp' ho'
            rw [hok] at hR
            simp only at hR
            have hll : L'.length = vals.length := by rw [hvl]; exact hp'.length_eq
            rw [set_behind (by omega), show σ.length + r - σ.length = r by omega] at hown ⊢
            by_cases h80 : 80 < L'.length
            · rw [if_pos h80] at hR
              subst hR
              have h80' : (80 : Int) < (vals.length : Int) := by omega
              have h80n : 80 < vals.length := by omega
              simp [hl, g0, g1, g9, g12, g98, g99, g100, h80', h80n]
              exact OwnC.mk (.inl ⟨rfl, rfl⟩)
            · rw [if_neg h80] at hR
              subst hR
              have h80' : ¬ (80 : Int) < (vals.length : Int) := by omega
              have h80n : ¬ 80 < vals.length := by omega
              simp [hl, g0, g1, g9, g12, g98, g99, g100, h80', h80n]
              exact hown
end Ab

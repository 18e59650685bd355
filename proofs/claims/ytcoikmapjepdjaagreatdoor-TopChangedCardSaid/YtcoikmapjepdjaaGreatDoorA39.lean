/-
  CHANGES THAT ARE NEVER WRITTEN AGAIN: what Diff, Back and After give.
-/
import Derived.Test.YtcoikmapjepdjaaGreatDoorA36
import Derived.Test.YtcoikmapjepdjaaGreatDoorA38
set_option linter.unusedSimpArgs false
set_option linter.unusedVariables false
set_option linter.unusedSectionVars false
namespace Ab
open Go Go.RowKit Go.Proofs
attribute [local irreducible] aws awp aw1 Og Om Oc Oa Ogd Ov Ot awd aw1d awh aw1h Ogh Ohd awl Ogl Ohl awv Ogv Ohv QThen QBlock QFn QFnM QRo QBe ACode AYield
/-- own words, read as what they hold once objects n and behind are never written again -/
theorem fz_strsM {n : Nat} {τ : Heap} {q : Nat} (ws : List (List UInt8)) (hn : n ≤ q) (h : τ[q]? = some (.cells (strs ws))) : Fz n τ (.arr 1 q 0 ws.length) (wordsAV ws) := by
  have hl : ws.length = (strs ws).length := by simp [strs]
  rw [hl]
  refine Fz.arr 1 q 0 (strs ws) (strs ws) (fun i _ => (strs ws).getD i .any) hn h (fun i x hx => ?_) (fun i x hx j y hy => ?_)
  · have hx' := hx
    simp only [strs, List.getElem?_map, Option.map_eq_some_iff] at hx
    obtain ⟨s, hs, rfl⟩ := hx
    refine ⟨rfl, fun j y hy => ?_⟩
    match j, hy with
    | 0, hy =>
      simp [AV.cells] at hy; subst hy
      refine ⟨rfl, ?_⟩
      rw [Nat.zero_add, Nat.mul_one, Nat.add_zero, List.getD_eq_getElem?_getD, hx']
      rfl
    | j + 1, hy => simp [AV.cells] at hy
  · have hx' := hx
    simp only [strs, List.getElem?_map, Option.map_eq_some_iff] at hx
    obtain ⟨s, hs, rfl⟩ := hx
    match j, hy with
    | 0, hy =>
      simp [AV.cells] at hy; subst hy
      rw [List.getD_eq_getElem?_getD, hx']
      exact .str _
    | j + 1, hy => simp [AV.cells] at hy
/-- what is lent are the changes -/
theorem OwnC.fzN {n : Nat} {τ : Heap} {lo : Nat} {L : List Oyez.Chg} {v : AV} (hn : n ≤ lo) (h : OwnC asIs lo τ L v) : Fz n τ v (chgsAV L) := by
  rcases h.row with ⟨rfl, rfl⟩ | ⟨r, hlr, rfl, cs, h3, h4, h5⟩
  · exact .nils_pl 6
  · have hl : L.length = (L.map chgAV).length := by simp
    rw [hl]
    have hcell : ∀ (i : Nat) (c : Oyez.Chg), L[i]? = some c → ∃ w1 w2, (∀ j, j < 6 → cs[i * 6 + j]? = [AV.int .i64 c.kind, .int .i64 c.number, .bool c.had, .bool c.has, w1, w2][j]?) ∧ Fz n τ w1 (wordsAV c.old) ∧ Fz n τ w2 (wordsAV c.new) := by
      intro i c hc
      obtain ⟨w1, w2, g1, g2⟩ := h5 i c hc
      have key : ∀ w ws, (w, ws) = (w1, c.old) ∨ (w, ws) = (w2, c.new) → Fz n τ w (wordsAV ws) := by
        intro w ws hw
        rcases g2 w ws hw with ⟨a, rfl⟩ | ⟨q, xs, a1, a2, rfl, a4, a5⟩
        · rw [a]; exact .pl0 1 1
        · rw [show xs = strs ws from a5] at a4
          exact fz_strsM _ (by omega) a4
      refine ⟨w1, w2, fun j hj => ?_, key _ _ (.inl rfl), key _ _ (.inr rfl)⟩
      rw [← g1, List.getElem?_take_of_lt hj, List.getElem?_drop]
    refine Fz.arr 6 r 0 cs (L.map chgAV) (fun i j => (cs[i * 6 + j]?).getD .any) (by omega) h3 (fun i x hx => ?_) (fun i x hx j y hy => ?_)
    · rw [List.getElem?_map, Option.map_eq_some_iff] at hx
      obtain ⟨c, hc, rfl⟩ := hx
      obtain ⟨w1, w2, g1, g2⟩ := hcell i c hc
      refine ⟨rfl, fun j y hy => ?_⟩
      have hj : j < 6 := (List.getElem?_eq_some_iff.1 hy).1
      refine ⟨?_, ?_⟩
      · match j, hj, hy with
        | 0, _, hy => simp [AV.cells] at hy; subst hy; rfl
        | 1, _, hy => simp [AV.cells] at hy; subst hy; rfl
        | 2, _, hy => simp [AV.cells] at hy; subst hy; rfl
        | 3, _, hy => simp [AV.cells] at hy; subst hy; rfl
        | 4, _, hy => simp [AV.cells] at hy; subst hy; rfl
        | 5, _, hy => simp [AV.cells] at hy; subst hy; rfl
      · have := g1 j hj
        rw [Nat.zero_add, this]
        match j, hj with
        | 0, _ => rfl
        | 1, _ => rfl
        | 2, _ => rfl
        | 3, _ => rfl
        | 4, _ => rfl
        | 5, _ => rfl
    · rw [List.getElem?_map, Option.map_eq_some_iff] at hx
      obtain ⟨c, hc, rfl⟩ := hx
      obtain ⟨w1, w2, g1, g2, g3⟩ := hcell i c hc
      have hj : j < 6 := (List.getElem?_eq_some_iff.1 hy).1
      rw [g1 j hj]
      match j, hj, hy with
      | 0, _, hy => simp [AV.cells] at hy; subst hy; exact .int _ _
      | 1, _, hy => simp [AV.cells] at hy; subst hy; exact .int _ _
      | 2, _, hy => simp [AV.cells] at hy; subst hy; exact .bool _
      | 3, _, hy => simp [AV.cells] at hy; subst hy; exact .bool _
      | 4, _, hy => simp [AV.cells] at hy; subst hy; exact g2
      | 5, _, hy => simp [AV.cells] at hy; subst hy; exact g3
theorem diffP68 (a b : List Oyez.Rec) (ha : Few a) (hb : Few b) (hl : a.length ≤ 2 ^ 38 ∧ b.length ≤ 2 ^ 38) : APure Tryz.prog 26 [fileAV a, fileAV b] (.tup [chgsAV (diffR a b).1, .int .i64 (diffR a b).2]) := by
  refine APure.of fun σ => ?_
  refine (diff68_calls a b ha hb hl σ).mono ?_
  rintro v s ⟨v1, rfl, ⟨g, rfl⟩, ho⟩
  exact ⟨g, rfl, Fz.tup2 (ho.fzN (Nat.le_refl _)) (.int _ _)⟩
theorem afterP41 (x y : List Oyez.Chg) (hx : FewC x) (hy : FewC y) (lx : x.length ≤ 2 ^ 38) (ly : y.length ≤ 2 ^ 38) : APure Tryz.prog 27 [chgsAV x, chgsAV y] (.tup [chgsAV (Oyez.afterR x y).1, .int .i64 (Oyez.afterR x y).2]) := by
  refine APure.of fun σ => ?_
  refine (after41_calls x y hx hy lx ly σ).mono ?_
  rintro v s ⟨v1, rfl, ⟨g, rfl⟩, ho⟩
  exact ⟨g, rfl, Fz.tup2 (ho.fzN (Nat.le_refl _)) (.int _ _)⟩
/-- one element more, from a slice literal -/
theorem Acc.push1 {σ g : Heap} {k : Nat} {v : AV} {l : List AV} {o : Option Nat} (h : Acc σ g k v l o) {P : Program} {t e : TypeId} {ag : Bool} {x : AV} (he : telem P t = some e) (hs : tsa P e = some (k, ag)) (hz : tzk P e k = true) (hk : 0 < k)
    (hx : x.cells.length = k ∧ ∀ y ∈ x.cells, y.one = true) (hb : (l.length + 1) * tby P e ≤ 140737488355328) :
    ∃ v' g' o', aappend P #[t, t] v (.arr k (σ.length + g.length) 0 1) (σ ++ (g ++ [.cells x.cells])) = some (v', σ ++ g') ∧ Acc σ g' k v' (l ++ [x]) o' ∧ g.length ≤ g'.length ∧ (∀ j, some j ≠ o → j < g.length → g'[j]? = g[j]?) ∧ (o' = o ∨ ∃ m, g.length + 1 ≤ m ∧ o' = some m) := by
  have h2 : Acc σ (g ++ [.cells x.cells]) k v l o := ⟨h.len, by
    have := h.val
    cases o with
    | none => exact this
    | some j => exact ⟨this.1, by rw [List.getElem?_append_left (List.getElem?_eq_some_iff.1 this.2).1]; exact this.2⟩⟩
  obtain ⟨v', g', o', h3, h4, h5, h6, h7⟩ := h2.app (P := P) (ys := [x]) (y := .arr k (σ.length + g.length) 0 1) he hs hz hk (by simpa using hx) (by
    have hl : x.cells.length = k := hx.1
    have ha : x.cells.all AV.one = true := by simpa using hx.2
    have ht : x.cells.take k = x.cells := by rw [← hl]; exact List.take_length
    simp only [acells, hget_add]
    simp [-AV.one, -AV.cells, sub, hl, ht]
    exact hx.2) (by simpa using hb)
  refine ⟨v', g', o', h3, h4, by simp at h5; omega, fun j hj hlt => ?_, ?_⟩
  · rw [h6 j hj (by simp; omega), List.getElem?_append_left hlt]
  · rcases h7 with h7 | h7
    · exact .inl h7
    · exact .inr ⟨_, by simp, h7⟩
theorem MC.put1 {σ g : Heap} {L : List Oyez.Chg} {v : AV} (h : MC σ g L v) (hl : L.length ≤ 2 ^ 40) (hg2 : 1 ≤ g.length) (c : Oyez.Chg) :
    ∃ v' g', aappend Tryz.prog #[60, 60] v (.arr 6 (σ.length + (g ++ (cloneG c.old ++ cloneG c.new)).length) 0 1)
      (σ ++ ((g ++ (cloneG c.old ++ cloneG c.new)) ++ [.cells [.int .i64 c.kind, .int .i64 c.number, .bool c.had, .bool c.has, cloneV (σ.length + g.length) c.old, cloneV (σ.length + (g.length + (cloneG c.old).length)) c.new]])) = some (v', σ ++ g') ∧ MC σ g' (L ++ [c]) v' := by
  obtain ⟨o, vals, h1, h0, hlo, h2, h3⟩ := h.ex
  have hlt : ∀ j, o = some j → j < g.length := fun j e => by subst e; exact h1.lt
  have n1 : RW σ.length (g ++ (cloneG c.old ++ cloneG c.new)) o (cloneV (σ.length + g.length) c.old) c.old := RW.clone _ hlt
  have n2 : RW σ.length (g ++ (cloneG c.old ++ cloneG c.new)) o (cloneV (σ.length + (g.length + (cloneG c.old).length)) c.new) c.new := by
    have := RW.clone (n := σ.length) (g := g ++ cloneG c.old) (Y := []) (o := o) c.new fun j e => by have := hlt j e; rw [List.length_append]; omega
    rwa [List.append_nil, List.append_assoc, List.length_append] at this
  obtain ⟨v', g', o', he, hA', hgl, hkeep, ho⟩ := (h1.more (cloneG c.old ++ cloneG c.new)).push1 (P := Tryz.prog) (t := 60) (e := 75) (ag := true) (x := .agg [.int .i64 c.kind, .int .i64 c.number, .bool c.had, .bool c.has, cloneV (σ.length + g.length) c.old, cloneV (σ.length + (g.length + (cloneG c.old).length)) c.new])
    (by simp) (by simp) (by simp) (by omega) ⟨rfl, fun y hy => by
      simp only [AV.cells, List.mem_cons, List.not_mem_nil, or_false] at hy
      rcases hy with rfl | rfl | rfl | rfl | rfl | rfl
      · rfl
      · rfl
      · rfl
      · rfl
      · exact n1.one
      · exact n2.one⟩ (by simp; omega)
  have hlo' : ∀ j, o' = some j → 2 ≤ j := by
    intro j e
    rcases ho with e2 | ⟨m, hm, e2⟩
    · exact hlo j (e2 ▸ e)
    · rw [e] at e2
      have := Option.some.inj e2
      rw [List.length_append] at hm
      omega
  refine ⟨v', g', he, ⟨o', vals ++ [_], hA', .inr (by simp), hlo', by simp [h2], fun i d hd => ?_⟩⟩
  have turn : ∀ {w : AV} {ws : List (List UInt8)}, RW σ.length (g ++ (cloneG c.old ++ cloneG c.new)) o w ws → RW σ.length g' o' w ws := by
    intro w ws hw
    rcases hw with hw | ⟨j, a1, a2, a3⟩
    · exact .inl hw
    · have hj := (List.getElem?_eq_some_iff.1 a2).1
      refine .inr ⟨j, a1, by rw [hkeep j (fun e => a3 e.symm) hj]; exact a2, fun e => ?_⟩
      rcases ho with e2 | ⟨m, hm, e2⟩
      · exact a3 (e2 ▸ e)
      · rw [e] at e2
        have := Option.some.inj e2
        omega
  rcases Nat.lt_or_ge i L.length with hi | hi
  · rw [List.getElem?_append_left hi] at hd
    obtain ⟨w1, w2, a, b, e⟩ := h3 i d hd
    exact ⟨w1, w2, by rw [List.getElem?_append_left (by omega)]; exact a, turn (b.more _), turn (e.more _)⟩
  · rw [List.getElem?_append_right hi] at hd
    have hi0 : i - L.length = 0 := by
      have := (List.getElem?_eq_some_iff.1 hd).1
      simp at this
      omega
    rw [hi0] at hd
    simp at hd
    subst hd
    exact ⟨_, _, by rw [List.getElem?_append_right (by omega), show i - vals.length = 0 by omega]; rfl, turn n1, turn n2⟩
/-- what Back gives -/
def backR (l : List Oyez.Chg) : List Oyez.Chg × Int := if Oyez.checkChg l ≠ 0 then ([], Oyez.checkChg l) else (Oyez.back l, 0)
theorem back_snoc (l : List Oyez.Chg) (c : Oyez.Chg) : Oyez.back (l ++ [c]) = Oyez.back l ++ [⟨c.kind, c.number, c.has, c.had, c.new, c.old⟩] := by simp [Oyez.back]
set_option maxHeartbeats 8000000 in
theorem back71_calls (l : List Oyez.Chg) (hf : FewC l) (hl : l.length ≤ 2 ^ 38) (σ : Heap) :
    ACalls Tryz.prog 28 [chgsAV l] σ fun v σ' => ∃ v1, v = .tup [v1, .int .i64 (backR l).2] ∧ (∃ g, σ' = σ ++ g) ∧ OwnC asIs σ.length σ' (backR l).1 v1 := by
  obtain ⟨R, hR⟩ : ∃ R, backR l = R := ⟨_, rfl⟩
  rw [hR]
  unfold backR at hR
  refine acalls_fn Tryz.func28 rfl (enters_fn Tryz.func28 (by decide) rfl) ?_
  simp [-aappend, Tryz.ntmps28]
  refine (checkC_calls l hf).use ?_
  by_cases he : Oyez.checkChg l = 0
  · rw [if_neg (by simp [he])] at hR
    have rl := Oyez.checkChg_zero he
    simp [-aappend, he]
    refine ACode_loopT (fun env σ' => ∃ (u : List AV) (i : Nat) (v : AV) (g : Heap), env = { t := u } ∧ u.length = 31 ∧ tg u 5 = v ∧ tg u 13 = chgsAV l ∧ tg u 14 = .int .i64 l.length ∧ tg u 15 = .int .i64 i ∧ σ' = σ ++ g ∧ i ≤ l.length ∧ MC σ g (Oyez.back (l.take i)) v)
      (fun env _ => match tg env.t 15 with | .int _ i => l.length - i.toNat | _ => 0) ⟨_, 0, .nils, [], rfl, by simp, by simp, by simp, by simp, by simp, by simp, by omega, by simpa [Oyez.back] using MC.nil _ _⟩ ?_
    rintro env _ ⟨u, i, v, g, rfl, hl2, g5, g13, g14, g15, rfl, hi, hM⟩
    rcases Nat.lt_or_ge i l.length with hlt | hge
    · have hlt' : (i : Int) < (l.length : Int) := by omega
      have hx := w64 (n := (i : Int) + 1) (by omega) (by omega)
      obtain ⟨c, hc⟩ : ∃ c, l[i] = c := ⟨_, rfl⟩
      have hcm : c ∈ l := hc ▸ List.getElem_mem hlt
      have gc := rl.each c hcm
      have bc := chgErr_good gc
      have wc := chgErr_words gc
      obtain ⟨a1, a2, a3, a4⟩ := was_of bc
      have htk : l.take (i + 1) = l.take i ++ [c] := by rw [List.take_succ_eq_append_getElem hlt, hc]
      have hbk := back_snoc (l.take i) c
      rw [← htk] at hbk
      have hsub : (Oyez.back (l.take i)).length ≤ 2 ^ 40 := by unfold Oyez.back; rw [List.length_map, List.length_take]; omega
      have hch := fun S => change_calls c.place c.now c.was (by rw [a3]; omega) (by rw [a1]; omega) S
      rw [a1, a2, a3, a4] at hch
      obtain ⟨v', g', he2, hM'⟩ := MC.put1 (hM.more [AObj.cells (chgCells c)]) hsub (by simp) ⟨c.kind, c.number, c.has, c.had, c.new, c.old⟩
      simp [-aappend, chgCells, Nat.add_assoc] at he2
      simp [-aappend, hl2, g5, g13, g14, g15, hlt', hlt, hc, Nat.add_assoc]
      refine ACode_drawV [7, 8, 9] [(0, 1), (0, 2)] mixed (by kernel_rfl) (by kernel_rfl) ?_
      simp [-aappend, hl2, g5, g13, g14, g15, hlt', hlt, hc, Nat.add_assoc]
      refine Ou_use0 (cplace_calls c) ?_
      try simp [-aappend, hl2, g5, g13, g14, g15, hlt', hlt, hc, Nat.add_assoc]
      refine Ou_use0 (now_calls bc) ?_
      try simp [-aappend, hl2, g5, g13, g14, g15, hlt', hlt, hc, Nat.add_assoc]
      refine Ou_use0 (was_calls bc) ?_
      try simp [-aappend, hl2, g5, g13, g14, g15, hlt', hlt, hc, Nat.add_assoc]
      refine OuH_of (hch _) ?_
      simp [-AV.one, one_int, one_bool, one_clone, -aappend, hl2, g5, g13, g14, g15, hlt', hlt, hc, hx, he2, Oyez.Chg.place, Nat.add_assoc]
      exact ⟨⟨i + 1, by simp, by omega, by rw [hbk]; exact hM'⟩, by omega⟩
    · have hge' : ¬ (i : Int) < (l.length : Int) := by omega
      rw [List.take_of_length_le hge] at hM
      subst hR
      simp [-aappend, hl2, g5, g13, g14, g15, hge']
      exact hM.own
  · rw [if_pos he] at hR
    subst hR
    simp [-aappend, he]
    exact OwnC.mk (.inl ⟨rfl, rfl⟩)
theorem backP71 (l : List Oyez.Chg) (hf : FewC l) (hl : l.length ≤ 2 ^ 38) : APure Tryz.prog 28 [chgsAV l] (.tup [chgsAV (backR l).1, .int .i64 (backR l).2]) := by
  refine APure.of fun σ => ?_
  refine (back71_calls l hf hl σ).mono ?_
  rintro v s ⟨v1, rfl, ⟨g, rfl⟩, ho⟩
  exact ⟨g, rfl, Fz.tup2 (ho.fzN (Nat.le_refl _)) (.int _ _)⟩
/-- right changes are small -/
theorem right_fewC {l : List Oyez.Chg} (h : Oyez.RightC l) : FewC l ∧ ∀ c ∈ l, c.old.length ≤ 2 ^ 40 ∧ c.new.length ≤ 2 ^ 40 := by
  have key : ∀ (k n : Int) (ws : List (List UInt8)), Oyez.wordsErr k n ws = 0 → tot1 ws ≤ 64 ∧ ws.length ≤ 6 := by
    intro k n ws h
    obtain ⟨h3, h4, h5⟩ := Oyez.wordsErr_zero h
    refine ⟨?_, h3⟩
    unfold Oyez.line at h5
    rw [List.length_append, flat_len32] at h5
    omega
  constructor
  · intro c hc
    obtain ⟨_, h1, h2, _⟩ := Oyez.chgErr_zero (h.each c hc)
    have k1 := key _ _ _ h1
    have k2 := key _ _ _ h2
    exact ⟨⟨by omega, by omega⟩, by omega, by omega⟩
  · intro c hc
    obtain ⟨_, h1, h2, _⟩ := Oyez.chgErr_zero (h.each c hc)
    have k1 := key _ _ _ h1
    have k2 := key _ _ _ h2
    exact ⟨by omega, by omega⟩
theorem diffR_right {a b : List Oyez.Rec} (ha : Oyez.Right a) (hb : Oyez.Right b) : diffR a b = (Oyez.diff a b, 0) := by
  unfold diffR chk2
  rw [Oyez.right_check ha, Oyez.right_check hb]
  simp
theorem afterR_diff {f g h : List Oyez.Rec} (hf : Oyez.Right f) (hg : Oyez.Right g) (hh : Oyez.Right h) : Oyez.afterR (Oyez.diff f g) (Oyez.diff g h) = (Oyez.diff f h, 0) := by
  unfold Oyez.afterR
  rw [Oyez.checkChg_of (Oyez.diff_right hf hg), Oyez.checkChg_of (Oyez.diff_right hg hh), if_neg (by simp), if_neg (by simp), Oyez.after_diff hf.range hg.range hh.range]
  simp only
  rw [if_neg (by have := (Oyez.diff_right hf hh).len; omega)]
theorem backR_diff {f g : List Oyez.Rec} (hf : Oyez.Right f) (hg : Oyez.Right g) : backR (Oyez.diff f g) = (Oyez.diff g f, 0) := by
  unfold backR
  rw [Oyez.checkChg_of (Oyez.diff_right hf hg), if_neg (by simp), Oyez.back_diff]
end Ab

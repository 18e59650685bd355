/-
  Put, Drop, Make.
  Get, Drop.
  FILES OF THE CALL's OWN whose words are cleared: what lies as it did.
-/
import Derived.Test.YtdifgaapdnbliaaGreatDoorP39
import Derived.Test.YtdifgaapdnbliaaGreatDoorP33
import Derived.Test.YtdifgaapdnbliaaGreatDoorP41
set_option linter.unusedSimpArgs false
set_option linter.unusedVariables false
set_option linter.unusedSectionVars false
namespace Oyez
theorem drop_drop (f : List Rec) (p : Place) : drop (drop f p) p = drop f p := by unfold drop; rw [List.filter_filter]; simp
theorem insertR_len (r : Rec) : ∀ l : List Rec, (insertR r l).length = l.length + 1
  | [] => rfl
  | q :: t => by
    unfold insertR
    split
    · rfl
    · rw [List.length_cons, insertR_len r t, List.length_cons]
theorem put_len (f : List Rec) (r : Rec) : (put f r).length ≤ f.length + 1 := by
  unfold put
  rw [insertR_len]
  have := List.length_filter_le (fun r' : Rec => !decide (r'.place = r.place)) f
  unfold drop
  omega
theorem drop_le (f : List Rec) (p : Place) : (drop f p).length ≤ f.length := List.length_filter_le _ _
/-- what Make's file keeps while it is being made -/
structure Mk (n : Nat) (f : List Rec) : Prop where
  sorted : RSorted f
  len : f.length ≤ n
  words : ∀ r ∈ f, r.words.length ≤ 6
theorem Mk.drop {n : Nat} {f : List Rec} (h : Mk n f) (p : Place) : Mk n (drop f p) := ⟨drop_sorted h.sorted p, Nat.le_trans (drop_le f p) h.len, fun r hr => h.words r (mem_drop.1 hr).1⟩
theorem Mk.put {n : Nat} {f : List Rec} (h : Mk n f) {r : Rec} (hr : r.words.length ≤ 6) : Mk (n + 1) (put f r) := ⟨put_sorted h.sorted r, Nat.le_trans (put_len f r) (Nat.succ_le_succ h.len), fun x hx => by
  rcases mem_put hx with rfl | hx
  · exact hr
  · exact h.words x hx⟩
theorem Mk.up {n m : Nat} {f : List Rec} (h : Mk n f) (hn : n ≤ m) : Mk m f := ⟨h.sorted, Nat.le_trans h.len hn, h.words⟩
theorem Right.mks {f : List Rec} (h : Right f) : Mk 40 f := ⟨h.sorted, h.len, fun r hr => ((recErr_iff r).1 (h.recs r hr)).2 |> fun k => (wordsErr_zero k).1⟩
end Oyez
namespace Ab
open Go Go.RowKit Go.Proofs
attribute [local irreducible] aws awp aw1 Og Om Oc Oa Ogd Ov Ot awd aw1d awh aw1h Ogh Ohd awl Ogl Ohl awv Ogv Ohv QThen QBlock QFn QFnM QRo QBe ACode AYield
def putR (f : List Oyez.Rec) (r : Oyez.Rec) : List Oyez.Rec × Int := if Oyez.check f ≠ 0 then ([], Oyez.check f) else if Oyez.recErr r ≠ 0 then ([], Oyez.recErr r) else if 40 < (Oyez.put f r).length then ([], 2) else (Oyez.put f r, 0)
def makeR (f : List Oyez.Rec) (l : List Oyez.Chg) : List Oyez.Rec × Int := if Oyez.check f ≠ 0 then ([], Oyez.check f) else if Oyez.checkChg l ≠ 0 then ([], Oyez.checkChg l) else if Oyez.fits f l = false then ([], 7) else if 40 < (Oyez.make f l).length then ([], 2) else (Oyez.make f l, 0)
theorem RA.down {lo lo' : Nat} {τ : Heap} {q : Nat} {Y : List (Oyez.Rec × AV)} (h : RA lo τ q Y) (hl : lo' ≤ lo) : RA lo' τ q Y := ⟨Nat.le_trans hl h.low, h.row, fun y hy => (h.wd y hy).mono hl fun j _ h2 o ho => ⟨ho, h2⟩⟩
set_option maxHeartbeats 4000000 in
theorem putO65 (f : List Oyez.Rec) (r : Oyez.Rec) (hf : Few f) (hw : tot1 r.words ≤ 2 ^ 38) (hwl : r.words.length ≤ 2 ^ 38) (σ : Heap) : ACalls Tryz.prog 65 [fileAV f, recAV r] σ fun v s => ∃ g w, s = σ ++ g ∧ v = .tup [w, .int .i64 (putR f r).2] ∧ FileO σ.length s w (putR f r).1 := by
  suffices hh : ∀ Post : AV → Heap → Prop, (∀ v g, (∃ w, v = .tup [w, .int .i64 (putR f r).2] ∧ FileO σ.length (σ ++ g) w (putR f r).1) → Post v (σ ++ g)) → ACalls Tryz.prog 65 [fileAV f, recAV r] σ Post from hh _ fun v g h => by
    obtain ⟨w, h1, h2⟩ := h
    exact ⟨g, w, rfl, h1, h2⟩
  intro Post hPost
  obtain ⟨R, hR⟩ : ∃ R, putR f r = R := ⟨_, rfl⟩
  rw [hR] at hPost
  unfold putR at hR
  have c127 := recError_calls r hw hwl
  refine acalls_fn Tryz.func65 rfl (enters_fn Tryz.func65 (by decide) rfl) ?_
  simp [Tryz.ntmps65, recAV]
  refine (check_calls f hf).use ?_
  by_cases h0 : Oyez.check f = 0
  · rw [if_neg (by simp [h0])] at hR
    have rf := Oyez.check_zero h0
    have hm := rf.mks
    simp [h0]
    refine (c127).use ?_
    by_cases h1 : Oyez.recErr r = 0
    · rw [if_neg (by simp [h1])] at hR
      have c134 := with_calls f r rf.sorted (by have := rf.len; omega) (fun x hx => by have := hm.words x hx; omega) (by omega)
      simp [h1]
      refine StA.of ((c134 _).mono ?_)
      rintro _ _ ⟨g, q, Y, rfl, rfl, hY, hRA⟩
      have hYl : (Y.length : Int) = ((Oyez.put f r).length : Int) := by rw [← hY]; simp
      by_cases h2 : 40 < (Oyez.put f r).length
      · rw [if_pos h2] at hR
        subst hR
        have h2' : (40 : Int) < ((Oyez.put f r).length : Int) := by omega
        simp [hYl, h2']
        exact hPost _ _ ⟨_, rfl, .inl ⟨rfl, rfl⟩⟩
      · rw [if_neg h2] at hR
        subst hR
        have h2' : ¬ (40 : Int) < ((Oyez.put f r).length : Int) := by omega
        simp [hYl, h2']
        exact hPost _ _ ⟨_, rfl, .inr ⟨q, Y, rfl, hY, by simpa using hRA.down (lo' := σ.length) (by simp)⟩⟩
    · rw [if_pos (by simp [h1])] at hR
      subst hR
      simp [h1]
      exact hPost _ _ ⟨_, rfl, .inl ⟨rfl, rfl⟩⟩
  · rw [if_pos (by simp [h0])] at hR
    subst hR
    simp [h0]
    exact hPost _ _ ⟨_, rfl, .inl ⟨rfl, rfl⟩⟩
end Ab
namespace Ab
open Go Go.RowKit Go.Proofs
attribute [local irreducible] aws awp aw1 Og Om Oc Oa Ogd Ov Ot awd aw1d awh aw1h Ogh Ohd awl Ogl Ohl awv Ogv Ohv QThen QBlock QFn QFnM QRo QBe ACode AYield
def getR (f : List Oyez.Rec) (p : Oyez.Place) : List (List UInt8) × Int := if Oyez.check f ≠ 0 then ([], Oyez.check f) else match Oyez.getIn f p with | none => ([], 1) | some ws => (ws, 0)
def dropR (f : List Oyez.Rec) (p : Oyez.Place) : List Oyez.Rec × Int := if (getR f p).2 ≠ 0 then ([], (getR f p).2) else (Oyez.drop f p, 0)
theorem gotD_calls {σ : Heap} {d : AV} {f : List Oyez.Rec} (hd : DeskAt σ d f) (p : Oyez.Place) : ACalls Tryz.prog 131 [d, placeAV p] σ (fun v σ' => v = .tup [wordsAV (getW (Oyez.getIn f p)), .bool (Oyez.getIn f p).isSome] ∧ σ' = σ) := by
  obtain ⟨r, m, rfl, h1, h2⟩ := hd.ex
  refine ACalls.forget ?_
  cases hg : Oyez.getIn f p with
  | none =>
    refine (got_calls σ r m (fileAV f) (ents f) h1 h2 p.kind p.number .nils false (by rw [deskAt_file, hg])).mono ?_
    rintro v σ' ⟨rfl, g, rfl⟩
    exact ⟨g, _, rfl, Fz.tup2 (.nils_pl 1) (.bool _), rfl, rfl⟩
  | some ws =>
    refine (got_calls σ r m (fileAV f) (ents f) h1 h2 p.kind p.number (wordsAV ws) true (by rw [deskAt_file, hg])).mono ?_
    rintro v σ' ⟨rfl, g, rfl⟩
    exact ⟨g, _, rfl, Fz.tup2 (fz_words _ _ _) (.bool _), rfl, rfl⟩
set_option maxHeartbeats 4000000 in
theorem getO63 (f : List Oyez.Rec) (p : Oyez.Place) (hf : Few f) (σ : Heap) : ACalls Tryz.prog 63 [fileAV f, placeAV p] σ fun v s => ∃ g v1, s = σ ++ g ∧ v = .tup [v1, .int .i64 (getR f p).2] ∧ WdO σ.length s v1 (getR f p).1 := by
  suffices hh : ∀ Post : AV → Heap → Prop, (∀ v s, (∃ g v1, s = σ ++ g ∧ v = .tup [v1, .int .i64 (getR f p).2] ∧ WdO σ.length s v1 (getR f p).1) → Post v s) → ACalls Tryz.prog 63 [fileAV f, placeAV p] σ Post from hh _ fun v s h => h
  intro Post hPost
  obtain ⟨R, hR⟩ : ∃ R, getR f p = R := ⟨_, rfl⟩
  rw [hR] at hPost
  unfold getR at hR
  refine acalls_fn Tryz.func63 rfl (enters_fn Tryz.func63 (by decide) rfl) ?_
  simp [Tryz.ntmps63]
  refine (check_calls f hf).use ?_
  by_cases h0 : Oyez.check f = 0
  · rw [if_neg (by simp [h0])] at hR
    have rf := Oyez.check_zero h0
    simp [h0]
    refine ACode_drawV [1] [(2, 0)] mixed (by kernel_rfl) (by kernel_rfl) ?_
    simp
    refine OuH_of (laid_calls f rf.sorted (by have := rf.len; omega) _) ?_
    have hD : ∀ S : Heap, DeskAt (S ++ deskG S.length f) (.ptr S.length 0) f := fun S => ⟨S.length, S.length + 1, rfl, by unfold deskG; simp, by unfold deskG; simp⟩
    simp
    have key : ∀ S : Heap, S = σ ++ [AObj.cells [AV.int .i64 p.kind, AV.int .i64 p.number]] → ACalls Tryz.prog 131 [.ptr (σ.length + 1) 0, placeAV p] (S ++ deskG S.length f) (fun v σ' => v = .tup [wordsAV (getW (Oyez.getIn f p)), .bool (Oyez.getIn f p).isSome] ∧ σ' = S ++ deskG S.length f) := by
      rintro S rfl
      have k := gotD_calls (hD (σ ++ [AObj.cells [AV.int .i64 p.kind, AV.int .i64 p.number]])) p
      simpa using k
    have key := key _ rfl
    obtain ⟨T, hT⟩ : ∃ T, deskG (σ.length + 1) f = T := ⟨_, rfl⟩
    simp [hT] at key
    rw [hT]
    refine Ou_of0 key ?_
    cases hg : Oyez.getIn f p with
    | none =>
      rw [hg] at hR
      subst hR
      simp [getW]
      exact hPost _ _ ⟨_, _, rfl, rfl, .inl ⟨rfl, .inl rfl⟩⟩
    | some ws =>
      rw [hg] at hR
      subst hR
      obtain ⟨r, hr, _, hrw⟩ := Oyez.getIn_mem hg
      have hwl := rf.mks.words r hr
      rw [hrw] at hwl
      simp [getW]
      refine StA.of ((clone_calls ws (by omega) _).mono ?_)
      rintro _ _ ⟨rfl, rfl⟩
      simp
      by_cases hw0 : ws = []
      · subst hw0
        exact hPost _ _ ⟨_, _, by simp [cloneG]; rfl, rfl, .inl ⟨rfl, .inr (by simp [cloneV])⟩⟩
      · refine hPost _ _ ⟨AObj.cells [AV.int .i64 p.kind, AV.int .i64 p.number] :: (T ++ cloneG ws), _, by simp [hT], rfl, ?_⟩
        refine .inr ⟨_, ?_, by simp [cloneV, hw0]; rfl, ?_⟩
        · simp
        · simp [cloneG, hw0]
  · rw [if_pos (by simp [h0])] at hR
    subst hR
    simp [h0]
    exact hPost _ _ ⟨_, _, rfl, rfl, .inl ⟨rfl, .inl rfl⟩⟩
theorem getP63 (f : List Oyez.Rec) (p : Oyez.Place) (hf : Few f) : APure Tryz.prog 63 [fileAV f, placeAV p] (.tup [wordsAV (getR f p).1, .int .i64 (getR f p).2]) := by
  refine APure.of fun σ => (getO63 f p hf σ).mono ?_
  rintro _ _ ⟨g, w, rfl, rfl, h⟩
  exact ⟨g, rfl, Fz.tup2 (h.fz (Nat.le_refl _)) (.int _ _)⟩
theorem getR_two {f : List Oyez.Rec} {p : Oyez.Place} (h : (getR f p).2 = 0) : Oyez.check f = 0 ∧ (Oyez.getIn f p).isSome = true := by
  unfold getR at h
  by_cases h0 : Oyez.check f = 0
  · rw [if_neg (by simp [h0])] at h
    refine ⟨h0, ?_⟩
    cases hg : Oyez.getIn f p with
    | none => rw [hg] at h; simp at h
    | some ws => rfl
  · rw [if_pos h0] at h
    exact absurd h h0
set_option maxHeartbeats 4000000 in
theorem dropO64 (f : List Oyez.Rec) (p : Oyez.Place) (hf : Few f) (σ : Heap) : ACalls Tryz.prog 64 [fileAV f, placeAV p] σ fun v s => ∃ g w, s = σ ++ g ∧ v = .tup [w, .int .i64 (dropR f p).2] ∧ FileO σ.length s w (dropR f p).1 := by
  suffices hh : ∀ Post : AV → Heap → Prop, (∀ v s, (∃ g w, s = σ ++ g ∧ v = .tup [w, .int .i64 (dropR f p).2] ∧ FileO σ.length s w (dropR f p).1) → Post v s) → ACalls Tryz.prog 64 [fileAV f, placeAV p] σ Post from hh _ fun v s h => h
  intro Post hPost
  obtain ⟨R, hR⟩ : ∃ R, dropR f p = R := ⟨_, rfl⟩
  rw [hR] at hPost
  unfold dropR at hR
  have c63 := getP63 f p hf
  have two := getR_two (f := f) (p := p)
  obtain ⟨G, hG⟩ : ∃ G, getR f p = G := ⟨_, rfl⟩
  rw [hG] at hR c63 two
  refine acalls_fn Tryz.func64 rfl (enters_fn Tryz.func64 (by decide) rfl) ?_
  simp [Tryz.ntmps64]
  refine c63.use ?_
  by_cases h1 : G.2 = 0
  · rw [if_neg (by simp [h1])] at hR
    subst hR
    have rf := Oyez.check_zero (two h1).1
    have hm := rf.mks
    have c133 := without_calls f p (by have := rf.len; omega) (fun x hx => by have := hm.words x hx; omega)
    simp [h1]
    refine StA.of ((c133 _).mono ?_)
    rintro _ _ ⟨g, q, Y, rfl, rfl, hY, hRA⟩
    simp
    exact hPost _ _ ⟨_, _, rfl, rfl, .inr ⟨q, Y, rfl, hY, by simpa using hRA.down (lo' := σ.length) (by simp)⟩⟩
  · rw [if_pos (by simp [h1])] at hR
    subst hR
    simp [h1]
    exact hPost _ _ ⟨_, _, rfl, rfl, .inl ⟨rfl, rfl⟩⟩
end Ab
namespace Ab
open Go Go.RowKit Go.Proofs
attribute [local irreducible] aws awp aw1 Og Om Oc Oa Ogd Ov Ot awd aw1d awh aw1h Ogh Ohd awl Ogl Ohl awv Ogv Ohv QThen QBlock QFn QFnM QRo QBe ACode AYield
/-- a file in row q, its words in rows from lo to hi, as many as they were -/
structure Cl (lo hi q : Nat) (F : List Oyez.Rec) (τ : Heap) : Prop where
  low : lo ≤ q ∧ q < hi
  row : ∃ cs, τ[q]? = some (.cells cs) ∧ cs.length = F.length * 3 ∧ ∀ (i : Nat) (r : Oyez.Rec), F[i]? = some r → ∃ w, List.take 3 (List.drop (i * 3) cs) = [.int .i64 r.kind, .int .i64 r.number, w] ∧
    ((r.words = [] ∧ w = .pl 1 []) ∨ ∃ (j : Nat) (xs : List AV), lo ≤ j ∧ j < hi ∧ j ≠ q ∧ w = .arr 1 j 0 r.words.length ∧ τ[j]? = some (.cells xs) ∧ xs.length = r.words.length)
/-- rows from lo to hi other than q may have other values in as many cells -/
structure Sm (lo hi q : Nat) (τ τ' : Heap) : Prop where
  out : ∀ r, r < τ.length → ¬ (lo ≤ r ∧ r < hi ∧ r ≠ q) → τ'[r]? = τ[r]?
  cells : ∀ (r : Nat) (cs : List AV), τ[r]? = some (.cells cs) → ∃ cs', τ'[r]? = some (.cells cs') ∧ cs'.length = cs.length
  len : τ.length ≤ τ'.length
theorem Sm.refl (lo hi q : Nat) (τ : Heap) : Sm lo hi q τ τ := ⟨fun _ _ _ => rfl, fun r cs h => ⟨cs, h, rfl⟩, Nat.le_refl _⟩
theorem Sm.app {lo hi q : Nat} {τ τ' : Heap} (h : Sm lo hi q τ τ') (g : Heap) : Sm lo hi q τ (τ' ++ g) := by
  have hl := h.len
  refine ⟨fun r h1 h2 => ?_, fun r cs h1 => ?_, by rw [List.length_append]; omega⟩
  · rw [List.getElem?_append_left (by omega)]; exact h.out r h1 h2
  · obtain ⟨cs', h2, h3⟩ := h.cells r cs h1
    exact ⟨cs', get_app h2, h3⟩
theorem Sm.set {lo hi q : Nat} {τ τ' : Heap} (h : Sm lo hi q τ τ') {p : Nat} {cs cs' : List AV} (h1 : lo ≤ p) (h2 : p < hi) (h3 : p ≠ q) (hp : τ'[p]? = some (.cells cs)) (hl : cs'.length = cs.length) : Sm lo hi q τ (τ'.set p (.cells cs')) := by
  refine ⟨fun r g1 g2 => ?_, fun r ds g1 => ?_, by rw [List.length_set]; exact h.len⟩
  · rw [List.getElem?_set_ne (fun e => g2 (by subst e; exact ⟨h1, h2, h3⟩))]; exact h.out r g1 g2
  · obtain ⟨ds', g2, g3⟩ := h.cells r ds g1
    by_cases e : p = r
    · subst e
      rw [hp] at g2
      obtain rfl : cs = ds' := by simpa using g2
      exact ⟨cs', List.getElem?_set_self (List.getElem?_eq_some_iff.1 hp).1, by omega⟩
    · exact ⟨ds', by rw [List.getElem?_set_ne e]; exact g2, g3⟩
/-- the file whose words are cleared, and one whose words are elsewhere -/
theorem Sm.keep {lo hi q : Nat} {τ τ' : Heap} (h : Sm lo hi q τ τ') {lo2 hi2 q2 : Nat} {F : List Oyez.Rec} (hc : Cl lo2 hi2 q2 F τ) (hq : ¬ (lo ≤ q2 ∧ q2 < hi ∧ q2 ≠ q)) : Cl lo2 hi2 q2 F τ' := by
  obtain ⟨cs, h1, h2, h3⟩ := hc.row
  refine ⟨hc.low, cs, by rw [h.out q2 (List.getElem?_eq_some_iff.1 h1).1 hq]; exact h1, h2, fun i r hr => ?_⟩
  obtain ⟨w, g1, g2⟩ := h3 i r hr
  refine ⟨w, g1, ?_⟩
  rcases g2 with g2 | ⟨j, xs, a1, a2, a3, a4, a5, a6⟩
  · exact .inl g2
  · obtain ⟨xs', b1, b2⟩ := h.cells j xs a5
    exact .inr ⟨j, xs', a1, a2, a3, a4, b1, b2.trans a6⟩
theorem Sm.own {lo hi q : Nat} {τ τ' : Heap} (h : Sm lo hi q τ τ') {F : List Oyez.Rec} (hc : Cl lo hi q F τ) : Cl lo hi q F τ' := h.keep hc (by omega)
theorem RA.cl {lo : Nat} {τ : Heap} {q : Nat} {Y : List (Oyez.Rec × AV)} (h : RA lo τ q Y) : Cl lo τ.length q (Y.map Prod.fst) τ := by
  refine ⟨⟨h.low, (List.getElem?_eq_some_iff.1 h.row).1⟩, _, h.row, by rw [cellsV_len]; simp, fun i r hr => ?_⟩
  rw [List.getElem?_map, Option.map_eq_some_iff] at hr
  obtain ⟨y, hy, rfl⟩ := hr
  obtain ⟨hi, hyi⟩ := List.getElem?_eq_some_iff.1 hy
  have hs := cellsV_sub (Y.map pvY) (i := i) (by simpa using hi)
  rw [List.getElem_map, hyi] at hs
  refine ⟨y.2, hs, ?_⟩
  rcases h.wd y (List.mem_of_getElem? hy) with h1 | ⟨j, h1, h2, h3, h4⟩
  · exact .inl h1
  · exact .inr ⟨j, strs y.1.words, h1, (List.getElem?_eq_some_iff.1 h4).1, h2, h3, h4, by simp [strs]⟩
theorem Cl.more {lo hi q : Nat} {F : List Oyez.Rec} {τ : Heap} (h : Cl lo hi q F τ) (g : Heap) : Cl lo hi q F (τ ++ g) := ((Sm.refl lo hi q τ).app g).own h
/-- a file of the call's own, or none -/
def FileC (lo hi : Nat) (τ : Heap) (v : AV) (F : List Oyez.Rec) : Prop := (F = [] ∧ v = .nils) ∨ ∃ q, v = .arr 3 q 0 F.length ∧ Cl lo hi q F τ
theorem FileO.cl {lo : Nat} {τ : Heap} {v : AV} {F : List Oyez.Rec} (h : FileO lo τ v F) : FileC lo τ.length τ v F := by
  rcases h with h | ⟨q, Y, rfl, rfl, h⟩
  · exact .inl h
  · exact .inr ⟨q, by simp, h.cl⟩
theorem FileC.more {lo hi : Nat} {F : List Oyez.Rec} {v : AV} {τ : Heap} (h : FileC lo hi τ v F) (g : Heap) : FileC lo hi (τ ++ g) v F := by
  rcases h with h | ⟨q, h1, h2⟩
  · exact .inl h
  · exact .inr ⟨q, h1, h2.more g⟩
theorem FileC.one {lo hi : Nat} {F : List Oyez.Rec} {v : AV} {τ : Heap} (h : FileC lo hi τ v F) : v.one = true ∧ v.cells = [v] ∧ ∀ S, alen Tryz.prog 23 v S = some (.int .i64 F.length) := by
  rcases h with ⟨rfl, rfl⟩ | ⟨q, rfl, _⟩
  · exact ⟨rfl, rfl, fun S => by simp⟩
  · exact ⟨rfl, rfl, fun S => by simp⟩
/-- a word row is written -/
theorem FileC.set {lo hi : Nat} {F : List Oyez.Rec} {v : AV} {τ : Heap} (h : FileC lo hi τ v F) {p : Nat} {o : AObj} (hp : p < lo) : FileC lo hi (τ.set p o) v F := by
  rcases h with h | ⟨q, h1, h2⟩
  · exact .inl h
  · obtain ⟨cs, k1, k2, k3⟩ := h2.row
    have hq := h2.low
    refine .inr ⟨q, h1, hq, cs, by rw [List.getElem?_set_ne (by omega)]; exact k1, k2, fun i r hr => ?_⟩
    obtain ⟨w, g1, g2⟩ := k3 i r hr
    refine ⟨w, g1, ?_⟩
    rcases g2 with g2 | ⟨j, xs, a1, a2, a3, a4, a5, a6⟩
    · exact .inl g2
    · exact .inr ⟨j, xs, a1, a2, a3, a4, by rw [List.getElem?_set_ne (by omega)]; exact a5, a6⟩
/-- what is lent is the file -/
theorem same19_own {S : Heap} {lo : Nat} {f : List Oyez.Rec} {v : AV} (h : FileO lo S v f) (hf : f.length ≤ 2 ^ 40) (hw : ∀ r ∈ f, r.words.length ≤ 2 ^ 40) : ACalls Tryz.prog 19 [v, fileAV f] S fun v s => v = .bool true ∧ s = S := by
  have k := same_calls f f hf hw
  simp only [decide_true] at k
  refine APure.lend k rfl (fun i x y hx hy => ?_) (fun C C' c hv => ?_)
  · match i, hx, hy with
    | 0, hx, hy => simp only [List.getElem?_cons_zero, Option.some.injEq] at hx hy; subst hx; subst hy; exact h.fz (Nat.zero_le _)
    | 1, hx, hy => simp only [List.getElem?_cons_zero, List.getElem?_cons_succ, Option.some.injEq] at hx hy; subst hx; subst hy; exact fz_file _ _ _
    | i + 2, hx, _ => simp at hx
  · cases hv; exact .bool _
end Ab

/-
  ROWS OF RECORDS WHOSE WORDS ARE ANY VALUES: slices.IndexFunc, slices.DeleteFunc and slices.BinarySearchFunc by their places.
  slices.DeleteFunc and slices.BinarySearchFunc over own rows of records, by their places.
-/
import Derived.Test.YtdifgaapdnbliaaGreatDoorR18
import Derived.Test.YtdifgaapdnbliaaGreatDoorR23
import Derived.Test.YtdifgaapdnbliaaGreatDoorR29
set_option linter.unusedSimpArgs false
set_option linter.unusedVariables false
set_option linter.unusedSectionVars false
namespace Ab
open Go Go.RowKit Go.Proofs
section
variable [Mode]
/-- a result told with less: its room is not told, nor the cells behind the ones that count -/
theorem ACalls.fit {P : Program} {f : FuncId} {args : List AV} {σ : Heap} {R : AV → Heap → Prop}
    (h : ACalls P f args σ fun v σ' => ∃ (v' : AV) (r : Nat) (cs tl : List AV), (v = v' ∨ ∃ k2 r2 o2 l2 c2, v = .arc k2 r2 o2 l2 c2 ∧ v' = .arr k2 r2 o2 l2) ∧ σ'[r]? = some (.cells (cs ++ tl)) ∧ R v' (σ'.set r (.cells cs))) : ACalls P f args σ R := by
  have fin : ∀ {C' : Ctx} {v : AV} {d : Value} {σ' : Heap}, Inv C' σ' → VR C' v d → (∃ (v' : AV) (r : Nat) (cs tl : List AV), (v = v' ∨ ∃ k2 r2 o2 l2 c2, v = .arc k2 r2 o2 l2 c2 ∧ v' = .arr k2 r2 o2 l2) ∧ σ'[r]? = some (.cells (cs ++ tl)) ∧ R v' (σ'.set r (.cells cs))) →
      ∃ (v' : AV) (σ2 : Heap), Inv C' σ2 ∧ VR C' v' d ∧ R v' σ2 := by
    rintro C' v d σ' hI' hv' ⟨v', r, ds, tl, hvv, hr', hR⟩
    have hb : ∃ b, C'.blk[r]? = some b := by
      have := (List.getElem?_eq_some_iff.1 hr').1
      have hl := hI'.len
      exact ⟨_, List.getElem?_eq_getElem (by omega)⟩
    obtain ⟨b, hb⟩ := hb
    refine ⟨v', _, hI'.retell hb hr' rfl fun c hc' hrel => ?_, ?_, hR⟩
    · obtain ⟨carr, e, lo, hi, rfl, h1, h2, h3⟩ := hrel.cells_inv
      refine .cells ds carr e lo hi (by rw [List.length_append] at h1; omega) h2 fun i x d hx hd => h3 i x d ?_ hd
      rw [List.getElem?_append_left (List.getElem?_eq_some_iff.1 hx).1]
      exact hx
    · rcases hvv with rfl | ⟨k2, r2, o2, l2, c2, rfl, rfl⟩
      · exact hv'
      · obtain ⟨b2, e2, n2, q1, q2, q3, q4, rfl⟩ := hv'.arc_inv
        exact .arr k2 r2 o2 l2 b2 c2 e2 n2 q1 q2 q3 q4
  rcases h with h | h
  · refine .inl ⟨h.1, fun C cargs hI hv => (h.2 C cargs hI hv).mono ?_⟩
    rintro en w' ⟨d, C', av, σ', rfl, rfl, hE, hI', hv', hR⟩
    obtain ⟨v', σ2, a1, a2, a3⟩ := fin hI' hv' hR
    exact ⟨d, C', v', σ2, rfl, rfl, hE, a1, a2, a3⟩
  · refine .inr fun C cargs hI hv => ?_
    obtain ⟨d, C', av, σ', hrun, hE, hI', hv', hR⟩ := h C cargs hI hv
    obtain ⟨v', σ2, a1, a2, a3⟩ := fin hI' hv' hR
    exact ⟨d, C', v', σ2, hrun, hE, a1, a2, a3⟩
/-- A ROW'S ROOM, within a piece of code. -/
theorem ACode_room {P : Program} {rd : Option Nat} {c : Code} {Q : Exit → Env → Heap → Prop} {t : List AV} {m : List Nat} {σ : Heap} {q k r len : Nat} {cs : List AV} (ht : tg t q = .arr k r 0 len) (hq : q < t.length) (hr : σ[r]? = some (.cells cs)) (hcl : cs.length = len * k)
    (h : ∀ cap, len ≤ cap → ACode P rd c Q { t := ts t q (.arc k r 0 len cap), m := m } (σ.set r (.cells (cs ++ List.replicate ((cap - len) * k) .any)))) : ACode P rd c Q { t := t, m := m } σ := by
  intro C a ro hI he hro
  have hta : t[q]? = some (.arr k r 0 len) := by
    rw [List.getElem?_eq_getElem hq]
    have : tg t q = t[q] := by unfold tg; rw [List.getD_eq_getElem?_getD, List.getElem?_eq_getElem hq]; rfl
    rw [← this, ht]
  have hlen : t.length = _ := he.t.len
  have hca : a.tmps.toList[q]? = some (a.tmps.toList[q]'(by omega)) := List.getElem?_eq_getElem (by omega)
  have hx := he.t.at_ q _ _ hta hca
  obtain ⟨b, cap, e, n, hb, hcap, hsh, hbd, hce⟩ := hx.arr_inv
  obtain ⟨hnp, carr, e', lo, hi, hc, hsz, hfr, hrel⟩ := hI.cells hb hr
  have hn : carr.size = n := by
    simp [World.shape?, hc] at hsh
    exact hsh.2
  have hI2 : Inv C (σ.set r (.cells (cs ++ List.replicate ((cap - len) * k) .any))) := hI.retell hb hr rfl fun c hc' _ => by
    rw [hc] at hc'
    obtain rfl := Option.some.inj hc'
    refine .cells _ carr e' lo hi ?_ hfr fun i x d hx hd => ?_
    · rw [List.length_append, List.length_replicate, hcl, hn, ← Nat.add_mul, show len + (cap - len) = 0 + cap by omega]
      exact hbd.1
    · rcases Nat.lt_or_ge i cs.length with h1 | h1
      · rw [List.getElem?_append_left h1] at hx
        exact hrel i x d hx hd
      · rw [List.getElem?_append_right h1] at hx
        have := List.mem_of_getElem? hx
        rw [List.mem_replicate] at this
        rw [this.2]
        exact .any d
  have hv2 : VR C (.arc k r 0 len cap) a.tmps.toList[q] := by rw [hce]; exact .arc k r 0 len b cap e n hb hcap hsh hbd
  refine h cap hcap C a ro hI2 ⟨⟨?_, fun i x d hx hd => ?_⟩, he.m, he.mark⟩ hro
  · show (ts t q _).length = _
    rw [ts_length]; exact hlen
  · show VR C x d
    have hx' : (t.set q (.arc k r 0 len cap))[i]? = some x := hx
    by_cases hiq : q = i
    · subst hiq
      rw [List.getElem?_set_self hq] at hx'
      obtain rfl := Option.some.inj hx'
      rw [hca] at hd
      obtain rfl := Option.some.inj hd
      exact hv2
    · rw [List.getElem?_set_ne hiq] at hx'
      exact he.t.at_ i x d hx' hd
theorem acalls_cutC {P : Program} {f : FuncId} {fn : Func} {c : Code} {args : List AV} {σ : Heap} {R : AV → Heap → Prop} (n : Nat) (I : Env → Heap → Prop) (hf : P.funcs[f]? = some fn) (hb : fn.body = some c) (hen : Enters P f)
    (h1 : awp P none (cutC n c).1 (QThen I (QFn P fn R)) { t := te args fn.ntmps } σ) (h2 : ∀ (env : Env) (σ : Heap), I env σ → ACode P none (cutC n c).2 (QFn P fn R) env σ) : ACalls P f args σ R := by
  refine acalls_of hf hb hen ?_
  have key : ∀ (n : Nat) (c : Code) (Q : Exit → Env → Heap → Prop) (env : Env) (σ : Heap), (∀ (env : Env) (σ : Heap), I env σ → ACode P none (cutC n c).2 Q env σ) → awp P none (cutC n c).1 (QThen I Q) env σ → ACode P none c Q env σ := by
    intro n
    induction n with
    | zero =>
      intro c Q env σ h2 h1
      rw [awp_cut0] at h1
      have := h2 _ _ h1
      have e : (cutC 0 c).2 = c := by cases c <;> rfl
      rwa [e] at this
    | succ n ih =>
      intro c Q env σ h2 h1
      have skip : (cutC (n + 1) c) = (.skip, c) → ACode P none c Q env σ := by
        intro e
        rw [e] at h1 h2
        exact h2 _ _ h1
      cases c with
      | seq a b =>
        refine ACode_seq ((awp_sound _ (awp_cut1 ▸ h1)).mono fun e env s hq => ?_)
        cases e with
        | normal => exact ih b Q env s (fun env σ h => h2 env σ h) hq
        | _ => exact hq
      | _ => exact skip rfl
  exact key n c _ _ _ h2 h1
end
attribute [local irreducible] aws awp aw1 Og Om Oc Oa Ogd Ov Ot awd aw1d awh aw1h Ogh Ohd awl Ogl Ohl awv Ogv Ohv QThen QBlock QFn QFnM QRo QBe ACode AYield
/-- a record's cells: its place, and its words as any value -/
abbrev PV := Oyez.Place × AV
def pvC (x : PV) : List AV := [.int .i64 x.1.kind, .int .i64 x.1.number, x.2]
def cellsV (l : List PV) : List AV := l.flatMap pvC
theorem cellsV_len (l : List PV) : (cellsV l).length = l.length * 3 := by
  unfold cellsV
  induction l with
  | nil => rfl
  | cons p t ih => rw [List.flatMap_cons, List.length_append, ih]; simp [pvC]; omega
theorem cellsV_append (l m : List PV) : cellsV (l ++ m) = cellsV l ++ cellsV m := by unfold cellsV; rw [List.flatMap_append]
theorem cellsV_take (l : List PV) (i : Nat) (h : i ≤ l.length) : (cellsV l).take (i * 3) = cellsV (l.take i) ∧ (cellsV l).drop (i * 3) = cellsV (l.drop i) := by
  have e : cellsV l = cellsV (l.take i) ++ cellsV (l.drop i) := by rw [← cellsV_append, List.take_append_drop]
  have h1 : (cellsV (l.take i)).length = i * 3 := by rw [cellsV_len, List.length_take]; omega
  rw [e, ← h1]
  exact ⟨List.take_left, List.drop_left⟩
theorem cellsV_sub (l : List PV) {i : Nat} (h : i < l.length) : List.take 3 (List.drop (i * 3) (cellsV l)) = [.int .i64 l[i].1.kind, .int .i64 l[i].1.number, l[i].2] := by
  rw [(cellsV_take l i (by omega)).2, List.drop_eq_getElem_cons h]
  rfl
theorem cellsV_set (l : List PV) (i : Nat) (x : PV) (h : i < l.length) : List.take (i * 3) (cellsV l) ++ (AV.int .i64 x.1.kind :: AV.int .i64 x.1.number :: x.2 :: List.drop (i * 3 + 3) (cellsV l)) = cellsV (l.set i x) := by
  have e : i * 3 + 3 = (i + 1) * 3 := by omega
  rw [e, (cellsV_take l i (by omega)).1, (cellsV_take l (i + 1) (by omega)).2, List.set_eq_take_append_cons_drop, if_pos h, cellsV_append]
  rfl
theorem cellsV_one {l : List PV} (h : ∀ x ∈ l, x.2.one = true) : ∀ y ∈ cellsV l, AV.one y = true := by
  intro y hy
  unfold cellsV at hy
  obtain ⟨x, hx, hy⟩ := List.mem_flatMap.1 hy
  simp [pvC] at hy
  rcases hy with rfl | rfl | rfl
  · rfl
  · rfl
  · exact h x hx
theorem pv_int (k : IntKind) (n : Int) : (AV.int k n).one = true := rfl
theorem place83_any (p : Oyez.Place) (w : AV) (hw : w.one = true) : APure Tryz.prog 83 [.agg [.int .i64 p.kind, .int .i64 p.number, w]] (placeAV p) := by
  refine APure.of fun σ => ?_
  refine acalls_fn Tryz.func83 rfl (enters_fn Tryz.func83 (by decide) rfl) ?_
  simp [-AV.one, Tryz.ntmps83, pv_int, hw]
theorem cmp181_calls (p q : Oyez.Place) (w : AV) (hw : w.one = true) : APure Tryz.prog 181 [.agg [.int .i64 p.kind, .int .i64 p.number, w], placeAV q] (.int .i64 (cmpP p q)) := by
  refine APure.of fun σ => ?_
  refine acalls_fn Tryz.func181 rfl (enters_fn Tryz.func181 (by decide) rfl) ?_
  simp [-AV.one, Tryz.ntmps181, pv_int, hw]
  refine ACode_draw0 mixed (by kernel_rfl) ?_
  simp [-AV.one, pv_int, hw]
  refine Ou_use0 (place83_any p w hw) ?_
  try simp [-AV.one, pv_int, hw]
  refine Ou_use0 (compare_calls p q) ?_
  simp
theorem aeqs_pl (p q : Oyez.Place) : aeqs [1, 1] [.int .i64 p.kind, .int .i64 p.number] [.int .i64 q.kind, .int .i64 q.number] = some (decide (p = q)) := by
  have h : (p.kind == q.kind && (p.number == q.number && true)) = decide (p = q) := by
    rw [Bool.eq_iff_iff]
    simp
    constructor
    · rintro ⟨h1, h2⟩; exact Oyez.Place.ext' h1 h2
    · rintro rfl; exact ⟨rfl, rfl⟩
  simp only [aeqs, aeq1, and_self, if_true]
  rw [h]
theorem del179_calls {t : Nat} (p q : Oyez.Place) (w : AV) (hw : w.one = true) (σ : Heap) (ht : σ[t]? = some (.cells [.int .i64 q.kind, .int .i64 q.number])) : ACalls Tryz.prog 179 [.agg [.int .i64 p.kind, .int .i64 p.number, w], .ptr t 0] σ fun v σ' => v = .bool (decide (p = q)) ∧ σ' = σ := by
  refine ACalls.forget ?_
  refine acalls_fn Tryz.func179 rfl (enters_fn Tryz.func179 (by decide) rfl) ?_
  have htl := (List.getElem?_eq_some_iff.1 ht).1
  have htg : ∀ g : Heap, (σ ++ g)[t]? = some (.cells [.int .i64 q.kind, .int .i64 q.number]) := fun g => get_app ht
  have haq := aeqs_pl p q
  simp [-AV.one, Tryz.ntmps179, pv_int, hw]
  refine ACode_draw0 mixed (by kernel_rfl) ?_
  simp [-AV.one, -aeqs, pv_int, hw, htg]
  refine Ou_use0 (place83_any p w hw) ?_
  simp [-AV.one, -aeqs, pv_int, haq, htg]
set_option maxHeartbeats 2000000 in
theorem indexDel_calls {r t : Nat} (X : List PV) (q : Oyez.Place) (hX : ∀ x ∈ X, x.2.one = true) (hn : X.length ≤ 2 ^ 40) (σ : Heap) (hr : σ[r]? = some (.cells (cellsV X))) (ht : σ[t]? = some (.cells [.int .i64 q.kind, .int .i64 q.number])) :
    ACalls Tryz.prog 214 [.arr 3 r 0 X.length, .fn (.func 179) [] [.ptr t 0]] σ fun v σ' => σ' = σ ∧ ((v = .int .i64 (-1) ∧ ∀ x ∈ X, x.1 ≠ q) ∨ ∃ (i : Nat) (h : i < X.length), v = .int .i64 i ∧ X[i].1 = q ∧ ∀ x ∈ X.take i, x.1 ≠ q) := by
  refine acalls_fn Tryz.func214 rfl (enters_fn Tryz.func214 (by decide) rfl) ?_
  have hlen := cellsV_len X
  simp [Tryz.ntmps214]
  refine ACode_loopT (fun env σ' => ∃ (u : List AV) (i : Nat), env = { t := u } ∧ u.length = 19 ∧ tg u 0 = .arr 3 r 0 X.length ∧ tg u 1 = .fn (.func 179) [] [.ptr t 0] ∧ tg u 7 = .int .i64 X.length ∧ tg u 8 = .int .i64 i ∧ σ' = σ ∧ i ≤ X.length ∧ ∀ x ∈ X.take i, x.1 ≠ q)
    (fun env _ => match tg env.t 8 with | .int _ i => X.length - i.toNat | _ => 0) ⟨_, 0, rfl, by simp, by simp, by simp, by simp, by simp, rfl, by omega, by simp⟩ ?_
  rintro env _ ⟨u, i, rfl, hl, g0, g1, g7, g8, rfl, hi, hno⟩
  rcases Nat.lt_or_ge i X.length with hlt | hge
  · have hlt' : (i : Int) < (X.length : Int) := by omega
    have hx := w64 (n := (i : Int) + 1) (by omega) (by omega)
    have hsb := cellsV_sub X hlt
    have hb : i * 3 + 3 ≤ X.length * 3 := by omega
    simp [-AV.one, hl, g0, g1, g7, g8, hlt', hlt, hr, hlen, hsb, hb]
    refine StA.of ((del179_calls X[i].1 q X[i].2 (hX _ (List.getElem_mem hlt)) _ ht).mono ?_)
    rintro _ _ ⟨rfl, rfl⟩
    by_cases he : X[i].1 = q
    · simp [-AV.one, hl, g0, g1, g7, g8, hlt', hlt, he]
      exact ⟨i, rfl, ⟨hlt, he⟩, fun a b hm => hno (a, b) hm⟩
    · simp [-AV.one, hl, g0, g1, g7, g8, hlt', hlt, he, hx]
      refine ⟨⟨i + 1, by simp, by omega, fun a b hm => ?_⟩, by omega⟩
      rw [List.take_succ_eq_append_getElem hlt] at hm
      rcases List.mem_append.1 hm with hm | hm
      · exact hno (a, b) hm
      · rw [List.mem_singleton] at hm
        rw [← hm] at he
        exact he
  · have hge' : ¬ (i : Int) < (X.length : Int) := by omega
    rw [List.take_of_length_le hge] at hno
    simp [-AV.one, hl, g0, g1, g7, g8, hge']
    first | exact .inl fun a b hm => hno (a, b) hm | exact fun a b hm => hno (a, b) hm | (intro h; exact absurd (fun a b hm => hno (a, b) hm) h)
end Ab
namespace Ab
open Go Go.RowKit Go.Proofs
attribute [local irreducible] aws awp aw1 Og Om Oc Oa Ogd Ov Ot awd aw1d awh aw1h Ogh Ohd awl Ogl Ohl awv Ogv Ohv QThen QBlock QFn QFnM QRo QBe ACode AYield
theorem pv_nils : AV.nils.one = true := rfl
/-- the records of other places -/
def keepV (X : List PV) (q : Oyez.Place) : List PV := X.filter fun x => !decide (x.1 = q)
theorem keepV_all {X : List PV} {q : Oyez.Place} (h : ∀ x ∈ X, x.1 ≠ q) : keepV X q = X := by
  unfold keepV
  rw [List.filter_eq_self]
  intro x hx
  simpa using h x hx
theorem keepV_snoc (X : List PV) (q : Oyez.Place) (x : PV) : keepV (X ++ [x]) q = if x.1 = q then keepV X q else keepV X q ++ [x] := by
  unfold keepV
  rw [List.filter_append, List.filter_cons]
  by_cases h : x.1 = q <;> simp [h]
/-- a row's cells from a place on are emptied -/
theorem clear_row {r i n : Nat} {cs : List AV} {σ : Heap} (hr : σ[r]? = some (.cells cs)) (hc : cs.length = n * 3) (hi : i < n) :
    ∃ tl, tl.length = (n - i) * 3 ∧ aclear Tryz.prog #[23] (.arr 3 r i (n - i)) σ = some (.tup [], σ.set r (.cells (cs.take (i * 3) ++ tl))) := by
  have he : telem Tryz.prog 23 = some 59 := by simp
  have hs : tsa Tryz.prog 59 = some (3, true) := by simp
  have hz : azero Tryz.prog 59 (n - i) = some (List.replicate (n - i) [AV.int .i64 0, .int .i64 0, .nils]).flatten := by
    rw [azero_eq]
    simp
  have hl : ((List.replicate (n - i) [AV.int .i64 0, .int .i64 0, .nils]).flatten).length = (n - i) * 3 := by simp
  refine ⟨_, hl, ?_⟩
  have hall : ((List.replicate (n - i) [AV.int .i64 0, .int .i64 0, .nils]).flatten).all AV.one = true := by
    rw [List.all_eq_true]
    intro x hx
    rw [List.mem_flatten] at hx
    obtain ⟨l, h1, h2⟩ := hx
    rw [List.mem_replicate] at h1
    rw [h1.2] at h2
    simp at h2
    rcases h2 with rfl | rfl <;> rfl
  simp only [aclear, he, hs, hz, hr]
  rw [if_pos ⟨trivial, by omega, hall⟩]
  have : wr cs (i * 3) (List.replicate (n - i) [AV.int .i64 0, .int .i64 0, .nils]).flatten = cs.take (i * 3) ++ (List.replicate (n - i) [AV.int .i64 0, .int .i64 0, .nils]).flatten := by
    unfold wr
    rw [hl, List.drop_eq_nil_of_le (by rw [hc]; omega), List.append_nil]
  rw [this]
set_option maxHeartbeats 4000000 in
theorem delete_calls {r t : Nat} (X : List PV) (q : Oyez.Place) (hX : ∀ x ∈ X, x.2.one = true) (hn : X.length ≤ 2 ^ 40) (hne : t ≠ r) (σ : Heap) (hr : σ[r]? = some (.cells (cellsV X))) (ht : σ[t]? = some (.cells [.int .i64 q.kind, .int .i64 q.number])) :
    ACalls Tryz.prog 178 [.arr 3 r 0 X.length, .fn (.func 179) [] [.ptr t 0]] σ fun v σ' => v = .arr 3 r 0 (keepV X q).length ∧ ∃ g, σ' = σ.set r (.cells (cellsV (keepV X q))) ++ g := by
  have hrl := (List.getElem?_eq_some_iff.1 hr).1
  have htl := (List.getElem?_eq_some_iff.1 ht).1
  have hself : σ.set r (.cells (cellsV X)) = σ := by
    obtain ⟨h1, h2⟩ := List.getElem?_eq_some_iff.1 hr
    rw [← h2]; exact List.set_getElem_self h1
  obtain ⟨n, hln⟩ : ∃ n, X.length = n := ⟨_, rfl⟩
  have hlen := cellsV_len X
  refine ACalls.fit ?_
  suffices hh : ∀ Post : AV → Heap → Prop, (∀ v σ', (∃ (v' : AV) (r1 : Nat) (cs tl : List AV), (v = v' ∨ ∃ k2 r2 o2 l2 c2, v = .arc k2 r2 o2 l2 c2 ∧ v' = .arr k2 r2 o2 l2) ∧ σ'[r1]? = some (.cells (cs ++ tl)) ∧
      (v' = .arr 3 r 0 (keepV X q).length ∧ ∃ g, σ'.set r1 (.cells cs) = σ.set r (.cells (cellsV (keepV X q))) ++ g)) → Post v σ') → ACalls Tryz.prog 178 [.arr 3 r 0 X.length, .fn (.func 179) [] [.ptr t 0]] σ Post from hh _ fun _ _ h => h
  intro Post hPost
  refine acalls_cutC 5 (fun env σ' => ∃ (u : List AV) (Y : List PV) (tl : List AV) (g : Heap), env = { t := u } ∧ u.length = 42 ∧ tg u 0 = .arr 3 r 0 n ∧ tg u 5 = .int .i64 Y.length ∧ σ' = σ.set r (.cells (cellsV Y ++ tl)) ++ g ∧ Y = keepV X q ∧ (cellsV Y ++ tl).length = n * 3 ∧ 0 < n ∧ Y.length ≤ n) Tryz.func178 rfl (enters_fn Tryz.func178 (by decide) rfl) ?_ ?_
  · simp [-aclear, Tryz.ntmps178]
    refine StA.of ((indexDel_calls X q hX hn σ hr ht).mono ?_)
    rintro v s ⟨hs, ⟨rfl, hall⟩ | ⟨i, hi, rfl, hiq, hno⟩⟩
    · rw [hs]
      simp [-aclear]
      have hk := keepV_all hall
      refine hPost _ _ ⟨_, r, cellsV X, [], .inl rfl, by rw [List.append_nil]; exact hr, by rw [hk], [], by rw [hk, List.append_nil]⟩
    · rw [hs]
      have hi1 : ¬ (i : Int) = -1 := by omega
      have hx := w64 (n := (i : Int) + 1) (by omega) (by omega)
      rw [hln]
      simp [-aclear, hi1, hx]
      refine ACode_loopT (fun env σ' => ∃ (u : List AV) (i j : Nat) (Z : List PV) (g : Heap), env = { t := u } ∧ u.length = 42 ∧ tg u 0 = .arr 3 r 0 n ∧ tg u 1 = .fn (.func 179) [] [.ptr t 0] ∧ tg u 5 = .int .i64 i ∧ tg u 6 = .int .i64 j ∧ σ' = σ.set r (.cells (cellsV Z)) ++ g ∧ i < j ∧ j ≤ n ∧ Z.length = n ∧ Z.take i = keepV (X.take j) q ∧ (∀ m, j ≤ m → Z[m]? = X[m]?))
        (fun env _ => match tg env.t 6 with | .int _ i => n - i.toNat | _ => 0) ⟨_, i, i + 1, X, [], rfl, by simp, by simp, by simp, by simp, by simp, by simp [hself], by omega, by omega, hln, by
          rw [List.take_succ_eq_append_getElem hi, keepV_snoc, if_pos hiq, keepV_all hno], fun m _ => rfl⟩ ?_
      clear hiq hno hi hi1 hx
      rintro env _ ⟨u, i, j, Z, g, rfl, hl, g0, g1, g5, g6, rfl, hij, hj, hZ, hk, hrest⟩
      have hlz := cellsV_len Z
      rw [hZ] at hlz
      have hrg : ∀ (Y : AObj) (g : Heap), (σ.set r Y ++ g)[r]? = some Y := fun Y g => by rw [List.getElem?_append_left (by simpa using hrl)]; simp [hrl]
      have hsg : ∀ (Y Y' : AObj) (g : Heap), (σ.set r Y ++ g).set r Y' = σ.set r Y' ++ g := fun Y Y' g => set_set hrl Y Y'
      rcases Nat.lt_or_ge j n with hlt | hge
      · have hlt' : (j : Int) < (n : Int) := by omega
        have hx := w64 (n := (j : Int) + 1) (by omega) (by omega)
        have hxi := w64 (n := (i : Int) + 1) (by omega) (by omega)
        have hjz : j < Z.length := by omega
        have hjx : j < X.length := by omega
        have hzx : Z[j] = X[j] := by
          have := hrest j (Nat.le_refl _)
          rw [List.getElem?_eq_getElem hjz, List.getElem?_eq_getElem hjx] at this
          exact Option.some.inj this
        have hone : Z[j].2.one = true := by rw [hzx]; exact hX _ (List.getElem_mem hjx)
        have hsb := cellsV_sub Z hjz
        have hb : j * 3 + 3 ≤ n * 3 := by omega
        have hbi : i * 3 + 3 ≤ n * 3 := by omega
        have hin : i < n := by omega
        have hin' : (i : Int) < (n : Int) := by omega
        have hpt : ∀ (Y W : AObj) (g : Heap), (σ.set r Y ++ (g ++ [W]))[σ.length + g.length]? = some W := fun Y W g => by
          rw [List.getElem?_append_right (by rw [List.length_set]; omega), List.length_set, Nat.add_sub_cancel_left, List.getElem?_append_right (Nat.le_refl _), Nat.sub_self]; rfl
        have hst : ∀ (Y W W' : AObj) (g : Heap), (σ.set r Y ++ (g ++ [W])).set (σ.length + g.length) W' = σ.set r Y ++ (g ++ [W']) := fun Y W W' g => by
          rw [List.set_append_right _ _ (by rw [List.length_set]; omega), List.length_set, Nat.add_sub_cancel_left, List.set_append_right _ _ (Nat.le_refl _), Nat.sub_self]; rfl
        have htt : ∀ (Y : AObj) (g : Heap), (σ.set r Y ++ g)[t]? = some (.cells [.int .i64 q.kind, .int .i64 q.number]) := fun Y g => by
          rw [List.getElem?_append_left (by simpa using htl), List.getElem?_set_ne (Ne.symm hne)]; exact ht
        have hset := cellsV_set Z i Z[j] (by omega)
        have htk : X.take (j + 1) = X.take j ++ [X[j]] := List.take_succ_eq_append_getElem hjx
        have hk2 := keepV_snoc (X.take j) q X[j]
        rw [← htk] at hk2
        have hZi : (Z.set i Z[j]).take (i + 1) = Z.take i ++ [Z[j]] := by
          rw [List.take_succ_eq_append_getElem (by rw [List.length_set]; omega), List.getElem_set_self, List.take_set_of_le (Nat.le_refl _)]
        simp [-AV.one, -aclear, hl, g0, g1, g5, g6, hlt', hlt, hrg, hlz, hsb, hb, hpt, hst, pv_int, pv_nils, hone]
        refine StA.of ((del179_calls Z[j].1 q Z[j].2 hone _ (htt _ _)).mono ?_)
        rintro _ _ ⟨rfl, rfl⟩
        by_cases he : Z[j].1 = q
        · simp [-AV.one, -aclear, hl, g0, g1, g5, g6, hlt', hlt, he, hx]
          refine ⟨⟨i, rfl, j + 1, by simp, Z, ⟨_, rfl⟩, by omega, by omega, hZ, ?_, fun m hm => hrest m (by omega)⟩, by omega⟩
          rw [hk2, if_pos (hzx ▸ he), hk]
        · simp [-AV.one, -aclear, hl, g0, g1, g5, g6, hlt', hlt, he, hx, hrg, hsg, hlz, hpt, pv_int, pv_nils, hone, hin, hin', hbi, hset, hxi]
          refine ⟨⟨i + 1, by simp, j + 1, by simp, Z.set i Z[j], ⟨_, rfl⟩, by omega, by omega, by simp [hZ], ?_, fun m hm => ?_⟩, by omega⟩
          · rw [hZi, hk2, if_neg (fun e => he (hzx ▸ e)), hk, hzx]
          · rw [List.getElem?_set_ne (by omega)]
            exact hrest m (by omega)
      · obtain rfl : j = n := by omega
        have hge' : ¬ (j : Int) < (j : Int) := by omega
        have hin : i < j := by omega
        obtain ⟨tl, htl1, hcl⟩ := clear_row (σ := σ.set r (.cells (cellsV Z)) ++ g) (r := r) (i := i) (n := j) (hrg _ _) hlz hin
        have hin1 : i ≤ j := by omega
        have hin2 : ¬ i = j := by omega
        simp [-AV.one, -aclear, hl, g0, g1, g5, g6, hin1, hin2, hcl]
        have hY : Z.take i = keepV X q := by rw [hk, List.take_of_length_le (by omega)]
        have hYl : i = (keepV X q).length := by rw [← hY, List.length_take]; omega
        have hct := (cellsV_take Z i (by omega)).1
        rw [hsg, hct, hY]
        refine ⟨_, by rw [hYl], tl, ⟨_, rfl⟩, rfl, ?_, by omega, by omega⟩
        rw [cellsV_len, htl1, ← hYl, ← Nat.add_mul, show i + (j - i) = j by omega]
  · rintro env _ ⟨u, Y, tl, g, rfl, hl, g0, g5, rfl, hY, hc, hn0, hYn⟩
    refine ACode_room (q := 0) g0 (by omega) (cs := cellsV Y ++ tl) (by rw [List.getElem?_append_left (by simpa using hrl)]; simp [hrl]) hc fun cap hcap => ?_
    refine awp_sound _ ?_
    rw [set_set hrl]
    have hm : Y.length ≤ cap := by omega
    have hm0 : ¬ cap = 0 := by omega
    simp [-AV.one, hl, g0, g5, hm, hm0]
    refine hPost _ _ ⟨.arr 3 r 0 Y.length, r, cellsV Y, tl ++ List.replicate ((cap - n) * 3) .any, .inr ⟨_, _, _, _, _, rfl, rfl⟩, ?_, by rw [hY], g, ?_⟩
    · rw [List.getElem?_append_left (by simpa using hrl)]
      simp [hrl]
    · rw [set_set hrl, hY]
end Ab

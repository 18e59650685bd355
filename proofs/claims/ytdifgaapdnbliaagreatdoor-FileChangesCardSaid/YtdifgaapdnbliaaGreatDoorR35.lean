/-
  PLAIN LAWS: changes that do two lists of changes, as they are found one by one, and put in order.
  CHANGES: a change from one state to another one; the places of changes, in a map.
  CHANGES: put in the order of their places: slices.SortFunc.
  CHANGES THAT DO TWO LISTS: where they lie while they are laid, and when they are put in order; the map of the later ones.
-/
import Derived.Test.YtdifgaapdnbliaaGreatDoorR28
import Derived.Test.YtdifgaapdnbliaaGreatDoorR31
import Derived.Test.YtdifgaapdnbliaaGreatDoorR34
import Derived.Test.YtdifgaapdnbliaaGreatDoorR32
import Derived.Test.YtdifgaapdnbliaaGreatDoorR33
set_option linter.unusedSimpArgs false
set_option linter.unusedVariables false
set_option linter.unusedSectionVars false
namespace Oyez
/-- what becomes of a change of the first list -/
def aft1 (y : List Chg) (c : Chg) : Option Chg := match findC y c.place with
  | none => some c
  | some d => if c.was = d.now then none else some (chg c.place c.was d.now)
def clash1 (y : List Chg) (c : Chg) : Prop := ∃ d, findC y c.place = some d ∧ c.now ≠ d.was
/-- what becomes of a place -/
def aftP (x y : List Chg) (p : Place) : Option Chg := match afterAt x y p with
  | .ok o => o
  | .error _ => none
/-- the changes as they are found -/
def aftA (x y : List Chg) : List Chg := x.filterMap (aft1 y) ++ y.filter fun d => decide (d.place ∉ x.map Chg.place)
/-- what is left of a list when changes of another one were done -/
def leftC (x y : List Chg) (i : Nat) : List Chg := y.filter fun d => decide (d.place ∉ (x.take i).map Chg.place)
/-- what the changes are, or the error -/
def afterR (x y : List Chg) : List Chg × Int :=
  if checkChg x ≠ 0 then ([], checkChg x) else if checkChg y ≠ 0 then ([], checkChg y) else match after x y with
    | .error _ => ([], 7)
    | .ok l => if 80 < l.length then ([], 2) else (l, 0)
end Oyez
namespace Ab
open Go Go.RowKit Go.Proofs
attribute [local irreducible] aws awp aw1 Og Om Oc Oa Ogd Ov Ot awd aw1d awh aw1h Ogh Ohd awl Ogl Ohl awv Ogv Ohv QThen QBlock QFn QFnM QRo QBe ACode AYield
theorem strs_cells {n : Nat} {m : List Nat} (l : List (List UInt8)) : ORn n m (.cells (strs l)) (.cells (strs l)) := .cells _ _ (Nat.le_refl _) (rn_strsL l).2
set_option maxHeartbeats 4000000 in
theorem change_calls (p : Oyez.Place) (s t : Oyez.St) (hs : (getW s).length ≤ 2 ^ 40) (ht : (getW t).length ≤ 2 ^ 40) (σ : Heap) :
    ACalls Tryz.prog 110 [placeAV p, stAV s, stAV t] σ fun v σ' => v = .agg [.int .i64 p.kind, .int .i64 p.number, .bool s.isSome, .bool t.isSome, cloneV σ.length (getW s), cloneV (σ.length + (cloneG (getW s)).length) (getW t)] ∧ σ' = σ ++ (cloneG (getW s) ++ cloneG (getW t)) := by
  have c1 := fun S => clone_calls (getW s) hs S
  have c2 := fun S => clone_calls (getW t) ht S
  obtain ⟨ws, hws⟩ : ∃ w, getW s = w := ⟨_, rfl⟩
  obtain ⟨us, hus⟩ : ∃ w, getW t = w := ⟨_, rfl⟩
  obtain ⟨b1, hb1⟩ : ∃ b, s.isSome = b := ⟨_, rfl⟩
  obtain ⟨b2, hb2⟩ : ∃ b, t.isSome = b := ⟨_, rfl⟩
  unfold stAV
  rw [hws, hb1, hus, hb2]
  rw [hws] at c1
  rw [hus] at c2
  refine ACalls.canon ?_
  rcases ws with _ | ⟨w, ws⟩ <;> rcases us with _ | ⟨u, us⟩
  · refine acalls_fn Tryz.func110 rfl (enters_fn Tryz.func110 (by decide) rfl) ?_
    simp [Tryz.ntmps110]
    refine ACode_drawV [10, 13, 15] [(0, 1), (0, 2), (1, 1), (1, 2), (2, 1), (2, 2), (3, 1), (3, 2), (4, 1), (4, 2), (5, 1), (5, 2), (6, 1), (6, 2), (7, 1), (7, 2), (11, 0), (12, 0)] mixed (by kernel_rfl) (by kernel_rfl) ?_
    simp [Nat.add_assoc]
    refine OuH_of (c1 _) ?_
    simp [cloneV, cloneG, Nat.add_assoc]
    refine OuH_of (c2 _) ?_
    simp [cloneV, cloneG, Nat.add_assoc]
    refine ⟨[], [], rfl, by decide, ?_, .agg [.int .i64 p.kind, .int .i64 p.number, .bool b1, .bool b2, .pl 1 [], .pl 1 []], .agg _ _ rfl (RnL.cons (.int _ _) (RnL.cons (.int _ _) (RnL.cons (.bool _) (RnL.cons (.bool _) (RnL.cons (.pl0 1 1) (RnL.cons (.pl0 1 1) (RnL.nil _ _))))))).2, rfl, rfl⟩
    exact fun i o' ho => by
      match i, ho with
      | i + 0, ho => simp at ho
  · refine acalls_fn Tryz.func110 rfl (enters_fn Tryz.func110 (by decide) rfl) ?_
    simp [Tryz.ntmps110]
    refine ACode_drawV [10, 13, 15] [(0, 1), (0, 2), (1, 1), (1, 2), (2, 1), (2, 2), (3, 1), (3, 2), (4, 1), (4, 2), (5, 1), (5, 2), (6, 1), (6, 2), (7, 1), (7, 2), (11, 0), (12, 0)] mixed (by kernel_rfl) (by kernel_rfl) ?_
    simp [Nat.add_assoc]
    refine OuH_of (c1 _) ?_
    simp [cloneV, cloneG, Nat.add_assoc]
    refine OuH_of (c2 _) ?_
    simp [cloneV, cloneG, Nat.add_assoc]
    refine ⟨[.cells (strs (u :: us))], [4], rfl, by decide, ?_, .agg [.int .i64 p.kind, .int .i64 p.number, .bool b1, .bool b2, .pl 1 [], .arr 1 σ.length 0 (us.length + 1)], .agg _ _ rfl (RnL.cons (.int _ _) (RnL.cons (.int _ _) (RnL.cons (.bool _) (RnL.cons (.bool _) (RnL.cons (.pl0 1 1) (RnL.cons (.arr 1 0 4 0 _ rfl) (RnL.nil _ _))))))).2, rfl, rfl⟩
    exact fun i o' ho => by
      match i, ho with
      | 0, ho =>
        simp at ho
        subst ho
        exact ⟨4, rfl, _, rfl, strs_cells (u :: us)⟩
      | i + 1, ho => simp at ho
  · refine acalls_fn Tryz.func110 rfl (enters_fn Tryz.func110 (by decide) rfl) ?_
    simp [Tryz.ntmps110]
    refine ACode_drawV [10, 13, 15] [(0, 1), (0, 2), (1, 1), (1, 2), (2, 1), (2, 2), (3, 1), (3, 2), (4, 1), (4, 2), (5, 1), (5, 2), (6, 1), (6, 2), (7, 1), (7, 2), (11, 0), (12, 0)] mixed (by kernel_rfl) (by kernel_rfl) ?_
    simp [Nat.add_assoc]
    refine OuH_of (c1 _) ?_
    simp [cloneV, cloneG, Nat.add_assoc]
    refine OuH_of (c2 _) ?_
    simp [cloneV, cloneG, Nat.add_assoc]
    refine ⟨[.cells (strs (w :: ws))], [4], rfl, by decide, ?_, .agg [.int .i64 p.kind, .int .i64 p.number, .bool b1, .bool b2, .arr 1 σ.length 0 (ws.length + 1), .pl 1 []], .agg _ _ rfl (RnL.cons (.int _ _) (RnL.cons (.int _ _) (RnL.cons (.bool _) (RnL.cons (.bool _) (RnL.cons (.arr 1 0 4 0 _ rfl) (RnL.cons (.pl0 1 1) (RnL.nil _ _))))))).2, rfl, rfl⟩
    exact fun i o' ho => by
      match i, ho with
      | 0, ho =>
        simp at ho
        subst ho
        exact ⟨4, rfl, _, rfl, strs_cells (w :: ws)⟩
      | i + 1, ho => simp at ho
  · refine acalls_fn Tryz.func110 rfl (enters_fn Tryz.func110 (by decide) rfl) ?_
    simp [Tryz.ntmps110]
    refine ACode_drawV [10, 13, 15] [(0, 1), (0, 2), (1, 1), (1, 2), (2, 1), (2, 2), (3, 1), (3, 2), (4, 1), (4, 2), (5, 1), (5, 2), (6, 1), (6, 2), (7, 1), (7, 2), (11, 0), (12, 0)] mixed (by kernel_rfl) (by kernel_rfl) ?_
    simp [Nat.add_assoc]
    refine OuH_of (c1 _) ?_
    simp [cloneV, cloneG, Nat.add_assoc]
    refine OuH_of (c2 _) ?_
    simp [cloneV, cloneG, Nat.add_assoc]
    refine ⟨[.cells (strs (w :: ws)), .cells (strs (u :: us))], [4, 5], rfl, by decide, ?_, .agg [.int .i64 p.kind, .int .i64 p.number, .bool b1, .bool b2, .arr 1 σ.length 0 (ws.length + 1), .arr 1 (σ.length + 1) 0 (us.length + 1)], .agg _ _ rfl (RnL.cons (.int _ _) (RnL.cons (.int _ _) (RnL.cons (.bool _) (RnL.cons (.bool _) (RnL.cons (.arr 1 0 4 0 _ rfl) (RnL.cons (.arr 1 1 5 0 _ rfl) (RnL.nil _ _))))))).2, rfl, rfl⟩
    exact fun i o' ho => by
      match i, ho with
      | 0, ho =>
        simp at ho
        subst ho
        exact ⟨4, rfl, _, rfl, strs_cells (w :: ws)⟩
      | 1, ho =>
        simp at ho
        subst ho
        exact ⟨5, rfl, _, rfl, strs_cells (u :: us)⟩
      | i + 2, ho => simp at ho
end Ab
namespace Ab
open Go Go.RowKit Go.Proofs
attribute [local irreducible] aws awp aw1 Og Om Oc Oa Ogd Ov Ot awd aw1d awh aw1h Ogh Ohd awl Ogl Ohl QThen QBlock QFn QFnM QRo QBe ACode AYield
section
variable [Mode]
/-- a change of which the place is known -/
def unAV (p : Oyez.Place) : AV := .agg [.int .i64 p.kind, .int .i64 p.number, .un, .un, .un, .un]
end
end Ab
namespace Ab
open Go Go.RowKit Go.Proofs
theorem Acc.base {σ σ' g : Heap} {k : Nat} {v : AV} {l : List AV} {o : Option Nat} (h : Acc σ g k v l o) (hl : σ.length = σ'.length) : Acc σ' g k v l o := ⟨h.len, by
  have hv := h.val
  cases o with
  | none => exact hv
  | some j => rw [← hl]; exact hv⟩
/-- words of a change that is being laid -/
def RW (n : Nat) (g : Heap) (o : Option Nat) (w : AV) (ws : List (List UInt8)) : Prop := (ws = [] ∧ w = .pl 1 []) ∨ ∃ j, w = .arr 1 (n + j) 0 ws.length ∧ g[j]? = some (.cells (strs ws)) ∧ o ≠ some j
/-- changes that are being laid -/
structure MC (σ g : Heap) (L : List Oyez.Chg) (v : AV) : Prop where
  ex : ∃ (o : Option Nat) (vals : List AV), Acc σ g 6 v vals o ∧ (o = none ∨ vals ≠ []) ∧ (∀ j, o = some j → 2 ≤ j) ∧ vals.length = L.length ∧ ∀ (i : Nat) (c : Oyez.Chg), L[i]? = some c → ∃ w1 w2, vals[i]? = some (.agg [.int .i64 c.kind, .int .i64 c.number, .bool c.had, .bool c.has, w1, w2]) ∧ RW σ.length g o w1 c.old ∧ RW σ.length g o w2 c.new
theorem RW.one {n : Nat} {g : Heap} {o : Option Nat} {w : AV} {ws : List (List UInt8)} (h : RW n g o w ws) : w.one = true := by rcases h with ⟨_, rfl⟩ | ⟨j, rfl, _⟩ <;> rfl
theorem RW.more {n : Nat} {g : Heap} {o : Option Nat} {w : AV} {ws : List (List UInt8)} (h : RW n g o w ws) (X : Heap) : RW n (g ++ X) o w ws := by
  rcases h with h | ⟨j, h1, h2, h3⟩
  · exact .inl h
  · exact .inr ⟨j, h1, get_app h2, h3⟩
theorem MC.nil (σ g : Heap) : MC σ g [] .nils := ⟨none, [], Acc.nil _ _ _, .inl rfl, fun j h => (by cases h), rfl, fun i c h => by simp at h⟩
theorem MC.base {σ σ' g : Heap} {L : List Oyez.Chg} {v : AV} (h : MC σ g L v) (hl : σ.length = σ'.length) : MC σ' g L v := by
  obtain ⟨o, vals, h1, h0, hlo, h2, h3⟩ := h.ex
  exact ⟨o, vals, h1.base hl, h0, hlo, h2, by rw [← hl]; exact h3⟩
theorem MC.more {σ g : Heap} {L : List Oyez.Chg} {v : AV} (h : MC σ g L v) (X : Heap) : MC σ (g ++ X) L v := by
  obtain ⟨o, vals, h1, h0, hlo, h2, h3⟩ := h.ex
  exact ⟨o, vals, h1.more X, h0, hlo, h2, fun i c hc => by obtain ⟨w1, w2, a, b, d⟩ := h3 i c hc; exact ⟨w1, w2, a, b.more X, d.more X⟩⟩
theorem MC.len {σ g : Heap} {L : List Oyez.Chg} {v : AV} (h : MC σ g L v) (S : Heap) : alen Tryz.prog 62 v S = some (.int .i64 L.length) := by
  obtain ⟨o, vals, h1, h0, hlo, h2, _⟩ := h.ex
  have hv := h1.val
  cases o with
  | none =>
    obtain ⟨rfl, rfl⟩ := hv
    rw [← h2]
    simp
  | some j =>
    obtain ⟨rfl, _⟩ := hv
    rw [← h2]
    simp
theorem RW.clone {n : Nat} {g Y : Heap} {o : Option Nat} (ws : List (List UInt8)) (ho : ∀ j, o = some j → j < g.length) : RW n (g ++ (cloneG ws ++ Y)) o (cloneV (n + g.length) ws) ws := by
  unfold cloneV cloneG
  by_cases h : ws = []
  · exact .inl ⟨h, by rw [if_pos h]⟩
  · rw [if_neg h, if_neg h]
    refine .inr ⟨g.length, rfl, by simp, fun e => ?_⟩
    have := ho _ e
    omega
theorem MC.put0 {σ g : Heap} {L : List Oyez.Chg} {v : AV} (h : MC σ g L v) (hl : L.length ≤ 2 ^ 40) (hg2 : 2 ≤ g.length) (c : Oyez.Chg) :
    ∃ v' g', aappend Tryz.prog #[62, 62] v (.arr 6 (σ.length + (g ++ (cloneG c.old ++ cloneG c.new)).length) 0 1)
      (σ ++ ((g ++ (cloneG c.old ++ cloneG c.new)) ++ [.cells [.int .i64 c.kind, .int .i64 c.number, .bool c.had, .bool c.has, cloneV (σ.length + g.length) c.old, cloneV (σ.length + (g.length + (cloneG c.old).length)) c.new]])) = some (v', σ ++ g') ∧ MC σ g' (L ++ [c]) v' ∧ ∀ j, j < 2 → g'[j]? = g[j]? := by
  obtain ⟨o, vals, h1, h0, hlo, h2, h3⟩ := h.ex
  have hlt : ∀ j, o = some j → j < g.length := fun j e => by subst e; exact h1.lt
  have n1 : RW σ.length (g ++ (cloneG c.old ++ cloneG c.new)) o (cloneV (σ.length + g.length) c.old) c.old := RW.clone _ hlt
  have n2 : RW σ.length (g ++ (cloneG c.old ++ cloneG c.new)) o (cloneV (σ.length + (g.length + (cloneG c.old).length)) c.new) c.new := by
    have := RW.clone (n := σ.length) (g := g ++ cloneG c.old) (Y := []) (o := o) c.new fun j e => by have := hlt j e; rw [List.length_append]; omega
    rwa [List.append_nil, List.append_assoc, List.length_append] at this
  obtain ⟨v', g', o', he, hA', hgl, hkeep, ho⟩ := (h1.more (cloneG c.old ++ cloneG c.new)).push (P := Tryz.prog) (t := 62) (e := 74) (ag := true) (x := .agg [.int .i64 c.kind, .int .i64 c.number, .bool c.had, .bool c.has, cloneV (σ.length + g.length) c.old, cloneV (σ.length + (g.length + (cloneG c.old).length)) c.new])
    (by simp) (by simp) (by simp) (by omega) ⟨rfl, fun y hy => by
      simp only [AV.cells, List.mem_cons, List.not_mem_nil, or_false] at hy
      rcases hy with rfl | rfl | rfl | rfl | rfl | rfl
      · rfl
      · rfl
      · rfl
      · rfl
      · exact n1.one
      · exact n2.one⟩ (by simp; omega)
  have hlo' : ∀ j, o' = some j → 2 ≤ j := by
    intro j e
    rcases ho with e2 | ⟨m, hm, e2⟩
    · exact hlo j (e2 ▸ e)
    · rw [e] at e2
      have := Option.some.inj e2
      rw [List.length_append] at hm
      omega
  refine ⟨v', g', he, ⟨o', vals ++ [_], hA', .inr (by simp), hlo', by simp [h2], fun i d hd => ?_⟩, fun j hj => ?_⟩
  rotate_left
  · rw [hkeep j (fun e => by have := hlo j e.symm; omega) (by rw [List.length_append]; omega), List.getElem?_append_left (by omega)]
  have turn : ∀ {w : AV} {ws : List (List UInt8)}, RW σ.length (g ++ (cloneG c.old ++ cloneG c.new)) o w ws → RW σ.length g' o' w ws := by
    intro w ws hw
    rcases hw with hw | ⟨j, a1, a2, a3⟩
    · exact .inl hw
    · have hj := (List.getElem?_eq_some_iff.1 a2).1
      refine .inr ⟨j, a1, by rw [hkeep j (fun e => a3 e.symm) hj]; exact a2, fun e => ?_⟩
      rcases ho with e2 | ⟨m, hm, e2⟩
      · exact a3 (e2 ▸ e)
      · rw [e] at e2
        have := Option.some.inj e2
        omega
  rcases Nat.lt_or_ge i L.length with hi | hi
  · rw [List.getElem?_append_left hi] at hd
    obtain ⟨w1, w2, a, b, e⟩ := h3 i d hd
    exact ⟨w1, w2, by rw [List.getElem?_append_left (by omega)]; exact a, turn (b.more _), turn (e.more _)⟩
  · rw [List.getElem?_append_right hi] at hd
    have hi0 : i - L.length = 0 := by
      have := (List.getElem?_eq_some_iff.1 hd).1
      simp at this
      omega
    rw [hi0] at hd
    simp at hd
    subst hd
    exact ⟨_, _, by rw [List.getElem?_append_right (by omega), show i - vals.length = 0 by omega]; rfl, turn n1, turn n2⟩
theorem MC.put {σ g : Heap} {a b : AObj} {L : List Oyez.Chg} {v : AV} (h : MC σ (a :: b :: g) L v) (hl : L.length ≤ 2 ^ 40) (c : Oyez.Chg) :
    ∃ v' g', aappend Tryz.prog #[62, 62] v (.arr 6 (σ.length + ((a :: b :: g) ++ (cloneG c.old ++ cloneG c.new)).length) 0 1)
      (σ ++ (((a :: b :: g) ++ (cloneG c.old ++ cloneG c.new)) ++ [.cells [.int .i64 c.kind, .int .i64 c.number, .bool c.had, .bool c.has, cloneV (σ.length + (a :: b :: g).length) c.old, cloneV (σ.length + ((a :: b :: g).length + (cloneG c.old).length)) c.new]])) = some (v', σ ++ (a :: b :: g')) ∧ MC σ (a :: b :: g') (L ++ [c]) v' := by
  obtain ⟨v', g', h1, h2, h3⟩ := h.put0 hl (by simp) c
  have h30 := h3 0 (by omega)
  have h31 := h3 1 (by omega)
  rcases g' with _ | ⟨p, _ | ⟨q, t⟩⟩
  · simp at h30
  · simp at h31
  · simp at h30 h31
    subst h30; subst h31
    exact ⟨v', t, h1, h2⟩
theorem MC.zero {σ g : Heap} {v : AV} (h : MC σ g [] v) : v = .nils := by
  obtain ⟨o, vals, h1, h0, hlo, h2, _⟩ := h.ex
  have hv : vals = [] := List.eq_nil_of_length_eq_zero h2
  subst hv
  rcases h0 with rfl | h0
  · exact h1.val.1
  · exact absurd rfl h0
/-- the map ahead of them is another one -/
theorem MC.map {σ g : Heap} {a : AObj} {es : List (AV × AV)} {L : List Oyez.Chg} {v : AV} (h : MC σ (a :: .map es :: g) L v) (es' : List (AV × AV)) : MC σ (a :: .map es' :: g) L v := by
  have key : ∀ (j : Nat) (cs : List AV), (a :: .map es :: g)[j]? = some (.cells cs) → (a :: .map es' :: g)[j]? = some (.cells cs) := by
    intro j cs hj
    match j, hj with
    | 0, hj => exact hj
    | 1, hj => simp at hj
    | j + 2, hj => exact hj
  obtain ⟨o, vals, h1, h0, hlo, h2, h3⟩ := h.ex
  have hA : Acc σ (a :: .map es' :: g) 6 v vals o := ⟨h1.len, by
    have hv := h1.val
    cases o with
    | none => exact hv
    | some j => exact ⟨hv.1, key j _ hv.2⟩⟩
  have turn : ∀ {w : AV} {ws : List (List UInt8)}, RW σ.length (a :: .map es :: g) o w ws → RW σ.length (a :: .map es' :: g) o w ws := by
    intro w ws hw
    rcases hw with hw | ⟨j, a1, a2, a3⟩
    · exact .inl hw
    · exact .inr ⟨j, a1, key j _ a2, a3⟩
  exact ⟨o, vals, hA, h0, hlo, h2, fun i c hc => by obtain ⟨w1, w2, x1, x2, x3⟩ := h3 i c hc; exact ⟨w1, w2, x1, turn x2, turn x3⟩⟩
/-- changes of the call's own, as they lie; each list of words is as X says -/
structure OwnC (X : List (List UInt8) → List AV → Prop) (lo : Nat) (τ : Heap) (L : List Oyez.Chg) (v : AV) : Prop where
  row : (L = [] ∧ v = .nils) ∨ ∃ r, lo ≤ r ∧ v = .arr 6 r 0 L.length ∧ ∃ cs, τ[r]? = some (.cells cs) ∧ cs.length = L.length * 6 ∧ ∀ (i : Nat) (c : Oyez.Chg), L[i]? = some c → ∃ w1 w2,
    List.take 6 (List.drop (i * 6) cs) = [.int .i64 c.kind, .int .i64 c.number, .bool c.had, .bool c.has, w1, w2] ∧
    (∀ w ws, (w, ws) = (w1, c.old) ∨ (w, ws) = (w2, c.new) → (ws = [] ∧ w = .pl 1 []) ∨ ∃ (q : Nat) (xs : List AV), lo ≤ q ∧ q ≠ r ∧ w = .arr 1 q 0 ws.length ∧ τ[q]? = some (.cells xs) ∧ X ws xs)
/-- the row of values that were put in order -/
theorem MC.sorted {σ g : Heap} {L : List Oyez.Chg} {v : AV} (h : MC σ g L v) (hL : L ≠ []) : ∃ (r : Nat) (vals : List AV), v = .arr 6 (σ.length + r) 0 vals.length ∧ vals.length = L.length ∧ (σ ++ g)[σ.length + r]? = some (.cells (vals.flatMap AV.cells)) ∧ (∀ x ∈ vals, ElRow 4 x) ∧
    ∀ vals' : List AV, vals'.Perm vals → vals'.Pairwise (fun x y => (keyOf y).lt (keyOf x) = false) → ∃ L' : List Oyez.Chg, L'.Perm L ∧ L'.Pairwise (fun c d => d.place.lt c.place = false) ∧ OwnC asIs σ.length ((σ ++ g).set (σ.length + r) (.cells (vals'.flatMap AV.cells))) L' v := by
  obtain ⟨o, vals, h1, h0, hlo, h2, h3⟩ := h.ex
  have hv := h1.val
  cases o with
  | none =>
    obtain ⟨rfl, rfl⟩ := hv
    exact absurd (List.eq_nil_of_length_eq_zero h2.symm) hL
  | some r =>
    obtain ⟨rfl, hg⟩ := hv
    have hgr : (σ ++ g)[σ.length + r]? = some (.cells (vals.flatMap AV.cells)) := by rw [List.getElem?_append_right (by omega), Nat.add_sub_cancel_left]; exact hg
    have hrl := (List.getElem?_eq_some_iff.1 hgr).1
    -- each value with its change
    have hz : (vals.zip L).map Prod.fst = vals := List.map_fst_zip (by omega)
    have hz2 : (vals.zip L).map Prod.snd = L := List.map_snd_zip (by omega)
    have hpair : ∀ x ∈ vals.zip L, ∃ w1 w2, x.1 = .agg [.int .i64 x.2.kind, .int .i64 x.2.number, .bool x.2.had, .bool x.2.has, w1, w2] ∧ RW σ.length g (some r) w1 x.2.old ∧ RW σ.length g (some r) w2 x.2.new := by
      intro x hx
      obtain ⟨i, hi⟩ := List.getElem?_of_mem hx
      rw [List.getElem?_zip_eq_some] at hi
      obtain ⟨w1, w2, a, b, d⟩ := h3 i x.2 hi.2
      rw [hi.1] at a
      exact ⟨w1, w2, Option.some.inj a, b, d⟩
    refine ⟨r, vals, rfl, h2, hgr, fun x hx => ?_, fun vals' hp hs => ?_⟩
    · rw [← hz] at hx
      obtain ⟨y, hy, rfl⟩ := List.mem_map.1 hx
      obtain ⟨w1, w2, a, b, d⟩ := hpair y hy
      exact ⟨y.2.kind, y.2.number, [.bool y.2.had, .bool y.2.has, w1, w2], by rw [a]; rfl, rfl, by simp [-AV.one, b.one, d.one]; exact ⟨rfl, rfl⟩⟩
    · obtain ⟨z', hz1, hz3⟩ := perm_map Prod.fst hp hz.symm
      have hmem : ∀ x ∈ z', x ∈ vals.zip L := fun x hx => hz1.mem_iff.1 hx
      have hl' : z'.length = L.length := by rw [hz1.length_eq, List.length_zip]; omega
      refine ⟨z'.map Prod.snd, by rw [← hz2]; exact hz1.map _, ?_, ⟨.inr ⟨σ.length + r, by omega, by rw [List.length_map, hl', h2], _, List.getElem?_set_self hrl, ?_, fun i c hc => ?_⟩⟩⟩
      · rw [← hz3, List.pairwise_map] at hs
        rw [List.pairwise_map]
        refine hs.imp_of_mem fun {x y} hx hy hxy => ?_
        obtain ⟨_, _, a, _, _⟩ := hpair x (hmem x hx)
        obtain ⟨_, _, b, _, _⟩ := hpair y (hmem y hy)
        rw [a, b] at hxy
        exact hxy
      · have : (vals'.flatMap AV.cells).length = vals'.length * 6 := flat_len _ fun x hx => by
          rw [← hz3] at hx
          obtain ⟨y, hy, rfl⟩ := List.mem_map.1 hx
          obtain ⟨_, _, a, _, _⟩ := hpair y (hmem y hy)
          rw [a]; rfl
        rw [this, ← hz3, List.length_map, List.length_map]
      · rw [List.getElem?_map, Option.map_eq_some_iff] at hc
        obtain ⟨y, hy, rfl⟩ := hc
        obtain ⟨w1, w2, a, b, d⟩ := hpair y (hmem y (List.mem_of_getElem? hy))
        refine ⟨w1, w2, ?_, fun w ws hw => ?_⟩
        · apply List.ext_getElem?
          intro j
          rcases Nat.lt_or_ge j 6 with hj | hj
          · rw [List.getElem?_take_of_lt hj, List.getElem?_drop, flat_get (k := 6) _ (fun x hx => by
              rw [← hz3] at hx
              obtain ⟨y, hy, rfl⟩ := List.mem_map.1 hx
              obtain ⟨_, _, a, _, _⟩ := hpair y (hmem y hy)
              rw [a]; rfl) (by decide), show (i * 6 + j) / 6 = i by omega, show (i * 6 + j) % 6 = j by omega, ← hz3, List.getElem?_map, hy]
            simp only [Option.map_some, Option.bind_some]
            rw [a]
            rfl
          · rw [List.getElem?_eq_none (by simp; omega), List.getElem?_eq_none (by simpa using hj)]
        · have key : ∀ {w : AV} {ws : List (List UInt8)}, RW σ.length g (some r) w ws → (ws = [] ∧ w = .pl 1 []) ∨ ∃ (q : Nat) (xs : List AV), σ.length ≤ q ∧ q ≠ σ.length + r ∧ w = .arr 1 q 0 ws.length ∧ ((σ ++ g).set (σ.length + r) (.cells (vals'.flatMap AV.cells)))[q]? = some (.cells xs) ∧ asIs ws xs := by
            intro w ws hw
            rcases hw with hw | ⟨j, a1, a2, a3⟩
            · exact .inl hw
            · have hne : r ≠ j := fun e => a3 (by rw [e])
              exact .inr ⟨σ.length + j, strs ws, by omega, by omega, a1, by rw [List.getElem?_set_ne (by omega), List.getElem?_append_right (by omega), Nat.add_sub_cancel_left]; exact a2, rfl⟩
          rcases hw with hw | hw
          · obtain ⟨rfl, rfl⟩ := Prod.mk.inj hw; exact key b
          · obtain ⟨rfl, rfl⟩ := Prod.mk.inj hw; exact key d
theorem one_int (k : IntKind) (n : Int) : (AV.int k n).one = true := rfl
theorem one_bool (b : Bool) : (AV.bool b).one = true := rfl
theorem one_clone (n : Nat) (ws : List (List UInt8)) : (cloneV n ws).one = true := by unfold cloneV; split <;> rfl
/-- the entries of changes in a map -/
def entsC (l : List Oyez.Chg) : List (AV × AV) := l.map fun c => (placeAV c.place, chgAV c)
end Ab

/-
  THE REFERENCE: are two places alike; two copies joined.
  THE REFERENCE: two copies joined.
  COPIES: what is looked at (long, great), records as the reference's, lists copied, choices compared: the law's own functions.
  CHANGES: the law's own functions on them.
  slices.Insert OF ONE RECORD INTO AN OWN ROW, whatever its room.
  THE ORDER OF RECORDS in a copy that goes its own way.
-/
import Derived.Test.YtcoikmapjepdjaaGreatDoorA23
import Derived.Test.YtcoikmapjepdjaaGreatDoorA18
import Derived.Test.YtcoikmapjepdjaaGreatDoorA17
import Derived.Test.YtcoikmapjepdjaaGreatDoorA24
set_option linter.unusedSimpArgs false
set_option linter.unusedVariables false
set_option linter.unusedSectionVars false
namespace Oyez
theorem st_eq (x y : St) : x = y ↔ x.isSome = y.isSome ∧ x.getD [] = y.getD [] := by
  cases x <;> cases y <;> simp
/-- the places ahead of one -/
def upTo (k n : Nat) : List Place := allPlaces.take (1000 * k + n)
/-- the join of the places ahead of one -/
def joinTo (base a b : List Rec) (second : List Bool) (k n : Nat) : Jn := (upTo k n).foldl (joinAt base a b second) ⟨[], []⟩
end Oyez
namespace Ab
open Go Go.RowKit Go.Proofs
attribute [local irreducible] aws awp aw1 Og Om Oc Oa Ogd Ov Ot awd aw1d QThen QBlock QFn QFnM ACode AYield
/-- a change -/
def chgAV (c : Oyez.Chg) : AV := .agg [.int .i64 c.kind, .int .i64 c.number, .bool c.had, .bool c.has, wordsAV c.old, wordsAV c.new]
def chgsAV (l : List Oyez.Chg) : AV := .pl 6 (l.map chgAV)
attribute [simp] chgAV chgsAV
end Ab
namespace Oyez
def putJ (J : Jn) (p : Place) (w : St) : Jn := ⟨match w with | some ws => J.out ++ [⟨p.kind, p.number, ws⟩] | none => J.out, J.conf⟩
/-- what a conflict has -/
def pickJ (second : List Bool) (i : Nat) (x y z : St) : St := match second[i]? with | none => x | some c => if c then z else y
def stepJ (x y z : St) (second : List Bool) (p : Place) (J : Jn) : Jn :=
  if y = z ∨ z = x then putJ J p y else if y = x then putJ J p z else putJ ⟨J.out, J.conf ++ [chg p y z]⟩ p (pickJ second J.conf.length x y z)
end Oyez
namespace Ab
open Go Go.RowKit Go.Proofs
attribute [local irreducible] aws awp aw1 Og Om Oc Oa Ogd Ov Ot awd aw1d QThen QBlock QFn QFnM ACode AYield
def chgCells (c : Oyez.Chg) : List AV := [.int .i64 c.kind, .int .i64 c.number, .bool c.had, .bool c.has, wordsAV c.old, wordsAV c.new]
structure JS (σ : Heap) (J : Oyez.Jn) (v1 v2 : AV) (g : Heap) : Prop where
  ex : ∃ o1 o2, Acc σ g 3 v1 (J.out.map recAV) o1 ∧ Acc σ g 6 v2 (J.conf.map chgAV) o2 ∧ ∀ j, o1 = some j → o2 = some j → False
theorem Acc.lt {σ g : Heap} {k : Nat} {v : AV} {l : List AV} {j : Nat} (h : Acc σ g k v l (some j)) : j < g.length := (List.getElem?_eq_some_iff.1 h.val.2).1
theorem Acc.keep {σ g g' : Heap} {k : Nat} {v : AV} {l : List AV} {o : Option Nat} (h : Acc σ g k v l o) (hk : ∀ j, o = some j → g'[j]? = g[j]?) : Acc σ g' k v l o := ⟨h.len, by
  have hv := h.val
  cases o with
  | none => exact hv
  | some j => exact ⟨hv.1, by rw [hk j rfl]; exact hv.2⟩⟩
end Ab
namespace Ab
open Go Go.RowKit Go.Proofs
attribute [local irreducible] aws awp aw1 Og Om Oc Oa Ogd Ov Ot awd aw1d awh aw1h Ogh Ohd awl Ogl Ohl awv Ogv Ohv QThen QBlock QFn QFnM QRo QBe ACode AYield
/-- words that are more than what is looked at -/
def longB (ws : List (List UInt8)) : Bool := ws.any (fun w => decide (90 < w.length)) || decide (10 < ws.length)
/-- records that are -/
def greatB (f : List Oyez.Rec) : Bool := f.any (fun r => longB r.words) || decide (60 < f.length)
/-- choices -/
def boolsAV (l : List Bool) : AV := .pl 1 (l.map AV.bool)
attribute [simp] boolsAV
theorem sum_const {α : Type} (l : List α) (k : Nat) (f : α → Nat) (h : ∀ a, f a = k) : (l.map f).sum = l.length * k := by
  induction l with
  | nil => simp
  | cons a t ih => rw [List.map_cons, List.sum_cons, ih, h, List.length_cons, Nat.add_mul]; omega
theorem fz_row {σ g : Heap} {k : Nat} (xs : List AV) (h : ∀ x ∈ xs, x.cells.length = k ∧ ∀ y ∈ x.cells, y.one = true) (hf : ∀ (n : Nat) (τ : Heap), ∀ x ∈ xs, ∀ y ∈ x.cells, Fz n τ y y) : Fz σ.length (σ ++ .cells (xs.flatMap AV.cells) :: g) (.arr k σ.length 0 xs.length) (.pl k xs) :=
  Acc.fz (o := some 0) ⟨h, rfl, rfl⟩ (hf _ _)
/-- the cells of records -/
def cellsR (f : List Oyez.Rec) : List AV := f.flatMap recCells
theorem cellsR_map (f : List Oyez.Rec) : (f.map recAV).flatMap AV.cells = cellsR f := by unfold cellsR; rw [List.flatMap_map]; rfl
theorem cellsR_len (f : List Oyez.Rec) : (cellsR f).length = f.length * 3 := by
  unfold cellsR
  induction f with
  | nil => rfl
  | cons p t ih => rw [List.flatMap_cons, List.length_append, ih]; simp [recCells]; omega
theorem cellsR_at (f : List Oyez.Rec) {i j : Nat} (h : i < f.length) (hj : j < 3) : (cellsR f)[i * 3 + j]? = (recCells f[i])[j]? := by rw [← cellsR_map]; exact flat_rec f i j h hj
theorem cellsR_sub (f : List Oyez.Rec) {i : Nat} (h : i < f.length) : List.take 3 (List.drop (i * 3) (cellsR f)) = [.int .i64 f[i].kind, .int .i64 f[i].number, wordsAV f[i].words] := by
  apply List.ext_getElem?
  intro j
  rcases Nat.lt_or_ge j 3 with hj | hj
  · rw [List.getElem?_take_of_lt hj, List.getElem?_drop, cellsR_at f h hj]
    rfl
  · rw [List.getElem?_eq_none (by simp; omega), List.getElem?_eq_none (by simpa using hj)]
theorem cellsR_put (f : List Oyez.Rec) {i : Nat} (h : i < f.length) : List.take (i * 3 + 2) (cellsR f) ++ wordsAV f[i].words :: List.drop (i * 3 + 3) (cellsR f) = cellsR f := by
  have hl := cellsR_len f
  have h1 := cellsR_at f h (show 2 < 3 by omega)
  have hlt : i * 3 + 2 < (cellsR f).length := by omega
  rw [List.getElem?_eq_getElem hlt] at h1
  have h2 : (cellsR f)[i * 3 + 2] = wordsAV f[i].words := by simpa [recCells] using h1
  rw [← h2, ← List.drop_eq_getElem_cons hlt, List.take_append_drop]
theorem copyS_calls (l : List (List UInt8)) (hl : l.length ≤ 2 ^ 30) : APure Tryz.prog 164 [wordsAV l] (wordsAV l) := by
  refine APure.of fun σ => ?_
  refine acalls_fn Tryz.func164 rfl (enters_fn Tryz.func164 (by decide) rfl) ?_
  have h1 : (l.length : Int) * 16 ≤ 281474976710656 := by omega
  have h2 : (l.length : Int) ≤ 9223372036854775807 := by omega
  simp [Tryz.ntmps164, h1, h2]
  rw [sum_const l 1]
  case h => exact fun _ => rfl
  rw [Nat.mul_one, Nat.sub_self, List.replicate_zero, List.append_nil]
  have := fz_row (σ := σ) (g := []) (k := 1) (l.map AV.str) (fun x hx => by obtain ⟨b, _, rfl⟩ := List.mem_map.1 hx; exact ⟨rfl, by simp [AV.cells, AV.one]⟩) (fun n τ x hx y hy => by
    obtain ⟨b, _, rfl⟩ := List.mem_map.1 hx
    simp [AV.cells] at hy; subst hy; exact .str _)
  rwa [List.length_map] at this
theorem copyR_calls (f : List Oyez.Rec) (hl : f.length ≤ 2 ^ 30) (σ : Heap) : ACalls Tryz.prog 163 [fileAV f] σ fun v σ' => v = .arr 3 σ.length 0 f.length ∧ σ' = σ ++ [.cells (cellsR f)] := by
  refine acalls_fn Tryz.func163 rfl (enters_fn Tryz.func163 (by decide) rfl) ?_
  have h1 : (f.length : Int) * 40 ≤ 281474976710656 := by omega
  have h2 : (f.length : Int) ≤ 9223372036854775807 := by omega
  simp [Tryz.ntmps163, h1, h2]
  rw [sum_const f 3]
  case h => exact fun _ => rfl
  rw [List.drop_eq_nil_of_le (by simp), List.append_nil]
  exact cellsR_map f
set_option maxHeartbeats 2000000 in
theorem own_calls (f : List Oyez.Rec) (hl : f.length ≤ 2 ^ 30) (hw : ∀ r ∈ f, r.words.length ≤ 2 ^ 30) : APure Tryz.prog 85 [fileAV f] (fileAV f) := by
  refine APure.of fun σ => ?_
  refine acalls_fn Tryz.func85 rfl (enters_fn Tryz.func85 (by decide) rfl) ?_
  simp [Tryz.ntmps85]
  refine StA.of ((copyR_calls f hl σ).mono ?_)
  rintro _ _ ⟨rfl, rfl⟩
  simp
  refine ACode_loopT (fun env σ' => ∃ (u : List AV) (i : Nat) (g : Heap), env = { t := u } ∧ u.length = 24 ∧ tg u 3 = .arr 3 σ.length 0 f.length ∧ tg u 8 = .arr 3 σ.length 0 f.length ∧ tg u 9 = .int .i64 f.length ∧ tg u 10 = .int .i64 i ∧ σ' = σ ++ .cells (cellsR f) :: g ∧ i ≤ f.length)
    (fun env _ => match tg env.t 10 with | .int _ i => f.length - i.toNat | _ => 0) ⟨_, 0, [], rfl, by simp, by simp, by simp, by simp, by simp, by simp, by omega⟩ ?_
  rintro env σ' ⟨u, i, g, rfl, hl', g3, g8, g9, g10, rfl, hi⟩
  rcases Nat.lt_or_ge i f.length with hlt | hge
  · have hlt' : (i : Int) < (f.length : Int) := by omega
    have hx := w64 (n := (i : Int) + 1) (by omega) (by omega)
    have hlen := cellsR_len f
    have hs := cellsR_sub f hlt
    have hput := cellsR_put f hlt
    have hb : i * 3 + 3 ≤ f.length * 3 := by omega
    simp [hl', g3, g8, g9, g10, hlt', hlt, hlen, hs, hb]
    refine (copyS_calls f[i].words (hw _ (List.getElem_mem hlt))).use ?_
    simp [hl', g3, g8, g9, g10, hlt', hlt, hlen, hs, hb, hx]
    exact ⟨⟨i + 1, by simp, hput, by omega⟩, by omega⟩
  · have hge' : ¬ (i : Int) < (f.length : Int) := by omega
    have hA : Acc σ (.cells (cellsR f) :: g) 3 (.arr 3 σ.length 0 f.length) (f.map recAV) (some 0) := ⟨fun x hx => by
      obtain ⟨r, _, rfl⟩ := List.mem_map.1 hx
      exact ⟨rfl, by simp [AV.cells, AV.one]⟩, by simp, by rw [cellsR_map]; rfl⟩
    have hz := hA.fz (fz_recs _ _ _)
    simpa [hl', g3, g8, g9, g10, hge'] using hz
end Ab
namespace Ab
open Go Go.RowKit Go.Proofs
attribute [local irreducible] aws awp aw1 Og Om Oc Oa Ogd Ov Ot awd aw1d awh aw1h Ogh Ohd awl Ogl Ohl awv Ogv Ohv QThen QBlock QFn QFnM QRo QBe ACode AYield
/-- changes that are more than what is looked at -/
def manyB (l : List Oyez.Chg) : Bool := l.any (fun c => longB c.old || longB c.new) || decide (90 < l.length)
end Ab
namespace Ab
open Go Go.RowKit Go.Proofs
attribute [local irreducible] aws awp aw1 Og Om Oc Oa Ogd Ov Ot awd aw1d awh aw1h Ogh Ohd awl Ogl Ohl awv Ogv Ohv QThen QBlock QFn QFnM QRo QBe ACode AYield
/-- what an insertion does: the row in which it is all, the others as they were -/
def InsQ (σ : Heap) (r n i : Nat) (cs ds : List AV) (v : AV) (σ' : Heap) : Prop :=
  ∃ r', v = .arr 3 r' 0 (n + 1) ∧ σ'[r']? = some (.cells (insC cs ds i)) ∧ σ.length ≤ σ'.length ∧ (r' = r ∨ σ.length ≤ r') ∧ ∀ j, j ≠ r → j < σ.length → σ'[j]? = σ[j]?
set_option maxHeartbeats 2000000 in
set_option maxRecDepth 8000 in
theorem insert_end {r r2 n : Nat} {cs ds : List AV} (σ : Heap) (hne : r ≠ r2) (hr : σ[r]? = some (.cells cs)) (hr2 : σ[r2]? = some (.cells ds)) (hc : cs.length = n * 3) (hd : ds.length = 3) (hod : ∀ x ∈ ds, AV.one x = true) (hn : n ≤ 2 ^ 20) :
    ACalls Tryz.prog 88 [.arr 3 r 0 n, .int .i64 n, .arr 3 r2 0 1] σ (InsQ σ r n n cs ds) := by
  refine acalls_fn Tryz.func88 rfl (enters_fn Tryz.func88 (by decide) rfl) ?_
  have he : telem Tryz.prog 57 = some 88 := by simp
  have hs : tsa Tryz.prog 88 = some (3, true) := by simp
  have hz : tzk Tryz.prog 88 3 = true := by simp
  have hb : tby Tryz.prog 88 = 40 := by simp
  have k1 : sub ds (0 * 3) (1 * 3) = ds := by unfold sub; rw [Nat.zero_mul, List.drop_zero, List.take_of_length_le (by omega)]
  have ha : acells 3 (.arr 3 r2 0 1) σ = some (ds, 1) := by rw [acells_row hr2 (by omega) (by rw [k1]; exact hod), k1]
  have hap : aappend Tryz.prog #[57, 57] (.arr 3 r 0 n) (.arr 3 r2 0 1) σ = some (.arr 3 σ.length 0 (n + 1), σ.set r .dead ++ [.cells (cs ++ ds)]) := by
    have hb' : (n + 1) * 40 ≤ 140737488355328 := by omega
    simp [-acells, aappend, he, hs, hz, hb, ha, hr, hc, hb']
  have hw : IntKind.i64.wrap ((n : Int) + 1) = n + 1 := w64 (by omega) (by omega)
  simp (maxSteps := 400000) [-aappend, -aappendZ, -acopy, -acopyC, Tryz.ntmps88, hap]
  have hrl := (List.getElem?_eq_some_iff.1 hr).1
  refine ⟨σ.length, rfl, ?_, by simp, .inr (Nat.le_refl _), fun j hj hl => ?_⟩
  · rw [List.getElem?_append_right (by simp)]
    simp [insC, ← hc]
  · rw [List.getElem?_append_left (by simpa using hl), List.getElem?_set_ne (Ne.symm hj)]
theorem insert_calls {r r2 n i : Nat} {cs ds : List AV} (σ : Heap) (hne : r ≠ r2) (hr : σ[r]? = some (.cells cs)) (hr2 : σ[r2]? = some (.cells ds)) (hc : cs.length = n * 3) (hd : ds.length = 3) (ho : ∀ x ∈ cs, AV.one x = true) (hod : ∀ x ∈ ds, AV.one x = true) (hi : i ≤ n) (hn : n ≤ 2 ^ 20) :
    ACalls Tryz.prog 88 [.arr 3 r 0 n, .int .i64 i, .arr 3 r2 0 1] σ (InsQ σ r n i cs ds) := by
  rcases Nat.lt_or_ge i n with hlt | hge
  · have hrl := (List.getElem?_eq_some_iff.1 hr).1
    refine ACalls.room (enters_fn Tryz.func88 (by decide) rfl) hr (by rw [hc]; omega) fun cap hcap => ?_
    refine (insert_arc (σ.set r (.cells (cs ++ List.replicate ((cap - n) * 3) .any))) hne (by rw [List.getElem?_set_self hrl]) (by rw [List.getElem?_set_ne hne]; exact hr2) hc hd ho hod hlt hcap hn).mono ?_
    rintro v σ' (⟨rfl, rfl⟩ | ⟨hcp, rfl, rfl⟩)
    · refine ⟨_, cs, List.replicate ((cap - n) * 3) .any, .inl rfl, ?_, ?_⟩
      · rw [List.getElem?_append_left (by simpa using hrl), List.getElem?_set_self hrl]
      · refine ⟨σ.length, by rw [List.length_set], ?_, by simp, .inr (Nat.le_refl _), fun j hj hl => ?_⟩
        · rw [List.getElem?_set_ne (by omega), List.getElem?_append_right (by simp)]
          simp
        · rw [List.getElem?_set_ne (Ne.symm hj), List.getElem?_append_left (by simpa using hl), List.getElem?_set_ne (Ne.symm hj)]
    · refine ⟨.arr 3 r 0 (n + 1), insC cs ds i, List.replicate ((cap - (n + 1)) * 3) .any, .inr ⟨_, _, _, _, _, rfl, rfl⟩, ?_, ?_⟩
      · rw [List.getElem?_set_self (by simpa using hrl)]
      · refine ⟨r, rfl, ?_, by simp, .inl rfl, fun j hj hl => ?_⟩
        · rw [List.getElem?_set_self (by simpa using hrl)]
        · rw [List.getElem?_set_ne (Ne.symm hj), List.getElem?_set_ne (Ne.symm hj), List.getElem?_set_ne (Ne.symm hj)]
  · obtain rfl : i = n := by omega
    exact insert_end σ hne hr hr2 hc hd hod hn
end Ab
namespace Ab
open Go Go.RowKit Go.Proofs
attribute [local irreducible] aws awp aw1 Og Om Oc Oa Ogd Ov Ot awd aw1d awh aw1h Ogh Ohd awl Ogl Ohl awv Ogv Ohv QThen QBlock QFn QFnM QRo QBe ACode AYield
/-- that of two records -/
def ordB (a b : Oyez.Rec) : Int := if a.kind = b.kind then a.number - b.number else a.kind - b.kind
/-- the numbers of a record are small -/
def SmallR (a : Oyez.Rec) : Prop := -2 ^ 40 ≤ a.kind ∧ a.kind ≤ 2 ^ 40 ∧ -2 ^ 40 ≤ a.number ∧ a.number ≤ 2 ^ 40
theorem order_calls (a b : Oyez.Rec) (ha : SmallR a) (hb : SmallR b) : APure Tryz.prog 87 [recAV a, recAV b] (.int .i64 (ordB a b)) := by
  obtain ⟨a1, a2, a3, a4⟩ := ha
  obtain ⟨b1, b2, b3, b4⟩ := hb
  refine APure.of fun σ => ?_
  refine acalls_fn Tryz.func87 rfl (enters_fn Tryz.func87 (by decide) rfl) ?_
  have h1 : IntKind.i64.wrap (a.kind - b.kind) = a.kind - b.kind := w64 (by omega) (by omega)
  have h2 : IntKind.i64.wrap (a.number - b.number) = a.number - b.number := w64 (by omega) (by omega)
  by_cases hk : a.kind = b.kind
  · simp [Tryz.ntmps87, recAV, hk, h2, ordB]
  · simp [Tryz.ntmps87, recAV, hk, h1, ordB]
end Ab

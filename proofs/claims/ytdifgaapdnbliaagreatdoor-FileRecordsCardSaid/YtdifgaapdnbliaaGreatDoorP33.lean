/-
  PLACES: of places that follow each other and are the same, one: slices.Compact.
  PLACES: those of some files, in order, each once.
  PLAIN LAWS: changes.
  CHANGES: the law's own functions on them.
  CHANGES: which are right: the reference's function.
  CHANGES: which are right: the program's functions.
  PLAIN LAWS: what is joined, place by place; changes that are differences; what a file has at a place, as a text.
  slices.Insert OF ONE RECORD INTO AN OWN ROW, whatever its room.
  THE ORDER OF RECORDS in a copy that goes its own way.
  slices.BinarySearchFunc OVER AN OWN ROW OF RECORDS; a record put at its place in an own row.
  THE FILE THAT IS MADE OF NUMBERS.
  THE FILES THAT ARE MADE OF NUMBERS: of up to 20 records, and of up to 15; their words.
  A COPY THAT WENT ITS OWN WAY (the statements' Copied).
  WHAT THE LAWS OF DRAWN FILES SHARE: files that are right, the places that copies of a file can have.
  strings.Join OVER WORDS THAT ARE NEVER WRITTEN AGAIN; what a file has at a place, as a text.
  WHAT THE STATEMENTS ASK OF FILES: what is at a place, as a text; the places of some files; is a place among some; strings.HasPrefix.
-/
import Derived.Test.YtdifgaapdnbliaaGreatDoorP20
import Derived.Test.YtdifgaapdnbliaaGreatDoorP24
import Derived.Test.YtdifgaapdnbliaaGreatDoorP25
import Derived.Test.YtdifgaapdnbliaaGreatDoorP30
import Derived.Test.YtdifgaapdnbliaaGreatDoorP31
import Derived.Test.YtdifgaapdnbliaaGreatDoorP28
import Derived.Test.YtdifgaapdnbliaaGreatDoorP32
import Derived.Test.YtdifgaapdnbliaaGreatDoorP26
import Derived.Test.YtdifgaapdnbliaaGreatDoorP29
set_option linter.unusedSimpArgs false
set_option linter.unusedVariables false
set_option linter.unusedSectionVars false
namespace Oyez
end Oyez
namespace Ab
open Go Go.RowKit Go.Proofs
attribute [local irreducible] aws awp aw1 Og Om Oc Oa Ogd Ov Ot awd aw1d awh aw1h Ogh Ohd awl Ogl Ohl QThen QBlock QFn QFnM QRo QBe ACode AYield
/-- the cells of places -/
def cellsP (l : List Oyez.Place) : List AV := l.flatMap fun p => [.int .i64 p.kind, .int .i64 p.number]
theorem cellsP_map (l : List Oyez.Place) : (l.map placeAV).flatMap AV.cells = cellsP l := by unfold cellsP; rw [List.flatMap_map]; rfl
end Ab
namespace Ab
open Go Go.RowKit Go.Proofs
attribute [local irreducible] aws awp aw1 Og Om Oc Oa Ogd Ov Ot awd aw1d awh aw1h Ogh Ohd awl Ogl Ohl awv Ogv Ohv QThen QBlock QFn QFnM QRo QBe ACode AYield
/-- files at work lie there, in a row -/
structure DesksAt (σ : Heap) (v : AV) (fs : List (List Oyez.Rec)) : Prop where
  ex : ∃ q ds, v = .arr 1 q 0 fs.length ∧ σ[q]? = some (.cells ds) ∧ ds.length = fs.length ∧ ∀ (i : Nat) (f : List Oyez.Rec) (d : AV), fs[i]? = some f → ds[i]? = some d → DeskAt σ d f
/-- the places ahead of one: those of the files ahead, and some of the next file's -/
def plcs (fs : List (List Oyez.Rec)) (i j : Nat) : List Oyez.Place := ((fs.take i).flatten ++ (fs.getD i []).take j).map Oyez.Rec.place
end Ab
namespace Oyez
structure RightC (l : List Chg) : Prop where
  len : l.length ≤ 80
  each : ∀ c ∈ l, chgErr c = 0
  sorted : Sorted (l.map Chg.place)
theorem chgErr_zero {c : Chg} (h : chgErr c = 0) : c.place ∈ allPlaces ∧ wordsErr c.kind c.number c.old = 0 ∧ wordsErr c.kind c.number c.new = 0 ∧ (c.had = false → c.old = []) ∧ (c.has = false → c.new = []) ∧ c.was ≠ c.now := by
  unfold chgErr at h
  split at h
  · rename_i h1; exact absurd h h1
  · rename_i h1
    split at h
    · rename_i h2; exact absurd h h2
    · rename_i h2
      split at h
      · rename_i h3; exact absurd h h3
      · rename_i h3
        split at h
        · cases h
        · rename_i h4
          simp only [Bool.or_eq_true, Bool.and_eq_true, not_or, not_and, beq_iff_eq, decide_eq_true_eq, Bool.not_eq_true', List.isEmpty_iff, Bool.not_eq_true, Bool.not_eq_false'] at h4
          obtain ⟨⟨h5, h6⟩, h7⟩ := h4
          have h5' : c.had = false → c.old = [] := fun e => by simpa using h5 e
          have h6' : c.has = false → c.new = [] := fun e => by simpa using h6 e
          refine ⟨placeErr_zero (by simpa using h1), by simpa using h2, by simpa using h3, h5', h6', ?_⟩
          unfold Chg.was Chg.now
          cases h8 : c.had <;> cases h9 : c.has
          · exact absurd (by rw [h5' h8, h6' h9]) (h7 (by rw [h8, h9]))
          · simp
          · simp
          · simpa using h7 (by rw [h8, h9])
theorem RightC.range {l : List Chg} (h : RightC l) : ∀ c ∈ l, c.place ∈ allPlaces := fun c hc => (chgErr_zero (h.each c hc)).1
/-! ### make -/
def stL (l : List Chg) (p : Place) (s : St) : St := l.foldl (fun s c => if c.place = p then c.now else s) s
/-! ### after -/
end Oyez
namespace Ab
open Go Go.RowKit Go.Proofs
attribute [local irreducible] aws awp aw1 Og Om Oc Oa Ogd Ov Ot awd aw1d awh aw1h Ogh Ohd awl Ogl Ohl awv Ogv Ohv QThen QBlock QFn QFnM QRo QBe ACode AYield
/-- changes that are more than what is looked at -/
def manyB (l : List Oyez.Chg) : Bool := l.any (fun c => longB c.old || longB c.new) || decide (90 < l.length)
end Ab
namespace Ab
open Go Go.RowKit Go.Proofs
attribute [local irreducible] aws awp aw1 Og Om Oc Oa Ogd Ov Ot awd aw1d awh aw1h Ogh Ohd awl Ogl Ohl awv Ogv Ohv QThen QBlock QFn QFnM QRo QBe ACode AYield
/-- changes whose words are few enough to be told -/
def FewC (l : List Oyez.Chg) : Prop := ∀ c ∈ l, (tot1 c.old ≤ 2 ^ 38 ∧ c.old.length ≤ 2 ^ 38) ∧ tot1 c.new ≤ 2 ^ 38 ∧ c.new.length ≤ 2 ^ 38
/-- the place ahead of number i -/
def prevC (l : List Oyez.Chg) (i : Nat) : Option Oyez.Place := if i = 0 then none else (l[i - 1]?).map Oyez.Chg.place
/-- words where there are none to be -/
def badC (c : Oyez.Chg) : Prop := (c.had = false ∧ c.old ≠ []) ∨ (c.has = false ∧ c.new ≠ [])
end Ab
namespace Ab
open Go Go.RowKit Go.Proofs
attribute [local irreducible] aws awp aw1 Og Om Oc Oa Ogd Ov Ot awd aw1d awh aw1h Ogh Ohd awl Ogl Ohl awv Ogv Ohv QThen QBlock QFn QFnM QRo QBe ACode AYield
end Ab
namespace Oyez
/-! ### what a file has, as a text -/
def hasS : St → S
  | none => []
  | some ws => 32 :: glueW ws
def WordSt (x : St) : Prop := ∀ ws, x = some ws → ∀ w ∈ ws, word w = true
theorem getIn_mem {f : List Rec} {p : Place} {ws : List S} (h : getIn f p = some ws) : ∃ r ∈ f, r.place = p ∧ r.words = ws := by
  unfold getIn at h
  rw [Option.map_eq_some_iff] at h
  obtain ⟨r, h1, rfl⟩ := h
  exact ⟨r, List.mem_of_find?_eq_some h1, by simpa using List.find?_some h1, rfl⟩
/-! ### joins, place by place -/
def clashAt (x y z : St) : Bool := decide (¬ y = z ∧ ¬ y = x ∧ ¬ z = x)
def confAt (base a b : List Rec) (p : Place) : Bool := clashAt (getIn base p) (getIn a p) (getIn b p)
def joinV (base a b : List Rec) (s : List Bool) (i : Nat) (p : Place) : St :=
  if getIn a p = getIn b p ∨ getIn b p = getIn base p then getIn a p else if getIn a p = getIn base p then getIn b p else pickJ s i (getIn base p) (getIn a p) (getIn b p)
def joinPl (base a b : List Rec) : List Place := placesOf ((base ++ a ++ b).map Rec.place)
/-- the places of the conflicts -/
def confsOf (base a b : List Rec) : List Place := (joinPl base a b).filter (confAt base a b)
/-! ### changes that are differences -/
def diffPl (f g : List Rec) : List Place := placesOf ((f ++ g).map Rec.place)
/-! ### what the other copy changed; changes that are made -/
end Oyez
namespace Ab
open Go Go.RowKit Go.Proofs
attribute [local irreducible] aws awp aw1 Og Om Oc Oa Ogd Ov Ot awd aw1d awh aw1h Ogh Ohd awl Ogl Ohl awv Ogv Ohv QThen QBlock QFn QFnM QRo QBe ACode AYield
/-- what an insertion does: the row in which it is all, the others as they were -/
def InsQ (σ : Heap) (r n i : Nat) (cs ds : List AV) (v : AV) (σ' : Heap) : Prop :=
  ∃ r', v = .arr 3 r' 0 (n + 1) ∧ σ'[r']? = some (.cells (insC cs ds i)) ∧ σ.length ≤ σ'.length ∧ (r' = r ∨ σ.length ≤ r') ∧ ∀ j, j ≠ r → j < σ.length → σ'[j]? = σ[j]?
set_option maxHeartbeats 2000000 in
set_option maxRecDepth 8000 in
theorem insert_end {r r2 n : Nat} {cs ds : List AV} (σ : Heap) (hne : r ≠ r2) (hr : σ[r]? = some (.cells cs)) (hr2 : σ[r2]? = some (.cells ds)) (hc : cs.length = n * 3) (hd : ds.length = 3) (hod : ∀ x ∈ ds, AV.one x = true) (hn : n ≤ 2 ^ 20) :
    ACalls Tryz.prog 126 [.arr 3 r 0 n, .int .i64 n, .arr 3 r2 0 1] σ (InsQ σ r n n cs ds) := by
  refine acalls_fn Tryz.func126 rfl (enters_fn Tryz.func126 (by decide) rfl) ?_
  have he : telem Tryz.prog 23 = some 59 := by simp
  have hs : tsa Tryz.prog 59 = some (3, true) := by simp
  have hz : tzk Tryz.prog 59 3 = true := by simp
  have hb : tby Tryz.prog 59 = 40 := by simp
  have k1 : sub ds (0 * 3) (1 * 3) = ds := by unfold sub; rw [Nat.zero_mul, List.drop_zero, List.take_of_length_le (by omega)]
  have ha : acells 3 (.arr 3 r2 0 1) σ = some (ds, 1) := by rw [acells_row hr2 (by omega) (by rw [k1]; exact hod), k1]
  have hap : aappend Tryz.prog #[23, 23] (.arr 3 r 0 n) (.arr 3 r2 0 1) σ = some (.arr 3 σ.length 0 (n + 1), σ.set r .dead ++ [.cells (cs ++ ds)]) := by
    have hb' : (n + 1) * 40 ≤ 140737488355328 := by omega
    simp [-acells, aappend, he, hs, hz, hb, ha, hr, hc, hb']
  have hw : IntKind.i64.wrap ((n : Int) + 1) = n + 1 := w64 (by omega) (by omega)
  simp (maxSteps := 400000) [-aappend, -aappendZ, -acopy, -acopyC, Tryz.ntmps126, hap]
  have hrl := (List.getElem?_eq_some_iff.1 hr).1
  refine ⟨σ.length, rfl, ?_, by simp, .inr (Nat.le_refl _), fun j hj hl => ?_⟩
  · rw [List.getElem?_append_right (by simp)]
    simp [insC, ← hc]
  · rw [List.getElem?_append_left (by simpa using hl), List.getElem?_set_ne (Ne.symm hj)]
theorem insert_calls {r r2 n i : Nat} {cs ds : List AV} (σ : Heap) (hne : r ≠ r2) (hr : σ[r]? = some (.cells cs)) (hr2 : σ[r2]? = some (.cells ds)) (hc : cs.length = n * 3) (hd : ds.length = 3) (ho : ∀ x ∈ cs, AV.one x = true) (hod : ∀ x ∈ ds, AV.one x = true) (hi : i ≤ n) (hn : n ≤ 2 ^ 20) :
    ACalls Tryz.prog 126 [.arr 3 r 0 n, .int .i64 i, .arr 3 r2 0 1] σ (InsQ σ r n i cs ds) := by
  rcases Nat.lt_or_ge i n with hlt | hge
  · have hrl := (List.getElem?_eq_some_iff.1 hr).1
    refine ACalls.room (enters_fn Tryz.func126 (by decide) rfl) hr (by rw [hc]; omega) fun cap hcap => ?_
    refine (insert_arc (σ.set r (.cells (cs ++ List.replicate ((cap - n) * 3) .any))) hne (by rw [List.getElem?_set_self hrl]) (by rw [List.getElem?_set_ne hne]; exact hr2) hc hd ho hod hlt hcap hn).mono ?_
    rintro v σ' (⟨rfl, rfl⟩ | ⟨hcp, rfl, rfl⟩)
    · refine ⟨_, cs, List.replicate ((cap - n) * 3) .any, .inl rfl, ?_, ?_⟩
      · rw [List.getElem?_append_left (by simpa using hrl), List.getElem?_set_self hrl]
      · refine ⟨σ.length, by rw [List.length_set], ?_, by simp, .inr (Nat.le_refl _), fun j hj hl => ?_⟩
        · rw [List.getElem?_set_ne (by omega), List.getElem?_append_right (by simp)]
          simp
        · rw [List.getElem?_set_ne (Ne.symm hj), List.getElem?_append_left (by simpa using hl), List.getElem?_set_ne (Ne.symm hj)]
    · refine ⟨.arr 3 r 0 (n + 1), insC cs ds i, List.replicate ((cap - (n + 1)) * 3) .any, .inr ⟨_, _, _, _, _, rfl, rfl⟩, ?_, ?_⟩
      · rw [List.getElem?_set_self (by simpa using hrl)]
      · refine ⟨r, rfl, ?_, by simp, .inl rfl, fun j hj hl => ?_⟩
        · rw [List.getElem?_set_self (by simpa using hrl)]
        · rw [List.getElem?_set_ne (Ne.symm hj), List.getElem?_set_ne (Ne.symm hj), List.getElem?_set_ne (Ne.symm hj)]
  · obtain rfl : i = n := by omega
    exact insert_end σ hne hr hr2 hc hd hod hn
end Ab
namespace Ab
open Go Go.RowKit Go.Proofs
attribute [local irreducible] aws awp aw1 Og Om Oc Oa Ogd Ov Ot awd aw1d awh aw1h Ogh Ohd awl Ogl Ohl awv Ogv Ohv QThen QBlock QFn QFnM QRo QBe ACode AYield
/-- that of two records -/
def ordB (a b : Oyez.Rec) : Int := if a.kind = b.kind then a.number - b.number else a.kind - b.kind
/-- the numbers of a record are small -/
def SmallR (a : Oyez.Rec) : Prop := -2 ^ 40 ≤ a.kind ∧ a.kind ≤ 2 ^ 40 ∧ -2 ^ 40 ≤ a.number ∧ a.number ≤ 2 ^ 40
end Ab
namespace Ab
open Go Go.RowKit Go.Proofs
attribute [local irreducible] aws awp aw1 Og Om Oc Oa Ogd Ov Ot awd aw1d awh aw1h Ogh Ohd awl Ogl Ohl awv Ogv Ohv QThen QBlock QFn QFnM QRo QBe ACode AYield
theorem cellsR_append (l m : List Oyez.Rec) : cellsR (l ++ m) = cellsR l ++ cellsR m := by unfold cellsR; rw [List.flatMap_append]
theorem cellsR_take (l : List Oyez.Rec) (i : Nat) (h : i ≤ l.length) : (cellsR l).take (i * 3) = cellsR (l.take i) ∧ (cellsR l).drop (i * 3) = cellsR (l.drop i) := by
  have e : cellsR l = cellsR (l.take i) ++ cellsR (l.drop i) := by rw [← cellsR_append, List.take_append_drop]
  have h1 : (cellsR (l.take i)).length = i * 3 := by rw [cellsR_len, List.length_take]; omega
  rw [e, ← h1]
  exact ⟨List.take_left, List.drop_left⟩
/-- a record at a place of a list -/
def insAt (l : List Oyez.Rec) (t : Oyez.Rec) (i : Nat) : List Oyez.Rec := l.take i ++ t :: l.drop i
theorem insC_cells (l : List Oyez.Rec) (t : Oyez.Rec) (i : Nat) (h : i ≤ l.length) : insC (cellsR l) (recCells t) i = cellsR (insAt l t i) := by
  obtain ⟨h1, h2⟩ := cellsR_take l i h
  unfold insC insAt
  rw [h1, h2, cellsR_append]
  show _ = _ ++ (recCells t ++ cellsR (l.drop i))
  rw [List.append_assoc]
/-- it is the place of a record -/
structure PlaceAt (l : List Oyez.Rec) (t : Oyez.Rec) (i : Nat) : Prop where
  le : i ≤ l.length
  lo : ∀ (m : Nat) (h : m < l.length), m < i → l[m].place.lt t.place = true
  hi : ∀ (m : Nat) (h : m < l.length), i ≤ m → l[m].place.lt t.place = false
theorem PlaceAt.found {l : List Oyez.Rec} {t : Oyez.Rec} {i : Nat} (hs : Oyez.RSorted l) (h : PlaceAt l t i) : t.place ∈ l.map Oyez.Rec.place ↔ ∃ hi : i < l.length, l[i].place = t.place := by
  constructor
  · intro hm
    obtain ⟨x, hx, e⟩ := List.mem_map.1 hm
    obtain ⟨m, hml, rfl⟩ := List.mem_iff_getElem.1 hx
    have h1 : i ≤ m := by
      rcases Nat.lt_or_ge m i with h2 | h2
      · have := h.lo m hml h2
        rw [e, Oyez.Place.lt_irrefl] at this
        cases this
      · exact h2
    rcases Nat.lt_or_ge i m with h2 | h2
    · have h3 := h.hi i (by omega) (Nat.le_refl _)
      unfold Oyez.RSorted Oyez.Sorted at hs
      rw [List.pairwise_map] at hs
      have := List.pairwise_iff_getElem.1 hs i m (by omega) hml h2
      rw [e, h3] at this
      cases this
    · obtain rfl : m = i := by omega
      exact ⟨hml, e⟩
  · rintro ⟨hi, e⟩
    exact e ▸ List.mem_map_of_mem (List.getElem_mem hi)
theorem PlaceAt.sorted {l : List Oyez.Rec} {t : Oyez.Rec} {i : Nat} (hs : Oyez.RSorted l) (h : PlaceAt l t i) (hn : t.place ∉ l.map Oyez.Rec.place) : Oyez.RSorted (insAt l t i) := by
  unfold Oyez.RSorted Oyez.Sorted insAt at *
  rw [List.pairwise_map] at hs ⊢
  have e : l = l.take i ++ l.drop i := (List.take_append_drop i l).symm
  rw [e, List.pairwise_append] at hs
  obtain ⟨s1, s2, s3⟩ := hs
  have low : ∀ x ∈ l.take i, x.place.lt t.place = true := fun x hx => by
    obtain ⟨m, hm, rfl⟩ := List.mem_iff_getElem.1 hx
    rw [List.length_take] at hm
    rw [List.getElem_take]
    exact h.lo m (by omega) (by omega)
  have high : ∀ x ∈ l.drop i, t.place.lt x.place = true := fun x hx => by
    have hxl : x ∈ l := List.mem_of_mem_drop hx
    obtain ⟨m, hm, rfl⟩ := List.mem_iff_getElem.1 hx
    rw [List.length_drop] at hm
    have h1 := h.hi (i + m) (by omega) (by omega)
    rw [List.getElem_drop] at hxl ⊢
    cases h2 : t.place.lt l[i + m].place with
    | true => rfl
    | false => exact absurd (Oyez.Place.lt_tri h1 h2 ▸ List.mem_map_of_mem hxl) hn
  refine List.pairwise_append.2 ⟨s1, List.pairwise_cons.2 ⟨high, s2⟩, fun x hx y hy => ?_⟩
  rcases List.mem_cons.1 hy with rfl | hy
  · exact low x hx
  · exact s3 x hx y hy
theorem InsQ.acc {τ g : Heap} {l : List Oyez.Rec} {t : Oyez.Rec} {i j : Nat} {v : AV} {σ' : Heap} (h : InsQ (τ ++ g) (τ.length + j) l.length i (cellsR l) (recCells t) v σ') (hi : i ≤ l.length) :
    ∃ g' j', σ' = τ ++ g' ∧ Acc τ g' 3 v ((insAt l t i).map recAV) (some j') := by
  obtain ⟨r', rfl, h1, h2, h3, h4⟩ := h
  rw [List.length_append] at h2
  have ht : σ'.take τ.length = τ := by
    apply List.ext_getElem?
    intro k
    rcases Nat.lt_or_ge k τ.length with hk | hk
    · rw [List.getElem?_take_of_lt hk, h4 k (by omega) (by rw [List.length_append]; omega), List.getElem?_append_left hk]
    · rw [List.getElem?_eq_none (by rw [List.length_take]; omega), List.getElem?_eq_none hk]
  have hr' : τ.length ≤ r' := by
    rcases h3 with h3 | h3
    · omega
    · rw [List.length_append] at h3; omega
  have hl : (insAt l t i).length = l.length + 1 := by
    unfold insAt
    rw [List.length_append, List.length_cons, List.length_take, List.length_drop]
    omega
  refine ⟨σ'.drop τ.length, r' - τ.length, ?_, ⟨fun x hx => ?_, ?_, ?_⟩⟩
  · conv => lhs; rw [← List.take_append_drop τ.length σ', ht]
  · obtain ⟨r, _, rfl⟩ := List.mem_map.1 hx
    exact ⟨rfl, by simp [AV.cells, AV.one]⟩
  · rw [List.length_map, hl, show τ.length + (r' - τ.length) = r' by omega]
  · rw [List.getElem?_drop, show τ.length + (r' - τ.length) = r' by omega, h1, insC_cells l t i hi, cellsR_map]
theorem wu64 {n : Int} (h1 : 0 ≤ n) (h2 : n ≤ 9223372036854775807) : IntKind.u64.wrap n = n := by
  unfold IntKind.wrap
  have e1 : (IntKind.bits .u64) = 64 := rfl
  have e2 : IntKind.signed .u64 = false := rfl
  simp only [e1, e2, Bool.false_and, Bool.false_eq_true, if_false]
  have e3 : (2 ^ 64 : Int) = 18446744073709551616 := by decide
  rw [e3]; omega
end Ab
namespace Oyez
end Oyez
namespace Ab
open Go Go.RowKit Go.Proofs
attribute [local irreducible] aws awp aw1 Og Om Oc Oa Ogd Ov Ot awd aw1d awh aw1h Ogh Ohd awl Ogl Ohl awv Ogv Ohv QThen QBlock QFn QFnM QRo QBe ACode AYield
end Ab
namespace Ab
open Go Go.RowKit Go.Proofs
attribute [local irreducible] aws awp aw1 Og Om Oc Oa Ogd Ov Ot awd aw1d awh aw1h Ogh Ohd awl Ogl Ohl awv Ogv Ohv QThen QBlock QFn QFnM QRo QBe ACode AYield
end Ab
namespace Ab
open Go Go.RowKit Go.Proofs
attribute [local irreducible] aws awp aw1 Og Om Oc Oa Ogd Ov Ot awd aw1d awh aw1h Ogh Ohd awl Ogl Ohl awv Ogv Ohv QThen QBlock QFn QFnM QRo QBe ACode AYield
/-- records as they are drawn -/
structure GoodF (f : List Oyez.Rec) : Prop where
  recs : ∀ r ∈ f, Oyez.recErr r = 0
  sorted : Oyez.RSorted f
  words : ∀ r ∈ f, ∀ w ∈ r.words, w ∈ wordL
theorem GoodF.nil : GoodF [] := ⟨by simp, by simp [Oyez.RSorted, Oyez.Sorted], by simp⟩
end Ab
namespace Ab
open Go Go.RowKit Go.Proofs
theorem GoodF.right {f : List Oyez.Rec} (h : GoodF f) (hl : f.length ≤ 40) : Oyez.Right f := ⟨hl, h.recs, h.sorted⟩
/-- the byte that a damage makes -/
def dmg (b : UInt8) (dm : Nat) : UInt8 := UInt8.ofNat (b.toNat + (1 + dm / 256 % 255))
/-- a copy of a file, and where its records may be -/
structure CopyOf (f a : List Oyez.Rec) (e : List Oyez.Place) : Prop where
  good : GoodF a
  len : a.length ≤ f.length + 3
  few : e.length ≤ 3
  at_ : ∀ r ∈ a, r.place ∈ f.map Oyez.Rec.place ∨ r.place ∈ e
theorem CopyOf.mem {f a : List Oyez.Rec} {e : List Oyez.Place} (h : CopyOf f a e) : ∀ p ∈ a.map Oyez.Rec.place, p ∈ f.map Oyez.Rec.place ++ e := fun p hp => by
  obtain ⟨r, hr, rfl⟩ := List.mem_map.1 hp
  exact List.mem_append.2 (h.at_ r hr)
end Ab
namespace Ab
open Go Go.RowKit Go.Proofs
attribute [local irreducible] aws awp aw1 Og Om Oc Oa Ogd Ov Ot awd aw1d awh aw1h Ogh Ohd awl Ogl Ohl awv Ogv Ohv QThen QBlock QFn QFnM QRo QBe ACode AYield
end Ab
namespace Oyez
end Oyez
namespace Ab
open Go Go.RowKit Go.Proofs
attribute [local irreducible] aws awp aw1 Og Om Oc Oa Ogd Ov Ot awd aw1d awh aw1h Ogh Ohd awl Ogl Ohl awv Ogv Ohv QThen QBlock QFn QFnM QRo QBe ACode AYield
/-! ### places -/
def placesAV (l : List Oyez.Place) : AV := .pl 2 (l.map placeAV)
attribute [simp] placesAV
def idxP (l : List Oyez.Place) (p : Oyez.Place) : Int := if p ∈ l then (l.idxOf p : Nat) else -1
end Ab

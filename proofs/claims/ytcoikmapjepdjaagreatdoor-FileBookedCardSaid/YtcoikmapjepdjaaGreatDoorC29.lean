/-
  THE REFERENCE: are two places alike; two copies joined.
  THE REFERENCE: two copies joined.
  THE BELL: strokes, words, and the file that is made of numbers.
  THE FILE THAT IS MADE OF NUMBERS.
  slices.BinarySearchFunc OVER AN OWN ROW OF RECORDS; a record put at its place in an own row.
  THE FILES THAT ARE MADE OF NUMBERS: of up to 20 records, and of up to 15; their words.
  A COPY THAT WENT ITS OWN WAY (the statements' Copied).
  PLAIN LAWS: changes.
  PLAIN LAWS: what is joined, place by place; changes that are differences; what a file has at a place, as a text.
  WHAT THE LAWS OF DRAWN FILES SHARE: files that are right, the places that copies of a file can have.
-/
import Derived.Test.YtcoikmapjepdjaaGreatDoorC22
import Derived.Test.YtcoikmapjepdjaaGreatDoorC12
import Derived.Test.YtcoikmapjepdjaaGreatDoorC26
import Derived.Test.YtcoikmapjepdjaaGreatDoorC14
import Derived.Test.YtcoikmapjepdjaaGreatDoorC27
import Derived.Test.YtcoikmapjepdjaaGreatDoorC28
set_option linter.unusedSimpArgs false
set_option linter.unusedVariables false
set_option linter.unusedSectionVars false
namespace Oyez
/-- the places ahead of one -/
def upTo (k n : Nat) : List Place := allPlaces.take (1000 * k + n)
/-- the join of the places ahead of one -/
def joinTo (base a b : List Rec) (second : List Bool) (k n : Nat) : Jn := (upTo k n).foldl (joinAt base a b second) ⟨[], []⟩
end Oyez
namespace Ab
open Go Go.RowKit Go.Proofs
attribute [local irreducible] aws awp aw1 Og Om Oc Oa Ogd Ov Ot awd aw1d QThen QBlock QFn QFnM ACode AYield
/-- a change -/
def chgAV (c : Oyez.Chg) : AV := .agg [.int .i64 c.kind, .int .i64 c.number, .bool c.had, .bool c.has, wordsAV c.old, wordsAV c.new]
def chgsAV (l : List Oyez.Chg) : AV := .pl 6 (l.map chgAV)
attribute [simp] chgAV chgsAV
end Ab
namespace Oyez
def putJ (J : Jn) (p : Place) (w : St) : Jn := ⟨match w with | some ws => J.out ++ [⟨p.kind, p.number, ws⟩] | none => J.out, J.conf⟩
/-- what a conflict has -/
def pickJ (second : List Bool) (i : Nat) (x y z : St) : St := match second[i]? with | none => x | some c => if c then z else y
def stepJ (x y z : St) (second : List Bool) (p : Place) (J : Jn) : Jn :=
  if y = z ∨ z = x then putJ J p y else if y = x then putJ J p z else putJ ⟨J.out, J.conf ++ [chg p y z]⟩ p (pickJ second J.conf.length x y z)
end Oyez
namespace Ab
open Go Go.RowKit Go.Proofs
attribute [local irreducible] aws awp aw1 Og Om Oc Oa Ogd Ov Ot awd aw1d QThen QBlock QFn QFnM ACode AYield
def chgCells (c : Oyez.Chg) : List AV := [.int .i64 c.kind, .int .i64 c.number, .bool c.had, .bool c.has, wordsAV c.old, wordsAV c.new]
structure JS (σ : Heap) (J : Oyez.Jn) (v1 v2 : AV) (g : Heap) : Prop where
  ex : ∃ o1 o2, Acc σ g 3 v1 (J.out.map recAV) o1 ∧ Acc σ g 6 v2 (J.conf.map chgAV) o2 ∧ ∀ j, o1 = some j → o2 = some j → False
theorem Acc.lt {σ g : Heap} {k : Nat} {v : AV} {l : List AV} {j : Nat} (h : Acc σ g k v l (some j)) : j < g.length := (List.getElem?_eq_some_iff.1 h.val.2).1
theorem Acc.keep {σ g g' : Heap} {k : Nat} {v : AV} {l : List AV} {o : Option Nat} (h : Acc σ g k v l o) (hk : ∀ j, o = some j → g'[j]? = g[j]?) : Acc σ g' k v l o := ⟨h.len, by
  have hv := h.val
  cases o with
  | none => exact hv
  | some j => exact ⟨hv.1, by rw [hk j rfl]; exact hv.2⟩⟩
end Ab
namespace Ab
open Go Go.RowKit Go.Proofs
attribute [local irreducible] aws awp aw1 Og Om Oc Oa Ogd Ov Ot awd aw1d awh aw1h Ogh Ohd awl Ogl Ohl awv Ogv Ohv QThen QBlock QFn QFnM QRo QBe ACode AYield
/-- a number from 0 up to m -/
def Drew (l : List UInt8) (d : Nat) (σ : Heap) (m : Int) (v : AV) (σ' : Heap) : Prop := ∃ (n : Int) (a' : Nat) (c' : Int), v = .int .i64 n ∧ 0 ≤ n ∧ n ≤ m ∧ a' ≤ l.length ∧ σ' = σ.set d (bellObj l a' c')
theorem stroke_calls (σ : Heap) (d : Nat) (l : List UInt8) (a : Nat) (c m : Int) (h : σ[d]? = some (bellObj l a c)) (ha : a ≤ l.length) (hl : l.length ≤ 9223372036854775807) (hm : 0 ≤ m) (hm2 : m ≤ 2 ^ 40) :
    ACalls Tryz.prog 50 [.ptr d 0, .int .i64 m] σ (Drew l d σ m) := by
  refine acalls_fn Tryz.func50 rfl (enters_fn Tryz.func50 (by decide) rfl) ?_
  simp [Tryz.ntmps50]
  refine StA.of ((ring_calls σ d l a c h ha hl).mono ?_)
  rintro v σ' ⟨n, a', c', rfl, h0, h1, ha', rfl⟩
  have hx := w64 (n := m + 1) (by omega) (by omega)
  have hne : ¬ m + 1 = 0 := by omega
  have hif : (if 1 < m + 1 then m + 1 else 1) = m + 1 := by split <;> omega
  simp [hx, hne]
  rw [hif, if_neg hne]
  simp only [Option.map_some, Om_some]
  have h3 := Int.tmod_lt_of_pos n (show 0 < m + 1 by omega)
  exact ⟨_, a', c', rfl, Int.tmod_nonneg _ h0, by omega, ha', rfl⟩
/-- the words that are drawn -/
def wordL : List (List UInt8) := [[116, 105, 100, 101], [115, 116, 111, 114, 109], [113, 117, 97, 121], [112, 117, 114, 115, 101, 55], [98, 101, 108, 108], [97], [48], [108, 111, 97, 102, 52]]
theorem bell_hold {σ : Heap} {d : Nat} {l : List UInt8} {a : Nat} {c : Int} {n : Nat} {S : Heap} (hd : d < σ.length) : ∀ (r : Nat) (o : AObj), (σ.set d (bellObj l a c))[r]? = some o → σ[r]? = some o ∨ ∃ cs, o = .cells cs ∧ ∀ y ∈ cs, Fz n S y y := by
  intro r o h
  rw [List.getElem?_set] at h
  split at h
  · obtain rfl := Option.some.inj h
    refine .inr ⟨_, rfl, fun y hy => ?_⟩
    simp at hy
    rcases hy with rfl | rfl | rfl
    · refine .pl 1 _ fun i x hx j y hy => ?_
      unfold bytesL at hx
      rw [List.getElem?_map, Option.map_eq_some_iff] at hx
      obtain ⟨b, _, rfl⟩ := hx
      match j, hy with
      | 0, hy => simp [AV.cells] at hy; subst hy; exact .int _ _
      | j + 1, hy => simp [AV.cells] at hy
    · exact .int _ _
    · exact .int _ _
  · exact .inl h
theorem Acc.set {σ g : Heap} {k : Nat} {v : AV} {l : List AV} {o : Option Nat} (h : Acc σ g k v l o) (d : Nat) (X : AObj) : Acc (σ.set d X) g k v l o := ⟨h.len, by
  have := h.val
  cases o with
  | none => exact this
  | some j => rw [List.length_set]; exact this⟩
theorem Acc.len_eq {σ τ g : Heap} {k : Nat} {v : AV} {l : List AV} {o : Option Nat} (h : Acc σ g k v l o) (e : σ.length = τ.length) : Acc τ g k v l o := ⟨h.len, by
  have := h.val
  cases o with
  | none => exact this
  | some j => rw [← e]; exact this⟩
theorem set_set {σ g : Heap} {d : Nat} (hd : d < σ.length) (X Y : AObj) : (σ.set d X ++ g).set d Y = σ.set d Y ++ g := by
  rw [List.set_append_left _ _ (by simpa using hd), List.set_set]
theorem bell_at {σ g : Heap} {d : Nat} (hd : d < σ.length) (X : AObj) : (σ.set d X ++ g)[d]? = some X := by
  rw [List.getElem?_append_left (by simpa using hd)]; simp [hd]
end Ab
namespace Oyez
theorem checkFrom_app {r : Rec} (hr : recErr r = 0) : ∀ (f : List Rec) (p : Option Place), checkFrom p f = 0 → (∀ q, p = some q → q.lt r.place = true) → (∀ q ∈ f, q.place.lt r.place = true) → checkFrom p (f ++ [r]) = 0 := by
  intro f
  induction f with
  | nil =>
    intro p _ hp _
    rw [List.nil_append, checkFrom, if_neg (by simpa using hr), if_neg]
    · rfl
    · cases p with
      | none => simp
      | some q => simp [hp q rfl]
  | cons x t ih =>
    intro p h hp hq
    rw [checkFrom] at h
    rw [List.cons_append, checkFrom]
    split at h
    · rename_i h1; exact absurd h h1
    · rename_i h1
      rw [if_neg h1]
      split at h
      · cases h
      · rename_i h2
        rw [if_neg h2]
        exact ih _ h (fun q e => by rw [← Option.some.inj e]; exact hq x (by simp)) fun q hm => hq q (List.mem_cons_of_mem _ hm)
end Oyez
namespace Ab
open Go Go.RowKit Go.Proofs
attribute [local irreducible] aws awp aw1 Og Om Oc Oa Ogd Ov Ot awd aw1d awh aw1h Ogh Ohd awl Ogl Ohl awv Ogv Ohv QThen QBlock QFn QFnM QRo QBe ACode AYield
theorem hang_calls (σ : Heap) (x : AV) (hx : x.one = true) : ACalls Tryz.prog 8 [x] σ (fun v σ' => v = .ptr σ.length 0 ∧ σ' = σ ++ [.cells [x, .int .i64 0, .int .u32 0]]) := by
  refine acalls_fn Tryz.func8 rfl (enters_fn Tryz.func8 (by decide) rfl) ?_
  cases x <;> first | (simp [AV.one] at hx; done) | simp [Tryz.ntmps8]
end Ab
namespace Ab
open Go Go.RowKit Go.Proofs
attribute [local irreducible] aws awp aw1 Og Om Oc Oa Ogd Ov Ot awd aw1d awh aw1h Ogh Ohd awl Ogl Ohl awv Ogv Ohv QThen QBlock QFn QFnM QRo QBe ACode AYield
theorem cellsR_append (l m : List Oyez.Rec) : cellsR (l ++ m) = cellsR l ++ cellsR m := by unfold cellsR; rw [List.flatMap_append]
theorem cellsR_take (l : List Oyez.Rec) (i : Nat) (h : i ≤ l.length) : (cellsR l).take (i * 3) = cellsR (l.take i) ∧ (cellsR l).drop (i * 3) = cellsR (l.drop i) := by
  have e : cellsR l = cellsR (l.take i) ++ cellsR (l.drop i) := by rw [← cellsR_append, List.take_append_drop]
  have h1 : (cellsR (l.take i)).length = i * 3 := by rw [cellsR_len, List.length_take]; omega
  rw [e, ← h1]
  exact ⟨List.take_left, List.drop_left⟩
/-- a record at a place of a list -/
def insAt (l : List Oyez.Rec) (t : Oyez.Rec) (i : Nat) : List Oyez.Rec := l.take i ++ t :: l.drop i
theorem insC_cells (l : List Oyez.Rec) (t : Oyez.Rec) (i : Nat) (h : i ≤ l.length) : insC (cellsR l) (recCells t) i = cellsR (insAt l t i) := by
  obtain ⟨h1, h2⟩ := cellsR_take l i h
  unfold insC insAt
  rw [h1, h2, cellsR_append]
  show _ = _ ++ (recCells t ++ cellsR (l.drop i))
  rw [List.append_assoc]
/-- it is the place of a record -/
structure PlaceAt (l : List Oyez.Rec) (t : Oyez.Rec) (i : Nat) : Prop where
  le : i ≤ l.length
  lo : ∀ (m : Nat) (h : m < l.length), m < i → l[m].place.lt t.place = true
  hi : ∀ (m : Nat) (h : m < l.length), i ≤ m → l[m].place.lt t.place = false
theorem PlaceAt.found {l : List Oyez.Rec} {t : Oyez.Rec} {i : Nat} (hs : Oyez.RSorted l) (h : PlaceAt l t i) : t.place ∈ l.map Oyez.Rec.place ↔ ∃ hi : i < l.length, l[i].place = t.place := by
  constructor
  · intro hm
    obtain ⟨x, hx, e⟩ := List.mem_map.1 hm
    obtain ⟨m, hml, rfl⟩ := List.mem_iff_getElem.1 hx
    have h1 : i ≤ m := by
      rcases Nat.lt_or_ge m i with h2 | h2
      · have := h.lo m hml h2
        rw [e, Oyez.Place.lt_irrefl] at this
        cases this
      · exact h2
    rcases Nat.lt_or_ge i m with h2 | h2
    · have h3 := h.hi i (by omega) (Nat.le_refl _)
      unfold Oyez.RSorted Oyez.Sorted at hs
      rw [List.pairwise_map] at hs
      have := List.pairwise_iff_getElem.1 hs i m (by omega) hml h2
      rw [e, h3] at this
      cases this
    · obtain rfl : m = i := by omega
      exact ⟨hml, e⟩
  · rintro ⟨hi, e⟩
    exact e ▸ List.mem_map_of_mem (List.getElem_mem hi)
theorem PlaceAt.sorted {l : List Oyez.Rec} {t : Oyez.Rec} {i : Nat} (hs : Oyez.RSorted l) (h : PlaceAt l t i) (hn : t.place ∉ l.map Oyez.Rec.place) : Oyez.RSorted (insAt l t i) := by
  unfold Oyez.RSorted Oyez.Sorted insAt at *
  rw [List.pairwise_map] at hs ⊢
  have e : l = l.take i ++ l.drop i := (List.take_append_drop i l).symm
  rw [e, List.pairwise_append] at hs
  obtain ⟨s1, s2, s3⟩ := hs
  have low : ∀ x ∈ l.take i, x.place.lt t.place = true := fun x hx => by
    obtain ⟨m, hm, rfl⟩ := List.mem_iff_getElem.1 hx
    rw [List.length_take] at hm
    rw [List.getElem_take]
    exact h.lo m (by omega) (by omega)
  have high : ∀ x ∈ l.drop i, t.place.lt x.place = true := fun x hx => by
    have hxl : x ∈ l := List.mem_of_mem_drop hx
    obtain ⟨m, hm, rfl⟩ := List.mem_iff_getElem.1 hx
    rw [List.length_drop] at hm
    have h1 := h.hi (i + m) (by omega) (by omega)
    rw [List.getElem_drop] at hxl ⊢
    cases h2 : t.place.lt l[i + m].place with
    | true => rfl
    | false => exact absurd (Oyez.Place.lt_tri h1 h2 ▸ List.mem_map_of_mem hxl) hn
  refine List.pairwise_append.2 ⟨s1, List.pairwise_cons.2 ⟨high, s2⟩, fun x hx y hy => ?_⟩
  rcases List.mem_cons.1 hy with rfl | hy
  · exact low x hx
  · exact s3 x hx y hy
theorem InsQ.acc {τ g : Heap} {l : List Oyez.Rec} {t : Oyez.Rec} {i j : Nat} {v : AV} {σ' : Heap} (h : InsQ (τ ++ g) (τ.length + j) l.length i (cellsR l) (recCells t) v σ') (hi : i ≤ l.length) :
    ∃ g' j', σ' = τ ++ g' ∧ Acc τ g' 3 v ((insAt l t i).map recAV) (some j') := by
  obtain ⟨r', rfl, h1, h2, h3, h4⟩ := h
  rw [List.length_append] at h2
  have ht : σ'.take τ.length = τ := by
    apply List.ext_getElem?
    intro k
    rcases Nat.lt_or_ge k τ.length with hk | hk
    · rw [List.getElem?_take_of_lt hk, h4 k (by omega) (by rw [List.length_append]; omega), List.getElem?_append_left hk]
    · rw [List.getElem?_eq_none (by rw [List.length_take]; omega), List.getElem?_eq_none hk]
  have hr' : τ.length ≤ r' := by
    rcases h3 with h3 | h3
    · omega
    · rw [List.length_append] at h3; omega
  have hl : (insAt l t i).length = l.length + 1 := by
    unfold insAt
    rw [List.length_append, List.length_cons, List.length_take, List.length_drop]
    omega
  refine ⟨σ'.drop τ.length, r' - τ.length, ?_, ⟨fun x hx => ?_, ?_, ?_⟩⟩
  · conv => lhs; rw [← List.take_append_drop τ.length σ', ht]
  · obtain ⟨r, _, rfl⟩ := List.mem_map.1 hx
    exact ⟨rfl, by simp [AV.cells, AV.one]⟩
  · rw [List.length_map, hl, show τ.length + (r' - τ.length) = r' by omega]
  · rw [List.getElem?_drop, show τ.length + (r' - τ.length) = r' by omega, h1, insC_cells l t i hi, cellsR_map]
end Ab
namespace Ab
open Go Go.RowKit Go.Proofs
attribute [local irreducible] aws awp aw1 Og Om Oc Oa Ogd Ov Ot awd aw1d awh aw1h Ogh Ohd awl Ogl Ohl awv Ogv Ohv QThen QBlock QFn QFnM QRo QBe ACode AYield
end Ab
namespace Ab
open Go Go.RowKit Go.Proofs
attribute [local irreducible] aws awp aw1 Og Om Oc Oa Ogd Ov Ot awd aw1d awh aw1h Ogh Ohd awl Ogl Ohl awv Ogv Ohv QThen QBlock QFn QFnM QRo QBe ACode AYield
/-- records as they are drawn -/
structure GoodF (f : List Oyez.Rec) : Prop where
  recs : ∀ r ∈ f, Oyez.recErr r = 0
  sorted : Oyez.RSorted f
  words : ∀ r ∈ f, ∀ w ∈ r.words, w ∈ wordL
theorem GoodF.nil : GoodF [] := ⟨by simp, by simp [Oyez.RSorted, Oyez.Sorted], by simp⟩
end Ab
namespace Oyez
structure RightC (l : List Chg) : Prop where
  len : l.length ≤ 80
  each : ∀ c ∈ l, chgErr c = 0
  sorted : Sorted (l.map Chg.place)
theorem chgErr_zero {c : Chg} (h : chgErr c = 0) : c.place ∈ allPlaces ∧ wordsErr c.kind c.number c.old = 0 ∧ wordsErr c.kind c.number c.new = 0 ∧ (c.had = false → c.old = []) ∧ (c.has = false → c.new = []) ∧ c.was ≠ c.now := by
  unfold chgErr at h
  split at h
  · rename_i h1; exact absurd h h1
  · rename_i h1
    split at h
    · rename_i h2; exact absurd h h2
    · rename_i h2
      split at h
      · rename_i h3; exact absurd h h3
      · rename_i h3
        split at h
        · cases h
        · rename_i h4
          simp only [Bool.or_eq_true, Bool.and_eq_true, not_or, not_and, beq_iff_eq, decide_eq_true_eq, Bool.not_eq_true', List.isEmpty_iff, Bool.not_eq_true, Bool.not_eq_false'] at h4
          obtain ⟨⟨h5, h6⟩, h7⟩ := h4
          have h5' : c.had = false → c.old = [] := fun e => by simpa using h5 e
          have h6' : c.has = false → c.new = [] := fun e => by simpa using h6 e
          refine ⟨placeErr_zero (by simpa using h1), by simpa using h2, by simpa using h3, h5', h6', ?_⟩
          unfold Chg.was Chg.now
          cases h8 : c.had <;> cases h9 : c.has
          · exact absurd (by rw [h5' h8, h6' h9]) (h7 (by rw [h8, h9]))
          · simp
          · simp
          · simpa using h7 (by rw [h8, h9])
theorem RightC.range {l : List Chg} (h : RightC l) : ∀ c ∈ l, c.place ∈ allPlaces := fun c hc => (chgErr_zero (h.each c hc)).1
/-! ### make -/
def stL (l : List Chg) (p : Place) (s : St) : St := l.foldl (fun s c => if c.place = p then c.now else s) s
/-! ### after -/
end Oyez
namespace Oyez
/-! ### what a file has, as a text -/
def hasS : St → S
  | none => []
  | some ws => 32 :: glueW ws
def WordSt (x : St) : Prop := ∀ ws, x = some ws → ∀ w ∈ ws, word w = true
/-! ### joins, place by place -/
def clashAt (x y z : St) : Bool := decide (¬ y = z ∧ ¬ y = x ∧ ¬ z = x)
def confAt (base a b : List Rec) (p : Place) : Bool := clashAt (getIn base p) (getIn a p) (getIn b p)
def joinV (base a b : List Rec) (s : List Bool) (i : Nat) (p : Place) : St :=
  if getIn a p = getIn b p ∨ getIn b p = getIn base p then getIn a p else if getIn a p = getIn base p then getIn b p else pickJ s i (getIn base p) (getIn a p) (getIn b p)
def joinPl (base a b : List Rec) : List Place := placesOf ((base ++ a ++ b).map Rec.place)
/-- the places of the conflicts -/
def confsOf (base a b : List Rec) : List Place := (joinPl base a b).filter (confAt base a b)
/-! ### changes that are differences -/
def diffPl (f g : List Rec) : List Place := placesOf ((f ++ g).map Rec.place)
/-! ### what the other copy changed; changes that are made -/
end Oyez
namespace Ab
open Go Go.RowKit Go.Proofs
theorem right_fewF {f : List Oyez.Rec} (h : Oyez.check f = 0) : Few f ∧ f.length ≤ 40 ∧ (Oyez.print f).length ≤ 2600 ∧ ∀ r ∈ f, r.words.length ≤ 2 ^ 40 := by
  have hr := Oyez.check_zero h
  have hl := hr.len
  have hp := print_len hr.recs
  have key : ∀ r ∈ f, tot1 r.words ≤ 64 ∧ r.words.length ≤ 6 := fun r hm => by
    obtain ⟨_, h2⟩ := (Oyez.recErr_iff r).1 (hr.recs r hm)
    obtain ⟨h3, h4, h5⟩ := Oyez.wordsErr_zero h2
    refine ⟨?_, h3⟩
    unfold Oyez.line at h5
    rw [List.length_append, flat_len32] at h5
    omega
  exact ⟨fun r hm => ⟨by have := (key r hm).1; omega, by have := (key r hm).2; omega⟩, hl, by omega, fun r hm => by have := (key r hm).2; omega⟩
theorem GoodF.right {f : List Oyez.Rec} (h : GoodF f) (hl : f.length ≤ 40) : Oyez.Right f := ⟨hl, h.recs, h.sorted⟩
/-- the byte that a damage makes -/
def dmg (b : UInt8) (dm : Nat) : UInt8 := UInt8.ofNat (b.toNat + (1 + dm / 256 % 255))
/-- a copy of a file, and where its records may be -/
structure CopyOf (f a : List Oyez.Rec) (e : List Oyez.Place) : Prop where
  good : GoodF a
  len : a.length ≤ f.length + 3
  few : e.length ≤ 3
  at_ : ∀ r ∈ a, r.place ∈ f.map Oyez.Rec.place ∨ r.place ∈ e
theorem CopyOf.mem {f a : List Oyez.Rec} {e : List Oyez.Place} (h : CopyOf f a e) : ∀ p ∈ a.map Oyez.Rec.place, p ∈ f.map Oyez.Rec.place ++ e := fun p hp => by
  obtain ⟨r, hr, rfl⟩ := List.mem_map.1 hp
  exact List.mem_append.2 (h.at_ r hr)
end Ab

/-
  PLAIN LAWS: files, what they have at a place, what becomes of them.
  PLAIN LAWS: places that are sorted, each once; which conflicts there are does not depend on the choices.
  PLAIN LAWS: changes.
-/
import Derived.Test.YtcoikmapjepdjaaGreatDoorA15
set_option linter.unusedSimpArgs false
set_option linter.unusedVariables false
set_option linter.unusedSectionVars false
namespace Oyez
/-! ### what a file has at a place -/
theorem getIn_cons (r : Rec) (f : List Rec) (p : Place) : getIn (r :: f) p = if r.place = p then some r.words else getIn f p := by
  unfold getIn
  rw [List.find?_cons]
  by_cases h : r.place = p <;> simp [h]
theorem getIn_none {f : List Rec} {p : Place} (h : p ∉ f.map Rec.place) : getIn f p = none := by
  induction f with
  | nil => rfl
  | cons r t ih =>
    simp only [List.map_cons, List.mem_cons, not_or] at h
    rw [getIn_cons, if_neg (Ne.symm h.1), ih h.2]
/-- in their order, each place once -/
def RSorted (f : List Rec) : Prop := Sorted (f.map Rec.place)
def InRange (f : List Rec) : Prop := ∀ r ∈ f, r.place ∈ allPlaces
theorem checkFrom_zero {p : Option Place} {f : List Rec} (h : checkFrom p f = 0) : (∀ r ∈ f, recErr r = 0) ∧ RSorted f ∧ ∀ q, p = some q → ∀ r ∈ f, q.lt r.place = true := by
  induction f generalizing p with
  | nil => simp [RSorted, Sorted]
  | cons r t ih =>
    simp only [checkFrom] at h
    split at h
    · rename_i h1; exact absurd h h1
    · rename_i h1
      split at h
      · cases h
      · rename_i h2
        obtain ⟨g1, g2, g3⟩ := ih h
        have hp : ∀ q, p = some q → q.lt r.place = true := fun q hq => by rw [hq] at h2; simpa using h2
        refine ⟨?_, ?_, fun q hq x hx => ?_⟩
        · intro x hx
          rcases List.mem_cons.1 hx with rfl | hx
          · simpa using h1
          · exact g1 x hx
        · refine List.pairwise_cons.2 ⟨fun y hy => ?_, g2⟩
          obtain ⟨x, hx, rfl⟩ := List.mem_map.1 hy
          exact g3 _ rfl x hx
        · rcases List.mem_cons.1 hx with rfl | hx
          · exact hp q hq
          · exact Place.lt_trans (hp q hq) (g3 _ rfl x hx)
theorem placeErr_zero {k n : Int} (h : placeErr k n = 0) : (⟨k, n⟩ : Place) ∈ allPlaces := by
  unfold placeErr at h
  rw [mem_allPlaces]
  split at h
  · cases h
  · split at h
    · cases h
    · show (0 ≤ k ∧ k < 5) ∧ 0 ≤ n ∧ n < 1000
      omega
theorem recErr_place {r : Rec} (h : recErr r = 0) : placeErr r.kind r.number = 0 ∧ wordsErr r.kind r.number r.words = 0 := by
  unfold recErr oneErr at h
  split at h
  · rename_i h1; exact absurd h h1
  · rename_i h1; exact ⟨by simpa using h1, h⟩
structure Right (f : List Rec) : Prop where
  len : f.length ≤ 40
  recs : ∀ r ∈ f, recErr r = 0
  sorted : RSorted f
theorem Right.range {f : List Rec} (h : Right f) : InRange f := fun r hr => placeErr_zero (recErr_place (h.recs r hr)).1
theorem check_zero {f : List Rec} (h : check f = 0) : Right f := by
  unfold check at h
  split at h
  · cases h
  · obtain ⟨h1, h2, _⟩ := checkFrom_zero h
    exact ⟨by omega, h1, h2⟩
/-- what a place's record is -/
def recAt (F : Place → St) (p : Place) : Option Rec := (F p).map fun ws => ⟨p.kind, p.number, ws⟩
/-! ### a record is dropped, or put -/
/-- as the reference puts a record -/
def putL (r : Rec) : Bool → List Rec → List Rec
  | done, [] => if done then [] else [r]
  | done, q :: t =>
    (if !done && !q.place.lt r.place then [r] else []) ++ (if q.place = r.place then [] else [q]) ++ putL r (done || !q.place.lt r.place) t
/-! ### differences and joins -/
theorem diff_eq {a b : List Rec} (ha : InRange a) (hb : InRange b) : allPlaces.filterMap (diffAt a b) = diff a b := by
  refine filterMap_places _ (placesOf_sorted _) (fun p hp => ?_) (fun p hp => ?_)
  · rw [mem_placesOf] at hp
    obtain ⟨r, hr, rfl⟩ := List.mem_map.1 hp
    rcases List.mem_append.1 hr with h | h
    · exact ha r h
    · exact hb r h
  · rw [mem_placesOf, List.map_append, List.mem_append, not_or] at hp
    unfold diffAt
    rw [getIn_none hp.1, getIn_none hp.2, if_pos rfl]
end Oyez
namespace Oyez
/-- of elements that follow each other and are the same, one -/
def dd (l : List Place) : List Place := l.foldl (fun a q => if a.getLast? = some q then a else a ++ [q]) []
theorem dd_snoc (l : List Place) (q : Place) : dd (l ++ [q]) = if (dd l).getLast? = some q then dd l else dd l ++ [q] := by
  unfold dd
  rw [List.foldl_append]
  rfl
theorem dd_spec (l : List Place) (h : l.Pairwise fun p q => q.lt p = false) : Sorted (dd l) ∧ (∀ q, q ∈ dd l ↔ q ∈ l) ∧ (dd l).getLast? = l.getLast? := by
  suffices hh : ∀ m : List Place, m.reverse.Pairwise (fun p q => q.lt p = false) → Sorted (dd m.reverse) ∧ (∀ q, q ∈ dd m.reverse ↔ q ∈ m.reverse) ∧ (dd m.reverse).getLast? = m.reverse.getLast? by
    have := hh l.reverse (by simpa using h)
    simpa using this
  intro m
  induction m with
  | nil => intro _; exact ⟨List.Pairwise.nil, fun q => by simp [dd], rfl⟩
  | cons q t ih =>
    intro hp
    rw [List.reverse_cons] at hp ⊢
    obtain ⟨h1, _, h2⟩ := List.pairwise_append.1 hp
    obtain ⟨g1, g2, g3⟩ := ih h1
    rw [dd_snoc]
    split
    · rename_i he
      refine ⟨g1, fun x => ?_, by rw [he]; simp⟩
      rw [g2, List.mem_append]
      constructor
      · exact .inl
      · rintro (hx | hx)
        · exact hx
        · rw [List.mem_singleton] at hx
          subst hx
          exact (g2 x).1 (List.mem_of_getLast? he)
    · rename_i he
      refine ⟨?_, fun x => by rw [List.mem_append, List.mem_append, g2], by simp⟩
      refine List.pairwise_append.2 ⟨g1, List.pairwise_singleton _ _, fun x hx y hy => ?_⟩
      rw [List.mem_singleton] at hy
      subst hy
      have hx2 := h2 x ((g2 x).1 hx) y (by simp)
      cases h3 : x.lt y with
      | true => rfl
      | false =>
        exfalso
        have e := Place.lt_tri h3 hx2
        subst e
        cases hl : (dd t.reverse).getLast? with
        | none => rw [List.getLast?_eq_none_iff] at hl; rw [hl] at hx; simp at hx
        | some e =>
          have hne : e ≠ x := fun h => he (by rw [hl, h])
          have hem := List.mem_of_getLast? hl
          have h4 := h2 e ((g2 e).1 hem) x (by simp)
          obtain ⟨i, hi, rfl⟩ := List.getElem_of_mem hx
          rw [List.getLast?_eq_getElem?] at hl
          have hle := (List.getElem?_eq_some_iff.1 hl)
          obtain ⟨hj, rfl⟩ := hle
          have hij : i < (dd t.reverse).length - 1 := by
            rcases Nat.lt_or_ge i ((dd t.reverse).length - 1) with h | h
            · exact h
            · exact absurd (by congr 1; omega) hne
          have := List.pairwise_iff_getElem.1 g1 i _ hi hj hij
          rw [h4] at this
          cases this
theorem dd_places {l l' : List Place} (hp : l'.Perm l) (h : l'.Pairwise fun p q => q.lt p = false) : dd l' = placesOf l := by
  obtain ⟨h1, h2, _⟩ := dd_spec l' h
  exact sorted_eq h1 (placesOf_sorted l) fun q => by rw [h2, mem_placesOf]; exact hp.mem_iff
end Oyez
namespace Oyez
structure RightC (l : List Chg) : Prop where
  len : l.length ≤ 80
  each : ∀ c ∈ l, chgErr c = 0
  sorted : Sorted (l.map Chg.place)
theorem checkChgFrom_zero {p : Option Place} {l : List Chg} (h : checkChgFrom p l = 0) : (∀ c ∈ l, chgErr c = 0) ∧ Sorted (l.map Chg.place) ∧ ∀ q, p = some q → ∀ c ∈ l, q.lt c.place = true := by
  induction l generalizing p with
  | nil => simp [Sorted]
  | cons r t ih =>
    simp only [checkChgFrom] at h
    split at h
    · rename_i h1; exact absurd h h1
    · rename_i h1
      split at h
      · cases h
      · rename_i h2
        obtain ⟨g1, g2, g3⟩ := ih h
        have hp : ∀ q, p = some q → q.lt r.place = true := fun q hq => by rw [hq] at h2; simpa using h2
        refine ⟨?_, ?_, fun q hq x hx => ?_⟩
        · intro x hx
          rcases List.mem_cons.1 hx with rfl | hx
          · simpa using h1
          · exact g1 x hx
        · refine List.pairwise_cons.2 ⟨fun y hy => ?_, g2⟩
          obtain ⟨x, hx, rfl⟩ := List.mem_map.1 hy
          exact g3 _ rfl x hx
        · rcases List.mem_cons.1 hx with rfl | hx
          · exact hp q hq
          · exact Place.lt_trans (hp q hq) (g3 _ rfl x hx)
theorem checkChg_zero {l : List Chg} (h : checkChg l = 0) : RightC l := by
  unfold checkChg at h
  split at h
  · cases h
  · obtain ⟨h1, h2, _⟩ := checkChgFrom_zero h
    exact ⟨by omega, h1, h2⟩
theorem chgErr_zero {c : Chg} (h : chgErr c = 0) : c.place ∈ allPlaces ∧ wordsErr c.kind c.number c.old = 0 ∧ wordsErr c.kind c.number c.new = 0 ∧ (c.had = false → c.old = []) ∧ (c.has = false → c.new = []) ∧ c.was ≠ c.now := by
  unfold chgErr at h
  split at h
  · rename_i h1; exact absurd h h1
  · rename_i h1
    split at h
    · rename_i h2; exact absurd h h2
    · rename_i h2
      split at h
      · rename_i h3; exact absurd h h3
      · rename_i h3
        split at h
        · cases h
        · rename_i h4
          simp only [Bool.or_eq_true, Bool.and_eq_true, not_or, not_and, beq_iff_eq, decide_eq_true_eq, Bool.not_eq_true', List.isEmpty_iff, Bool.not_eq_true, Bool.not_eq_false'] at h4
          obtain ⟨⟨h5, h6⟩, h7⟩ := h4
          have h5' : c.had = false → c.old = [] := fun e => by simpa using h5 e
          have h6' : c.has = false → c.new = [] := fun e => by simpa using h6 e
          refine ⟨placeErr_zero (by simpa using h1), by simpa using h2, by simpa using h3, h5', h6', ?_⟩
          unfold Chg.was Chg.now
          cases h8 : c.had <;> cases h9 : c.has
          · exact absurd (by rw [h5' h8, h6' h9]) (h7 (by rw [h8, h9]))
          · simp
          · simp
          · simpa using h7 (by rw [h8, h9])
theorem RightC.range {l : List Chg} (h : RightC l) : ∀ c ∈ l, c.place ∈ allPlaces := fun c hc => (chgErr_zero (h.each c hc)).1
theorem chg_self {c : Chg} (h : chgErr c = 0) : chg c.place c.was c.now = c := by
  obtain ⟨_, _, _, h1, h2, _⟩ := chgErr_zero h
  obtain ⟨k, n, a, b, o, w⟩ := c
  simp only at h1 h2
  unfold chg Chg.was Chg.now Chg.place
  cases a <;> cases b <;> simp_all

/-! ### make -/
def stL (l : List Chg) (p : Place) (s : St) : St := l.foldl (fun s c => if c.place = p then c.now else s) s
/-! ### after -/
theorem findC_none {l : List Chg} {p : Place} (h : p ∉ l.map Chg.place) : findC l p = none := by
  unfold findC
  rw [List.find?_eq_none]
  intro c hc e
  simp only [decide_eq_true_eq] at e
  exact h (e ▸ List.mem_map_of_mem hc)
theorem afterL_filter (x y : List Chg) (q : Place → Bool) : ∀ (l : List Place), (∀ p ∈ l, q p = false → afterAt x y p = .ok none) → afterL x y l = afterL x y (l.filter q) := by
  intro l
  induction l with
  | nil => intro _; rfl
  | cons p t ih =>
    intro h
    have ht := ih fun y hy => h y (List.mem_cons_of_mem _ hy)
    rw [List.filter_cons]
    cases hp : q p with
    | true => simp only [if_true, afterL, ht]
    | false => simp only [Bool.false_eq_true, if_false, afterL, h p (by simp) hp, ht]
theorem after_eq {x y : List Chg} (hx : ∀ c ∈ x, c.place ∈ allPlaces) (hy : ∀ c ∈ y, c.place ∈ allPlaces) : afterL x y allPlaces = after x y := by
  have hsub : ∀ p ∈ placesOf ((x ++ y).map Chg.place), p ∈ allPlaces := fun p hp => by
    rw [mem_placesOf] at hp
    obtain ⟨r, hr, rfl⟩ := List.mem_map.1 hp
    rcases List.mem_append.1 hr with h | h
    · exact hx r h
    · exact hy r h
  unfold after
  rw [afterL_filter x y (fun p => decide (p ∈ placesOf ((x ++ y).map Chg.place))) allPlaces, ← sub_filter (placesOf_sorted _) allPlaces_sorted hsub]
  intro p _ hp
  rw [decide_eq_false_iff_not, mem_placesOf, List.map_append, List.mem_append, not_or] at hp
  unfold afterAt
  rw [findC_none hp.1, findC_none hp.2]
end Oyez

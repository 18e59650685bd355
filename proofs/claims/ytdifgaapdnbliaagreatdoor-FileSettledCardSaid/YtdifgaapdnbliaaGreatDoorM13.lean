/-
  PLAIN LAWS: files, what they have at a place, what becomes of them.
  PLAIN LAWS: places that are sorted, each once; which conflicts there are does not depend on the choices.
-/
import Derived.Test.YtdifgaapdnbliaaGreatDoorM11
set_option linter.unusedSimpArgs false
set_option linter.unusedVariables false
set_option linter.unusedSectionVars false
namespace Oyez
/-! ### what a file has at a place -/
theorem getIn_nil (p : Place) : getIn [] p = none := rfl
theorem getIn_cons (r : Rec) (f : List Rec) (p : Place) : getIn (r :: f) p = if r.place = p then some r.words else getIn f p := by
  unfold getIn
  rw [List.find?_cons]
  by_cases h : r.place = p <;> simp [h]
theorem getIn_none {f : List Rec} {p : Place} (h : p ∉ f.map Rec.place) : getIn f p = none := by
  induction f with
  | nil => rfl
  | cons r t ih =>
    simp only [List.map_cons, List.mem_cons, not_or] at h
    rw [getIn_cons, if_neg (Ne.symm h.1), ih h.2]
theorem getIn_append (f g : List Rec) (p : Place) : getIn (f ++ g) p = (getIn f p).or (getIn g p) := by
  induction f with
  | nil => simp [getIn_nil]
  | cons r t ih =>
    rw [List.cons_append, getIn_cons, getIn_cons, ih]
    split <;> simp
/-- in their order, each place once -/
def RSorted (f : List Rec) : Prop := Sorted (f.map Rec.place)
def InRange (f : List Rec) : Prop := ∀ r ∈ f, r.place ∈ allPlaces
theorem checkFrom_zero {p : Option Place} {f : List Rec} (h : checkFrom p f = 0) : (∀ r ∈ f, recErr r = 0) ∧ RSorted f ∧ ∀ q, p = some q → ∀ r ∈ f, q.lt r.place = true := by
  induction f generalizing p with
  | nil => simp [RSorted, Sorted]
  | cons r t ih =>
    simp only [checkFrom] at h
    split at h
    · rename_i h1; exact absurd h h1
    · rename_i h1
      split at h
      · cases h
      · rename_i h2
        obtain ⟨g1, g2, g3⟩ := ih h
        have hp : ∀ q, p = some q → q.lt r.place = true := fun q hq => by rw [hq] at h2; simpa using h2
        refine ⟨?_, ?_, fun q hq x hx => ?_⟩
        · intro x hx
          rcases List.mem_cons.1 hx with rfl | hx
          · simpa using h1
          · exact g1 x hx
        · refine List.pairwise_cons.2 ⟨fun y hy => ?_, g2⟩
          obtain ⟨x, hx, rfl⟩ := List.mem_map.1 hy
          exact g3 _ rfl x hx
        · rcases List.mem_cons.1 hx with rfl | hx
          · exact hp q hq
          · exact Place.lt_trans (hp q hq) (g3 _ rfl x hx)
theorem placeErr_zero {k n : Int} (h : placeErr k n = 0) : (⟨k, n⟩ : Place) ∈ allPlaces := by
  unfold placeErr at h
  rw [mem_allPlaces]
  split at h
  · cases h
  · split at h
    · cases h
    · show (0 ≤ k ∧ k < 5) ∧ 0 ≤ n ∧ n < 1000
      omega
theorem recErr_place {r : Rec} (h : recErr r = 0) : placeErr r.kind r.number = 0 ∧ wordsErr r.kind r.number r.words = 0 := by
  unfold recErr oneErr at h
  split at h
  · rename_i h1; exact absurd h h1
  · rename_i h1; exact ⟨by simpa using h1, h⟩
structure Right (f : List Rec) : Prop where
  len : f.length ≤ 40
  recs : ∀ r ∈ f, recErr r = 0
  sorted : RSorted f
theorem Right.range {f : List Rec} (h : Right f) : InRange f := fun r hr => placeErr_zero (recErr_place (h.recs r hr)).1
theorem check_zero {f : List Rec} (h : check f = 0) : Right f := by
  unfold check at h
  split at h
  · cases h
  · obtain ⟨h1, h2, _⟩ := checkFrom_zero h
    exact ⟨by omega, h1, h2⟩
/-- what a place's record is -/
def recAt (F : Place → St) (p : Place) : Option Rec := (F p).map fun ws => ⟨p.kind, p.number, ws⟩
theorem filterMap_sorted : ∀ {ps : List Place} (F : Place → St), Sorted ps → RSorted (ps.filterMap (recAt F)) := by
  intro ps F h
  unfold RSorted
  have : (ps.filterMap (recAt F)).map Rec.place = ps.filter fun p => (F p).isSome := by
    clear h
    induction ps with
    | nil => rfl
    | cons p t ih =>
      rw [List.filterMap_cons, List.filter_cons]
      cases hF : F p with
      | none => simp [recAt, hF, ih]
      | some ws => simp [recAt, hF, ih]; rfl
  rw [this]
  exact h.filter _
theorem getIn_filterMap (F : Place → St) : ∀ {ps : List Place}, Sorted ps → ∀ p, getIn (ps.filterMap (recAt F)) p = if p ∈ ps then F p else none := by
  intro ps
  induction ps with
  | nil => intro _ p; simp [getIn_nil]
  | cons q t ih =>
    intro hs p
    have hq := List.pairwise_cons.1 hs
    rw [List.filterMap_cons]
    cases hF : F q with
    | none =>
      simp only [recAt, hF, Option.map_none]
      rw [ih hq.2]
      by_cases h : p = q
      · subst h
        have : p ∉ t := fun hm => by have := hq.1 p hm; rw [Place.lt_irrefl] at this; cases this
        simp [this, hF]
      · simp [h]
    | some ws =>
      simp only [recAt, hF, Option.map_some]
      rw [getIn_cons, ih hq.2]
      by_cases h : q = p
      · subst h
        rw [if_pos (show (⟨q.kind, q.number, ws⟩ : Rec).place = q from rfl)]; simp [hF]
      · rw [if_neg (by intro e; apply h; rw [← e]; rfl)]
        simp [Ne.symm h]

/-! ### a record is dropped, or put -/
/-- as the reference puts a record -/
def putL (r : Rec) : Bool → List Rec → List Rec
  | done, [] => if done then [] else [r]
  | done, q :: t =>
    (if !done && !q.place.lt r.place then [r] else []) ++ (if q.place = r.place then [] else [q]) ++ putL r (done || !q.place.lt r.place) t
/-! ### differences and joins -/
end Oyez
namespace Oyez
/-- of elements that follow each other and are the same, one -/
def dd (l : List Place) : List Place := l.foldl (fun a q => if a.getLast? = some q then a else a ++ [q]) []
theorem dd_snoc (l : List Place) (q : Place) : dd (l ++ [q]) = if (dd l).getLast? = some q then dd l else dd l ++ [q] := by
  unfold dd
  rw [List.foldl_append]
  rfl
theorem dd_spec (l : List Place) (h : l.Pairwise fun p q => q.lt p = false) : Sorted (dd l) ∧ (∀ q, q ∈ dd l ↔ q ∈ l) ∧ (dd l).getLast? = l.getLast? := by
  suffices hh : ∀ m : List Place, m.reverse.Pairwise (fun p q => q.lt p = false) → Sorted (dd m.reverse) ∧ (∀ q, q ∈ dd m.reverse ↔ q ∈ m.reverse) ∧ (dd m.reverse).getLast? = m.reverse.getLast? by
    have := hh l.reverse (by simpa using h)
    simpa using this
  intro m
  induction m with
  | nil => intro _; exact ⟨List.Pairwise.nil, fun q => by simp [dd], rfl⟩
  | cons q t ih =>
    intro hp
    rw [List.reverse_cons] at hp ⊢
    obtain ⟨h1, _, h2⟩ := List.pairwise_append.1 hp
    obtain ⟨g1, g2, g3⟩ := ih h1
    rw [dd_snoc]
    split
    · rename_i he
      refine ⟨g1, fun x => ?_, by rw [he]; simp⟩
      rw [g2, List.mem_append]
      constructor
      · exact .inl
      · rintro (hx | hx)
        · exact hx
        · rw [List.mem_singleton] at hx
          subst hx
          exact (g2 x).1 (List.mem_of_getLast? he)
    · rename_i he
      refine ⟨?_, fun x => by rw [List.mem_append, List.mem_append, g2], by simp⟩
      refine List.pairwise_append.2 ⟨g1, List.pairwise_singleton _ _, fun x hx y hy => ?_⟩
      rw [List.mem_singleton] at hy
      subst hy
      have hx2 := h2 x ((g2 x).1 hx) y (by simp)
      cases h3 : x.lt y with
      | true => rfl
      | false =>
        exfalso
        have e := Place.lt_tri h3 hx2
        subst e
        cases hl : (dd t.reverse).getLast? with
        | none => rw [List.getLast?_eq_none_iff] at hl; rw [hl] at hx; simp at hx
        | some e =>
          have hne : e ≠ x := fun h => he (by rw [hl, h])
          have hem := List.mem_of_getLast? hl
          have h4 := h2 e ((g2 e).1 hem) x (by simp)
          obtain ⟨i, hi, rfl⟩ := List.getElem_of_mem hx
          rw [List.getLast?_eq_getElem?] at hl
          have hle := (List.getElem?_eq_some_iff.1 hl)
          obtain ⟨hj, rfl⟩ := hle
          have hij : i < (dd t.reverse).length - 1 := by
            rcases Nat.lt_or_ge i ((dd t.reverse).length - 1) with h | h
            · exact h
            · exact absurd (by congr 1; omega) hne
          have := List.pairwise_iff_getElem.1 g1 i _ hi hj hij
          rw [h4] at this
          cases this
theorem dd_places {l l' : List Place} (hp : l'.Perm l) (h : l'.Pairwise fun p q => q.lt p = false) : dd l' = placesOf l := by
  obtain ⟨h1, h2, _⟩ := dd_spec l' h
  exact sorted_eq h1 (placesOf_sorted l) fun q => by rw [h2, mem_placesOf]; exact hp.mem_iff
/-- a step's conflicts -/
theorem joinAt_conf (base a b : List Rec) (s1 s2 : List Bool) (x y : Jn) (p : Place) (h : x.conf = y.conf) : (joinAt base a b s1 x p).conf = (joinAt base a b s2 y p).conf := by
  unfold joinAt
  simp only
  split
  · exact h
  · split
    · exact h
    · simp only [h]
theorem join_conf (base a b : List Rec) (s1 s2 : List Bool) : (join base a b s1).conf = (join base a b s2).conf := by
  unfold join
  suffices hh : ∀ (l : List Place) (x y : Jn), x.conf = y.conf → (l.foldl (joinAt base a b s1) x).conf = (l.foldl (joinAt base a b s2) y).conf from hh _ _ _ rfl
  intro l
  induction l with
  | nil => intro x y h; exact h
  | cons p t ih => intro x y h; exact ih _ _ (joinAt_conf base a b s1 s2 x y p h)
theorem joinAt_len (base a b : List Rec) (s : List Bool) (x : Jn) (p : Place) : (joinAt base a b s x p).out.length ≤ x.out.length + 1 ∧ (joinAt base a b s x p).conf.length ≤ x.conf.length + 1 := by
  unfold joinAt
  simp only
  have hput : ∀ w : St, (match w with | some ws => x.out ++ [(⟨p.kind, p.number, ws⟩ : Rec)] | none => x.out).length ≤ x.out.length + 1 := by
    intro w
    cases w <;> simp
  split
  · exact ⟨hput _, by simp⟩
  · split
    · exact ⟨hput _, by simp⟩
    · exact ⟨hput _, by simp⟩
end Oyez

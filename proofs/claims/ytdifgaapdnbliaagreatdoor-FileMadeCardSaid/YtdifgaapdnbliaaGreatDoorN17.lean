/-
  PLAIN LAWS: files, what they have at a place, what becomes of them.
  PLAIN LAWS: places that are sorted, each once; which conflicts there are does not depend on the choices.
  PLAIN LAWS: changes.
-/
import Derived.Test.YtdifgaapdnbliaaGreatDoorN08
set_option linter.unusedSimpArgs false
set_option linter.unusedVariables false
set_option linter.unusedSectionVars false
namespace Oyez
/-! ### what a file has at a place -/
theorem getIn_nil (p : Place) : getIn [] p = none := rfl
theorem getIn_cons (r : Rec) (f : List Rec) (p : Place) : getIn (r :: f) p = if r.place = p then some r.words else getIn f p := by
  unfold getIn
  rw [List.find?_cons]
  by_cases h : r.place = p <;> simp [h]
theorem getIn_none {f : List Rec} {p : Place} (h : p ∉ f.map Rec.place) : getIn f p = none := by
  induction f with
  | nil => rfl
  | cons r t ih =>
    simp only [List.map_cons, List.mem_cons, not_or] at h
    rw [getIn_cons, if_neg (Ne.symm h.1), ih h.2]
theorem getIn_append (f g : List Rec) (p : Place) : getIn (f ++ g) p = (getIn f p).or (getIn g p) := by
  induction f with
  | nil => simp [getIn_nil]
  | cons r t ih =>
    rw [List.cons_append, getIn_cons, getIn_cons, ih]
    split <;> simp
/-- in their order, each place once -/
def RSorted (f : List Rec) : Prop := Sorted (f.map Rec.place)
def InRange (f : List Rec) : Prop := ∀ r ∈ f, r.place ∈ allPlaces
theorem checkFrom_zero {p : Option Place} {f : List Rec} (h : checkFrom p f = 0) : (∀ r ∈ f, recErr r = 0) ∧ RSorted f ∧ ∀ q, p = some q → ∀ r ∈ f, q.lt r.place = true := by
  induction f generalizing p with
  | nil => simp [RSorted, Sorted]
  | cons r t ih =>
    simp only [checkFrom] at h
    split at h
    · rename_i h1; exact absurd h h1
    · rename_i h1
      split at h
      · cases h
      · rename_i h2
        obtain ⟨g1, g2, g3⟩ := ih h
        have hp : ∀ q, p = some q → q.lt r.place = true := fun q hq => by rw [hq] at h2; simpa using h2
        refine ⟨?_, ?_, fun q hq x hx => ?_⟩
        · intro x hx
          rcases List.mem_cons.1 hx with rfl | hx
          · simpa using h1
          · exact g1 x hx
        · refine List.pairwise_cons.2 ⟨fun y hy => ?_, g2⟩
          obtain ⟨x, hx, rfl⟩ := List.mem_map.1 hy
          exact g3 _ rfl x hx
        · rcases List.mem_cons.1 hx with rfl | hx
          · exact hp q hq
          · exact Place.lt_trans (hp q hq) (g3 _ rfl x hx)
theorem placeErr_zero {k n : Int} (h : placeErr k n = 0) : (⟨k, n⟩ : Place) ∈ allPlaces := by
  unfold placeErr at h
  rw [mem_allPlaces]
  split at h
  · cases h
  · split at h
    · cases h
    · show (0 ≤ k ∧ k < 5) ∧ 0 ≤ n ∧ n < 1000
      omega
theorem recErr_place {r : Rec} (h : recErr r = 0) : placeErr r.kind r.number = 0 ∧ wordsErr r.kind r.number r.words = 0 := by
  unfold recErr oneErr at h
  split at h
  · rename_i h1; exact absurd h h1
  · rename_i h1; exact ⟨by simpa using h1, h⟩
structure Right (f : List Rec) : Prop where
  len : f.length ≤ 40
  recs : ∀ r ∈ f, recErr r = 0
  sorted : RSorted f
theorem Right.range {f : List Rec} (h : Right f) : InRange f := fun r hr => placeErr_zero (recErr_place (h.recs r hr)).1
theorem check_zero {f : List Rec} (h : check f = 0) : Right f := by
  unfold check at h
  split at h
  · cases h
  · obtain ⟨h1, h2, _⟩ := checkFrom_zero h
    exact ⟨by omega, h1, h2⟩
/-- what a place's record is -/
def recAt (F : Place → St) (p : Place) : Option Rec := (F p).map fun ws => ⟨p.kind, p.number, ws⟩
/-- A FILE IS WHAT IT HAS. -/
theorem file_ext {f : List Rec} (hs : RSorted f) {all : List Place} (ha : Sorted all) (hsub : ∀ r ∈ f, r.place ∈ all) : all.filterMap (recAt (getIn f)) = f := by
  have h1 : all.filterMap (recAt (getIn f)) = (f.map Rec.place).filterMap (recAt (getIn f)) := by
    rw [filterMap_filter_id (recAt (getIn f)) (fun p => decide (p ∈ f.map Rec.place)) all (fun x _ hx => by simp only [decide_eq_false_iff_not] at hx; simp [recAt, getIn_none hx]),
      ← sub_filter hs ha (fun p hp => by obtain ⟨r, hr, rfl⟩ := List.mem_map.1 hp; exact hsub r hr)]
  rw [h1]
  clear h1 hsub ha
  suffices h : ∀ (pre f' : List Rec), f = pre ++ f' → (f'.map Rec.place).filterMap (recAt (getIn f)) = f' by exact h [] f rfl
  intro pre f'
  induction f' generalizing pre with
  | nil => intro _; rfl
  | cons r t ih =>
    intro e
    have hr : getIn f r.place = some r.words := by
      rw [e, getIn_append, getIn_none, getIn_cons, if_pos rfl]
      · rfl
      · intro hm
        obtain ⟨x, hx, hxr⟩ := List.mem_map.1 hm
        unfold RSorted at hs
        rw [e, List.map_append, Sorted, List.pairwise_append] at hs
        have := hs.2.2 x.place (List.mem_map_of_mem hx) r.place (by simp)
        rw [hxr, Place.lt_irrefl] at this
        cases this
    rw [List.map_cons, List.filterMap_cons]
    simp only [recAt, hr, Option.map_some]
    rw [ih (pre ++ [r]) (by simp [e])]
    rfl
theorem file_eq {f g : List Rec} (hf : RSorted f) (hg : RSorted g) (hfr : InRange f) (hgr : InRange g) (h : ∀ p, getIn f p = getIn g p) : f = g := by
  rw [← file_ext hf allPlaces_sorted hfr, ← file_ext hg allPlaces_sorted hgr]
  congr 1
  funext p
  simp [recAt, h p]
/-! ### a record is dropped, or put -/
theorem drop_sorted {f : List Rec} (h : RSorted f) (p : Place) : RSorted (drop f p) := by
  unfold RSorted drop
  exact List.Pairwise.sublist (List.Sublist.map _ List.filter_sublist) h
theorem mem_drop {f : List Rec} {p : Place} {r : Rec} : r ∈ drop f p ↔ r ∈ f ∧ r.place ≠ p := by simp [drop]
theorem getIn_drop (f : List Rec) (p q : Place) : getIn (drop f p) q = if q = p then none else getIn f q := by
  induction f with
  | nil => simp [drop, getIn_nil]
  | cons r t ih =>
    have e : drop (r :: t) p = if r.place = p then drop t p else r :: drop t p := by
      unfold drop; rw [List.filter_cons]; by_cases h : r.place = p <;> simp [h]
    rw [e, getIn_cons]
    by_cases h : r.place = p
    · rw [if_pos h, ih]
      by_cases h2 : q = p
      · simp [h2]
      · simp [h2, h, Ne.symm h2]
    · rw [if_neg h, getIn_cons, ih]
      by_cases h2 : r.place = q
      · simp [h2]; intro e; exact absurd (h2.trans e) h
      · simp [h2]
theorem mem_insertR (r x : Rec) (f : List Rec) : x ∈ insertR r f ↔ x = r ∨ x ∈ f := by
  induction f with
  | nil => simp [insertR]
  | cons q t ih =>
    simp only [insertR]
    split
    · simp
    · simp [ih, or_left_comm]
theorem insertR_sorted {r : Rec} {f : List Rec} (h : RSorted f) (hn : ∀ x ∈ f, x.place ≠ r.place) : RSorted (insertR r f) := by
  induction f with
  | nil => simp [insertR, RSorted, Sorted]
  | cons q t ih =>
    have hq := List.pairwise_cons.1 h
    simp only [insertR]
    split
    · rename_i hp
      exact List.pairwise_cons.2 ⟨fun y hy => by
        rcases List.mem_cons.1 hy with rfl | hy
        · exact hp
        · exact Place.lt_trans hp (hq.1 y hy), h⟩
    · rename_i h1
      have h2 : q.place.lt r.place = true := by
        cases h3 : q.place.lt r.place with
        | true => rfl
        | false => exact absurd (Place.lt_tri h3 (by simpa using h1)) (hn q (by simp))
      refine List.pairwise_cons.2 ⟨fun y hy => ?_, ih hq.2 fun x hx => hn x (by simp [hx])⟩
      obtain ⟨x, hx, rfl⟩ := List.mem_map.1 hy
      rcases (mem_insertR r x t).1 hx with rfl | hx
      · exact h2
      · exact hq.1 _ (List.mem_map_of_mem hx)
theorem getIn_insertR {r : Rec} {f : List Rec} (hn : ∀ x ∈ f, x.place ≠ r.place) (p : Place) : getIn (insertR r f) p = if p = r.place then some r.words else getIn f p := by
  induction f with
  | nil =>
    simp only [insertR]
    rw [getIn_cons, getIn_nil]
    by_cases h : p = r.place
    · simp [h]
    · simp [h, Ne.symm h]
  | cons q t ih =>
    simp only [insertR]
    split
    · rw [getIn_cons]
      by_cases h : p = r.place
      · simp [h]
      · simp [h, Ne.symm h]
    · rw [getIn_cons, getIn_cons, ih fun x hx => hn x (by simp [hx])]
      by_cases h : q.place = p
      · rw [if_pos h, if_pos h, if_neg]
        intro e; exact hn q (by simp) (h.trans e)
      · rw [if_neg h, if_neg h]
theorem drop_ne (f : List Rec) (p : Place) : ∀ x ∈ drop f p, x.place ≠ p := fun _ hx => (mem_drop.1 hx).2
theorem put_sorted {f : List Rec} (h : RSorted f) (r : Rec) : RSorted (put f r) := insertR_sorted (drop_sorted h _) (drop_ne f _)
theorem getIn_put (f : List Rec) (r : Rec) (p : Place) : getIn (put f r) p = if p = r.place then some r.words else getIn f p := by
  unfold put
  rw [getIn_insertR (drop_ne f _), getIn_drop]
  split <;> rfl
theorem mem_put {f : List Rec} {r x : Rec} (h : x ∈ put f r) : x = r ∨ x ∈ f := by
  rcases (mem_insertR r x _).1 h with h | h
  · exact .inl h
  · exact .inr (mem_drop.1 h).1
/-- as the reference puts a record -/
def putL (r : Rec) : Bool → List Rec → List Rec
  | done, [] => if done then [] else [r]
  | done, q :: t =>
    (if !done && !q.place.lt r.place then [r] else []) ++ (if q.place = r.place then [] else [q]) ++ putL r (done || !q.place.lt r.place) t
/-! ### differences and joins -/
end Oyez
namespace Oyez
/-- of elements that follow each other and are the same, one -/
def dd (l : List Place) : List Place := l.foldl (fun a q => if a.getLast? = some q then a else a ++ [q]) []
theorem dd_snoc (l : List Place) (q : Place) : dd (l ++ [q]) = if (dd l).getLast? = some q then dd l else dd l ++ [q] := by
  unfold dd
  rw [List.foldl_append]
  rfl
theorem dd_spec (l : List Place) (h : l.Pairwise fun p q => q.lt p = false) : Sorted (dd l) ∧ (∀ q, q ∈ dd l ↔ q ∈ l) ∧ (dd l).getLast? = l.getLast? := by
  suffices hh : ∀ m : List Place, m.reverse.Pairwise (fun p q => q.lt p = false) → Sorted (dd m.reverse) ∧ (∀ q, q ∈ dd m.reverse ↔ q ∈ m.reverse) ∧ (dd m.reverse).getLast? = m.reverse.getLast? by
    have := hh l.reverse (by simpa using h)
    simpa using this
  intro m
  induction m with
  | nil => intro _; exact ⟨List.Pairwise.nil, fun q => by simp [dd], rfl⟩
  | cons q t ih =>
    intro hp
    rw [List.reverse_cons] at hp ⊢
    obtain ⟨h1, _, h2⟩ := List.pairwise_append.1 hp
    obtain ⟨g1, g2, g3⟩ := ih h1
    rw [dd_snoc]
    split
    · rename_i he
      refine ⟨g1, fun x => ?_, by rw [he]; simp⟩
      rw [g2, List.mem_append]
      constructor
      · exact .inl
      · rintro (hx | hx)
        · exact hx
        · rw [List.mem_singleton] at hx
          subst hx
          exact (g2 x).1 (List.mem_of_getLast? he)
    · rename_i he
      refine ⟨?_, fun x => by rw [List.mem_append, List.mem_append, g2], by simp⟩
      refine List.pairwise_append.2 ⟨g1, List.pairwise_singleton _ _, fun x hx y hy => ?_⟩
      rw [List.mem_singleton] at hy
      subst hy
      have hx2 := h2 x ((g2 x).1 hx) y (by simp)
      cases h3 : x.lt y with
      | true => rfl
      | false =>
        exfalso
        have e := Place.lt_tri h3 hx2
        subst e
        cases hl : (dd t.reverse).getLast? with
        | none => rw [List.getLast?_eq_none_iff] at hl; rw [hl] at hx; simp at hx
        | some e =>
          have hne : e ≠ x := fun h => he (by rw [hl, h])
          have hem := List.mem_of_getLast? hl
          have h4 := h2 e ((g2 e).1 hem) x (by simp)
          obtain ⟨i, hi, rfl⟩ := List.getElem_of_mem hx
          rw [List.getLast?_eq_getElem?] at hl
          have hle := (List.getElem?_eq_some_iff.1 hl)
          obtain ⟨hj, rfl⟩ := hle
          have hij : i < (dd t.reverse).length - 1 := by
            rcases Nat.lt_or_ge i ((dd t.reverse).length - 1) with h | h
            · exact h
            · exact absurd (by congr 1; omega) hne
          have := List.pairwise_iff_getElem.1 g1 i _ hi hj hij
          rw [h4] at this
          cases this
theorem dd_places {l l' : List Place} (hp : l'.Perm l) (h : l'.Pairwise fun p q => q.lt p = false) : dd l' = placesOf l := by
  obtain ⟨h1, h2, _⟩ := dd_spec l' h
  exact sorted_eq h1 (placesOf_sorted l) fun q => by rw [h2, mem_placesOf]; exact hp.mem_iff
end Oyez
namespace Oyez
structure RightC (l : List Chg) : Prop where
  len : l.length ≤ 80
  each : ∀ c ∈ l, chgErr c = 0
  sorted : Sorted (l.map Chg.place)
theorem checkChgFrom_zero {p : Option Place} {l : List Chg} (h : checkChgFrom p l = 0) : (∀ c ∈ l, chgErr c = 0) ∧ Sorted (l.map Chg.place) ∧ ∀ q, p = some q → ∀ c ∈ l, q.lt c.place = true := by
  induction l generalizing p with
  | nil => simp [Sorted]
  | cons r t ih =>
    simp only [checkChgFrom] at h
    split at h
    · rename_i h1; exact absurd h h1
    · rename_i h1
      split at h
      · cases h
      · rename_i h2
        obtain ⟨g1, g2, g3⟩ := ih h
        have hp : ∀ q, p = some q → q.lt r.place = true := fun q hq => by rw [hq] at h2; simpa using h2
        refine ⟨?_, ?_, fun q hq x hx => ?_⟩
        · intro x hx
          rcases List.mem_cons.1 hx with rfl | hx
          · simpa using h1
          · exact g1 x hx
        · refine List.pairwise_cons.2 ⟨fun y hy => ?_, g2⟩
          obtain ⟨x, hx, rfl⟩ := List.mem_map.1 hy
          exact g3 _ rfl x hx
        · rcases List.mem_cons.1 hx with rfl | hx
          · exact hp q hq
          · exact Place.lt_trans (hp q hq) (g3 _ rfl x hx)
theorem checkChg_zero {l : List Chg} (h : checkChg l = 0) : RightC l := by
  unfold checkChg at h
  split at h
  · cases h
  · obtain ⟨h1, h2, _⟩ := checkChgFrom_zero h
    exact ⟨by omega, h1, h2⟩
theorem chgErr_zero {c : Chg} (h : chgErr c = 0) : c.place ∈ allPlaces ∧ wordsErr c.kind c.number c.old = 0 ∧ wordsErr c.kind c.number c.new = 0 ∧ (c.had = false → c.old = []) ∧ (c.has = false → c.new = []) ∧ c.was ≠ c.now := by
  unfold chgErr at h
  split at h
  · rename_i h1; exact absurd h h1
  · rename_i h1
    split at h
    · rename_i h2; exact absurd h h2
    · rename_i h2
      split at h
      · rename_i h3; exact absurd h h3
      · rename_i h3
        split at h
        · cases h
        · rename_i h4
          simp only [Bool.or_eq_true, Bool.and_eq_true, not_or, not_and, beq_iff_eq, decide_eq_true_eq, Bool.not_eq_true', List.isEmpty_iff, Bool.not_eq_true, Bool.not_eq_false'] at h4
          obtain ⟨⟨h5, h6⟩, h7⟩ := h4
          have h5' : c.had = false → c.old = [] := fun e => by simpa using h5 e
          have h6' : c.has = false → c.new = [] := fun e => by simpa using h6 e
          refine ⟨placeErr_zero (by simpa using h1), by simpa using h2, by simpa using h3, h5', h6', ?_⟩
          unfold Chg.was Chg.now
          cases h8 : c.had <;> cases h9 : c.has
          · exact absurd (by rw [h5' h8, h6' h9]) (h7 (by rw [h8, h9]))
          · simp
          · simp
          · simpa using h7 (by rw [h8, h9])
theorem RightC.range {l : List Chg} (h : RightC l) : ∀ c ∈ l, c.place ∈ allPlaces := fun c hc => (chgErr_zero (h.each c hc)).1
/-! ### make -/
def stL (l : List Chg) (p : Place) (s : St) : St := l.foldl (fun s c => if c.place = p then c.now else s) s
theorem getIn_make1 (f : List Rec) (c : Chg) (p : Place) : getIn (make1 f c) p = if c.place = p then c.now else getIn f p := by
  unfold make1 Chg.now
  cases h : c.has with
  | true =>
    simp only [if_true]
    rw [getIn_put, show (⟨c.kind, c.number, c.new⟩ : Rec).place = c.place from rfl]
    by_cases e : c.place = p
    · rw [if_pos e, if_pos e.symm]
    · rw [if_neg e, if_neg (fun h => e h.symm)]
  | false =>
    simp only [Bool.false_eq_true, if_false]
    rw [getIn_drop]
    by_cases e : c.place = p
    · rw [if_pos e, if_pos e.symm]
    · rw [if_neg e, if_neg (fun h => e h.symm)]
theorem getIn_make (l : List Chg) : ∀ (f : List Rec) (p : Place), getIn (make f l) p = stL l p (getIn f p) := by
  induction l with
  | nil => intro f p; rfl
  | cons c t ih =>
    intro f p
    show getIn (make (make1 f c) t) p = stL t p _
    rw [ih, getIn_make1]
theorem make1_sorted {f : List Rec} (h : RSorted f) (c : Chg) : RSorted (make1 f c) := by
  unfold make1
  split
  · exact put_sorted h _
  · exact drop_sorted h _
theorem make_sorted (l : List Chg) : ∀ {f : List Rec}, RSorted f → RSorted (make f l) := by
  induction l with
  | nil => intro f h; exact h
  | cons c t ih => intro f h; exact ih (make1_sorted h c)
theorem make_range (l : List Chg) : ∀ {f : List Rec}, InRange f → (∀ c ∈ l, c.place ∈ allPlaces) → InRange (make f l) := by
  induction l with
  | nil => intro f h _; exact h
  | cons c t ih =>
    intro f h hl
    refine ih (f := make1 f c) (fun r hr => ?_) fun x hx => hl x (by simp [hx])
    unfold make1 at hr
    split at hr
    · rcases mem_put hr with rfl | hr
      · exact hl c (by simp)
      · exact h r hr
    · exact h r (mem_drop.1 hr).1
/-! ### after -/
end Oyez

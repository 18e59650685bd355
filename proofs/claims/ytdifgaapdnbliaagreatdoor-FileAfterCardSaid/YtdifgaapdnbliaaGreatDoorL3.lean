/-
  PLAIN LAWS: changes.
-/
import Derived.Test.YtdifgaapdnbliaaGreatDoorL4
set_option linter.unusedSimpArgs false
set_option linter.unusedVariables false
namespace Oyez
structure RightC (l : List Chg) : Prop where
  len : l.length ≤ 80
  each : ∀ c ∈ l, chgErr c = 0
  sorted : Sorted (l.map Chg.place)
theorem checkChgFrom_zero {p : Option Place} {l : List Chg} (h : checkChgFrom p l = 0) : (∀ c ∈ l, chgErr c = 0) ∧ Sorted (l.map Chg.place) ∧ ∀ q, p = some q → ∀ c ∈ l, q.lt c.place = true := by
  induction l generalizing p with
  | nil => simp [Sorted]
  | cons r t ih =>
    simp only [checkChgFrom] at h
    split at h
    · rename_i h1; exact absurd h h1
    · rename_i h1
      split at h
      · cases h
      · rename_i h2
        obtain ⟨g1, g2, g3⟩ := ih h
        have hp : ∀ q, p = some q → q.lt r.place = true := fun q hq => by rw [hq] at h2; simpa using h2
        refine ⟨?_, ?_, fun q hq x hx => ?_⟩
        · intro x hx
          rcases List.mem_cons.1 hx with rfl | hx
          · simpa using h1
          · exact g1 x hx
        · refine List.pairwise_cons.2 ⟨fun y hy => ?_, g2⟩
          obtain ⟨x, hx, rfl⟩ := List.mem_map.1 hy
          exact g3 _ rfl x hx
        · rcases List.mem_cons.1 hx with rfl | hx
          · exact hp q hq
          · exact Place.lt_trans (hp q hq) (g3 _ rfl x hx)
theorem checkChg_zero {l : List Chg} (h : checkChg l = 0) : RightC l := by
  unfold checkChg at h
  split at h
  · cases h
  · obtain ⟨h1, h2, _⟩ := checkChgFrom_zero h
    exact ⟨by omega, h1, h2⟩
theorem chgErr_zero {c : Chg} (h : chgErr c = 0) : c.place ∈ allPlaces ∧ wordsErr c.kind c.number c.old = 0 ∧ wordsErr c.kind c.number c.new = 0 ∧ (c.had = false → c.old = []) ∧ (c.has = false → c.new = []) ∧ c.was ≠ c.now := by
  unfold chgErr at h
  split at h
  · rename_i h1; exact absurd h h1
  · rename_i h1
    split at h
    · rename_i h2; exact absurd h h2
    · rename_i h2
      split at h
      · rename_i h3; exact absurd h h3
      · rename_i h3
        split at h
        · cases h
        · rename_i h4
          simp only [Bool.or_eq_true, Bool.and_eq_true, not_or, not_and, beq_iff_eq, decide_eq_true_eq, Bool.not_eq_true', List.isEmpty_iff, Bool.not_eq_true, Bool.not_eq_false'] at h4
          obtain ⟨⟨h5, h6⟩, h7⟩ := h4
          have h5' : c.had = false → c.old = [] := fun e => by simpa using h5 e
          have h6' : c.has = false → c.new = [] := fun e => by simpa using h6 e
          refine ⟨placeErr_zero (by simpa using h1), by simpa using h2, by simpa using h3, h5', h6', ?_⟩
          unfold Chg.was Chg.now
          cases h8 : c.had <;> cases h9 : c.has
          · exact absurd (by rw [h5' h8, h6' h9]) (h7 (by rw [h8, h9]))
          · simp
          · simp
          · simpa using h7 (by rw [h8, h9])
theorem RightC.range {l : List Chg} (h : RightC l) : ∀ c ∈ l, c.place ∈ allPlaces := fun c hc => (chgErr_zero (h.each c hc)).1
theorem chg_self {c : Chg} (h : chgErr c = 0) : chg c.place c.was c.now = c := by
  obtain ⟨_, _, _, h1, h2, _⟩ := chgErr_zero h
  obtain ⟨k, n, a, b, o, w⟩ := c
  simp only at h1 h2
  unfold chg Chg.was Chg.now Chg.place
  cases a <;> cases b <;> simp_all

/-! ### make -/
def stL (l : List Chg) (p : Place) (s : St) : St := l.foldl (fun s c => if c.place = p then c.now else s) s
theorem getIn_make1 (f : List Rec) (c : Chg) (p : Place) : getIn (make1 f c) p = if c.place = p then c.now else getIn f p := by
  unfold make1 Chg.now
  cases h : c.has with
  | true =>
    simp only [if_true]
    rw [getIn_put, show (⟨c.kind, c.number, c.new⟩ : Rec).place = c.place from rfl]
    by_cases e : c.place = p
    · rw [if_pos e, if_pos e.symm]
    · rw [if_neg e, if_neg (fun h => e h.symm)]
  | false =>
    simp only [Bool.false_eq_true, if_false]
    rw [getIn_drop]
    by_cases e : c.place = p
    · rw [if_pos e, if_pos e.symm]
    · rw [if_neg e, if_neg (fun h => e h.symm)]
theorem getIn_make (l : List Chg) : ∀ (f : List Rec) (p : Place), getIn (make f l) p = stL l p (getIn f p) := by
  induction l with
  | nil => intro f p; rfl
  | cons c t ih =>
    intro f p
    show getIn (make (make1 f c) t) p = stL t p _
    rw [ih, getIn_make1]
theorem make1_sorted {f : List Rec} (h : RSorted f) (c : Chg) : RSorted (make1 f c) := by
  unfold make1
  split
  · exact put_sorted h _
  · exact drop_sorted h _
theorem make_sorted (l : List Chg) : ∀ {f : List Rec}, RSorted f → RSorted (make f l) := by
  induction l with
  | nil => intro f h; exact h
  | cons c t ih => intro f h; exact ih (make1_sorted h c)
theorem make_range (l : List Chg) : ∀ {f : List Rec}, InRange f → (∀ c ∈ l, c.place ∈ allPlaces) → InRange (make f l) := by
  induction l with
  | nil => intro f h _; exact h
  | cons c t ih =>
    intro f h hl
    refine ih (f := make1 f c) (fun r hr => ?_) fun x hx => hl x (by simp [hx])
    unfold make1 at hr
    split at hr
    · rcases mem_put hr with rfl | hr
      · exact hl c (by simp)
      · exact h r hr
    · exact h r (mem_drop.1 hr).1
theorem make_eq {f : List Rec} (hs : RSorted f) (hr : InRange f) {l : List Chg} (hl : ∀ c ∈ l, c.place ∈ allPlaces) : allPlaces.filterMap (recAt fun p => stL l p (getIn f p)) = make f l := by
  rw [← file_ext (make_sorted l hs) allPlaces_sorted (make_range l hr hl)]
  congr 1
  funext p
  simp [recAt, getIn_make]

/-! ### after -/
theorem findC_none {l : List Chg} {p : Place} (h : p ∉ l.map Chg.place) : findC l p = none := by
  unfold findC
  rw [List.find?_eq_none]
  intro c hc e
  simp only [decide_eq_true_eq] at e
  exact h (e ▸ List.mem_map_of_mem hc)
theorem afterL_filter (x y : List Chg) (q : Place → Bool) : ∀ (l : List Place), (∀ p ∈ l, q p = false → afterAt x y p = .ok none) → afterL x y l = afterL x y (l.filter q) := by
  intro l
  induction l with
  | nil => intro _; rfl
  | cons p t ih =>
    intro h
    have ht := ih fun y hy => h y (List.mem_cons_of_mem _ hy)
    rw [List.filter_cons]
    cases hp : q p with
    | true => simp only [if_true, afterL, ht]
    | false => simp only [Bool.false_eq_true, if_false, afterL, h p (by simp) hp, ht]
theorem after_eq {x y : List Chg} (hx : ∀ c ∈ x, c.place ∈ allPlaces) (hy : ∀ c ∈ y, c.place ∈ allPlaces) : afterL x y allPlaces = after x y := by
  have hsub : ∀ p ∈ placesOf ((x ++ y).map Chg.place), p ∈ allPlaces := fun p hp => by
    rw [mem_placesOf] at hp
    obtain ⟨r, hr, rfl⟩ := List.mem_map.1 hp
    rcases List.mem_append.1 hr with h | h
    · exact hx r h
    · exact hy r h
  unfold after
  rw [afterL_filter x y (fun p => decide (p ∈ placesOf ((x ++ y).map Chg.place))) allPlaces, ← sub_filter (placesOf_sorted _) allPlaces_sorted hsub]
  intro p _ hp
  rw [decide_eq_false_iff_not, mem_placesOf, List.map_append, List.mem_append, not_or] at hp
  unfold afterAt
  rw [findC_none hp.1, findC_none hp.2]
end Oyez

/-
  PLAIN LAWS: what is joined, place by place; changes that are differences; what a file has at a place, as a text.
  WHAT THE LAWS OF DRAWN FILES SHARE: files that are right, the places that copies of a file can have.
-/
import Derived.Test.YtcoikmapjepdjaaGreatDoorA22
import Derived.Test.YtcoikmapjepdjaaGreatDoorA18
import Derived.Test.YtcoikmapjepdjaaGreatDoorA17
import Derived.Test.YtcoikmapjepdjaaGreatDoorA25
import Derived.Test.YtcoikmapjepdjaaGreatDoorA34
set_option linter.unusedSimpArgs false
set_option linter.unusedVariables false
set_option linter.unusedSectionVars false
namespace Oyez
/-! ### what a file has, as a text -/
def hasS : St → S
  | none => []
  | some ws => 32 :: glueW ws
def WordSt (x : St) : Prop := ∀ ws, x = some ws → ∀ w ∈ ws, word w = true
theorem getIn_mem {f : List Rec} {p : Place} {ws : List S} (h : getIn f p = some ws) : ∃ r ∈ f, r.place = p ∧ r.words = ws := by
  unfold getIn at h
  rw [Option.map_eq_some_iff] at h
  obtain ⟨r, h1, rfl⟩ := h
  exact ⟨r, List.mem_of_find?_eq_some h1, by simpa using List.find?_some h1, rfl⟩
/-! ### joins, place by place -/
def clashAt (x y z : St) : Bool := decide (¬ y = z ∧ ¬ y = x ∧ ¬ z = x)
def confAt (base a b : List Rec) (p : Place) : Bool := clashAt (getIn base p) (getIn a p) (getIn b p)
def joinV (base a b : List Rec) (s : List Bool) (i : Nat) (p : Place) : St :=
  if getIn a p = getIn b p ∨ getIn b p = getIn base p then getIn a p else if getIn a p = getIn base p then getIn b p else pickJ s i (getIn base p) (getIn a p) (getIn b p)
def joinPl (base a b : List Rec) : List Place := placesOf ((base ++ a ++ b).map Rec.place)
/-- the places of the conflicts -/
def confsOf (base a b : List Rec) : List Place := (joinPl base a b).filter (confAt base a b)
theorem filterMap_snoc' {α β : Type} (f : α → Option β) (l : List α) (x : α) : (l ++ [x]).filterMap f = l.filterMap f ++ (f x).toList := by
  rw [List.filterMap_append, List.filterMap_cons]
  cases f x <;> simp
theorem sorted_nodup {l : List Place} (h : Sorted l) : l.Nodup := List.Pairwise.imp (fun {a b} h e => by rw [e, Place.lt_irrefl] at h; cases h) h
theorem nodup_sub_len {l m : List Place} (h : l.Nodup) (hs : ∀ p ∈ l, p ∈ m) : l.length ≤ m.length := by
  induction l generalizing m with
  | nil => simp
  | cons x t ih =>
    rw [List.nodup_cons] at h
    have hx := hs x (by simp)
    have h1 := ih (m := m.erase x) h.2 fun p hp => (List.mem_erase_of_ne (fun e : p = x => h.1 (by rw [← e]; exact hp))).2 (hs p (by simp [hp]))
    rw [List.length_erase_of_mem hx] at h1
    have : 0 < m.length := List.length_pos_of_mem hx
    simp only [List.length_cons]
    omega
theorem right_check {f : List Rec} (h : Right f) : check f = 0 := by
  unfold check
  rw [if_neg (by have := h.len; omega)]
  have key : ∀ (f : List Rec) (p : Option Place), (∀ r ∈ f, recErr r = 0) → RSorted f → (∀ q, p = some q → ∀ r ∈ f, q.lt r.place = true) → checkFrom p f = 0 := by
    intro f
    induction f with
    | nil => intro p _ _ _; rfl
    | cons r t ih =>
      intro p h1 h2 h3
      have hq := List.pairwise_cons.1 h2
      rw [checkFrom, if_neg (by simpa using h1 r (by simp)), if_neg]
      · exact ih _ (fun x hx => h1 x (by simp [hx])) hq.2 fun q e x hx => by
          obtain rfl := Option.some.inj e
          exact hq.1 _ (List.mem_map_of_mem hx)
      · cases p with
        | none => simp
        | some q => simp [h3 q rfl r (by simp)]
  exact key f none h.recs h.sorted fun q e => by cases e
/-! ### changes that are differences -/
theorem chg_was (p : Place) (x y : St) : (chg p x y).was = x := by unfold chg Chg.was; cases x <;> rfl
theorem chg_now (p : Place) (x y : St) : (chg p x y).now = y := by unfold chg Chg.now; cases y <;> rfl
theorem diffAt_place {f g : List Rec} {p : Place} {c : Chg} (h : diffAt f g p = some c) : c.place = p := by
  unfold diffAt at h
  split at h
  · cases h
  · obtain rfl := Option.some.inj h; rfl
def diffPl (f g : List Rec) : List Place := placesOf ((f ++ g).map Rec.place)
theorem diff_def (f g : List Rec) : diff f g = (diffPl f g).filterMap (diffAt f g) := rfl
theorem diffAt_out {f g : List Rec} {p : Place} (h : p ∉ diffPl f g) : diffAt f g p = none := by
  unfold diffPl at h
  rw [mem_placesOf, List.map_append, List.mem_append, not_or] at h
  unfold diffAt
  rw [getIn_none h.1, getIn_none h.2, if_pos rfl]
theorem findC_filterMap (F : Place → Option Chg) (hF : ∀ p c, F p = some c → c.place = p) : ∀ {ps : List Place}, Sorted ps → ∀ p, findC (ps.filterMap F) p = if p ∈ ps then F p else none := by
  intro ps
  induction ps with
  | nil => intro _ p; rfl
  | cons q t ih =>
    intro hs p
    have hq := List.pairwise_cons.1 hs
    have hqt : q ∉ t := fun hm => by have := hq.1 q hm; rw [Place.lt_irrefl] at this; cases this
    rw [List.filterMap_cons]
    cases hc : F q with
    | none =>
      simp only
      rw [ih hq.2]
      by_cases h : p = q
      · subst h; simp [hqt, hc]
      · simp [h]
    | some c =>
      simp only
      have hp := hF q c hc
      unfold findC at ih ⊢
      rw [List.find?_cons]
      by_cases h : q = p
      · subst h; simp [hp, hc]
      · have : decide (c.place = p) = false := by simp [hp, h]
        rw [this]
        simp only
        rw [ih hq.2]
        simp [Ne.symm h]
theorem findC_diff (f g : List Rec) (p : Place) : findC (diff f g) p = diffAt f g p := by
  have hs : Sorted (diffPl f g) := placesOf_sorted _
  rw [diff_def, findC_filterMap (diffAt f g) (fun p c h => diffAt_place h) hs]
  split
  · rfl
  · rename_i h; exact (diffAt_out h).symm
theorem mem_diff {f g : List Rec} {c : Chg} (h : c ∈ diff f g) : ∃ p, p ∈ diffPl f g ∧ getIn f p ≠ getIn g p ∧ c = chg p (getIn f p) (getIn g p) := by
  rw [diff_def, List.mem_filterMap] at h
  obtain ⟨p, hp, hc⟩ := h
  unfold diffAt at hc
  split at hc
  · cases hc
  · rename_i hne
    exact ⟨p, hp, hne, (Option.some.inj hc).symm⟩
theorem diff_places_sorted (F : Place → Option Chg) (hF : ∀ p c, F p = some c → c.place = p) : ∀ {ps : List Place}, Sorted ps → Sorted ((ps.filterMap F).map Chg.place) := by
  intro ps hs
  have : (ps.filterMap F).map Chg.place = ps.filter fun p => (F p).isSome := by
    clear hs
    induction ps with
    | nil => rfl
    | cons p t ih =>
      rw [List.filterMap_cons, List.filter_cons]
      cases hc : F p with
      | none => simp [ih]
      | some c => simp [ih, hF p c hc]
  rw [this]
  exact hs.filter _
theorem diff_sorted (f g : List Rec) : Sorted ((diff f g).map Chg.place) := diff_places_sorted _ (fun p c h => diffAt_place h) (placesOf_sorted _)
theorem wordsErr_nil {p : Place} (hp : p ∈ allPlaces) : wordsErr p.kind p.number [] = 0 := by
  rw [mem_allPlaces] at hp
  have h : recErr ⟨p.kind, p.number, []⟩ = 0 ∨ True := .inr trivial
  unfold wordsErr
  rw [if_neg (by simp), if_neg (by simp), if_neg]
  have h1 : (name p.kind).length ≤ 6 := by
    have : p.kind = 0 ∨ p.kind = 1 ∨ p.kind = 2 ∨ p.kind = 3 ∨ p.kind = 4 := by omega
    rcases this with h | h | h | h | h <;> rw [h] <;> decide
  have h2 : (digits p.number).length ≤ 3 := digits_len 2 p.number.toNat (by omega)
  unfold line
  simp only [List.length_append, List.length_cons, List.length_nil, List.flatMap_nil]
  omega
theorem chg_err {f g : List Rec} (hf : ∀ r ∈ f, recErr r = 0) (hg : ∀ r ∈ g, recErr r = 0) {p : Place} (hp : p ∈ allPlaces) (hne : getIn f p ≠ getIn g p) : chgErr (chg p (getIn f p) (getIn g p)) = 0 := by
  have key : ∀ f : List Rec, (∀ r ∈ f, recErr r = 0) → wordsErr p.kind p.number ((getIn f p).getD []) = 0 := by
    intro f hf
    cases hg : getIn f p with
    | none => exact wordsErr_nil hp
    | some ws =>
      obtain ⟨r, hr, h1, h2⟩ := getIn_mem hg
      have := ((recErr_iff r).1 (hf r hr)).2
      rw [h2] at this
      have h3 : r.kind = p.kind := congrArg Place.kind h1
      have h4 : r.number = p.number := congrArg Place.number h1
      rw [h3, h4] at this
      exact this
  have hpe : placeErr p.kind p.number = 0 := by
    rw [mem_allPlaces] at hp
    unfold placeErr
    rw [if_neg (by omega), if_neg (by omega)]
  have k1 := key f hf
  have k2 := key g hg
  unfold chgErr
  have e1 : (chg p (getIn f p) (getIn g p)).kind = p.kind := rfl
  have e2 : (chg p (getIn f p) (getIn g p)).number = p.number := rfl
  have e3 : (chg p (getIn f p) (getIn g p)).old = (getIn f p).getD [] := rfl
  have e4 : (chg p (getIn f p) (getIn g p)).new = (getIn g p).getD [] := rfl
  have e5 : (chg p (getIn f p) (getIn g p)).had = (getIn f p).isSome := rfl
  have e6 : (chg p (getIn f p) (getIn g p)).has = (getIn g p).isSome := rfl
  rw [e1, e2, e3, e4, e5, e6, if_neg (by simpa using hpe), if_neg (by simpa using k1), if_neg (by simpa using k2), if_neg]
  intro h
  cases hx : getIn f p <;> cases hy : getIn g p <;> simp_all
theorem diffPl_range {f g : List Rec} (hf : InRange f) (hg : InRange g) : ∀ p ∈ diffPl f g, p ∈ allPlaces := fun p hp => by
  unfold diffPl at hp
  rw [mem_placesOf] at hp
  obtain ⟨r, hr, rfl⟩ := List.mem_map.1 hp
  rcases List.mem_append.1 hr with h | h
  · exact hf r h
  · exact hg r h
theorem checkChg_of {l : List Chg} (h : RightC l) : checkChg l = 0 := by
  unfold checkChg
  rw [if_neg (by have := h.len; omega)]
  have key : ∀ (f : List Chg) (p : Option Place), (∀ r ∈ f, chgErr r = 0) → Sorted (f.map Chg.place) → (∀ q, p = some q → ∀ r ∈ f, q.lt r.place = true) → checkChgFrom p f = 0 := by
    intro f
    induction f with
    | nil => intro p _ _ _; rfl
    | cons r t ih =>
      intro p h1 h2 h3
      have hq := List.pairwise_cons.1 h2
      rw [checkChgFrom, if_neg (by simpa using h1 r (by simp)), if_neg]
      · exact ih _ (fun x hx => h1 x (by simp [hx])) hq.2 fun q e x hx => by
          obtain rfl := Option.some.inj e
          exact hq.1 _ (List.mem_map_of_mem hx)
      · cases p with
        | none => simp
        | some q => simp [h3 q rfl r (by simp)]
  exact key l none h.each h.sorted fun q e => by cases e
theorem diff_len {f g : List Rec} {m : List Place} (h : ∀ p, p ∈ f.map Rec.place ∨ p ∈ g.map Rec.place → p ∈ m) : (diff f g).length ≤ m.length := by
  have h1 : (diffPl f g).length ≤ m.length := nodup_sub_len (sorted_nodup (placesOf_sorted _)) fun p hp => by
    unfold diffPl at hp
    rw [mem_placesOf, List.map_append, List.mem_append] at hp
    exact h p hp
  exact Nat.le_trans (List.length_filterMap_le _ _) h1
theorem diff_right {f g : List Rec} (hf : Right f) (hg : Right g) : RightC (diff f g) := by
  refine ⟨?_, fun c hc => ?_, diff_sorted f g⟩
  · have := diff_len (f := f) (g := g) (m := f.map Rec.place ++ g.map Rec.place) fun p hp => List.mem_append.2 hp
    have h1 := hf.len
    have h2 := hg.len
    simp at this
    omega
  · obtain ⟨p, hp, hne, rfl⟩ := mem_diff hc
    exact chg_err hf.recs hg.recs (diffPl_range hf.range hg.range p hp) hne
theorem afterL_okD {x y : List Chg} {F : Place → Option Chg} : ∀ (ps : List Place), (∀ p ∈ ps, afterAt x y p = .ok (F p)) → afterL x y ps = .ok (ps.filterMap F) := by
  intro ps
  induction ps with
  | nil => intro _; rfl
  | cons p t ih =>
    intro h
    rw [afterL, h p (by simp), ih fun q hq => h q (by simp [hq]), List.filterMap_cons]
    cases F p <;> rfl
theorem afterAt_diff (f g h : List Rec) (p : Place) : afterAt (diff f g) (diff g h) p = .ok (diffAt f h p) := by
  unfold afterAt
  rw [findC_diff, findC_diff]
  unfold diffAt
  by_cases h1 : getIn f p = getIn g p
  · by_cases h2 : getIn g p = getIn h p
    · rw [if_pos h1, if_pos h2, if_pos (h1.trans h2)]
    · rw [if_pos h1, if_neg h2, if_neg (fun e => h2 (h1.symm.trans e)), h1]
  · by_cases h2 : getIn g p = getIn h p
    · rw [if_neg h1, if_pos h2, if_neg (fun e => h1 (e.trans h2.symm)), h2]
    · rw [if_neg h1, if_neg h2]
      simp only [chg_was, chg_now, if_true]
theorem after_diff {f g h : List Rec} (hf : InRange f) (hg : InRange g) (hh : InRange h) : after (diff f g) (diff g h) = .ok (diff f h) := by
  have hr : ∀ a b : List Rec, InRange a → InRange b → ∀ c ∈ diff a b, c.place ∈ allPlaces := fun a b ha hb c hc => by
    obtain ⟨p, hp, _, rfl⟩ := mem_diff hc
    exact diffPl_range ha hb p hp
  rw [← after_eq (hr f g hf hg) (hr g h hg hh), afterL_okD allPlaces fun p _ => afterAt_diff f g h p, diff_eq hf hh]
theorem back_diff (f g : List Rec) : back (diff f g) = diff g f := by
  have hp : diffPl f g = diffPl g f := sorted_eq (placesOf_sorted _) (placesOf_sorted _) fun q => by
    show q ∈ placesOf _ ↔ q ∈ placesOf _
    rw [mem_placesOf, mem_placesOf, List.map_append, List.map_append, List.mem_append, List.mem_append, or_comm]
  rw [diff_def, diff_def, ← hp]
  unfold back
  rw [List.map_filterMap]
  congr 1
  funext p
  unfold diffAt
  by_cases h : getIn f p = getIn g p
  · rw [if_pos h, if_pos h.symm]; rfl
  · rw [if_neg h, if_neg (Ne.symm h)]; rfl
/-! ### what the other copy changed; changes that are made -/
end Oyez
namespace Ab
open Go Go.RowKit Go.Proofs
theorem right_fewF {f : List Oyez.Rec} (h : Oyez.check f = 0) : Few f ∧ f.length ≤ 40 ∧ (Oyez.print f).length ≤ 2600 ∧ ∀ r ∈ f, r.words.length ≤ 2 ^ 40 := by
  have hr := Oyez.check_zero h
  have hl := hr.len
  have hp := print_len hr.recs
  have key : ∀ r ∈ f, tot1 r.words ≤ 64 ∧ r.words.length ≤ 6 := fun r hm => by
    obtain ⟨_, h2⟩ := (Oyez.recErr_iff r).1 (hr.recs r hm)
    obtain ⟨h3, h4, h5⟩ := Oyez.wordsErr_zero h2
    refine ⟨?_, h3⟩
    unfold Oyez.line at h5
    rw [List.length_append, flat_len32] at h5
    omega
  exact ⟨fun r hm => ⟨by have := (key r hm).1; omega, by have := (key r hm).2; omega⟩, hl, by omega, fun r hm => by have := (key r hm).2; omega⟩
theorem GoodF.right {f : List Oyez.Rec} (h : GoodF f) (hl : f.length ≤ 40) : Oyez.Right f := ⟨hl, h.recs, h.sorted⟩
/-- the byte that a damage makes -/
def dmg (b : UInt8) (dm : Nat) : UInt8 := UInt8.ofNat (b.toNat + (1 + dm / 256 % 255))
/-- a copy of a file, and where its records may be -/
structure CopyOf (f a : List Oyez.Rec) (e : List Oyez.Place) : Prop where
  good : GoodF a
  len : a.length ≤ f.length + 3
  few : e.length ≤ 3
  at_ : ∀ r ∈ a, r.place ∈ f.map Oyez.Rec.place ∨ r.place ∈ e
theorem CopyOf.mem {f a : List Oyez.Rec} {e : List Oyez.Place} (h : CopyOf f a e) : ∀ p ∈ a.map Oyez.Rec.place, p ∈ f.map Oyez.Rec.place ++ e := fun p hp => by
  obtain ⟨r, hr, rfl⟩ := List.mem_map.1 hp
  exact List.mem_append.2 (h.at_ r hr)
end Ab

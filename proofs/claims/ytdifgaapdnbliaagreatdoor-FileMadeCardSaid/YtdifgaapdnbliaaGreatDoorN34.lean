/-
  PLAIN LAWS: what is joined, place by place; changes that are differences; what a file has at a place, as a text.
  strings.Join OVER WORDS THAT ARE NEVER WRITTEN AGAIN; what a file has at a place, as a text.
  WHAT THE STATEMENTS ASK OF FILES: what is at a place, as a text; the places of some files; is a place among some; strings.HasPrefix.
  WHAT JOIN AND SETTLE GIVE, never written again; arguments told with less; a row's room within a piece of code.
-/
import Derived.Test.YtdifgaapdnbliaaGreatDoorN16
import Derived.Test.YtdifgaapdnbliaaGreatDoorN28
import Derived.Test.YtdifgaapdnbliaaGreatDoorN17
import Derived.Test.YtdifgaapdnbliaaGreatDoorN21
import Derived.Test.YtdifgaapdnbliaaGreatDoorN33
import Derived.Test.YtdifgaapdnbliaaGreatDoorN30
import Derived.Test.YtdifgaapdnbliaaGreatDoorN25
set_option linter.unusedSimpArgs false
set_option linter.unusedVariables false
set_option linter.unusedSectionVars false
namespace Oyez
/-! ### what a file has, as a text -/
def hasS : St → S
  | none => []
  | some ws => 32 :: glueW ws
def WordSt (x : St) : Prop := ∀ ws, x = some ws → ∀ w ∈ ws, word w = true
theorem word_ne {w : S} (h : word w = true) : w ≠ [] := by
  rintro rfl
  revert h
  decide
theorem glue_inj {a b : List S} (ha : ∀ w ∈ a, word w = true) (hb : ∀ w ∈ b, word w = true) (h : glueW a = glueW b) : a = b := by
  have hne : ∀ l : List S, (∀ w ∈ l, word w = true) → l ≠ [] → glueW l ≠ [] := by
    intro l hl hn
    cases l with
    | nil => exact absurd rfl hn
    | cons w t =>
      have := word_ne (hl w (by simp))
      simp [glueW, this]
  by_cases h1 : a = []
  · by_cases h2 : b = []
    · rw [h1, h2]
    · exact absurd (h ▸ h1 ▸ rfl : glueW b = []) (hne b hb h2)
  · by_cases h2 : b = []
    · exact absurd (h.trans (h2 ▸ rfl) : glueW a = []) (hne a ha h1)
    · rw [← glue_split a h1 fun w hw => (word_not (ha w hw)).1, h, glue_split b h2 fun w hw => (word_not (hb w hw)).1]
theorem hasS_inj {x y : St} (hx : WordSt x) (hy : WordSt y) : hasS x = hasS y ↔ x = y := by
  refine ⟨fun h => ?_, fun h => by rw [h]⟩
  cases x with
  | none => cases y with
    | none => rfl
    | some b => simp [hasS] at h
  | some a => cases y with
    | none => simp [hasS] at h
    | some b =>
      simp only [hasS, List.cons.injEq, true_and] at h
      rw [glue_inj (hx a rfl) (hy b rfl) h]
theorem getIn_mem {f : List Rec} {p : Place} {ws : List S} (h : getIn f p = some ws) : ∃ r ∈ f, r.place = p ∧ r.words = ws := by
  unfold getIn at h
  rw [Option.map_eq_some_iff] at h
  obtain ⟨r, h1, rfl⟩ := h
  exact ⟨r, List.mem_of_find?_eq_some h1, by simpa using List.find?_some h1, rfl⟩
theorem wordSt_of {f : List Rec} (h : ∀ r ∈ f, recErr r = 0) (p : Place) : WordSt (getIn f p) := by
  intro ws hw w hm
  obtain ⟨r, hr, _, rfl⟩ := getIn_mem hw
  have := (wordsErr_zero ((recErr_iff r).1 (h r hr)).2).2.1
  exact List.all_eq_true.1 this w hm
/-! ### joins, place by place -/
def clashAt (x y z : St) : Bool := decide (¬ y = z ∧ ¬ y = x ∧ ¬ z = x)
def confAt (base a b : List Rec) (p : Place) : Bool := clashAt (getIn base p) (getIn a p) (getIn b p)
def joinV (base a b : List Rec) (s : List Bool) (i : Nat) (p : Place) : St :=
  if getIn a p = getIn b p ∨ getIn b p = getIn base p then getIn a p else if getIn a p = getIn base p then getIn b p else pickJ s i (getIn base p) (getIn a p) (getIn b p)
def joinPl (base a b : List Rec) : List Place := placesOf ((base ++ a ++ b).map Rec.place)
/-- the places of the conflicts -/
def confsOf (base a b : List Rec) : List Place := (joinPl base a b).filter (confAt base a b)
theorem filterMap_snoc' {α β : Type} (f : α → Option β) (l : List α) (x : α) : (l ++ [x]).filterMap f = l.filterMap f ++ (f x).toList := by
  rw [List.filterMap_append, List.filterMap_cons]
  cases f x <;> simp
theorem sorted_nodup {l : List Place} (h : Sorted l) : l.Nodup := List.Pairwise.imp (fun {a b} h e => by rw [e, Place.lt_irrefl] at h; cases h) h
theorem nodup_sub_len {l m : List Place} (h : l.Nodup) (hs : ∀ p ∈ l, p ∈ m) : l.length ≤ m.length := by
  induction l generalizing m with
  | nil => simp
  | cons x t ih =>
    rw [List.nodup_cons] at h
    have hx := hs x (by simp)
    have h1 := ih (m := m.erase x) h.2 fun p hp => (List.mem_erase_of_ne (fun e : p = x => h.1 (by rw [← e]; exact hp))).2 (hs p (by simp [hp]))
    rw [List.length_erase_of_mem hx] at h1
    have : 0 < m.length := List.length_pos_of_mem hx
    simp only [List.length_cons]
    omega
theorem right_check {f : List Rec} (h : Right f) : check f = 0 := by
  unfold check
  rw [if_neg (by have := h.len; omega)]
  have key : ∀ (f : List Rec) (p : Option Place), (∀ r ∈ f, recErr r = 0) → RSorted f → (∀ q, p = some q → ∀ r ∈ f, q.lt r.place = true) → checkFrom p f = 0 := by
    intro f
    induction f with
    | nil => intro p _ _ _; rfl
    | cons r t ih =>
      intro p h1 h2 h3
      have hq := List.pairwise_cons.1 h2
      rw [checkFrom, if_neg (by simpa using h1 r (by simp)), if_neg]
      · exact ih _ (fun x hx => h1 x (by simp [hx])) hq.2 fun q e x hx => by
          obtain rfl := Option.some.inj e
          exact hq.1 _ (List.mem_map_of_mem hx)
      · cases p with
        | none => simp
        | some q => simp [h3 q rfl r (by simp)]
  exact key f none h.recs h.sorted fun q e => by cases e
/-! ### changes that are differences -/
theorem chg_was (p : Place) (x y : St) : (chg p x y).was = x := by unfold chg Chg.was; cases x <;> rfl
theorem chg_now (p : Place) (x y : St) : (chg p x y).now = y := by unfold chg Chg.now; cases y <;> rfl
theorem chg_place (p : Place) (x y : St) : (chg p x y).place = p := rfl
theorem diffAt_place {f g : List Rec} {p : Place} {c : Chg} (h : diffAt f g p = some c) : c.place = p := by
  unfold diffAt at h
  split at h
  · cases h
  · obtain rfl := Option.some.inj h; rfl
def diffPl (f g : List Rec) : List Place := placesOf ((f ++ g).map Rec.place)
theorem diff_def (f g : List Rec) : diff f g = (diffPl f g).filterMap (diffAt f g) := rfl
theorem diffAt_out {f g : List Rec} {p : Place} (h : p ∉ diffPl f g) : diffAt f g p = none := by
  unfold diffPl at h
  rw [mem_placesOf, List.map_append, List.mem_append, not_or] at h
  unfold diffAt
  rw [getIn_none h.1, getIn_none h.2, if_pos rfl]
theorem findC_filterMap (F : Place → Option Chg) (hF : ∀ p c, F p = some c → c.place = p) : ∀ {ps : List Place}, Sorted ps → ∀ p, findC (ps.filterMap F) p = if p ∈ ps then F p else none := by
  intro ps
  induction ps with
  | nil => intro _ p; rfl
  | cons q t ih =>
    intro hs p
    have hq := List.pairwise_cons.1 hs
    have hqt : q ∉ t := fun hm => by have := hq.1 q hm; rw [Place.lt_irrefl] at this; cases this
    rw [List.filterMap_cons]
    cases hc : F q with
    | none =>
      simp only
      rw [ih hq.2]
      by_cases h : p = q
      · subst h; simp [hqt, hc]
      · simp [h]
    | some c =>
      simp only
      have hp := hF q c hc
      unfold findC at ih ⊢
      rw [List.find?_cons]
      by_cases h : q = p
      · subst h; simp [hp, hc]
      · have : decide (c.place = p) = false := by simp [hp, h]
        rw [this]
        simp only
        rw [ih hq.2]
        simp [Ne.symm h]
theorem findC_diff (f g : List Rec) (p : Place) : findC (diff f g) p = diffAt f g p := by
  have hs : Sorted (diffPl f g) := placesOf_sorted _
  rw [diff_def, findC_filterMap (diffAt f g) (fun p c h => diffAt_place h) hs]
  split
  · rfl
  · rename_i h; exact (diffAt_out h).symm
theorem mem_diff {f g : List Rec} {c : Chg} (h : c ∈ diff f g) : ∃ p, p ∈ diffPl f g ∧ getIn f p ≠ getIn g p ∧ c = chg p (getIn f p) (getIn g p) := by
  rw [diff_def, List.mem_filterMap] at h
  obtain ⟨p, hp, hc⟩ := h
  unfold diffAt at hc
  split at hc
  · cases hc
  · rename_i hne
    exact ⟨p, hp, hne, (Option.some.inj hc).symm⟩
theorem mem_diff_of {f g : List Rec} {p : Place} (h : getIn f p ≠ getIn g p) : chg p (getIn f p) (getIn g p) ∈ diff f g := by
  have h1 : diffAt f g p = some (chg p (getIn f p) (getIn g p)) := by unfold diffAt; rw [if_neg h]
  rw [diff_def, List.mem_filterMap]
  refine ⟨p, ?_, h1⟩
  by_cases hm : p ∈ diffPl f g
  · exact hm
  · rw [diffAt_out hm] at h1; cases h1
theorem diff_places_sorted (F : Place → Option Chg) (hF : ∀ p c, F p = some c → c.place = p) : ∀ {ps : List Place}, Sorted ps → Sorted ((ps.filterMap F).map Chg.place) := by
  intro ps hs
  have : (ps.filterMap F).map Chg.place = ps.filter fun p => (F p).isSome := by
    clear hs
    induction ps with
    | nil => rfl
    | cons p t ih =>
      rw [List.filterMap_cons, List.filter_cons]
      cases hc : F p with
      | none => simp [ih]
      | some c => simp [ih, hF p c hc]
  rw [this]
  exact hs.filter _
theorem diff_sorted (f g : List Rec) : Sorted ((diff f g).map Chg.place) := diff_places_sorted _ (fun p c h => diffAt_place h) (placesOf_sorted _)
theorem wordsErr_nil {p : Place} (hp : p ∈ allPlaces) : wordsErr p.kind p.number [] = 0 := by
  rw [mem_allPlaces] at hp
  have h : recErr ⟨p.kind, p.number, []⟩ = 0 ∨ True := .inr trivial
  unfold wordsErr
  rw [if_neg (by simp), if_neg (by simp), if_neg]
  have h1 : (name p.kind).length ≤ 6 := by
    have : p.kind = 0 ∨ p.kind = 1 ∨ p.kind = 2 ∨ p.kind = 3 ∨ p.kind = 4 := by omega
    rcases this with h | h | h | h | h <;> rw [h] <;> decide
  have h2 : (digits p.number).length ≤ 3 := digits_len 2 p.number.toNat (by omega)
  unfold line
  simp only [List.length_append, List.length_cons, List.length_nil, List.flatMap_nil]
  omega
theorem chg_err {f g : List Rec} (hf : ∀ r ∈ f, recErr r = 0) (hg : ∀ r ∈ g, recErr r = 0) {p : Place} (hp : p ∈ allPlaces) (hne : getIn f p ≠ getIn g p) : chgErr (chg p (getIn f p) (getIn g p)) = 0 := by
  have key : ∀ f : List Rec, (∀ r ∈ f, recErr r = 0) → wordsErr p.kind p.number ((getIn f p).getD []) = 0 := by
    intro f hf
    cases hg : getIn f p with
    | none => exact wordsErr_nil hp
    | some ws =>
      obtain ⟨r, hr, h1, h2⟩ := getIn_mem hg
      have := ((recErr_iff r).1 (hf r hr)).2
      rw [h2] at this
      have h3 : r.kind = p.kind := congrArg Place.kind h1
      have h4 : r.number = p.number := congrArg Place.number h1
      rw [h3, h4] at this
      exact this
  have hpe : placeErr p.kind p.number = 0 := by
    rw [mem_allPlaces] at hp
    unfold placeErr
    rw [if_neg (by omega), if_neg (by omega)]
  have k1 := key f hf
  have k2 := key g hg
  unfold chgErr
  have e1 : (chg p (getIn f p) (getIn g p)).kind = p.kind := rfl
  have e2 : (chg p (getIn f p) (getIn g p)).number = p.number := rfl
  have e3 : (chg p (getIn f p) (getIn g p)).old = (getIn f p).getD [] := rfl
  have e4 : (chg p (getIn f p) (getIn g p)).new = (getIn g p).getD [] := rfl
  have e5 : (chg p (getIn f p) (getIn g p)).had = (getIn f p).isSome := rfl
  have e6 : (chg p (getIn f p) (getIn g p)).has = (getIn g p).isSome := rfl
  rw [e1, e2, e3, e4, e5, e6, if_neg (by simpa using hpe), if_neg (by simpa using k1), if_neg (by simpa using k2), if_neg]
  intro h
  cases hx : getIn f p <;> cases hy : getIn g p <;> simp_all
theorem diffPl_range {f g : List Rec} (hf : InRange f) (hg : InRange g) : ∀ p ∈ diffPl f g, p ∈ allPlaces := fun p hp => by
  unfold diffPl at hp
  rw [mem_placesOf] at hp
  obtain ⟨r, hr, rfl⟩ := List.mem_map.1 hp
  rcases List.mem_append.1 hr with h | h
  · exact hf r h
  · exact hg r h
theorem checkChg_of {l : List Chg} (h : RightC l) : checkChg l = 0 := by
  unfold checkChg
  rw [if_neg (by have := h.len; omega)]
  have key : ∀ (f : List Chg) (p : Option Place), (∀ r ∈ f, chgErr r = 0) → Sorted (f.map Chg.place) → (∀ q, p = some q → ∀ r ∈ f, q.lt r.place = true) → checkChgFrom p f = 0 := by
    intro f
    induction f with
    | nil => intro p _ _ _; rfl
    | cons r t ih =>
      intro p h1 h2 h3
      have hq := List.pairwise_cons.1 h2
      rw [checkChgFrom, if_neg (by simpa using h1 r (by simp)), if_neg]
      · exact ih _ (fun x hx => h1 x (by simp [hx])) hq.2 fun q e x hx => by
          obtain rfl := Option.some.inj e
          exact hq.1 _ (List.mem_map_of_mem hx)
      · cases p with
        | none => simp
        | some q => simp [h3 q rfl r (by simp)]
  exact key l none h.each h.sorted fun q e => by cases e
theorem diff_len {f g : List Rec} {m : List Place} (h : ∀ p, p ∈ f.map Rec.place ∨ p ∈ g.map Rec.place → p ∈ m) : (diff f g).length ≤ m.length := by
  have h1 : (diffPl f g).length ≤ m.length := nodup_sub_len (sorted_nodup (placesOf_sorted _)) fun p hp => by
    unfold diffPl at hp
    rw [mem_placesOf, List.map_append, List.mem_append] at hp
    exact h p hp
  exact Nat.le_trans (List.length_filterMap_le _ _) h1
theorem diff_right {f g : List Rec} (hf : Right f) (hg : Right g) : RightC (diff f g) := by
  refine ⟨?_, fun c hc => ?_, diff_sorted f g⟩
  · have := diff_len (f := f) (g := g) (m := f.map Rec.place ++ g.map Rec.place) fun p hp => List.mem_append.2 hp
    have h1 := hf.len
    have h2 := hg.len
    simp at this
    omega
  · obtain ⟨p, hp, hne, rfl⟩ := mem_diff hc
    exact chg_err hf.recs hg.recs (diffPl_range hf.range hg.range p hp) hne
theorem back_diff (f g : List Rec) : back (diff f g) = diff g f := by
  have hp : diffPl f g = diffPl g f := sorted_eq (placesOf_sorted _) (placesOf_sorted _) fun q => by
    show q ∈ placesOf _ ↔ q ∈ placesOf _
    rw [mem_placesOf, mem_placesOf, List.map_append, List.map_append, List.mem_append, List.mem_append, or_comm]
  rw [diff_def, diff_def, ← hp]
  unfold back
  rw [List.map_filterMap]
  congr 1
  funext p
  unfold diffAt
  by_cases h : getIn f p = getIn g p
  · rw [if_pos h, if_pos h.symm]; rfl
  · rw [if_neg h, if_neg (Ne.symm h)]; rfl
theorem diff_self (f : List Rec) : diff f f = [] := by
  rw [diff_def, List.filterMap_eq_nil_iff]
  intro p _
  unfold diffAt
  rw [if_pos rfl]
theorem diff_nil {f g : List Rec} (hf : Right f) (hg : Right g) : diff f g = [] ↔ f = g := by
  refine ⟨fun h => file_eq hf.sorted hg.sorted hf.range hg.range fun p => ?_, fun h => by rw [h, diff_self]⟩
  by_cases e : getIn f p = getIn g p
  · exact e
  · have := mem_diff_of e
    rw [h] at this
    simp at this

/-! ### what the other copy changed; changes that are made -/
theorem stL_none {l : List Chg} {p : Place} (h : p ∉ l.map Chg.place) (s : St) : stL l p s = s := by
  induction l generalizing s with
  | nil => rfl
  | cons c t ih =>
    simp only [List.map_cons, List.mem_cons, not_or] at h
    show stL t p (if c.place = p then c.now else s) = s
    rw [if_neg (Ne.symm h.1), ih h.2]
theorem stL_find {l : List Chg} (hs : Sorted (l.map Chg.place)) (p : Place) (s : St) : stL l p s = match findC l p with | none => s | some c => c.now := by
  induction l generalizing s with
  | nil => rfl
  | cons c t ih =>
    have hq := List.pairwise_cons.1 hs
    show stL t p (if c.place = p then c.now else s) = _
    unfold findC
    rw [List.find?_cons]
    by_cases h : c.place = p
    · subst h
      have : c.place ∉ t.map Chg.place := fun hm => by have := hq.1 _ hm; rw [Place.lt_irrefl] at this; cases this
      rw [if_pos rfl, stL_none this]
      simp
    · rw [if_neg h, ih hq.2]
      simp [h, findC]
theorem getIn_makeDiff (v f g : List Rec) (p : Place) : getIn (make v (diff f g)) p = if getIn f p = getIn g p then getIn v p else getIn g p := by
  rw [getIn_make, stL_find (diff_sorted f g), findC_diff]
  unfold diffAt
  by_cases h : getIn f p = getIn g p
  · rw [if_pos h, if_pos h]
  · rw [if_neg h, if_neg h]
    exact chg_now _ _ _
theorem diff_range {f g : List Rec} (hf : InRange f) (hg : InRange g) : ∀ c ∈ diff f g, c.place ∈ allPlaces := fun c hc => by
  obtain ⟨p, hp, _, rfl⟩ := mem_diff hc
  exact diffPl_range hf hg p hp
theorem make_diff {v f g : List Rec} (hv : RSorted v) (hvr : InRange v) (hf : Right f) (hg : Right g) (h : ∀ p, getIn f p = getIn g p → getIn v p = getIn g p) : make v (diff f g) = g := by
  refine file_eq (make_sorted _ hv) hg.sorted (make_range _ hvr (diff_range hf.range hg.range)) hg.range fun p => ?_
  rw [getIn_makeDiff]
  split
  · rename_i e; exact h p e
  · rfl
theorem fits_diff (v f g : List Rec) : fits v (diff f g) = true ↔ ∀ p, getIn f p ≠ getIn g p → getIn v p = getIn f p := by
  unfold fits
  rw [List.all_eq_true]
  constructor
  · intro h p hne
    have := h _ (mem_diff_of hne)
    simpa [chg_was, chg_place] using this
  · intro h c hc
    obtain ⟨p, _, hne, rfl⟩ := mem_diff hc
    simpa [chg_was, chg_place] using h p hne
end Oyez
namespace Ab
open Go Go.RowKit Go.Proofs
attribute [local irreducible] aws awp aw1 Og Om Oc Oa Ogd Ov Ot awd aw1d awh aw1h Ogh Ohd awl Ogl Ohl awv Ogv Ohv QThen QBlock QFn QFnM QRo QBe ACode AYield
theorem join32_glue (ws : List (List UInt8)) : join32 ws = Oyez.glueW ws := by
  unfold join32
  rw [List.intercalate]
  cases ws with
  | nil => rfl
  | cons w t =>
    unfold Oyez.glueW
    induction t generalizing w with
    | nil => simp
    | cons v t ih =>
      simp only [List.intersperse, List.flatten_cons, List.flatMap_cons] at ih ⊢
      rw [ih v]
      simp
theorem joinP_calls (ws : List (List UInt8)) (hl : ws.length ≤ 2 ^ 40) (hj : (join32 ws).length ≤ 2 ^ 40) : APure Tryz.prog 49 [wordsAV ws, .str [32]] (.str (Oyez.glueW ws)) := by
  intro σ
  refine .inl ⟨enters_fn Tryz.func49 (by decide) rfl, fun C cargs hI hv => callsIn_wide.2 ?_⟩
  obtain ⟨x, q, rfl, h1, h2⟩ := hv.inv
  obtain ⟨y, q, rfl, h3, h4⟩ := h2.inv
  obtain rfl := h4.of_nil
  obtain ⟨A, cap, rfl, hcap, hrow⟩ := h1.pl_inv
  rw [h3.str_inv]
  have hsl : (strs ws).length = ws.length := by simp [strs]
  by_cases h0 : ws = []
  · subst h0
    refine (Tryz.strings_Join_none A cap ⟨⟨[32]⟩⟩ C.w).mono ?_
    rintro e w' ⟨rfl, rfl⟩
    exact ⟨_, C, .str [], σ, rfl, rfl, Ext.refl C, hI, .str [], rfl, rfl⟩
  · rcases hrow with hrow | ⟨b, o, rfl, hrow⟩
    · exact absurd (List.eq_nil_of_length_eq_zero (by rw [← hsl]; exact congrArg List.length hrow)) h0
    · have hmap : (ws.map fun w => ByteArray.mk ⟨w⟩).map (·.data.toList) = ws := by
        rw [List.map_map]
        exact List.map_id'' (fun w => rfl) ws
      have key := Tryz.strings_Join b o cap (ws.map fun w => ByteArray.mk ⟨w⟩) ⟨⟨[32]⟩⟩ C.w (fun j x hx => by
        rw [List.getElem?_map, Option.map_eq_some_iff] at hx
        obtain ⟨w, hw, rfl⟩ := hx
        obtain ⟨_, hr⟩ := hrow.2 j (.str w) (by simp only [strs, List.getElem?_map, hw]; rfl)
        obtain ⟨_, v, hv, hvr⟩ := hr 0 (.str w) rfl
        rw [Nat.mul_one, Nat.add_zero] at hv
        rw [hv, hvr.str_inv]) (hI.plt b hrow.1) (by rw [List.length_map]; omega) (by rw [List.length_map, ← hsl]; exact hcap) (by
          rw [hmap]
          have : (join32 ws).length ≤ 140737488355328 := by omega
          exact this)
      rw [hmap, List.length_map] at key
      rw [hsl]
      refine key.mono ?_
      rintro e w' ⟨rfl, hbw⟩
      have hE := Ext.below hI.plt hbw (fun h => False.elim h)
      refine ⟨_, C.at_ w', .str (join32 ws), σ, rfl, rfl, hE, hI.below hbw, ?_, by rw [join32_glue], rfl⟩
      have : VR (C.at_ w') (.str (join32 ws)) (.string ⟨⟨join32 ws⟩⟩) := .str _
      simpa [join32, Lib.join] using this
end Ab
namespace Oyez
theorem glue_len (ws : List S) : (glueW ws).length ≤ (ws.flatMap fun w => (32 : UInt8) :: w).length := by
  cases ws with
  | nil => simp [glueW]
  | cons w t => simp [glueW]
theorem glue_rec {r : Rec} (h : recErr r = 0) : (glueW r.words).length ≤ 64 ∧ r.words.length ≤ 6 := by
  obtain ⟨h1, _, h3⟩ := wordsErr_zero ((recErr_iff r).1 h).2
  have := glue_len r.words
  unfold line at h3
  simp only [List.length_append] at h3
  exact ⟨by omega, h1⟩
theorem getIn_at {f : List Rec} {p : Place} {i : Nat} (hi : i < f.length) (h : ∀ x ∈ f.take i, x.place ≠ p) (hp : f[i].place = p) : getIn f p = some f[i].words := by
  have e : f = f.take i ++ f[i] :: f.drop (i + 1) := by rw [← List.drop_eq_getElem_cons hi, List.take_append_drop]
  conv => lhs; rw [e]
  rw [getIn_append, getIn_none, getIn_cons, if_pos hp]
  · rfl
  · intro hm
    obtain ⟨x, hx, hxp⟩ := List.mem_map.1 hm
    exact h x hx hxp
theorem getIn_no {f : List Rec} {p : Place} (h : ∀ x ∈ f, x.place ≠ p) : getIn f p = none := getIn_none fun hm => by
  obtain ⟨x, hx, hxp⟩ := List.mem_map.1 hm
  exact h x hx hxp
end Oyez
namespace Ab
open Go Go.RowKit Go.Proofs
attribute [local irreducible] aws awp aw1 Og Om Oc Oa Ogd Ov Ot awd aw1d awh aw1h Ogh Ohd awl Ogl Ohl awv Ogv Ohv QThen QBlock QFn QFnM QRo QBe ACode AYield
set_option maxHeartbeats 2000000 in
theorem has_calls (f : List Oyez.Rec) (p : Oyez.Place) (hf : ∀ r ∈ f, Oyez.recErr r = 0) (hl : f.length ≤ 2 ^ 40) : APure Tryz.prog 53 [fileAV f, placeAV p] (.str (Oyez.hasS (Oyez.getIn f p))) := by
  refine APure.of fun σ => ?_
  refine acalls_fn Tryz.func53 rfl (enters_fn Tryz.func53 (by decide) rfl) ?_
  obtain ⟨R, hR⟩ : ∃ R, Oyez.hasS (Oyez.getIn f p) = R := ⟨_, rfl⟩
  rw [hR]
  simp [Tryz.ntmps53]
  refine ACode_loopT (fun env σ' => ∃ (u : List AV) (i : Nat) (g : Heap), env = { t := u } ∧ u.length = 30 ∧ tg u 3 = .ptr σ.length 0 ∧ tg u 7 = fileAV f ∧ tg u 8 = .int .i64 f.length ∧ tg u 9 = .int .i64 i ∧ σ' = σ ++ .cells [.int .i64 p.kind, .int .i64 p.number] :: g ∧ i ≤ f.length ∧ ∀ x ∈ f.take i, x.place ≠ p)
    (fun env _ => match tg env.t 9 with | .int _ i => f.length - i.toNat | _ => 0) ⟨_, 0, [], rfl, by simp, by simp, by simp, by simp, by simp, by simp, by omega, by simp⟩ ?_
  rintro env _ ⟨u, i, g, rfl, hl2, g3, g7, g8, g9, rfl, hi, hno⟩
  rcases Nat.lt_or_ge i f.length with hlt | hge
  · have hlt' : (i : Int) < (f.length : Int) := by omega
    have hx := w64 (n := (i : Int) + 1) (by omega) (by omega)
    have htk : f.take (i + 1) = f.take i ++ [f[i]] := List.take_succ_eq_append_getElem hlt
    by_cases hp : f[i].place = p
    · have hk : f[i].kind = p.kind := congrArg Oyez.Place.kind hp
      have hn : f[i].number = p.number := congrArg Oyez.Place.number hp
      obtain ⟨hg1, hg2⟩ := Oyez.glue_rec (hf _ (List.getElem_mem hlt))
      rw [Oyez.getIn_at hlt hno hp] at hR
      subst hR
      have hb : 1 + (Oyez.glueW f[i].words).length ≤ 9223372036854775807 := by omega
      have hb' : (Oyez.glueW f[i].words).length + 1 ≤ 9223372036854775807 := by omega
      have hb2 : (Oyez.glueW f[i].words).length ≤ 9223372036854775806 := by omega
      simp [hl2, g3, g7, g8, g9, hlt', hlt, hk, hn, Nat.add_assoc]
      refine (joinP_calls f[i].words (by omega) (by rw [join32_glue]; omega)).use ?_
      simp [hl2, g3, g7, g8, g9, hb, hb', hb2, Oyez.hasS]
    · have hne : ¬ (f[i].kind = p.kind ∧ f[i].number = p.number) := fun ⟨h1, h2⟩ => hp (Oyez.Place.ext' h1 h2)
      have hno' : ∀ x ∈ f.take (i + 1), x.place ≠ p := fun x hx => by
        rw [htk] at hx
        rcases List.mem_append.1 hx with hx | hx
        · exact hno x hx
        · rw [List.mem_singleton.1 hx]; exact hp
      by_cases hk : f[i].kind = p.kind
      · have hn : ¬ f[i].number = p.number := fun h => hne ⟨hk, h⟩
        simp [hl2, g3, g7, g8, g9, hlt', hlt, hk, hn, hx, Nat.add_assoc]
        exact ⟨⟨i + 1, by simp, by omega, hno'⟩, by omega⟩
      · simp [hl2, g3, g7, g8, g9, hlt', hlt, hk, hx, Nat.add_assoc]
        exact ⟨⟨i + 1, by simp, by omega, hno'⟩, by omega⟩
  · have hge' : ¬ (i : Int) < (f.length : Int) := by omega
    rw [List.take_of_length_le hge] at hno
    rw [Oyez.getIn_no hno] at hR
    subst hR
    simp [hl2, g3, g7, g8, g9, hge', Oyez.hasS]
/-! ### places -/
def placesAV (l : List Oyez.Place) : AV := .pl 2 (l.map placeAV)
attribute [simp] placesAV
def idxP (l : List Oyez.Place) (p : Oyez.Place) : Int := if p ∈ l then (l.idxOf p : Nat) else -1
end Ab
namespace Ab
open Go Go.RowKit Go.Proofs
variable [Mode]
end Ab
namespace Ab
open Go Go.RowKit Go.Proofs
attribute [local irreducible] aws awp aw1 Og Om Oc Oa Ogd Ov Ot awd aw1d awh aw1h Ogh Ohd awl Ogl Ohl awv Ogv Ohv QThen QBlock QFn QFnM QRo QBe ACode AYield
/-- own words, read as what they hold once objects n and behind are never written again -/
theorem fz_strsN {n : Nat} {τ : Heap} {q : Nat} (ws : List (List UInt8)) (hn : n ≤ q) (h : τ[q]? = some (.cells (strs ws))) : Fz n τ (.arr 1 q 0 ws.length) (wordsAV ws) := by
  have hl : ws.length = (strs ws).length := by simp [strs]
  rw [hl]
  refine Fz.arr 1 q 0 (strs ws) (strs ws) (fun i _ => (strs ws).getD i .any) hn h (fun i x hx => ?_) (fun i x hx j y hy => ?_)
  · have hx' := hx
    simp only [strs, List.getElem?_map, Option.map_eq_some_iff] at hx
    obtain ⟨s, hs, rfl⟩ := hx
    refine ⟨rfl, fun j y hy => ?_⟩
    match j, hy with
    | 0, hy =>
      simp [AV.cells] at hy; subst hy
      refine ⟨rfl, ?_⟩
      rw [Nat.zero_add, Nat.mul_one, Nat.add_zero, List.getD_eq_getElem?_getD, hx']
      rfl
    | j + 1, hy => simp [AV.cells] at hy
  · have hx' := hx
    simp only [strs, List.getElem?_map, Option.map_eq_some_iff] at hx
    obtain ⟨s, hs, rfl⟩ := hx
    match j, hy with
    | 0, hy =>
      simp [AV.cells] at hy; subst hy
      rw [List.getD_eq_getElem?_getD, hx']
      exact .str _
    | j + 1, hy => simp [AV.cells] at hy
theorem OwnIn.fzN {n : Nat} {τ : Heap} {lo : Nat} {f : List Oyez.Rec} {v : AV} (hn : n ≤ lo) (h : OwnIn asIs τ lo f v) : Fz n τ v (fileAV f) := by
  rcases h.row with ⟨rfl, rfl⟩ | ⟨h1, rfl, cs, h3, h4, h5⟩
  · exact .nils_pl 3
  · have hl : f.length = (f.map recAV).length := by simp
    rw [hl]
    have hcell : ∀ (i : Nat) (r : Oyez.Rec), f[i]? = some r → ∃ w, (∀ j, j < 3 → cs[i * 3 + j]? = [AV.int .i64 r.kind, .int .i64 r.number, w][j]?) ∧ Fz n τ w (wordsAV r.words) := by
      intro i r hr
      obtain ⟨w, g1, g2⟩ := h5 i r hr
      refine ⟨w, fun j hj => ?_, ?_⟩
      · rw [← g1, List.getElem?_take_of_lt hj, List.getElem?_drop]
      · rcases g2 with ⟨g2, rfl⟩ | ⟨q, xs, a1, a2, rfl, a4, a5⟩
        · rw [g2]; exact .pl0 1 1
        · rw [show xs = strs r.words from a5] at a4
          exact fz_strsN _ (by omega) a4
    refine Fz.arr 3 lo 0 cs (f.map recAV) (fun i j => (cs[i * 3 + j]?).getD .any) hn h3 (fun i x hx => ?_) (fun i x hx j y hy => ?_)
    · rw [List.getElem?_map, Option.map_eq_some_iff] at hx
      obtain ⟨r, hr, rfl⟩ := hx
      obtain ⟨w, g1, g2⟩ := hcell i r hr
      refine ⟨rfl, fun j y hy => ?_⟩
      have hj : j < 3 := (List.getElem?_eq_some_iff.1 hy).1
      refine ⟨?_, ?_⟩
      · match j, hj, hy with
        | 0, _, hy => simp [AV.cells] at hy; subst hy; rfl
        | 1, _, hy => simp [AV.cells] at hy; subst hy; rfl
        | 2, _, hy => simp [AV.cells] at hy; subst hy; rfl
      · have := g1 j hj
        rw [Nat.zero_add, this]
        match j, hj with
        | 0, _ => rfl
        | 1, _ => rfl
        | 2, _ => rfl
    · rw [List.getElem?_map, Option.map_eq_some_iff] at hx
      obtain ⟨r, hr, rfl⟩ := hx
      obtain ⟨w, g1, g2⟩ := hcell i r hr
      have hj : j < 3 := (List.getElem?_eq_some_iff.1 hy).1
      rw [g1 j hj]
      match j, hj, hy with
      | 0, _, hy => simp [AV.cells] at hy; subst hy; exact .int _ _
      | 1, _, hy => simp [AV.cells] at hy; subst hy; exact .int _ _
      | 2, _, hy => simp [AV.cells] at hy; subst hy; exact g2
end Ab

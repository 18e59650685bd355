/-
  PLAIN LAWS: changes.
  PLAIN LAWS: what is joined, place by place; changes that are differences; what a file has at a place, as a text.
  strings.Join OVER WORDS THAT ARE NEVER WRITTEN AGAIN; what a file has at a place, as a text.
  WHAT THE STATEMENTS ASK OF FILES: what is at a place, as a text; the places of some files; is a place among some; strings.HasPrefix.
  WHAT JOIN AND SETTLE GIVE, never written again; arguments told with less; a row's room within a piece of code.
-/
import Derived.Test.YtdifgaapdnbliaaGreatDoorR17
import Derived.Test.YtdifgaapdnbliaaGreatDoorR18
import Derived.Test.YtdifgaapdnbliaaGreatDoorR22
import Derived.Test.YtdifgaapdnbliaaGreatDoorR23
import Derived.Test.YtdifgaapdnbliaaGreatDoorR28
import Derived.Test.YtdifgaapdnbliaaGreatDoorR25
import Derived.Test.YtdifgaapdnbliaaGreatDoorR30
import Derived.Test.YtdifgaapdnbliaaGreatDoorR32
set_option linter.unusedSimpArgs false
set_option linter.unusedVariables false
set_option linter.unusedSectionVars false
namespace Oyez
structure RightC (l : List Chg) : Prop where
  len : l.length ≤ 80
  each : ∀ c ∈ l, chgErr c = 0
  sorted : Sorted (l.map Chg.place)
theorem checkChgFrom_zero {p : Option Place} {l : List Chg} (h : checkChgFrom p l = 0) : (∀ c ∈ l, chgErr c = 0) ∧ Sorted (l.map Chg.place) ∧ ∀ q, p = some q → ∀ c ∈ l, q.lt c.place = true := by
  induction l generalizing p with
  | nil => simp [Sorted]
  | cons r t ih =>
    simp only [checkChgFrom] at h
    split at h
    · rename_i h1; exact absurd h h1
    · rename_i h1
      split at h
      · cases h
      · rename_i h2
        obtain ⟨g1, g2, g3⟩ := ih h
        have hp : ∀ q, p = some q → q.lt r.place = true := fun q hq => by rw [hq] at h2; simpa using h2
        refine ⟨?_, ?_, fun q hq x hx => ?_⟩
        · intro x hx
          rcases List.mem_cons.1 hx with rfl | hx
          · simpa using h1
          · exact g1 x hx
        · refine List.pairwise_cons.2 ⟨fun y hy => ?_, g2⟩
          obtain ⟨x, hx, rfl⟩ := List.mem_map.1 hy
          exact g3 _ rfl x hx
        · rcases List.mem_cons.1 hx with rfl | hx
          · exact hp q hq
          · exact Place.lt_trans (hp q hq) (g3 _ rfl x hx)
theorem checkChg_zero {l : List Chg} (h : checkChg l = 0) : RightC l := by
  unfold checkChg at h
  split at h
  · cases h
  · obtain ⟨h1, h2, _⟩ := checkChgFrom_zero h
    exact ⟨by omega, h1, h2⟩
theorem chgErr_zero {c : Chg} (h : chgErr c = 0) : c.place ∈ allPlaces ∧ wordsErr c.kind c.number c.old = 0 ∧ wordsErr c.kind c.number c.new = 0 ∧ (c.had = false → c.old = []) ∧ (c.has = false → c.new = []) ∧ c.was ≠ c.now := by
  unfold chgErr at h
  split at h
  · rename_i h1; exact absurd h h1
  · rename_i h1
    split at h
    · rename_i h2; exact absurd h h2
    · rename_i h2
      split at h
      · rename_i h3; exact absurd h h3
      · rename_i h3
        split at h
        · cases h
        · rename_i h4
          simp only [Bool.or_eq_true, Bool.and_eq_true, not_or, not_and, beq_iff_eq, decide_eq_true_eq, Bool.not_eq_true', List.isEmpty_iff, Bool.not_eq_true, Bool.not_eq_false'] at h4
          obtain ⟨⟨h5, h6⟩, h7⟩ := h4
          have h5' : c.had = false → c.old = [] := fun e => by simpa using h5 e
          have h6' : c.has = false → c.new = [] := fun e => by simpa using h6 e
          refine ⟨placeErr_zero (by simpa using h1), by simpa using h2, by simpa using h3, h5', h6', ?_⟩
          unfold Chg.was Chg.now
          cases h8 : c.had <;> cases h9 : c.has
          · exact absurd (by rw [h5' h8, h6' h9]) (h7 (by rw [h8, h9]))
          · simp
          · simp
          · simpa using h7 (by rw [h8, h9])
theorem RightC.range {l : List Chg} (h : RightC l) : ∀ c ∈ l, c.place ∈ allPlaces := fun c hc => (chgErr_zero (h.each c hc)).1
/-! ### make -/
def stL (l : List Chg) (p : Place) (s : St) : St := l.foldl (fun s c => if c.place = p then c.now else s) s
theorem getIn_make1 (f : List Rec) (c : Chg) (p : Place) : getIn (make1 f c) p = if c.place = p then c.now else getIn f p := by
  unfold make1 Chg.now
  cases h : c.has with
  | true =>
    simp only [if_true]
    rw [getIn_put, show (⟨c.kind, c.number, c.new⟩ : Rec).place = c.place from rfl]
    by_cases e : c.place = p
    · rw [if_pos e, if_pos e.symm]
    · rw [if_neg e, if_neg (fun h => e h.symm)]
  | false =>
    simp only [Bool.false_eq_true, if_false]
    rw [getIn_drop]
    by_cases e : c.place = p
    · rw [if_pos e, if_pos e.symm]
    · rw [if_neg e, if_neg (fun h => e h.symm)]
theorem getIn_make (l : List Chg) : ∀ (f : List Rec) (p : Place), getIn (make f l) p = stL l p (getIn f p) := by
  induction l with
  | nil => intro f p; rfl
  | cons c t ih =>
    intro f p
    show getIn (make (make1 f c) t) p = stL t p _
    rw [ih, getIn_make1]
theorem make1_sorted {f : List Rec} (h : RSorted f) (c : Chg) : RSorted (make1 f c) := by
  unfold make1
  split
  · exact put_sorted h _
  · exact drop_sorted h _
theorem make_sorted (l : List Chg) : ∀ {f : List Rec}, RSorted f → RSorted (make f l) := by
  induction l with
  | nil => intro f h; exact h
  | cons c t ih => intro f h; exact ih (make1_sorted h c)
theorem make_range (l : List Chg) : ∀ {f : List Rec}, InRange f → (∀ c ∈ l, c.place ∈ allPlaces) → InRange (make f l) := by
  induction l with
  | nil => intro f h _; exact h
  | cons c t ih =>
    intro f h hl
    refine ih (f := make1 f c) (fun r hr => ?_) fun x hx => hl x (by simp [hx])
    unfold make1 at hr
    split at hr
    · rcases mem_put hr with rfl | hr
      · exact hl c (by simp)
      · exact h r hr
    · exact h r (mem_drop.1 hr).1
theorem make_eq {f : List Rec} (hs : RSorted f) (hr : InRange f) {l : List Chg} (hl : ∀ c ∈ l, c.place ∈ allPlaces) : allPlaces.filterMap (recAt fun p => stL l p (getIn f p)) = make f l := by
  rw [← file_ext (make_sorted l hs) allPlaces_sorted (make_range l hr hl)]
  congr 1
  funext p
  simp [recAt, getIn_make]

/-! ### after -/
end Oyez
namespace Oyez
/-! ### what a file has, as a text -/
def hasS : St → S
  | none => []
  | some ws => 32 :: glueW ws
def WordSt (x : St) : Prop := ∀ ws, x = some ws → ∀ w ∈ ws, word w = true
theorem getIn_mem {f : List Rec} {p : Place} {ws : List S} (h : getIn f p = some ws) : ∃ r ∈ f, r.place = p ∧ r.words = ws := by
  unfold getIn at h
  rw [Option.map_eq_some_iff] at h
  obtain ⟨r, h1, rfl⟩ := h
  exact ⟨r, List.mem_of_find?_eq_some h1, by simpa using List.find?_some h1, rfl⟩
/-! ### joins, place by place -/
def clashAt (x y z : St) : Bool := decide (¬ y = z ∧ ¬ y = x ∧ ¬ z = x)
def confAt (base a b : List Rec) (p : Place) : Bool := clashAt (getIn base p) (getIn a p) (getIn b p)
def joinV (base a b : List Rec) (s : List Bool) (i : Nat) (p : Place) : St :=
  if getIn a p = getIn b p ∨ getIn b p = getIn base p then getIn a p else if getIn a p = getIn base p then getIn b p else pickJ s i (getIn base p) (getIn a p) (getIn b p)
def joinPl (base a b : List Rec) : List Place := placesOf ((base ++ a ++ b).map Rec.place)
/-- the places of the conflicts -/
def confsOf (base a b : List Rec) : List Place := (joinPl base a b).filter (confAt base a b)
theorem filterMap_snoc' {α β : Type} (f : α → Option β) (l : List α) (x : α) : (l ++ [x]).filterMap f = l.filterMap f ++ (f x).toList := by
  rw [List.filterMap_append, List.filterMap_cons]
  cases f x <;> simp
theorem sorted_nodup {l : List Place} (h : Sorted l) : l.Nodup := List.Pairwise.imp (fun {a b} h e => by rw [e, Place.lt_irrefl] at h; cases h) h
theorem nodup_sub_len {l m : List Place} (h : l.Nodup) (hs : ∀ p ∈ l, p ∈ m) : l.length ≤ m.length := by
  induction l generalizing m with
  | nil => simp
  | cons x t ih =>
    rw [List.nodup_cons] at h
    have hx := hs x (by simp)
    have h1 := ih (m := m.erase x) h.2 fun p hp => (List.mem_erase_of_ne (fun e : p = x => h.1 (by rw [← e]; exact hp))).2 (hs p (by simp [hp]))
    rw [List.length_erase_of_mem hx] at h1
    have : 0 < m.length := List.length_pos_of_mem hx
    simp only [List.length_cons]
    omega
/-! ### changes that are differences -/
theorem diffAt_place {f g : List Rec} {p : Place} {c : Chg} (h : diffAt f g p = some c) : c.place = p := by
  unfold diffAt at h
  split at h
  · cases h
  · obtain rfl := Option.some.inj h; rfl
def diffPl (f g : List Rec) : List Place := placesOf ((f ++ g).map Rec.place)
theorem diff_def (f g : List Rec) : diff f g = (diffPl f g).filterMap (diffAt f g) := rfl
theorem mem_diff {f g : List Rec} {c : Chg} (h : c ∈ diff f g) : ∃ p, p ∈ diffPl f g ∧ getIn f p ≠ getIn g p ∧ c = chg p (getIn f p) (getIn g p) := by
  rw [diff_def, List.mem_filterMap] at h
  obtain ⟨p, hp, hc⟩ := h
  unfold diffAt at hc
  split at hc
  · cases hc
  · rename_i hne
    exact ⟨p, hp, hne, (Option.some.inj hc).symm⟩
theorem diff_places_sorted (F : Place → Option Chg) (hF : ∀ p c, F p = some c → c.place = p) : ∀ {ps : List Place}, Sorted ps → Sorted ((ps.filterMap F).map Chg.place) := by
  intro ps hs
  have : (ps.filterMap F).map Chg.place = ps.filter fun p => (F p).isSome := by
    clear hs
    induction ps with
    | nil => rfl
    | cons p t ih =>
      rw [List.filterMap_cons, List.filter_cons]
      cases hc : F p with
      | none => simp [ih]
      | some c => simp [ih, hF p c hc]
  rw [this]
  exact hs.filter _
theorem diff_sorted (f g : List Rec) : Sorted ((diff f g).map Chg.place) := diff_places_sorted _ (fun p c h => diffAt_place h) (placesOf_sorted _)
theorem wordsErr_nil {p : Place} (hp : p ∈ allPlaces) : wordsErr p.kind p.number [] = 0 := by
  rw [mem_allPlaces] at hp
  have h : recErr ⟨p.kind, p.number, []⟩ = 0 ∨ True := .inr trivial
  unfold wordsErr
  rw [if_neg (by simp), if_neg (by simp), if_neg]
  have h1 : (name p.kind).length ≤ 6 := by
    have : p.kind = 0 ∨ p.kind = 1 ∨ p.kind = 2 ∨ p.kind = 3 ∨ p.kind = 4 := by omega
    rcases this with h | h | h | h | h <;> rw [h] <;> decide
  have h2 : (digits p.number).length ≤ 3 := digits_len 2 p.number.toNat (by omega)
  unfold line
  simp only [List.length_append, List.length_cons, List.length_nil, List.flatMap_nil]
  omega
theorem chg_err {f g : List Rec} (hf : ∀ r ∈ f, recErr r = 0) (hg : ∀ r ∈ g, recErr r = 0) {p : Place} (hp : p ∈ allPlaces) (hne : getIn f p ≠ getIn g p) : chgErr (chg p (getIn f p) (getIn g p)) = 0 := by
  have key : ∀ f : List Rec, (∀ r ∈ f, recErr r = 0) → wordsErr p.kind p.number ((getIn f p).getD []) = 0 := by
    intro f hf
    cases hg : getIn f p with
    | none => exact wordsErr_nil hp
    | some ws =>
      obtain ⟨r, hr, h1, h2⟩ := getIn_mem hg
      have := ((recErr_iff r).1 (hf r hr)).2
      rw [h2] at this
      have h3 : r.kind = p.kind := congrArg Place.kind h1
      have h4 : r.number = p.number := congrArg Place.number h1
      rw [h3, h4] at this
      exact this
  have hpe : placeErr p.kind p.number = 0 := by
    rw [mem_allPlaces] at hp
    unfold placeErr
    rw [if_neg (by omega), if_neg (by omega)]
  have k1 := key f hf
  have k2 := key g hg
  unfold chgErr
  have e1 : (chg p (getIn f p) (getIn g p)).kind = p.kind := rfl
  have e2 : (chg p (getIn f p) (getIn g p)).number = p.number := rfl
  have e3 : (chg p (getIn f p) (getIn g p)).old = (getIn f p).getD [] := rfl
  have e4 : (chg p (getIn f p) (getIn g p)).new = (getIn g p).getD [] := rfl
  have e5 : (chg p (getIn f p) (getIn g p)).had = (getIn f p).isSome := rfl
  have e6 : (chg p (getIn f p) (getIn g p)).has = (getIn g p).isSome := rfl
  rw [e1, e2, e3, e4, e5, e6, if_neg (by simpa using hpe), if_neg (by simpa using k1), if_neg (by simpa using k2), if_neg]
  intro h
  cases hx : getIn f p <;> cases hy : getIn g p <;> simp_all
theorem diffPl_range {f g : List Rec} (hf : InRange f) (hg : InRange g) : ∀ p ∈ diffPl f g, p ∈ allPlaces := fun p hp => by
  unfold diffPl at hp
  rw [mem_placesOf] at hp
  obtain ⟨r, hr, rfl⟩ := List.mem_map.1 hp
  rcases List.mem_append.1 hr with h | h
  · exact hf r h
  · exact hg r h
theorem diff_len {f g : List Rec} {m : List Place} (h : ∀ p, p ∈ f.map Rec.place ∨ p ∈ g.map Rec.place → p ∈ m) : (diff f g).length ≤ m.length := by
  have h1 : (diffPl f g).length ≤ m.length := nodup_sub_len (sorted_nodup (placesOf_sorted _)) fun p hp => by
    unfold diffPl at hp
    rw [mem_placesOf, List.map_append, List.mem_append] at hp
    exact h p hp
  exact Nat.le_trans (List.length_filterMap_le _ _) h1
theorem diff_right {f g : List Rec} (hf : Right f) (hg : Right g) : RightC (diff f g) := by
  refine ⟨?_, fun c hc => ?_, diff_sorted f g⟩
  · have := diff_len (f := f) (g := g) (m := f.map Rec.place ++ g.map Rec.place) fun p hp => List.mem_append.2 hp
    have h1 := hf.len
    have h2 := hg.len
    simp at this
    omega
  · obtain ⟨p, hp, hne, rfl⟩ := mem_diff hc
    exact chg_err hf.recs hg.recs (diffPl_range hf.range hg.range p hp) hne
/-! ### what the other copy changed; changes that are made -/
end Oyez
namespace Ab
open Go Go.RowKit Go.Proofs
attribute [local irreducible] aws awp aw1 Og Om Oc Oa Ogd Ov Ot awd aw1d awh aw1h Ogh Ohd awl Ogl Ohl awv Ogv Ohv QThen QBlock QFn QFnM QRo QBe ACode AYield
end Ab
namespace Oyez
end Oyez
namespace Ab
open Go Go.RowKit Go.Proofs
attribute [local irreducible] aws awp aw1 Og Om Oc Oa Ogd Ov Ot awd aw1d awh aw1h Ogh Ohd awl Ogl Ohl awv Ogv Ohv QThen QBlock QFn QFnM QRo QBe ACode AYield
/-! ### places -/
def placesAV (l : List Oyez.Place) : AV := .pl 2 (l.map placeAV)
attribute [simp] placesAV
def idxP (l : List Oyez.Place) (p : Oyez.Place) : Int := if p ∈ l then (l.idxOf p : Nat) else -1
end Ab
namespace Ab
open Go Go.RowKit Go.Proofs
variable [Mode]
end Ab
namespace Ab
open Go Go.RowKit Go.Proofs
attribute [local irreducible] aws awp aw1 Og Om Oc Oa Ogd Ov Ot awd aw1d awh aw1h Ogh Ohd awl Ogl Ohl awv Ogv Ohv QThen QBlock QFn QFnM QRo QBe ACode AYield
/-- own words, read as what they hold once objects n and behind are never written again -/
theorem fz_strsN {n : Nat} {τ : Heap} {q : Nat} (ws : List (List UInt8)) (hn : n ≤ q) (h : τ[q]? = some (.cells (strs ws))) : Fz n τ (.arr 1 q 0 ws.length) (wordsAV ws) := by
  have hl : ws.length = (strs ws).length := by simp [strs]
  rw [hl]
  refine Fz.arr 1 q 0 (strs ws) (strs ws) (fun i _ => (strs ws).getD i .any) hn h (fun i x hx => ?_) (fun i x hx j y hy => ?_)
  · have hx' := hx
    simp only [strs, List.getElem?_map, Option.map_eq_some_iff] at hx
    obtain ⟨s, hs, rfl⟩ := hx
    refine ⟨rfl, fun j y hy => ?_⟩
    match j, hy with
    | 0, hy =>
      simp [AV.cells] at hy; subst hy
      refine ⟨rfl, ?_⟩
      rw [Nat.zero_add, Nat.mul_one, Nat.add_zero, List.getD_eq_getElem?_getD, hx']
      rfl
    | j + 1, hy => simp [AV.cells] at hy
  · have hx' := hx
    simp only [strs, List.getElem?_map, Option.map_eq_some_iff] at hx
    obtain ⟨s, hs, rfl⟩ := hx
    match j, hy with
    | 0, hy =>
      simp [AV.cells] at hy; subst hy
      rw [List.getD_eq_getElem?_getD, hx']
      exact .str _
    | j + 1, hy => simp [AV.cells] at hy
theorem OwnIn.fzN {n : Nat} {τ : Heap} {lo : Nat} {f : List Oyez.Rec} {v : AV} (hn : n ≤ lo) (h : OwnIn asIs τ lo f v) : Fz n τ v (fileAV f) := by
  rcases h.row with ⟨rfl, rfl⟩ | ⟨h1, rfl, cs, h3, h4, h5⟩
  · exact .nils_pl 3
  · have hl : f.length = (f.map recAV).length := by simp
    rw [hl]
    have hcell : ∀ (i : Nat) (r : Oyez.Rec), f[i]? = some r → ∃ w, (∀ j, j < 3 → cs[i * 3 + j]? = [AV.int .i64 r.kind, .int .i64 r.number, w][j]?) ∧ Fz n τ w (wordsAV r.words) := by
      intro i r hr
      obtain ⟨w, g1, g2⟩ := h5 i r hr
      refine ⟨w, fun j hj => ?_, ?_⟩
      · rw [← g1, List.getElem?_take_of_lt hj, List.getElem?_drop]
      · rcases g2 with ⟨g2, rfl⟩ | ⟨q, xs, a1, a2, rfl, a4, a5⟩
        · rw [g2]; exact .pl0 1 1
        · rw [show xs = strs r.words from a5] at a4
          exact fz_strsN _ (by omega) a4
    refine Fz.arr 3 lo 0 cs (f.map recAV) (fun i j => (cs[i * 3 + j]?).getD .any) hn h3 (fun i x hx => ?_) (fun i x hx j y hy => ?_)
    · rw [List.getElem?_map, Option.map_eq_some_iff] at hx
      obtain ⟨r, hr, rfl⟩ := hx
      obtain ⟨w, g1, g2⟩ := hcell i r hr
      refine ⟨rfl, fun j y hy => ?_⟩
      have hj : j < 3 := (List.getElem?_eq_some_iff.1 hy).1
      refine ⟨?_, ?_⟩
      · match j, hj, hy with
        | 0, _, hy => simp [AV.cells] at hy; subst hy; rfl
        | 1, _, hy => simp [AV.cells] at hy; subst hy; rfl
        | 2, _, hy => simp [AV.cells] at hy; subst hy; rfl
      · have := g1 j hj
        rw [Nat.zero_add, this]
        match j, hj with
        | 0, _ => rfl
        | 1, _ => rfl
        | 2, _ => rfl
    · rw [List.getElem?_map, Option.map_eq_some_iff] at hx
      obtain ⟨r, hr, rfl⟩ := hx
      obtain ⟨w, g1, g2⟩ := hcell i r hr
      have hj : j < 3 := (List.getElem?_eq_some_iff.1 hy).1
      rw [g1 j hj]
      match j, hj, hy with
      | 0, _, hy => simp [AV.cells] at hy; subst hy; exact .int _ _
      | 1, _, hy => simp [AV.cells] at hy; subst hy; exact .int _ _
      | 2, _, hy => simp [AV.cells] at hy; subst hy; exact g2
end Ab

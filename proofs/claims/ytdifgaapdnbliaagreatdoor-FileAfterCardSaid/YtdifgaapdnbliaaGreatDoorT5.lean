/-
  PLAIN LAWS: what is printed is parsed as it was, what is parsed is printed as it was; the lines ahead of the first error.
  STRINGS SPLIT AT ONE BYTE: the plain part.
-/
import Derived.Test.YtdifgaapdnbliaaGreatDoorN1
import Derived.Test.YtdifgaapdnbliaaGreatDoorL4
set_option linter.unusedSimpArgs false
set_option linter.unusedVariables false
namespace Oyez
def glueW : List S → S
  | [] => []
  | w :: t => w ++ t.flatMap (fun x => 32 :: x)
theorem split_glue (s : S) : glueW (splitAt 32 s) = s := by
  induction s with
  | nil => simp [splitAt, glueW]
  | cons b t ih =>
    unfold splitAt
    cases hx : splitAt 32 t with
    | nil => exact absurd hx (splitAt_ne 32 t)
    | cons w r =>
      rw [hx] at ih
      simp only [glueW] at ih
      split
      · rename_i hb
        simp [glueW, hb, ih]
      · simp [glueW, ih]
theorem glue_split : ∀ ws : List S, ws ≠ [] → (∀ w ∈ ws, (32 : UInt8) ∉ w) → splitAt 32 (glueW ws) = ws := by
  intro ws
  induction ws with
  | nil => intro h; exact absurd rfl h
  | cons w t ih =>
    intro _ h
    cases t with
    | nil =>
      have := splitAt_none 32 w (h w (by simp)) [] [] [] rfl
      simpa [glueW] using this
    | cons v t =>
      have h2 := ih (by simp) fun x hx => h x (List.mem_cons_of_mem _ hx)
      have h3 : splitAt 32 (32 :: glueW (v :: t)) = [] :: (v :: t) := by rw [splitAt, if_pos rfl, h2]
      have h4 := splitAt_none 32 w (h w (by simp)) _ _ _ h3
      simpa [glueW] using h4
theorem line_glue (k n : Int) (ws : List S) : line k n ws = glueW (name k :: digits n :: ws) := by simp [line, glueW]
theorem kindOf_inv {k : S} {d : Int} (h : kindOf k = some d) : (0 ≤ d ∧ d ≤ 4) ∧ name d = k := by
  unfold kindOf at h
  split at h
  · rename_i h1; simp only [Option.some.injEq] at h; subst h; exact ⟨by decide, h1.symm⟩
  · split at h
    · rename_i h1; simp only [Option.some.injEq] at h; subst h; exact ⟨by decide, h1.symm⟩
    · split at h
      · rename_i h1; simp only [Option.some.injEq] at h; subst h; exact ⟨by decide, h1.symm⟩
      · split at h
        · rename_i h1; simp only [Option.some.injEq] at h; subst h; exact ⟨by decide, h1.symm⟩
        · split at h
          · rename_i h1; simp only [Option.some.injEq] at h; subst h; exact ⟨by decide, h1.symm⟩
          · cases h
theorem name_facts {d : Int} (h0 : 0 ≤ d) (h4 : d ≤ 4) : kindOf (name d) = some d ∧ (32 : UInt8) ∉ name d ∧ (10 : UInt8) ∉ name d := by
  have : d = 0 ∨ d = 1 ∨ d = 2 ∨ d = 3 ∨ d = 4 := by omega
  rcases this with rfl | rfl | rfl | rfl | rfl <;> decide
theorem valueN_dig : ∀ (w : S) (k n : Nat), valueN w k = some n → ∀ c ∈ w, isDig c = true := by
  intro w
  induction w with
  | nil => intro k n _ c hc; simp at hc
  | cons b t ih =>
    intro k n h c hc
    unfold valueN at h
    split at h
    · rename_i hb
      rcases List.mem_cons.1 hc with rfl | hc
      · exact hb
      · exact ih _ _ h c hc
    · cases h
theorem dig_not {c : UInt8} (h : isDig c = true) : c ≠ 32 ∧ c ≠ 10 := by
  constructor <;> (rintro rfl; revert h; decide)
theorem digits_not (n : Int) : (32 : UInt8) ∉ digits n ∧ (10 : UInt8) ∉ digits n := by
  have h := valueN_dig _ _ _ (valueN_digits n.toNat)
  exact ⟨fun hc => (dig_not (h _ hc)).1 rfl, fun hc => (dig_not (h _ hc)).2 rfl⟩
theorem word_not {w : S} (h : word w = true) : (32 : UInt8) ∉ w ∧ (10 : UInt8) ∉ w := by
  unfold word at h
  rw [Bool.and_eq_true] at h
  have := List.all_eq_true.1 h.1
  constructor
  · intro hc; have := this _ hc; revert this; decide
  · intro hc; have := this _ hc; revert this; decide
theorem wordsErr_zero {k n : Int} {ws : List S} (h : wordsErr k n ws = 0) : ws.length ≤ 6 ∧ ws.all word = true ∧ (line k n ws).length ≤ 64 := by
  unfold wordsErr at h
  split at h
  · cases h
  · split at h
    · cases h
    · split at h
      · cases h
      · rename_i h1 h2 h3
        exact ⟨by omega, by simpa using h2, by omega⟩
theorem placeErr_rng {k n : Int} (h : placeErr k n = 0) : (0 ≤ k ∧ k ≤ 4) ∧ 0 ≤ n ∧ n ≤ 999 := by
  unfold placeErr at h
  split at h
  · cases h
  · split at h
    · cases h
    · omega
theorem recErr_iff (r : Rec) : recErr r = 0 ↔ placeErr r.kind r.number = 0 ∧ wordsErr r.kind r.number r.words = 0 := by
  refine ⟨recErr_place, fun ⟨h1, h2⟩ => ?_⟩
  unfold recErr oneErr
  rw [if_neg (by simpa using h1)]
  exact h2
theorem firstBad_all {ws : List S} : ∀ i, firstBad ws i = none ↔ ws.all word = true := by
  induction ws with
  | nil => intro i; simp [firstBad]
  | cons w t ih =>
    intro i
    rw [firstBad]
    split
    · rename_i h; rw [ih]; simp [h]
    · rename_i h; simp [h]
theorem firstBad_lt {ws : List S} : ∀ {i j : Nat}, firstBad ws i = some j → j < i + ws.length := by
  induction ws with
  | nil => intro i j h; simp [firstBad] at h
  | cons w t ih =>
    intro i j h
    rw [firstBad] at h
    split at h
    · have := ih h; simp only [List.length_cons]; omega
    · simp only [Option.some.injEq] at h; simp only [List.length_cons]; omega
theorem readLine_inv {own : S} {e : Bool} {n : Nat} {r : Rec} (h : readLine own e n = .ok r) : own = line r.kind r.number r.words ∧ recErr r = 0 ∧ e = true ∧ n < 40 := by
  unfold readLine at h
  split at h
  · cases h
  · rename_i h40
    split at h
    · cases h
    · rename_i h64
      split at h
      · cases h
      · rename_i he
        split at h
        · cases h
        · rename_i k t hw
          split at h
          · cases h
          · rename_i d hk
            split at h
            · cases h
            · rename_i a ws
              split at h
              · cases h
              · rename_i num hv
                split at h
                · cases h
                · rename_i h6
                  split at h
                  · cases h
                  · rename_i hb
                    simp only [Except.ok.injEq] at h
                    subst h
                    obtain ⟨hd, hn⟩ := kindOf_inv hk
                    obtain ⟨_, _, hdig, hnum⟩ := atoi_value hv
                    have hown : own = line d num ws := by
                      rw [line_glue, hn]
                      have : digits (num : Int) = a := by unfold digits; rw [Int.toNat_natCast]; exact hdig
                      rw [this, ← hw]
                      exact (split_glue own).symm
                    refine ⟨hown, ?_, by simpa using he, by omega⟩
                    rw [recErr_iff]
                    constructor
                    · unfold placeErr
                      simp only
                      rw [if_neg (by omega), if_neg (by omega)]
                    · unfold wordsErr
                      simp only
                      rw [if_neg h6, (firstBad_all 2).1 hb, ← hown]
                      rw [if_neg (by simp), if_neg h64]
theorem readLine_of {r : Rec} (h : recErr r = 0) {n : Nat} (hn : n < 40) : readLine (line r.kind r.number r.words) true n = .ok r := by
  obtain ⟨h1, h2⟩ := (recErr_iff r).1 h
  obtain ⟨hk, hnum⟩ := placeErr_rng h1
  obtain ⟨h6, hall, h64⟩ := wordsErr_zero h2
  obtain ⟨hkn, hn32, _⟩ := name_facts hk.1 hk.2
  have hws : words (line r.kind r.number r.words) = name r.kind :: digits r.number :: r.words := by
    rw [line_glue]
    refine glue_split _ (by simp) fun w hw => ?_
    rcases List.mem_cons.1 hw with rfl | hw
    · exact hn32
    · rcases List.mem_cons.1 hw with rfl | hw
      · exact (digits_not _).1
      · exact (word_not (List.all_eq_true.1 hall w hw)).1
  have hv : value (digits r.number) 999 = some r.number.toNat := value_digits (by omega) (by omega)
  unfold readLine
  rw [if_neg (by omega), if_neg (by omega), if_neg (by simp), hws]
  simp only [hkn, hv]
  rw [if_neg (by omega), (firstBad_all 2).2 hall]
  have : (r.number.toNat : Int) = r.number := by omega
  rw [this]
theorem line_no10 {r : Rec} (h : recErr r = 0) : (10 : UInt8) ∉ line r.kind r.number r.words := by
  obtain ⟨h1, h2⟩ := (recErr_iff r).1 h
  obtain ⟨hk, hnum⟩ := placeErr_rng h1
  obtain ⟨h6, hall, h64⟩ := wordsErr_zero h2
  intro hc
  unfold line at hc
  simp only [List.mem_append, List.mem_flatMap, List.mem_cons, List.mem_singleton, List.not_mem_nil, or_false] at hc
  rcases hc with ((hc | hc) | hc) | ⟨w, hw, hc | hc⟩
  · exact (name_facts hk.1 hk.2).2.2 hc
  · revert hc; decide
  · exact (digits_not _).2 hc
  · revert hc; decide
  · exact (word_not (List.all_eq_true.1 hall w hw)).2 hc

/-! ### lines -/
def cat (l : List (S × Bool)) : S := l.flatMap fun x => x.1 ++ if x.2 then [10] else []
def okL : List (S × Bool) → Prop
  | [] => True
  | (w, e) :: t => (10 : UInt8) ∉ w ∧ (e = false → w ≠ [] ∧ t = []) ∧ okL t
theorem lines_cat : ∀ s : S, cat (linesOf s) = s ∧ okL (linesOf s) := by
  intro s
  induction s with
  | nil => exact ⟨rfl, trivial⟩
  | cons b t ih =>
    obtain ⟨ih1, ih2⟩ := ih
    rw [linesOf]
    split
    · rename_i hb
      refine ⟨?_, by simp [okL, ih2]⟩
      simp only [cat, List.flatMap_cons] at ih1 ⊢
      rw [ih1]
      simp [hb]
    · rename_i hb
      cases hx : linesOf t with
      | nil =>
        rw [hx] at ih1
        have : t = [] := by rw [← ih1]; rfl
        subst this
        exact ⟨by simp [cat], by simp [okL]; exact fun h => hb h.symm⟩
      | cons x r =>
        obtain ⟨w, e⟩ := x
        rw [hx] at ih1 ih2
        simp only [cat, List.flatMap_cons] at ih1 ⊢
        simp only [okL] at ih2 ⊢
        refine ⟨by rw [← ih1]; simp, ?_, fun he => ⟨by simp, (ih2.2.1 he).2⟩, ih2.2.2⟩
        intro hc
        rcases List.mem_cons.1 hc with h | h
        · exact hb h.symm
        · exact ih2.1 h
theorem linesOf_app : ∀ (w t : S), (10 : UInt8) ∉ w → linesOf (w ++ 10 :: t) = (w, true) :: linesOf t := by
  intro w
  induction w with
  | nil => intro t _; simp [linesOf]
  | cons b w ih =>
    intro t h
    simp only [List.mem_cons, not_or] at h
    rw [List.cons_append, linesOf, if_neg (Ne.symm h.1), ih t h.2]
theorem linesOf_one : ∀ w : S, (10 : UInt8) ∉ w → w ≠ [] → linesOf w = [(w, false)] := by
  intro w
  induction w with
  | nil => intro _ h; exact absurd rfl h
  | cons b w ih =>
    intro h _
    simp only [List.mem_cons, not_or] at h
    rw [linesOf, if_neg (Ne.symm h.1)]
    cases w with
    | nil => rfl
    | cons c w => rw [ih h.2 (by simp)]
theorem cat_lines : ∀ l : List (S × Bool), okL l → linesOf (cat l) = l := by
  intro l
  induction l with
  | nil => intro _; rfl
  | cons x t ih =>
    obtain ⟨w, e⟩ := x
    rintro ⟨h1, h2, h3⟩
    cases e with
    | true =>
      have : cat ((w, true) :: t) = w ++ 10 :: cat t := by simp [cat]
      rw [this, linesOf_app _ _ h1, ih h3]
    | false =>
      obtain ⟨h4, rfl⟩ := h2 rfl
      have : cat [(w, false)] = w := by simp [cat]
      rw [this, linesOf_one _ h1 h4]
theorem okL_take : ∀ (l : List (S × Bool)) (k : Nat), okL l → okL (l.take k) := by
  intro l
  induction l with
  | nil => intro k _; simp [okL]
  | cons x t ih =>
    obtain ⟨w, e⟩ := x
    intro k h
    cases k with
    | zero => exact trivial
    | succ k =>
      refine ⟨h.1, fun he => ?_, ih k h.2.2⟩
      obtain ⟨h4, rfl⟩ := h.2.1 he
      exact ⟨h4, by simp⟩
theorem parse_cat (s : S) (k : Nat) : parse (cat ((linesOf s).take k)) = parseLines ((linesOf s).take k) none 0 := by
  unfold parse
  rw [cat_lines _ (okL_take _ _ (lines_cat s).2)]
theorem readLine_err0 {own : S} {e : Bool} {n : Nat} {w : Nat} {x : Int} (h : readLine own e n = .error (w, x)) : x ≠ 0 ∧ w ≤ (words own).length := by
  have hne : 1 ≤ (words own).length := List.length_pos_iff.2 (splitAt_ne 32 own)
  unfold readLine at h
  split at h
  · simp only [Except.error.injEq, Prod.mk.injEq] at h; obtain ⟨rfl, rfl⟩ := h; exact ⟨by decide, by omega⟩
  · split at h
    · simp only [Except.error.injEq, Prod.mk.injEq] at h; obtain ⟨rfl, rfl⟩ := h; exact ⟨by decide, by omega⟩
    · split at h
      · simp only [Except.error.injEq, Prod.mk.injEq] at h; obtain ⟨rfl, rfl⟩ := h; exact ⟨by decide, by omega⟩
      · split at h
        · simp only [Except.error.injEq, Prod.mk.injEq] at h; obtain ⟨rfl, rfl⟩ := h; exact ⟨by decide, by omega⟩
        · rename_i k t hw
          split at h
          · simp only [Except.error.injEq, Prod.mk.injEq] at h; obtain ⟨rfl, rfl⟩ := h; exact ⟨by decide, by omega⟩
          · split at h
            · simp only [Except.error.injEq, Prod.mk.injEq] at h; obtain ⟨rfl, rfl⟩ := h; exact ⟨by decide, by omega⟩
            · rename_i a ws
              rw [hw]
              simp only [List.length_cons]
              split at h
              · simp only [Except.error.injEq, Prod.mk.injEq] at h; obtain ⟨rfl, rfl⟩ := h; exact ⟨by decide, by omega⟩
              · split at h
                · simp only [Except.error.injEq, Prod.mk.injEq] at h; obtain ⟨rfl, rfl⟩ := h; exact ⟨by decide, by omega⟩
                · split at h
                  · rename_i i hb
                    have := firstBad_lt hb
                    simp only [Except.error.injEq, Prod.mk.injEq] at h; obtain ⟨rfl, rfl⟩ := h; exact ⟨by decide, by omega⟩
                  · cases h
theorem readLine_words {own : S} {e : Bool} {n : Nat} {r : Rec} (h : readLine own e n = .ok r) : 2 ≤ (words own).length := by
  obtain ⟨h1, h2, _, _⟩ := readLine_inv h
  have h3 : 2 ≤ (splitAt 32 own).length := splitAt_len2 32 own (by rw [h1]; unfold line; simp)
  exact h3
/-- WHAT IS PARSED IS PRINTED AS IT WAS. -/
theorem parseLines_ok : ∀ (l : List (S × Bool)) (p : Option Place) (n : Nat), (parseLines l p n).err = 0 → checkFrom p (parseLines l p n).recs = 0 ∧ cat l = print (parseLines l p n).recs ∧ (parseLines l p n).recs.length = l.length ∧ (l ≠ [] → n + l.length ≤ 40) := by
  intro l
  induction l with
  | nil => intro p n _; exact ⟨rfl, rfl, rfl, fun h => absurd rfl h⟩
  | cons x t ih =>
    obtain ⟨own, e⟩ := x
    intro p n h
    rw [parseLines] at h ⊢
    cases hr : readLine own e n with
    | error x =>
      obtain ⟨w, x⟩ := x
      rw [hr] at h
      exact absurd h (readLine_err0 hr).1
    | ok r =>
      rw [hr] at h
      simp only at h ⊢
      obtain ⟨h1, h2, rfl, h40⟩ := readLine_inv hr
      cases hp : p.all (fun q => q.lt r.place) with
      | false => rw [hp] at h; simp at h
      | true =>
        rw [hp] at h
        simp only [Bool.true_eq_false, if_false] at h ⊢
        have h3 : (parseLines t (some r.place) (n + 1)).err = 0 := by
          split at h
          · assumption
          · exact h
        rw [if_pos h3]
        obtain ⟨h4, h5, h6, h7⟩ := ih _ _ h3
        refine ⟨?_, ?_, by simp [h6], fun _ => ?_⟩
        · rw [checkFrom, if_neg (by simpa using h2), if_neg (by simp [hp])]
          exact h4
        · simp only [cat, List.flatMap_cons, print] at h5 ⊢
          rw [h5, h1]
          simp
        · cases t with
          | nil => simp; omega
          | cons => have := h7 (by simp); simp only [List.length_cons] at this ⊢; omega
theorem parse_ok {s : S} (h : (parse s).err = 0) : check (parse s).recs = 0 ∧ print (parse s).recs = s := by
  obtain ⟨h1, h2, h3, h4⟩ := parseLines_ok (linesOf s) none 0 h
  refine ⟨?_, ?_⟩
  · unfold check
    rw [if_neg]
    · exact h1
    · intro h40
      have h5 : (parse s).recs.length = (linesOf s).length := h3
      have : linesOf s ≠ [] := fun h => by rw [h] at h5; simp at h5; rw [h5] at h40; simp at h40
      have := h4 this
      omega
  · exact h2.symm.trans (lines_cat s).1
theorem parseLines_print : ∀ (f : List Rec) (p : Option Place) (n : Nat), checkFrom p f = 0 → n + f.length ≤ 40 → parseLines (f.map fun r => (line r.kind r.number r.words, true)) p n = ⟨f, 0, 0, 0⟩ := by
  intro f
  induction f with
  | nil => intro p n _ _; rfl
  | cons r t ih =>
    intro p n h hn
    rw [checkFrom] at h
    split at h
    · rename_i h1; exact absurd h h1
    · rename_i h1
      split at h
      · cases h
      · rename_i h2
        simp only [List.length_cons] at hn
        rw [List.map_cons, parseLines, readLine_of (by simpa using h1) (by omega)]
        simp only
        rw [if_neg h2, ih _ _ h (by omega)]
        simp
theorem check_inv {f : List Rec} (h : check f = 0) : f.length ≤ 40 ∧ checkFrom none f = 0 := by
  unfold check at h
  split at h
  · cases h
  · exact ⟨by omega, h⟩
theorem print_cat (f : List Rec) : cat (f.map fun r => (line r.kind r.number r.words, true)) = print f := by
  simp [cat, print, List.flatMap_map]
theorem okL_print : ∀ f : List Rec, (∀ r ∈ f, recErr r = 0) → okL (f.map fun r => (line r.kind r.number r.words, true)) := by
  intro f
  induction f with
  | nil => intro _; exact trivial
  | cons r t ih => intro h; exact ⟨line_no10 (h r (by simp)), by simp, ih fun q hq => h q (List.mem_cons_of_mem _ hq)⟩
/-- WHAT IS PRINTED IS PARSED AS IT WAS. -/
theorem parse_print {f : List Rec} (h : check f = 0) : parse (print f) = ⟨f, 0, 0, 0⟩ := by
  obtain ⟨h1, h2⟩ := check_inv h
  unfold parse
  rw [← print_cat, cat_lines _ (okL_print f (checkFrom_zero h2).1)]
  exact parseLines_print f none 0 h2 (by omega)
/-- THE LINES AHEAD OF THE FIRST ERROR. -/
theorem parseLines_err : ∀ (l : List (S × Bool)) (p : Option Place) (n : Nat), (parseLines l p n).err ≠ 0 → (parseLines l p n).recs = [] ∧ ∃ k : Nat, (parseLines l p n).line = n + k ∧ k < l.length ∧
    (parseLines l p n).word ≤ (words ((l[k]?).getD ([], false)).1).length ∧ (parseLines (l.take k) p n).err = 0 ∧ (parseLines (l.take k) p n).recs.length = k ∧ parseLines (l.take (k + 1)) p n = parseLines l p n := by
  intro l
  induction l with
  | nil => intro p n h; exact absurd rfl h
  | cons x t ih =>
    obtain ⟨own, e⟩ := x
    intro p n h
    rw [parseLines] at h ⊢
    cases hr : readLine own e n with
    | error x =>
      obtain ⟨w, x⟩ := x
      refine ⟨rfl, 0, rfl, by simp, (readLine_err0 hr).2, rfl, rfl, ?_⟩
      rw [List.take_succ_cons, parseLines, hr]
    | ok r =>
      rw [hr] at h
      simp only at h ⊢
      cases hp : p.all (fun q => q.lt r.place) with
      | false =>
        simp only [if_true]
        refine ⟨trivial, 0, rfl, by simp, ?_, rfl, rfl, ?_⟩
        · have := readLine_words hr
          simp only [List.getElem?_cons_zero, Option.getD_some]
          omega
        · rw [List.take_succ_cons, parseLines, hr]
          simp [hp]
      | true =>
        rw [hp] at h
        simp only [Bool.true_eq_false, if_false] at h ⊢
        have h3 : (parseLines t (some r.place) (n + 1)).err ≠ 0 := by
          split at h
          · rename_i h4; exact absurd rfl h
          · exact h
        rw [if_neg h3]
        obtain ⟨h4, k, h5, h6, h7, h8, h9, h10⟩ := ih _ _ h3
        refine ⟨h4, k + 1, by omega, by simp; omega, by simpa using h7, ?_, ?_, ?_⟩
        · rw [List.take_succ_cons, parseLines, hr]
          simp only [hp, Bool.true_eq_false, if_false, h8, if_true]
        · rw [List.take_succ_cons, parseLines, hr]
          simp only [hp, Bool.true_eq_false, if_false, h8, if_true, List.length_cons, h9]
        · rw [List.take_succ_cons, parseLines, hr]
          simp only [hp, Bool.true_eq_false, if_false]
          rw [h10, if_neg h3]
theorem parse_err {s : S} (h : (parse s).err ≠ 0) : (parse s).recs = [] ∧ (parse s).line < (linesOf s).length ∧ (parse s).word ≤ (words (((linesOf s)[(parse s).line]?).getD ([], false)).1).length ∧
    (parse (cat ((linesOf s).take (parse s).line))).err = 0 ∧ (parse (cat ((linesOf s).take (parse s).line))).recs.length = (parse s).line ∧ parse (cat ((linesOf s).take ((parse s).line + 1))) = parse s := by
  obtain ⟨h1, k, h2, h3, h4, h5, h6, h7⟩ := parseLines_err (linesOf s) none 0 h
  have hk : (parse s).line = k := by unfold parse; rw [h2]; omega
  rw [hk, parse_cat, parse_cat]
  exact ⟨h1, h3, h4, h5, h6, h7⟩
end Oyez
namespace Oyez
/-- the pieces of a text at a byte, which each piece keeps or not -/
def sp (c : UInt8) (sv : Bool) : S → List S
  | [] => [[]]
  | b :: t => if b = c then (if sv then [b] else []) :: sp c sv t else
    match sp c sv t with
    | [] => [[b]]
    | w :: r => (b :: w) :: r
theorem sp_ne (c : UInt8) (sv : Bool) (s : S) : sp c sv s ≠ [] := by
  cases s with
  | nil => simp [sp]
  | cons b t =>
    rw [sp]
    split
    · simp
    · cases sp c sv t <;> simp
theorem sp_len (c : UInt8) (sv : Bool) : ∀ s : S, (sp c sv s).length = s.count c + 1 := by
  intro s
  induction s with
  | nil => rfl
  | cons b t ih =>
    rw [sp]
    split
    · rename_i h; subst h; simp [ih]
    · rename_i h
      rw [List.count_cons_of_ne h]
      cases hx : sp c sv t with
      | nil => exact absurd hx (sp_ne c sv t)
      | cons w r => rw [← ih, hx]; rfl
theorem sp_none (c : UInt8) (sv : Bool) : ∀ s : S, c ∉ s → sp c sv s = [s] := by
  intro s
  induction s with
  | nil => intro _; rfl
  | cons b t ih =>
    intro h
    simp only [List.mem_cons, not_or] at h
    rw [sp, if_neg (Ne.symm h.1), ih h.2]
theorem sp_step (c : UInt8) (sv : Bool) : ∀ w t : S, c ∉ w → sp c sv (w ++ c :: t) = (w ++ if sv then [c] else []) :: sp c sv t := by
  intro w
  induction w with
  | nil => intro t _; rw [List.nil_append, sp, if_pos rfl, List.nil_append]
  | cons b w ih =>
    intro t h
    simp only [List.mem_cons, not_or] at h
    rw [List.cons_append, sp, if_neg (Ne.symm h.1), ih t h.2]
    rfl
theorem sp_split (c : UInt8) : ∀ s : S, sp c false s = splitAt c s := by
  intro s
  induction s with
  | nil => rfl
  | cons b t ih =>
    rw [sp, splitAt, ih]
    rfl
def piece (x : S × Bool) : S := x.1 ++ if x.2 then [10] else []
theorem sp_lines : ∀ s : S, ∃ e : List S, sp 10 true s = (linesOf s).map piece ++ e := by
  intro s
  induction s with
  | nil => exact ⟨[[]], rfl⟩
  | cons b t ih =>
    obtain ⟨e, ih⟩ := ih
    rw [sp, linesOf]
    split
    · rename_i h
      exact ⟨e, by rw [ih, h]; rfl⟩
    · rename_i h
      cases hx : linesOf t with
      | nil =>
        have h1 := (lines_cat t).1
        rw [hx] at h1
        have h2 : t = [] := by rw [← h1]; rfl
        subst h2
        exact ⟨[], rfl⟩
      | cons x r =>
        obtain ⟨w, d⟩ := x
        rw [ih, hx]
        exact ⟨e, rfl⟩
theorem sp_lines_len (s : S) : (linesOf s).length ≤ (sp 10 true s).length := by
  obtain ⟨e, h⟩ := sp_lines s
  rw [h]; simp
theorem sp_lines_take (s : S) (k : Nat) (h : k ≤ (linesOf s).length) : ((sp 10 true s).take k).flatten = cat ((linesOf s).take k) := by
  obtain ⟨e, h1⟩ := sp_lines s
  rw [h1, List.take_append_of_le_length (by simpa using h), ← List.map_take]
  simp [cat, List.flatMap, piece]
  rfl
theorem sp_lines_words (s : S) (k : Nat) (h : k < (linesOf s).length) : (words (((linesOf s)[k]?).getD ([], false)).1).length = (sp 32 false (((sp 10 true s)[k]?).getD [])).length := by
  obtain ⟨e, h1⟩ := sp_lines s
  rw [h1, List.getElem?_append_left (by simpa using h), List.getElem?_map, List.getElem?_eq_getElem h, Option.map_some, Option.getD_some, Option.getD_some, sp_split]
  unfold piece words
  split
  · have h2 := splitAt_len 32 (linesOf s)[k].1 [10]
    have h3 : (splitAt 32 ([10] : S)).length = 1 := rfl
    omega
  · simp
end Oyez

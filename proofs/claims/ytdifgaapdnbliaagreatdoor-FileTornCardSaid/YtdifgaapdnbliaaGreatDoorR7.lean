import Derived.Test.YtdifgaapdnbliaaGreatDoorR5
set_option linter.unusedSimpArgs false
set_option linter.unusedVariables false
namespace Ab
open Go Go.Proofs
attribute [local irreducible] aws awp aw1 Og Om Oc Oa Ogd Ov Ot awd aw1d QThen QBlock QFn QFnM ACode ACalls AYield
def parsedAV (p : Oyez.Parsed) : AV := .tup [fileAV p.recs, .int .i64 p.line, .int .i64 p.word, .int .i64 p.err]
def recCells (r : Oyez.Rec) : List AV := [.int .i64 r.kind, .int .i64 r.number, wordsAV r.words]
theorem rec_cells (r : Oyez.Rec) : (recAV r).cells = recCells r := rfl
theorem flat_rec (f : List Oyez.Rec) (i j : Nat) (h : i < f.length) (hj : j < 3) : ((f.map recAV).flatMap AV.cells)[i * 3 + j]? = (recCells f[i])[j]? := by
  have := flat_get (f.map recAV) (k := 3) (fun x hx => by obtain ⟨r, _, rfl⟩ := List.mem_map.1 hx; rfl) (by decide) (i * 3 + j)
  rw [this, show (i * 3 + j) / 3 = i by omega, show (i * 3 + j) % 3 = j by omega]
  simp [h, recCells, AV.cells]
theorem readLine_line {own : List UInt8} {fed : Bool} {n : Nat} {r : Oyez.Rec} (h : Oyez.readLine own fed n = .ok r) : n < 40 ∧ own.length ≤ 64 ∧ fed = true := by
  unfold Oyez.readLine at h
  split at h
  · cases h
  · split at h
    · cases h
    · split at h
      · cases h
      · rename_i h1 h2 h3
        refine ⟨by omega, by omega, ?_⟩
        cases fed <;> simp_all
/-- what is left to parse: the lines behind a place, with the place of the record ahead -/
def cutAt (s : List UInt8) : List UInt8 := (Oyez.cutLine s).2.2
theorem cut_take (s : List UInt8) (e : Nat) (h1 : ∀ i, i < e → s[i]? ≠ some 10) (h2 : e ≤ s.length) (h3 : e = s.length ∨ s[e]? = some 10) :
    (Oyez.cutLine s).1 = s.take e ∧ (Oyez.cutLine s).2.1 = decide (e < s.length) ∧ (Oyez.cutLine s).2.2 = s.drop (e + 1) := by
  induction s generalizing e with
  | nil =>
    have : e = 0 := by simpa using h2
    subst this
    simp [Oyez.cutLine]
  | cons b t ih =>
    cases e with
    | zero =>
      rcases h3 with h3 | h3
      · simp at h3
      · simp at h3
        subst h3
        simp [Oyez.cutLine]
    | succ e =>
      have hb : b ≠ 10 := fun x => h1 0 (by omega) (by simp [x])
      obtain ⟨g1, g2, g3⟩ := ih e (fun i hi => by simpa using h1 (i + 1) (by omega)) (by simpa using h2) (by simpa using h3)
      unfold Oyez.cutLine
      rw [if_neg hb, g1, g2, g3]
      simp

theorem Acc.more {σ g : Heap} {k : Nat} {v : AV} {l : List AV} {o : Option Nat} (h : Acc σ g k v l o) (y : Heap) : Acc σ (g ++ y) k v l o := ⟨h.len, by
  have := h.val
  cases o with
  | none => exact this
  | some j => exact ⟨this.1, by rw [List.getElem?_append_left (List.getElem?_eq_some_iff.1 this.2).1]; exact this.2⟩⟩
/-- records ahead of what is parsed -/
def glue (f : List Oyez.Rec) (p : Oyez.Parsed) : Oyez.Parsed := if p.err = 0 then ⟨f ++ p.recs, 0, 0, 0⟩ else p
theorem readLine_err {own : List UInt8} {fed : Bool} {n : Nat} {w : Nat} {e : Int} (h : Oyez.readLine own fed n = .error (w, e)) : e ≠ 0 := by
  unfold Oyez.readLine at h
  repeat' split at h
  all_goals first
    | (cases h; decide)
    | cases h
theorem parseLines_zero : ∀ (l : List (Oyez.S × Bool)) (p : Option Oyez.Place) (n : Nat), (Oyez.parseLines l p n).err = 0 → (Oyez.parseLines l p n).line = 0 ∧ (Oyez.parseLines l p n).word = 0 := by
  intro l
  induction l with
  | nil => intro p n _; exact ⟨rfl, rfl⟩
  | cons x t ih =>
    intro p n h
    obtain ⟨own, ended⟩ := x
    rw [Oyez.parseLines] at h ⊢
    split at h
    · rename_i w e he
      exact absurd h (readLine_err he)
    · rename_i r hr
      simp only at h ⊢
      split at h
      · cases h
      · rename_i h2
        rw [if_neg h2]
        split at h
        · rename_i h3; rw [if_pos h3]; exact ⟨rfl, rfl⟩
        · rename_i h3; exact absurd h h3
theorem glue_nil (s : List UInt8) : glue [] (Oyez.parse s) = Oyez.parse s := by
  unfold glue
  split
  · rename_i h
    have := parseLines_zero _ _ _ h
    unfold Oyez.parse at h ⊢
    generalize Oyez.parseLines (Oyez.linesOf s) none 0 = p at *
    obtain ⟨a, b, c, d⟩ := p
    simp_all
  · rfl
/-- the place of the last record -/
def lastP (f : List Oyez.Rec) : Option Oyez.Place := f.getLast?.map Oyez.Rec.place
/-- what is left to parse behind a place -/
def restP (s : List UInt8) (at_ : Nat) (f : List Oyez.Rec) : Oyez.Parsed := glue f (Oyez.parseLines (Oyez.linesOf (s.drop at_)) (lastP f) f.length)
theorem restP_end {s : List UInt8} {at_ : Nat} (h : s.length ≤ at_) (f : List Oyez.Rec) : restP s at_ f = ⟨f, 0, 0, 0⟩ := by
  unfold restP
  rw [List.drop_eq_nil_of_le h]
  simp [Oyez.linesOf, Oyez.parseLines, glue]
theorem restP_line {s : List UInt8} {at_ e : Nat} (h : at_ < s.length) (f : List Oyez.Rec) (ha : at_ ≤ e) (h1 : ∀ i, at_ ≤ i → i < e → s[i]? ≠ some 10) (h2 : e ≤ s.length) (h3 : e = s.length ∨ s[e]? = some 10) :
    restP s at_ f = match Oyez.readLine ((s.take e).drop at_) (decide (e < s.length)) f.length with
      | .error (w, x) => ⟨[], f.length, w, x⟩
      | .ok r => if (lastP f).all (fun q => q.lt r.place) = false then ⟨[], f.length, 1, 4⟩ else restP s (e + 1) (f ++ [r]) := by
  obtain ⟨g1, g2, g3⟩ := cut_take (s.drop at_) (e - at_) (fun i hi => by rw [List.getElem?_drop]; exact h1 _ (by omega) (by omega)) (by rw [List.length_drop]; omega)
    (by rw [List.length_drop, List.getElem?_drop, show at_ + (e - at_) = e by omega]; rcases h3 with h3 | h3
        · exact .inl (by omega)
        · exact .inr h3)
  have hne : s.drop at_ ≠ [] := fun x => by have := congrArg List.length x; rw [List.length_drop] at this; simp at this; omega
  obtain ⟨b, t, hbt⟩ := List.exists_cons_of_ne_nil hne
  have e1 : (s.drop at_).take (e - at_) = (s.take e).drop at_ := by rw [List.drop_take]
  have e2 : decide (e - at_ < (s.drop at_).length) = decide (e < s.length) := by rw [List.length_drop]; congr 1; rw [eq_iff_iff]; omega
  have e3 : (s.drop at_).drop (e - at_ + 1) = s.drop (e + 1) := by rw [List.drop_drop]; congr 1; omega
  rw [e1] at g1
  rw [e2] at g2
  rw [e3] at g3
  unfold restP
  rw [hbt] at g1 g2 g3 ⊢
  rw [Oyez.linesOf_cut, g1, g2, g3, Oyez.parseLines]
  cases hr : Oyez.readLine ((s.take e).drop at_) (decide (e < s.length)) f.length with
  | error x =>
    obtain ⟨w, x⟩ := x
    have := readLine_err hr
    simp [glue, this]
  | ok r =>
    simp only
    cases hl : (lastP f).all (fun q => q.lt r.place) with
    | false => simp [glue]
    | true =>
      have hlp : lastP (f ++ [r]) = some r.place := by simp [lastP]
      rw [hlp, List.length_append]
      simp only [Bool.true_eq_false, if_false, List.length_cons, List.length_nil]
      unfold glue
      split
      · simp
      · rfl
end Ab

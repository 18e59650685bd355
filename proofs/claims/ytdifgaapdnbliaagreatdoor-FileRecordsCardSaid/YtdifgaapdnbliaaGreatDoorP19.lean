/-

-/
import Derived.Test.YtdifgaapdnbliaaGreatDoorP15
set_option linter.unusedSimpArgs false
set_option linter.unusedVariables false
set_option linter.unusedSectionVars false
namespace Ab
open Go Go.Proofs
attribute [local irreducible] aws awp aw1 Og Om Oc Oa Ogd Ov Ot awd aw1d QThen QBlock QFn QFnM ACode ACalls AYield
def Small (f : List Oyez.Rec) : Prop := ∀ r ∈ f, tot1 r.words ≤ 2 ^ 49 ∧ r.words.length ≤ 2 ^ 49
/-- the place ahead of number i -/
def prevOf (f : List Oyez.Rec) (i : Nat) : Option Oyez.Place := if i = 0 then none else (f[i - 1]?).map Oyez.Rec.place
set_option maxHeartbeats 4000000 in
set_option maxRecDepth 8000 in
theorem refCheck_calls (f : List Oyez.Rec) (hf : Small f) : APure Tryz.prog 30 [fileAV f] (.int .i64 (Oyez.check f)) := by
  intro σ
  refine acalls_fn Tryz.func30 rfl (enters_fn Tryz.func30 (by decide) rfl) ?_
  by_cases h40 : 40 < f.length
  · have h40' : (40 : Int) < (f.length : Int) := by omega
    have hE : Oyez.check f = 2 := by unfold Oyez.check; rw [if_pos h40]
    simp [Tryz.ntmps30, h40', hE]
  · have h40' : ¬ (40 : Int) < (f.length : Int) := by omega
    have hE : Oyez.check f = Oyez.checkFrom none f := by unfold Oyez.check; rw [if_neg h40]
    simp [Tryz.ntmps30, h40']
    refine ACode_loopT (fun env σ' => ∃ (u : List AV) (i : Nat), env = { t := u } ∧ u.length = 50 ∧ tg u 0 = fileAV f ∧ tg u 3 = .int .i64 i ∧ σ' = σ ∧ i ≤ f.length ∧ Oyez.checkFrom (prevOf f i) (f.drop i) = Oyez.check f)
      (fun env _ => match tg env.t 3 with | .int _ i => f.length - i.toNat | _ => 0) ⟨_, 0, rfl, by simp, by simp, by simp, rfl, by omega, by simp [prevOf, hE]⟩ ?_
    rintro env σ' ⟨u, i, rfl, hl, g0, g3, rfl, hi, hd⟩
    rcases Nat.lt_or_ge i f.length with hlt | hge
    · have hlt' : (i : Int) < (f.length : Int) := by omega
      have hdr : f.drop i = f[i] :: f.drop (i + 1) := List.drop_eq_getElem_cons hlt
      have hs := hf _ (List.getElem_mem hlt)
      rw [hdr, Oyez.checkFrom] at hd
      simp [hl, g0, g3, hlt', hlt]
      refine (One_calls f[i] hs.1 hs.2).use ?_
      by_cases h0 : Oyez.recErr f[i] = 0
      · rw [if_neg (by simpa using h0)] at hd
        simp [hl, g0, g3, h0]
        refine ACode_draw0 mixed (by kernel_rfl) ?_
        cases i with
        | zero =>
          have hx1 : IntKind.i64.wrap 1 = 1 := w64 (by omega) (by omega)
          simp [hl, g0, g3, hx1]
          refine ⟨⟨1, rfl, hlt, ?_⟩, by omega⟩
          simpa [prevOf, List.getElem?_eq_getElem hlt] using hd
        | succ j =>
          have hz' : (0 : Int) < (j : Int) + 1 := by omega
          have hx := w64 (n := (j : Int)) (by omega) (by omega)
          have hx2 := w64 (n := (j : Int) + 1 + 1) (by omega) (by omega)
          have hj : j < f.length := by omega
          have hj0 : (0 : Int) ≤ (j : Int) + 1 := by omega
          have hj1 : (j : Int) + 1 < (f.length : Int) := by omega
          have hp : prevOf f (j + 1) = some f[j].place := by simp [prevOf, hj]
          rw [hp] at hd
          simp [hl, g0, g3, hz', hlt, hx, hj, hj0, hj1]
          refine Ou_use (behind_calls _ _ _ _) ?_
          cases hb : f[j].place.lt f[j + 1].place with
          | true =>
            simp [hl, g0, g3, hx2, show ((⟨f[j].kind, f[j].number⟩ : Oyez.Place).lt ⟨f[j + 1].kind, f[j + 1].number⟩) = true from hb]
            refine ⟨⟨j + 1 + 1, by simp, hlt, ?_⟩, by omega⟩
            have hp2 : prevOf f (j + 1 + 1) = some f[j + 1].place := by simp [prevOf, hlt]
            rw [hp2, ← hd]
            simp [hb]
          | false =>
            simp [hl, g0, g3, show ((⟨f[j].kind, f[j].number⟩ : Oyez.Place).lt ⟨f[j + 1].kind, f[j + 1].number⟩) = false from hb]
            simpa [hb] using hd
      · rw [if_pos (by simpa using h0)] at hd
        simp [hl, g0, g3, h0, ← hd]
    · have hge' : ¬ (i : Int) < (f.length : Int) := by omega
      rw [List.drop_eq_nil_of_le hge, Oyez.checkFrom] at hd
      simp [hl, g0, g3, hge', ← hd]
end Ab
namespace Ab
open Go Go.Proofs
attribute [local irreducible] aws awp aw1 Og Om Oc Oa Ogd Ov Ot awd aw1d QThen QBlock QFn QFnM ACode ACalls AYield
/-- what reading a line gives: the record; the word and the error -/
def readAV (x : Except (Nat × Int) Oyez.Rec) : AV := match x with
  | .ok r => .tup [recAV r, .int .i64 0, .int .i64 0]
  | .error (w, e) => .tup [recAV ⟨0, 0, []⟩, .int .i64 w, .int .i64 e]
theorem words_mem_len {s w : List UInt8} (h : w ∈ Oyez.words s) : w.length ≤ s.length := by
  induction s generalizing w with
  | nil => simp [Oyez.words, Oyez.splitAt] at h; subst h; simp
  | cons b t ih =>
    by_cases hb : b = 32
    · subst hb
      rw [words_blank] at h
      rcases List.mem_cons.1 h with rfl | h
      · simp
      · have := ih h; simp; omega
    · rw [words_other b t hb] at h
      cases hx : Oyez.words t with
      | nil => rw [hx] at h; simp [joinW] at h; subst h; simp
      | cons x r =>
        rw [hx] at h ih
        simp only [joinW, List.mem_cons] at h
        rcases h with rfl | h
        · have := ih (List.mem_cons_self); simp; omega
        · have := ih (List.mem_cons_of_mem _ h); simp; omega
theorem Fz_strs (n : Nat) (σ : Heap) (ws : List (List UInt8)) : Fz n σ (.pl 1 (List.map AV.str ws)) (.pl 1 (List.map AV.str ws)) ↔ True := by
  refine ⟨fun _ => trivial, fun _ => .pl 1 _ fun i x hx j y hy => ?_⟩
  rw [List.getElem?_map, Option.map_eq_some_iff] at hx
  obtain ⟨w, _, rfl⟩ := hx
  cases j with
  | zero => simp [AV.cells] at hy; subst hy; exact .str w
  | succ j => simp [AV.cells] at hy
attribute [simp] Fz_strs
end Ab
namespace Ab
open Go Go.Proofs
attribute [local irreducible] aws awp aw1 Og Om Oc Oa Ogd Ov Ot awd aw1d QThen QBlock QFn QFnM ACode ACalls AYield
def parsedAV (p : Oyez.Parsed) : AV := .tup [fileAV p.recs, .int .i64 p.line, .int .i64 p.word, .int .i64 p.err]
def recCells (r : Oyez.Rec) : List AV := [.int .i64 r.kind, .int .i64 r.number, wordsAV r.words]
theorem flat_rec (f : List Oyez.Rec) (i j : Nat) (h : i < f.length) (hj : j < 3) : ((f.map recAV).flatMap AV.cells)[i * 3 + j]? = (recCells f[i])[j]? := by
  have := flat_get (f.map recAV) (k := 3) (fun x hx => by obtain ⟨r, _, rfl⟩ := List.mem_map.1 hx; rfl) (by decide) (i * 3 + j)
  rw [this, show (i * 3 + j) / 3 = i by omega, show (i * 3 + j) % 3 = j by omega]
  simp [h, recCells, AV.cells]
theorem readLine_line {own : List UInt8} {fed : Bool} {n : Nat} {r : Oyez.Rec} (h : Oyez.readLine own fed n = .ok r) : n < 40 ∧ own.length ≤ 64 ∧ fed = true := by
  unfold Oyez.readLine at h
  split at h
  · cases h
  · split at h
    · cases h
    · split at h
      · cases h
      · rename_i h1 h2 h3
        refine ⟨by omega, by omega, ?_⟩
        cases fed <;> simp_all
/-- what is left to parse: the lines behind a place, with the place of the record ahead -/
def cutAt (s : List UInt8) : List UInt8 := (Oyez.cutLine s).2.2
theorem Acc.more {σ g : Heap} {k : Nat} {v : AV} {l : List AV} {o : Option Nat} (h : Acc σ g k v l o) (y : Heap) : Acc σ (g ++ y) k v l o := ⟨h.len, by
  have := h.val
  cases o with
  | none => exact this
  | some j => exact ⟨this.1, by rw [List.getElem?_append_left (List.getElem?_eq_some_iff.1 this.2).1]; exact this.2⟩⟩
/-- records ahead of what is parsed -/
def glue (f : List Oyez.Rec) (p : Oyez.Parsed) : Oyez.Parsed := if p.err = 0 then ⟨f ++ p.recs, 0, 0, 0⟩ else p
theorem readLine_err {own : List UInt8} {fed : Bool} {n : Nat} {w : Nat} {e : Int} (h : Oyez.readLine own fed n = .error (w, e)) : e ≠ 0 := by
  unfold Oyez.readLine at h
  repeat' split at h
  all_goals first
    | (cases h; decide)
    | cases h
theorem parseLines_zero : ∀ (l : List (Oyez.S × Bool)) (p : Option Oyez.Place) (n : Nat), (Oyez.parseLines l p n).err = 0 → (Oyez.parseLines l p n).line = 0 ∧ (Oyez.parseLines l p n).word = 0 := by
  intro l
  induction l with
  | nil => intro p n _; exact ⟨rfl, rfl⟩
  | cons x t ih =>
    intro p n h
    obtain ⟨own, ended⟩ := x
    rw [Oyez.parseLines] at h ⊢
    split at h
    · rename_i w e he
      exact absurd h (readLine_err he)
    · rename_i r hr
      simp only at h ⊢
      split at h
      · cases h
      · rename_i h2
        rw [if_neg h2]
        split at h
        · rename_i h3; rw [if_pos h3]; exact ⟨rfl, rfl⟩
        · rename_i h3; exact absurd h h3
theorem glue_nil (s : List UInt8) : glue [] (Oyez.parse s) = Oyez.parse s := by
  unfold glue
  split
  · rename_i h
    have := parseLines_zero _ _ _ h
    unfold Oyez.parse at h ⊢
    generalize Oyez.parseLines (Oyez.linesOf s) none 0 = p at *
    obtain ⟨a, b, c, d⟩ := p
    simp_all
  · rfl
/-- the place of the last record -/
def lastP (f : List Oyez.Rec) : Option Oyez.Place := f.getLast?.map Oyez.Rec.place
/-- what is left to parse behind a place -/
def restP (s : List UInt8) (at_ : Nat) (f : List Oyez.Rec) : Oyez.Parsed := glue f (Oyez.parseLines (Oyez.linesOf (s.drop at_)) (lastP f) f.length)
end Ab
namespace Ab
open Go Go.Proofs
attribute [local irreducible] aws awp aw1 Og Om Oc Oa Ogd Ov Ot awd aw1d QThen QBlock QFn QFnM ACode ACalls AYield
end Ab

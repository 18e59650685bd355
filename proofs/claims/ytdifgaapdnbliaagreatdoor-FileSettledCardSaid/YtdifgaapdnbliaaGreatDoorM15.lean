/-
  PLAIN LAWS: what is printed is parsed as it was, what is parsed is printed as it was; the lines ahead of the first error.
  STRINGS SPLIT AT ONE BYTE: the plain part.
  THE REFERENCE's Get, Drop, Put and Print.
  THE REFERENCE: are two places alike; two copies joined.
  THE REFERENCE: two copies joined.
  WORDS OF THE CALL's OWN: as they are, as many; read as what they hold.
  PLAIN LAWS: a sealed text of which a byte is damaged.
  THE REFERENCE: two copies joined, the walk.
-/
import Derived.Test.YtdifgaapdnbliaaGreatDoorM07
import Derived.Test.YtdifgaapdnbliaaGreatDoorM11
import Derived.Test.YtdifgaapdnbliaaGreatDoorM12
import Derived.Test.YtdifgaapdnbliaaGreatDoorM13
import Derived.Test.YtdifgaapdnbliaaGreatDoorM14
set_option linter.unusedSimpArgs false
set_option linter.unusedVariables false
set_option linter.unusedSectionVars false
namespace Ab
open Go Go.Proofs
instance loose : Mode := ⟨False⟩
attribute [local irreducible] aws awp aw1 Og Om Oc Oa QThen QBlock QFn ACode ACalls AYield
theorem digitsN_len (n : Nat) : (Oyez.digitsN n).length ≤ n + 1 := by
  induction n using Nat.strongRecOn with
  | _ n ih =>
    rcases Nat.lt_or_ge n 10 with h | h
    · rw [Oyez.digitsN_lt h]; simp
    · rw [Oyez.digitsN_ge h, List.length_append]
      have := ih (n / 10) (by omega)
      simp only [List.length_cons, List.length_nil]
      omega
theorem u8_eq (c : UInt8) (n : Nat) (h : n < 256) : c.toNat = n ↔ c = UInt8.ofNat n := by
  constructor
  · intro e; rw [← e]; simp
  · intro e; rw [e]; simp; omega
theorem isDig_iff (c : UInt8) : Oyez.isDig c = true ↔ 48 ≤ c.toNat ∧ c.toNat ≤ 57 := by
  simp [Oyez.isDig, UInt8.le_iff_toNat_le]
end Ab
namespace Ab
open Go Go.Proofs
attribute [local irreducible] aws awp aw1 Og Om Oc Oa Ogd Ov Ot awd aw1d QThen QBlock QFn QFnM ACode ACalls AYield
theorem mixed : Tryz.prog.follows .mixedOrders = true := by kernel_rfl
/-! ### lines, records -/
def strs (ws : List (List UInt8)) : List AV := ws.map AV.str
def wordsAV (ws : List (List UInt8)) : AV := .pl 1 (strs ws)
/-- the bytes of a line, up to some words -/
def tot1 (ws : List (List UInt8)) : Nat := (ws.map fun w => w.length + 1).sum
theorem flat_len32 (ws : List (List UInt8)) : (ws.flatMap fun w => (32 : UInt8) :: w).length = tot1 ws := by
  induction ws with
  | nil => rfl
  | cons w t ih => simp [tot1] at *; omega
theorem tot1_mem {ws : List (List UInt8)} {w : List UInt8} (h : w ∈ ws) : w.length + 1 ≤ tot1 ws := by
  induction ws with
  | nil => simp at h
  | cons x t ih =>
    rcases List.mem_cons.1 h with rfl | h
    · simp [tot1]
    · have := ih h; simp [tot1] at *; omega
theorem name_len (k : Int) : (Oyez.name k).length ≤ 6 := by
  unfold Oyez.name
  generalize k.toNat = n
  match n with
  | 0 => decide
  | 1 => decide
  | 2 => decide
  | 3 => decide
  | _ + 4 => exact (by decide : ([112, 108, 101, 97] : List UInt8).length ≤ 6)
end Ab
namespace Ab
open Go Go.Proofs
attribute [local irreducible] aws awp aw1 Og Om Oc Oa Ogd Ov Ot awd aw1d QThen QBlock QFn QFnM ACode ACalls AYield
def recAV (r : Oyez.Rec) : AV := .agg [.int .i64 r.kind, .int .i64 r.number, wordsAV r.words]
def fileAV (f : List Oyez.Rec) : AV := .pl 3 (f.map recAV)
attribute [simp] wordsAV strs recAV fileAV
def kindInt (w : List UInt8) : Int := match Oyez.kindOf w with | some k => k | none => -1
theorem split_ne (s : List UInt8) : Oyez.words s ≠ [] := by
  unfold Oyez.words
  cases s with
  | nil => simp [Oyez.splitAt]
  | cons b t =>
    unfold Oyez.splitAt
    split
    · simp
    · split <;> simp
def joinW (w : List UInt8) : List (List UInt8) → List (List UInt8)
  | [] => [w]
  | x :: r => (w ++ x) :: r
theorem words_blank (t : List UInt8) : Oyez.words (32 :: t) = [] :: Oyez.words t := by simp [Oyez.words, Oyez.splitAt]
theorem words_other (b : UInt8) (t : List UInt8) (h : b ≠ 32) : Oyez.words (b :: t) = joinW [b] (Oyez.words t) := by
  unfold Oyez.words
  rw [Oyez.splitAt, if_neg h]
  cases hx : Oyez.splitAt 32 t with
  | nil => rfl
  | cons w r => rfl
theorem strs_len (ws : List (List UInt8)) : (strs ws).length = ws.length := by simp [strs]
theorem words_len (s : List UInt8) : (Oyez.words s).length ≤ s.length + 1 := by
  induction s with
  | nil => simp [Oyez.words, Oyez.splitAt]
  | cons b t ih =>
    by_cases h : b = 32
    · subst h; rw [words_blank]; simp; omega
    · rw [words_other b t h]
      revert ih
      cases Oyez.words t <;> simp [joinW] <;> omega
end Ab
namespace Ab
open Go Go.Proofs
attribute [local irreducible] aws awp aw1 Og Om Oc Oa Ogd Ov Ot awd aw1d QThen QBlock QFn QFnM ACode ACalls AYield
def Small (f : List Oyez.Rec) : Prop := ∀ r ∈ f, tot1 r.words ≤ 2 ^ 49 ∧ r.words.length ≤ 2 ^ 49
/-- the place ahead of number i -/
def prevOf (f : List Oyez.Rec) (i : Nat) : Option Oyez.Place := if i = 0 then none else (f[i - 1]?).map Oyez.Rec.place
end Ab
namespace Ab
open Go Go.Proofs
attribute [local irreducible] aws awp aw1 Og Om Oc Oa Ogd Ov Ot awd aw1d QThen QBlock QFn QFnM ACode ACalls AYield
/-- what reading a line gives: the record; the word and the error -/
def readAV (x : Except (Nat × Int) Oyez.Rec) : AV := match x with
  | .ok r => .tup [recAV r, .int .i64 0, .int .i64 0]
  | .error (w, e) => .tup [recAV ⟨0, 0, []⟩, .int .i64 w, .int .i64 e]
theorem words_mem_len {s w : List UInt8} (h : w ∈ Oyez.words s) : w.length ≤ s.length := by
  induction s generalizing w with
  | nil => simp [Oyez.words, Oyez.splitAt] at h; subst h; simp
  | cons b t ih =>
    by_cases hb : b = 32
    · subst hb
      rw [words_blank] at h
      rcases List.mem_cons.1 h with rfl | h
      · simp
      · have := ih h; simp; omega
    · rw [words_other b t hb] at h
      cases hx : Oyez.words t with
      | nil => rw [hx] at h; simp [joinW] at h; subst h; simp
      | cons x r =>
        rw [hx] at h ih
        simp only [joinW, List.mem_cons] at h
        rcases h with rfl | h
        · have := ih (List.mem_cons_self); simp; omega
        · have := ih (List.mem_cons_of_mem _ h); simp; omega
theorem Fz_strs (n : Nat) (σ : Heap) (ws : List (List UInt8)) : Fz n σ (.pl 1 (List.map AV.str ws)) (.pl 1 (List.map AV.str ws)) ↔ True := by
  refine ⟨fun _ => trivial, fun _ => .pl 1 _ fun i x hx j y hy => ?_⟩
  rw [List.getElem?_map, Option.map_eq_some_iff] at hx
  obtain ⟨w, _, rfl⟩ := hx
  cases j with
  | zero => simp [AV.cells] at hy; subst hy; exact .str w
  | succ j => simp [AV.cells] at hy
attribute [simp] Fz_strs
end Ab
namespace Ab
open Go Go.Proofs
attribute [local irreducible] aws awp aw1 Og Om Oc Oa Ogd Ov Ot awd aw1d QThen QBlock QFn QFnM ACode ACalls AYield
def parsedAV (p : Oyez.Parsed) : AV := .tup [fileAV p.recs, .int .i64 p.line, .int .i64 p.word, .int .i64 p.err]
def recCells (r : Oyez.Rec) : List AV := [.int .i64 r.kind, .int .i64 r.number, wordsAV r.words]
theorem flat_rec (f : List Oyez.Rec) (i j : Nat) (h : i < f.length) (hj : j < 3) : ((f.map recAV).flatMap AV.cells)[i * 3 + j]? = (recCells f[i])[j]? := by
  have := flat_get (f.map recAV) (k := 3) (fun x hx => by obtain ⟨r, _, rfl⟩ := List.mem_map.1 hx; rfl) (by decide) (i * 3 + j)
  rw [this, show (i * 3 + j) / 3 = i by omega, show (i * 3 + j) % 3 = j by omega]
  simp [h, recCells, AV.cells]
theorem readLine_line {own : List UInt8} {fed : Bool} {n : Nat} {r : Oyez.Rec} (h : Oyez.readLine own fed n = .ok r) : n < 40 ∧ own.length ≤ 64 ∧ fed = true := by
  unfold Oyez.readLine at h
  split at h
  · cases h
  · split at h
    · cases h
    · split at h
      · cases h
      · rename_i h1 h2 h3
        refine ⟨by omega, by omega, ?_⟩
        cases fed <;> simp_all
/-- what is left to parse: the lines behind a place, with the place of the record ahead -/
def cutAt (s : List UInt8) : List UInt8 := (Oyez.cutLine s).2.2
theorem Acc.more {σ g : Heap} {k : Nat} {v : AV} {l : List AV} {o : Option Nat} (h : Acc σ g k v l o) (y : Heap) : Acc σ (g ++ y) k v l o := ⟨h.len, by
  have := h.val
  cases o with
  | none => exact this
  | some j => exact ⟨this.1, by rw [List.getElem?_append_left (List.getElem?_eq_some_iff.1 this.2).1]; exact this.2⟩⟩
/-- records ahead of what is parsed -/
def glue (f : List Oyez.Rec) (p : Oyez.Parsed) : Oyez.Parsed := if p.err = 0 then ⟨f ++ p.recs, 0, 0, 0⟩ else p
theorem readLine_err {own : List UInt8} {fed : Bool} {n : Nat} {w : Nat} {e : Int} (h : Oyez.readLine own fed n = .error (w, e)) : e ≠ 0 := by
  unfold Oyez.readLine at h
  repeat' split at h
  all_goals first
    | (cases h; decide)
    | cases h
theorem parseLines_zero : ∀ (l : List (Oyez.S × Bool)) (p : Option Oyez.Place) (n : Nat), (Oyez.parseLines l p n).err = 0 → (Oyez.parseLines l p n).line = 0 ∧ (Oyez.parseLines l p n).word = 0 := by
  intro l
  induction l with
  | nil => intro p n _; exact ⟨rfl, rfl⟩
  | cons x t ih =>
    intro p n h
    obtain ⟨own, ended⟩ := x
    rw [Oyez.parseLines] at h ⊢
    split at h
    · rename_i w e he
      exact absurd h (readLine_err he)
    · rename_i r hr
      simp only at h ⊢
      split at h
      · cases h
      · rename_i h2
        rw [if_neg h2]
        split at h
        · rename_i h3; rw [if_pos h3]; exact ⟨rfl, rfl⟩
        · rename_i h3; exact absurd h h3
theorem glue_nil (s : List UInt8) : glue [] (Oyez.parse s) = Oyez.parse s := by
  unfold glue
  split
  · rename_i h
    have := parseLines_zero _ _ _ h
    unfold Oyez.parse at h ⊢
    generalize Oyez.parseLines (Oyez.linesOf s) none 0 = p at *
    obtain ⟨a, b, c, d⟩ := p
    simp_all
  · rfl
/-- the place of the last record -/
def lastP (f : List Oyez.Rec) : Option Oyez.Place := f.getLast?.map Oyez.Rec.place
/-- what is left to parse behind a place -/
def restP (s : List UInt8) (at_ : Nat) (f : List Oyez.Rec) : Oyez.Parsed := glue f (Oyez.parseLines (Oyez.linesOf (s.drop at_)) (lastP f) f.length)
end Ab
namespace Ab
open Go Go.Proofs
attribute [local irreducible] aws awp aw1 Og Om Oc Oa Ogd Ov Ot awd aw1d QThen QBlock QFn QFnM ACode ACalls AYield
end Ab
namespace Ab
open Go Go.Proofs
attribute [local irreducible] aws awp aw1 Og Om Oc Oa Ogd Ov Ot awd aw1d QThen QBlock QFn QFnM ACode ACalls AYield
theorem sums_lt (s : Oyez.S) : (Oyez.sums s).1 < 65537 ∧ (Oyez.sums s).2 < 65537 := by
  rw [Oyez.sums_eq]; exact ⟨Nat.mod_lt _ (by decide), Nat.mod_lt _ (by decide)⟩
/-! ### Open -/
theorem value_le {w : List UInt8} {most n : Nat} (h : Oyez.value w most = some n) : n ≤ most := by
  unfold Oyez.value at h
  split at h
  · cases h
  · split at h
    · cases h
    · split at h
      · cases h
      · split at h
        · split at h
          · cases h
          · cases h; omega
        · cases h
def openAV (x : Except Int (List UInt8 × Nat × Nat)) : AV := match x with
  | .error e => .tup [.str [], .int .i64 e]
  | .ok (b, m, n) => .tup [.str b, .int .i64 (if Oyez.sums b = (m, n) then 0 else 8)]
end Ab
namespace Oyez
def glueW : List S → S
  | [] => []
  | w :: t => w ++ t.flatMap (fun x => 32 :: x)
theorem wordsErr_zero {k n : Int} {ws : List S} (h : wordsErr k n ws = 0) : ws.length ≤ 6 ∧ ws.all word = true ∧ (line k n ws).length ≤ 64 := by
  unfold wordsErr at h
  split at h
  · cases h
  · split at h
    · cases h
    · split at h
      · cases h
      · rename_i h1 h2 h3
        exact ⟨by omega, by simpa using h2, by omega⟩
theorem placeErr_rng {k n : Int} (h : placeErr k n = 0) : (0 ≤ k ∧ k ≤ 4) ∧ 0 ≤ n ∧ n ≤ 999 := by
  unfold placeErr at h
  split at h
  · cases h
  · split at h
    · cases h
    · omega
theorem recErr_iff (r : Rec) : recErr r = 0 ↔ placeErr r.kind r.number = 0 ∧ wordsErr r.kind r.number r.words = 0 := by
  refine ⟨recErr_place, fun ⟨h1, h2⟩ => ?_⟩
  unfold recErr oneErr
  rw [if_neg (by simpa using h1)]
  exact h2
/-! ### lines -/
def cat (l : List (S × Bool)) : S := l.flatMap fun x => x.1 ++ if x.2 then [10] else []
def okL : List (S × Bool) → Prop
  | [] => True
  | (w, e) :: t => (10 : UInt8) ∉ w ∧ (e = false → w ≠ [] ∧ t = []) ∧ okL t
end Oyez
namespace Oyez
/-- the pieces of a text at a byte, which each piece keeps or not -/
def sp (c : UInt8) (sv : Bool) : S → List S
  | [] => [[]]
  | b :: t => if b = c then (if sv then [b] else []) :: sp c sv t else
    match sp c sv t with
    | [] => [[b]]
    | w :: r => (b :: w) :: r
def piece (x : S × Bool) : S := x.1 ++ if x.2 then [10] else []
end Oyez
namespace Oyez
/-- what the reference's Put lays from here on -/
def putR (r : Rec) : Bool → List Rec → List Rec
  | done, [] => if done then [] else [r]
  | done, x :: t => (if !done && !(x.place.lt r.place) then [r] else []) ++ ((if x.place = r.place then [] else [x]) ++ putR r (done || !(x.place.lt r.place)) t)
end Oyez
namespace Ab
open Go Go.RowKit Go.Proofs
attribute [local irreducible] aws awp aw1 Og Om Oc Oa Ogd Ov Ot awd aw1d QThen QBlock QFn QFnM ACode ACalls AYield
theorem fz_recs (n : Nat) (σ : Heap) (f : List Oyez.Rec) : ∀ x ∈ f.map recAV, ∀ y ∈ x.cells, Fz n σ y y := fun x hx y hy => by
  obtain ⟨r, _, rfl⟩ := List.mem_map.1 hx
  simp [AV.cells] at hy
  rcases hy with rfl | rfl | rfl
  · exact .int _ _
  · exact .int _ _
  · exact (Fz_strs _ _ _).2 trivial
/-- what a place has: the words, and whether it has any -/
def getW (o : Option (List (List UInt8))) : List (List UInt8) := o.getD []
/-- the file without a place, or the error -/
def dropC (f : List Oyez.Rec) (p : Oyez.Place) : List Oyez.Rec × Int := if (Oyez.getIn f p).isSome then (Oyez.drop f p, 0) else ([], 1)
/-- a file with a record put, or the error -/
def putC (f : List Oyez.Rec) (r : Oyez.Rec) : List Oyez.Rec × Int := if 40 < (Oyez.putR r false f).length then ([], 2) else (Oyez.putR r false f, 0)
end Ab
namespace Oyez
theorem st_eq (x y : St) : x = y ↔ x.isSome = y.isSome ∧ x.getD [] = y.getD [] := by
  cases x <;> cases y <;> simp
/-- the places ahead of one -/
def upTo (k n : Nat) : List Place := allPlaces.take (1000 * k + n)
/-- the join of the places ahead of one -/
def joinTo (base a b : List Rec) (second : List Bool) (k n : Nat) : Jn := (upTo k n).foldl (joinAt base a b second) ⟨[], []⟩
theorem join_len (base a b : List Rec) (s : List Bool) : ∀ (l : List Place) (x : Jn), (l.foldl (joinAt base a b s) x).out.length ≤ x.out.length + l.length ∧ (l.foldl (joinAt base a b s) x).conf.length ≤ x.conf.length + l.length := by
  intro l
  induction l with
  | nil => intro x; simp
  | cons p t ih =>
    intro x
    have h1 := ih (joinAt base a b s x p)
    have h2 := joinAt_len base a b s x p
    rw [List.foldl_cons, List.length_cons]
    omega
end Oyez
namespace Ab
open Go Go.RowKit Go.Proofs
attribute [local irreducible] aws awp aw1 Og Om Oc Oa Ogd Ov Ot awd aw1d QThen QBlock QFn QFnM ACode AYield
/-- a change -/
def chgAV (c : Oyez.Chg) : AV := .agg [.int .i64 c.kind, .int .i64 c.number, .bool c.had, .bool c.has, wordsAV c.old, wordsAV c.new]
def chgsAV (l : List Oyez.Chg) : AV := .pl 6 (l.map chgAV)
attribute [simp] chgAV chgsAV
end Ab
namespace Oyez
def putJ (J : Jn) (p : Place) (w : St) : Jn := ⟨match w with | some ws => J.out ++ [⟨p.kind, p.number, ws⟩] | none => J.out, J.conf⟩
/-- what a conflict has -/
def pickJ (second : List Bool) (i : Nat) (x y z : St) : St := match second[i]? with | none => x | some c => if c then z else y
def stepJ (x y z : St) (second : List Bool) (p : Place) (J : Jn) : Jn :=
  if y = z ∨ z = x then putJ J p y else if y = x then putJ J p z else putJ ⟨J.out, J.conf ++ [chg p y z]⟩ p (pickJ second J.conf.length x y z)
theorem joinAt_step (base a b : List Rec) (second : List Bool) (J : Jn) (p : Place) : joinAt base a b second J p = stepJ (getIn base p) (getIn a p) (getIn b p) second p J := rfl
theorem stepJ_same {x y z : St} {second : List Bool} {p : Place} {J : Jn} (h : y = z) : stepJ x y z second p J = putJ J p y := if_pos (.inl h)
theorem stepJ_zx {x y z : St} {second : List Bool} {p : Place} {J : Jn} (h : z = x) : stepJ x y z second p J = putJ J p y := if_pos (.inr h)
theorem stepJ_yx {x y z : St} {second : List Bool} {p : Place} {J : Jn} (h : ¬ y = z) (h2 : y = x) : stepJ x y z second p J = putJ J p z := by
  unfold stepJ
  rw [if_neg, if_pos h2]
  rintro (h3 | h3)
  · exact h h3
  · exact h (h2.trans h3.symm)
theorem stepJ_clash {x y z : St} {second : List Bool} {p : Place} {J : Jn} (h : ¬ y = z) (h2 : ¬ y = x) (h3 : ¬ z = x) : stepJ x y z second p J = putJ ⟨J.out, J.conf ++ [chg p y z]⟩ p (pickJ second J.conf.length x y z) := by
  unfold stepJ
  rw [if_neg (by rintro (h4 | h4); exact h h4; exact h3 h4), if_neg h2]
end Oyez
namespace Ab
open Go Go.RowKit Go.Proofs
attribute [local irreducible] aws awp aw1 Og Om Oc Oa Ogd Ov Ot awd aw1d QThen QBlock QFn QFnM ACode AYield
def chgCells (c : Oyez.Chg) : List AV := [.int .i64 c.kind, .int .i64 c.number, .bool c.had, .bool c.has, wordsAV c.old, wordsAV c.new]
structure JS (σ : Heap) (J : Oyez.Jn) (v1 v2 : AV) (g : Heap) : Prop where
  ex : ∃ o1 o2, Acc σ g 3 v1 (J.out.map recAV) o1 ∧ Acc σ g 6 v2 (J.conf.map chgAV) o2 ∧ ∀ j, o1 = some j → o2 = some j → False
theorem Acc.lt {σ g : Heap} {k : Nat} {v : AV} {l : List AV} {j : Nat} (h : Acc σ g k v l (some j)) : j < g.length := (List.getElem?_eq_some_iff.1 h.val.2).1
theorem Acc.keep {σ g g' : Heap} {k : Nat} {v : AV} {l : List AV} {o : Option Nat} (h : Acc σ g k v l o) (hk : ∀ j, o = some j → g'[j]? = g[j]?) : Acc σ g' k v l o := ⟨h.len, by
  have hv := h.val
  cases o with
  | none => exact hv
  | some j => exact ⟨hv.1, by rw [hk j rfl]; exact hv.2⟩⟩
theorem JS.put {σ : Heap} {J : Oyez.Jn} {v1 v2 : AV} {g : Heap} (h : JS σ J v1 v2 g) (hl : J.out.length ≤ 2 ^ 40) (r : Oyez.Rec) :
    ∃ v1' g', aappend Tryz.prog #[27, 27] v1 (.arr 3 (σ.length + g.length) 0 1) (σ ++ (g ++ [.cells (recCells r)])) = some (v1', σ ++ g') ∧ JS σ ⟨J.out ++ [r], J.conf⟩ v1' v2 g' := by
  obtain ⟨o1, o2, h1, h2, h3⟩ := h.ex
  obtain ⟨v', g', o', he, hA', hgl, hkeep, ho⟩ := h1.push (P := Tryz.prog) (t := 27) (e := 96) (ag := true) (x := recAV r) (by simp) (by simp) (by simp) (by omega) ⟨by simp [AV.cells], by simp [AV.cells, AV.one]⟩ (by simp; omega)
  refine ⟨v', g', he, ⟨o', o2, by simpa using hA', h2.keep fun j hj => ?_, fun j hj hj2 => ?_⟩⟩
  · subst hj
    exact hkeep j (fun e => h3 j e.symm rfl) h2.lt
  · subst hj2
    have hlt := h2.lt
    rcases ho with rfl | ⟨m, hm, rfl⟩
    · exact h3 j hj rfl
    · simp only [Option.some.injEq] at hj; omega
theorem JS.clash {σ : Heap} {J : Oyez.Jn} {v1 v2 : AV} {g : Heap} (h : JS σ J v1 v2 g) (hl : J.conf.length ≤ 2 ^ 40) (c : Oyez.Chg) :
    ∃ v2' g', aappend Tryz.prog #[44, 44] v2 (.arr 6 (σ.length + g.length) 0 1) (σ ++ (g ++ [.cells (chgCells c)])) = some (v2', σ ++ g') ∧ JS σ ⟨J.out, J.conf ++ [c]⟩ v1 v2' g' := by
  obtain ⟨o1, o2, h1, h2, h3⟩ := h.ex
  obtain ⟨v', g', o', he, hA', hgl, hkeep, ho⟩ := h2.push (P := Tryz.prog) (t := 44) (e := 57) (ag := true) (x := chgAV c) (by simp) (by simp) (by simp) (by omega) ⟨by simp [AV.cells], by simp [AV.cells, AV.one]⟩ (by simp; omega)
  refine ⟨v', g', he, ⟨o1, o', h1.keep fun j hj => ?_, by simpa using hA', fun j hj hj2 => ?_⟩⟩
  · subst hj
    exact hkeep j (fun e => h3 j rfl e.symm) h1.lt
  · subst hj
    have hlt := h1.lt
    rcases ho with rfl | ⟨m, hm, rfl⟩
    · exact h3 j rfl hj2
    · simp only [Option.some.injEq] at hj2; omega
theorem JS.len {σ : Heap} {J : Oyez.Jn} {v1 v2 : AV} {g : Heap} (h : JS σ J v1 v2 g) : alen Tryz.prog 44 v2 (σ ++ g) = some (.int .i64 J.conf.length) := by
  obtain ⟨o1, o2, h1, h2, h3⟩ := h.ex
  have hv := h2.val
  cases o2 with
  | none =>
    obtain ⟨rfl, hl⟩ := hv
    have : J.conf = [] := by simpa using hl
    simp [this]
  | some j =>
    obtain ⟨rfl, _⟩ := hv
    simp
end Ab
namespace Ab
open Go Go.RowKit Go.Proofs
/-- as they are -/
def asIs (ws : List (List UInt8)) (xs : List AV) : Prop := xs = strs ws
/-- as many -/
def asMany (ws : List (List UInt8)) (xs : List AV) : Prop := xs.length = ws.length
theorem fz_strs0 {τ : Heap} {q : Nat} (ws : List (List UInt8)) (h : τ[q]? = some (.cells (strs ws))) : Fz 0 τ (.arr 1 q 0 ws.length) (wordsAV ws) := by
  have hl : ws.length = (strs ws).length := by simp [strs]
  rw [hl]
  refine Fz.arr 1 q 0 (strs ws) (strs ws) (fun i _ => (strs ws).getD i .any) (Nat.zero_le _) h (fun i x hx => ?_) (fun i x hx j y hy => ?_)
  · have hx' := hx
    simp only [strs, List.getElem?_map, Option.map_eq_some_iff] at hx
    obtain ⟨s, hs, rfl⟩ := hx
    refine ⟨rfl, fun j y hy => ?_⟩
    match j, hy with
    | 0, hy =>
      simp [AV.cells] at hy; subst hy
      refine ⟨rfl, ?_⟩
      rw [Nat.zero_add, Nat.mul_one, Nat.add_zero, List.getD_eq_getElem?_getD, hx']
      rfl
    | j + 1, hy => simp [AV.cells] at hy
  · have hx' := hx
    simp only [strs, List.getElem?_map, Option.map_eq_some_iff] at hx
    obtain ⟨s, hs, rfl⟩ := hx
    match j, hy with
    | 0, hy =>
      simp [AV.cells] at hy; subst hy
      rw [List.getD_eq_getElem?_getD, hx']
      exact .str _
    | j + 1, hy => simp [AV.cells] at hy
end Ab
namespace Oyez
/-- the seal's line -/
def sealLine (m n : Nat) : S := glueW [sealW, digitsN m, digitsN n]
theorem sums_lt (t : S) : (sums t).1 < 65537 ∧ (sums t).2 < 65537 := by
  rw [sums_eq]
  exact ⟨Nat.mod_lt _ (by decide), Nat.mod_lt _ (by decide)⟩
end Oyez
namespace Ab
open Go Go.RowKit Go.Proofs
attribute [local irreducible] aws awp aw1 Og Om Oc Oa Ogd Ov Ot awd aw1d QThen QBlock QFn QFnM ACode AYield

/-- the choices of a join: nil, or a list -/
def secAV (o : Option (List Bool)) : AV := match o with | none => .nils | some l => .pl 1 (l.map AV.bool)
end Ab

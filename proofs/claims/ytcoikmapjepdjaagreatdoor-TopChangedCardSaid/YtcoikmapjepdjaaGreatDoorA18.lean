/-
  PLAIN LAW: the numbers that the library reads and writes, and those of the document.
  PLAIN LAWS: what is printed is parsed as it was, what is parsed is printed as it was; the lines ahead of the first error.
  STRINGS SPLIT AT ONE BYTE: the plain part.
  THE REFERENCE's Get, Drop, Put and Print.
  WORDS OF THE CALL's OWN: as they are, as many; read as what they hold.
  THE BELL: numbers that the outright laws draw from their argument.
-/
import Derived.Lib.AtoiAll
import Derived.Lib.ItoaNum
import Derived.Test.YtcoikmapjepdjaaGreatDoorA07
import Derived.Test.YtcoikmapjepdjaaGreatDoorA09
import Derived.Test.YtcoikmapjepdjaaGreatDoorA13
import Derived.Test.YtcoikmapjepdjaaGreatDoorA15
import Derived.Test.YtcoikmapjepdjaaGreatDoorA17
set_option linter.unusedSimpArgs false
set_option linter.unusedVariables false
set_option linter.unusedSectionVars false
namespace Ab
open Go Go.Proofs
instance loose : Mode := ⟨False⟩
attribute [local irreducible] aws awp aw1 Og Om Oc Oa QThen QBlock QFn ACode ACalls AYield
theorem digitsN_len (n : Nat) : (Oyez.digitsN n).length ≤ n + 1 := by
  induction n using Nat.strongRecOn with
  | _ n ih =>
    rcases Nat.lt_or_ge n 10 with h | h
    · rw [Oyez.digitsN_lt h]; simp
    · rw [Oyez.digitsN_ge h, List.length_append]
      have := ih (n / 10) (by omega)
      simp only [List.length_cons, List.length_nil]
      omega
theorem isDig_iff (c : UInt8) : Oyez.isDig c = true ↔ 48 ≤ c.toNat ∧ c.toNat ≤ 57 := by
  simp [Oyez.isDig, UInt8.le_iff_toNat_le]
end Ab
namespace Ab
open Go Go.Proofs
attribute [local irreducible] aws awp aw1 Og Om Oc Oa Ogd Ov Ot awd aw1d QThen QBlock QFn QFnM ACode ACalls AYield
theorem mixed : Tryz.prog.follows .mixedOrders = true := by kernel_rfl
/-! ### lines, records -/
def strs (ws : List (List UInt8)) : List AV := ws.map AV.str
def wordsAV (ws : List (List UInt8)) : AV := .pl 1 (strs ws)
/-- the bytes of a line, up to some words -/
def tot1 (ws : List (List UInt8)) : Nat := (ws.map fun w => w.length + 1).sum
theorem flat_len32 (ws : List (List UInt8)) : (ws.flatMap fun w => (32 : UInt8) :: w).length = tot1 ws := by
  induction ws with
  | nil => rfl
  | cons w t ih => simp [tot1] at *; omega
theorem tot1_mem {ws : List (List UInt8)} {w : List UInt8} (h : w ∈ ws) : w.length + 1 ≤ tot1 ws := by
  induction ws with
  | nil => simp at h
  | cons x t ih =>
    rcases List.mem_cons.1 h with rfl | h
    · simp [tot1]
    · have := ih h; simp [tot1] at *; omega
theorem name_len (k : Int) : (Oyez.name k).length ≤ 6 := by
  unfold Oyez.name
  generalize k.toNat = n
  match n with
  | 0 => decide
  | 1 => decide
  | 2 => decide
  | 3 => decide
  | _ + 4 => exact (by decide : ([112, 108, 101, 97] : List UInt8).length ≤ 6)
end Ab
namespace Ab
open Go Go.Proofs
attribute [local irreducible] aws awp aw1 Og Om Oc Oa Ogd Ov Ot awd aw1d QThen QBlock QFn QFnM ACode ACalls AYield
def recAV (r : Oyez.Rec) : AV := .agg [.int .i64 r.kind, .int .i64 r.number, wordsAV r.words]
def fileAV (f : List Oyez.Rec) : AV := .pl 3 (f.map recAV)
attribute [simp] wordsAV strs recAV fileAV
def kindInt (w : List UInt8) : Int := match Oyez.kindOf w with | some k => k | none => -1
def joinW (w : List UInt8) : List (List UInt8) → List (List UInt8)
  | [] => [w]
  | x :: r => (w ++ x) :: r
theorem strs_len (ws : List (List UInt8)) : (strs ws).length = ws.length := by simp [strs]
end Ab
namespace Oyez
open Go
theorem digits_len : ∀ (k n : Nat), n < 10 ^ (k + 1) → (digitsN n).length ≤ k + 1 := by
  intro k
  induction k with
  | zero => intro n h; rw [digitsN_lt (by simpa using h)]; simp
  | succ k ih =>
    intro n h
    rcases Nat.lt_or_ge n 10 with h1 | h1
    · rw [digitsN_lt h1]; simp
    · rw [digitsN_ge h1, List.length_append]
      have := ih (n / 10) (by rw [Nat.div_lt_iff_lt_mul (by decide)]; rw [Nat.pow_succ] at h; exact h)
      simp; omega
end Oyez
namespace Ab
open Go Go.Proofs
attribute [local irreducible] aws awp aw1 Og Om Oc Oa Ogd Ov Ot awd aw1d QThen QBlock QFn QFnM ACode ACalls AYield
def Small (f : List Oyez.Rec) : Prop := ∀ r ∈ f, tot1 r.words ≤ 2 ^ 49 ∧ r.words.length ≤ 2 ^ 49
/-- the place ahead of number i -/
def prevOf (f : List Oyez.Rec) (i : Nat) : Option Oyez.Place := if i = 0 then none else (f[i - 1]?).map Oyez.Rec.place
end Ab
namespace Ab
open Go Go.Proofs
attribute [local irreducible] aws awp aw1 Og Om Oc Oa Ogd Ov Ot awd aw1d QThen QBlock QFn QFnM ACode ACalls AYield
/-- what reading a line gives: the record; the word and the error -/
def readAV (x : Except (Nat × Int) Oyez.Rec) : AV := match x with
  | .ok r => .tup [recAV r, .int .i64 0, .int .i64 0]
  | .error (w, e) => .tup [recAV ⟨0, 0, []⟩, .int .i64 w, .int .i64 e]
theorem Fz_strs (n : Nat) (σ : Heap) (ws : List (List UInt8)) : Fz n σ (.pl 1 (List.map AV.str ws)) (.pl 1 (List.map AV.str ws)) ↔ True := by
  refine ⟨fun _ => trivial, fun _ => .pl 1 _ fun i x hx j y hy => ?_⟩
  rw [List.getElem?_map, Option.map_eq_some_iff] at hx
  obtain ⟨w, _, rfl⟩ := hx
  cases j with
  | zero => simp [AV.cells] at hy; subst hy; exact .str w
  | succ j => simp [AV.cells] at hy
attribute [simp] Fz_strs
end Ab
namespace Ab
open Go Go.Proofs
attribute [local irreducible] aws awp aw1 Og Om Oc Oa Ogd Ov Ot awd aw1d QThen QBlock QFn QFnM ACode ACalls AYield
def parsedAV (p : Oyez.Parsed) : AV := .tup [fileAV p.recs, .int .i64 p.line, .int .i64 p.word, .int .i64 p.err]
def recCells (r : Oyez.Rec) : List AV := [.int .i64 r.kind, .int .i64 r.number, wordsAV r.words]
theorem flat_rec (f : List Oyez.Rec) (i j : Nat) (h : i < f.length) (hj : j < 3) : ((f.map recAV).flatMap AV.cells)[i * 3 + j]? = (recCells f[i])[j]? := by
  have := flat_get (f.map recAV) (k := 3) (fun x hx => by obtain ⟨r, _, rfl⟩ := List.mem_map.1 hx; rfl) (by decide) (i * 3 + j)
  rw [this, show (i * 3 + j) / 3 = i by omega, show (i * 3 + j) % 3 = j by omega]
  simp [h, recCells, AV.cells]
/-- what is left to parse: the lines behind a place, with the place of the record ahead -/
def cutAt (s : List UInt8) : List UInt8 := (Oyez.cutLine s).2.2
theorem Acc.more {σ g : Heap} {k : Nat} {v : AV} {l : List AV} {o : Option Nat} (h : Acc σ g k v l o) (y : Heap) : Acc σ (g ++ y) k v l o := ⟨h.len, by
  have := h.val
  cases o with
  | none => exact this
  | some j => exact ⟨this.1, by rw [List.getElem?_append_left (List.getElem?_eq_some_iff.1 this.2).1]; exact this.2⟩⟩
/-- records ahead of what is parsed -/
def glue (f : List Oyez.Rec) (p : Oyez.Parsed) : Oyez.Parsed := if p.err = 0 then ⟨f ++ p.recs, 0, 0, 0⟩ else p
/-- the place of the last record -/
def lastP (f : List Oyez.Rec) : Option Oyez.Place := f.getLast?.map Oyez.Rec.place
/-- what is left to parse behind a place -/
def restP (s : List UInt8) (at_ : Nat) (f : List Oyez.Rec) : Oyez.Parsed := glue f (Oyez.parseLines (Oyez.linesOf (s.drop at_)) (lastP f) f.length)
end Ab
namespace Ab
open Go Go.Proofs
attribute [local irreducible] aws awp aw1 Og Om Oc Oa Ogd Ov Ot awd aw1d QThen QBlock QFn QFnM ACode ACalls AYield
end Ab
namespace Oyez
def glueW : List S → S
  | [] => []
  | w :: t => w ++ t.flatMap (fun x => 32 :: x)
theorem wordsErr_zero {k n : Int} {ws : List S} (h : wordsErr k n ws = 0) : ws.length ≤ 6 ∧ ws.all word = true ∧ (line k n ws).length ≤ 64 := by
  unfold wordsErr at h
  split at h
  · cases h
  · split at h
    · cases h
    · split at h
      · cases h
      · rename_i h1 h2 h3
        exact ⟨by omega, by simpa using h2, by omega⟩
theorem placeErr_rng {k n : Int} (h : placeErr k n = 0) : (0 ≤ k ∧ k ≤ 4) ∧ 0 ≤ n ∧ n ≤ 999 := by
  unfold placeErr at h
  split at h
  · cases h
  · split at h
    · cases h
    · omega
theorem recErr_iff (r : Rec) : recErr r = 0 ↔ placeErr r.kind r.number = 0 ∧ wordsErr r.kind r.number r.words = 0 := by
  refine ⟨recErr_place, fun ⟨h1, h2⟩ => ?_⟩
  unfold recErr oneErr
  rw [if_neg (by simpa using h1)]
  exact h2
/-! ### lines -/
def cat (l : List (S × Bool)) : S := l.flatMap fun x => x.1 ++ if x.2 then [10] else []
def okL : List (S × Bool) → Prop
  | [] => True
  | (w, e) :: t => (10 : UInt8) ∉ w ∧ (e = false → w ≠ [] ∧ t = []) ∧ okL t
end Oyez
namespace Oyez
/-- the pieces of a text at a byte, which each piece keeps or not -/
def sp (c : UInt8) (sv : Bool) : S → List S
  | [] => [[]]
  | b :: t => if b = c then (if sv then [b] else []) :: sp c sv t else
    match sp c sv t with
    | [] => [[b]]
    | w :: r => (b :: w) :: r
def piece (x : S × Bool) : S := x.1 ++ if x.2 then [10] else []
end Oyez
namespace Oyez
/-- what the reference's Put lays from here on -/
def putR (r : Rec) : Bool → List Rec → List Rec
  | done, [] => if done then [] else [r]
  | done, x :: t => (if !done && !(x.place.lt r.place) then [r] else []) ++ ((if x.place = r.place then [] else [x]) ++ putR r (done || !(x.place.lt r.place)) t)
end Oyez
namespace Ab
open Go Go.RowKit Go.Proofs
attribute [local irreducible] aws awp aw1 Og Om Oc Oa Ogd Ov Ot awd aw1d QThen QBlock QFn QFnM ACode ACalls AYield
theorem fz_recs (n : Nat) (σ : Heap) (f : List Oyez.Rec) : ∀ x ∈ f.map recAV, ∀ y ∈ x.cells, Fz n σ y y := fun x hx y hy => by
  obtain ⟨r, _, rfl⟩ := List.mem_map.1 hx
  simp [AV.cells] at hy
  rcases hy with rfl | rfl | rfl
  · exact .int _ _
  · exact .int _ _
  · exact (Fz_strs _ _ _).2 trivial
/-- what a place has: the words, and whether it has any -/
def getW (o : Option (List (List UInt8))) : List (List UInt8) := o.getD []
/-- the file without a place, or the error -/
def dropC (f : List Oyez.Rec) (p : Oyez.Place) : List Oyez.Rec × Int := if (Oyez.getIn f p).isSome then (Oyez.drop f p, 0) else ([], 1)
/-- a file with a record put, or the error -/
def putC (f : List Oyez.Rec) (r : Oyez.Rec) : List Oyez.Rec × Int := if 40 < (Oyez.putR r false f).length then ([], 2) else (Oyez.putR r false f, 0)
end Ab
namespace Ab
open Go Go.RowKit Go.Proofs
/-- as they are -/
def asIs (ws : List (List UInt8)) (xs : List AV) : Prop := xs = strs ws
/-- as many -/
def asMany (ws : List (List UInt8)) (xs : List AV) : Prop := xs.length = ws.length
theorem set_behind {σ g : Heap} {q : Nat} (h : σ.length ≤ q) (o : AObj) : (σ ++ g).set q o = σ ++ g.set (q - σ.length) o := by
  rw [List.set_append_right _ _ h]
end Ab
namespace Ab
open Go Go.RowKit Go.Proofs
attribute [local irreducible] aws awp aw1 Og Om Oc Oa Ogd Ov Ot awd aw1d awh aw1h Ogh Ohd awl Ogl Ohl awv Ogv Ohv QThen QBlock QFn QFnM QRo QBe ACode AYield
def bytesL (l : List UInt8) : List AV := l.map fun b => AV.int .u8 b.toNat
def bellObj (l : List UInt8) (a : Nat) (c : Int) : AObj := .cells [.pl 1 (bytesL l), .int .i64 a, .int .u32 c]
theorem u32_rng (x : Int) : 0 ≤ IntKind.u32.wrap x ∧ IntKind.u32.wrap x < 2 ^ 32 := by
  have : IntKind.u32.wrap x = x % 4294967296 := by
    simp [IntKind.wrap, IntKind.bits, IntKind.signed]
  rw [this]
  omega
theorem i64_u32 (x : Int) : 0 ≤ IntKind.i64.wrap (IntKind.u32.wrap x) ∧ IntKind.i64.wrap (IntKind.u32.wrap x) < 4294967296 := by
  have := u32_rng x
  rw [w64 (by omega) (by omega)]
  omega
set_option maxHeartbeats 2000000 in
theorem ring_calls (σ : Heap) (d : Nat) (l : List UInt8) (a : Nat) (c : Int) (h : σ[d]? = some (bellObj l a c)) (ha : a ≤ l.length) (hl : l.length ≤ 9223372036854775807) :
    ACalls Tryz.prog 131 [.ptr d 0] σ (fun v σ' => ∃ (n : Int) (a' : Nat) (c' : Int), v = .int .i64 n ∧ 0 ≤ n ∧ n < 2 ^ 32 ∧ a' ≤ l.length ∧ σ' = σ.set d (bellObj l a' c')) := by
  have hd := (List.getElem?_eq_some_iff.1 h).1
  have hs : ∀ X : AObj, (σ.set d X)[d]? = some X := fun X => by simp [hd]
  unfold bellObj at h
  refine acalls_fn Tryz.func131 rfl (enters_fn Tryz.func131 (by decide) rfl) ?_
  simp [Tryz.ntmps131]
  refine ACode_draw0 mixed (by kernel_rfl) ?_
  by_cases he : a = l.length
  · subst he
    by_cases h0 : l.length = 0
    · have h0' : (l.length : Int) = 0 := by omega
      obtain rfl := List.eq_nil_of_length_eq_zero h0
      simp [h, hs, bytesL]
      exact ⟨(i64_u32 _).1, (i64_u32 _).2, _, rfl⟩
    · have h0' : (0 : Int) < (l.length : Int) := by omega
      have h0'' : 0 < l.length := by omega
      simp [h, hs, bytesL, h0', h0'']
      refine ACode_draw0 mixed (by kernel_rfl) ?_
      simp [h, hs, bytesL, h0', h0'']
      exact ⟨(i64_u32 _).1, (i64_u32 _).2, 1, by omega, _, by rw [w64 (by omega) (by omega)]; rfl⟩
  · have he' : ¬ (a : Int) = (l.length : Int) := by omega
    have h0' : (0 : Int) < (l.length : Int) := by omega
    have hlt : a < l.length := by omega
    have hlt' : (a : Int) < (l.length : Int) := by omega
    have hx := w64 (n := (a : Int) + 1) (by omega) (by omega)
    have h0n : 0 < l.length := by omega
    simp [h, hs, bytesL, he, he', h0', h0n, hlt]
    refine ACode_draw0 mixed (by kernel_rfl) ?_
    simp [h, hs, bytesL, he, he', h0', h0n, hlt, hlt', hx]
    exact ⟨(i64_u32 _).1, (i64_u32 _).2, a + 1, by omega, _, rfl⟩
end Ab

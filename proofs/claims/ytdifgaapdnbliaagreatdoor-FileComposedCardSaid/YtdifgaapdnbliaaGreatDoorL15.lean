/-
  PLAIN LAW: the numbers that the library reads and writes, and those of the document.
  PLAIN LAWS: what is printed is parsed as it was, what is parsed is printed as it was; the lines ahead of the first error.
  STRINGS SPLIT AT ONE BYTE: the plain part.
  THE REFERENCE's Get, Drop, Put and Print.
  WORDS OF THE CALL's OWN: as they are, as many; read as what they hold.
-/
import Derived.Lib.AtoiAll
import Derived.Lib.ItoaNum
import Derived.Test.YtdifgaapdnbliaaGreatDoorL07
import Derived.Test.YtdifgaapdnbliaaGreatDoorL11
import Derived.Test.YtdifgaapdnbliaaGreatDoorL13
import Derived.Test.YtdifgaapdnbliaaGreatDoorL14
set_option linter.unusedSimpArgs false
set_option linter.unusedVariables false
set_option linter.unusedSectionVars false
namespace Ab
open Go Go.Proofs
instance loose : Mode := ⟨False⟩
attribute [local irreducible] aws awp aw1 Og Om Oc Oa QThen QBlock QFn ACode ACalls AYield
theorem digitsN_len (n : Nat) : (Oyez.digitsN n).length ≤ n + 1 := by
  induction n using Nat.strongRecOn with
  | _ n ih =>
    rcases Nat.lt_or_ge n 10 with h | h
    · rw [Oyez.digitsN_lt h]; simp
    · rw [Oyez.digitsN_ge h, List.length_append]
      have := ih (n / 10) (by omega)
      simp only [List.length_cons, List.length_nil]
      omega
theorem u8_eq (c : UInt8) (n : Nat) (h : n < 256) : c.toNat = n ↔ c = UInt8.ofNat n := by
  constructor
  · intro e; rw [← e]; simp
  · intro e; rw [e]; simp; omega
theorem isDig_iff (c : UInt8) : Oyez.isDig c = true ↔ 48 ≤ c.toNat ∧ c.toNat ≤ 57 := by
  simp [Oyez.isDig, UInt8.le_iff_toNat_le]
end Ab
namespace Ab
open Go Go.Proofs
attribute [local irreducible] aws awp aw1 Og Om Oc Oa Ogd Ov Ot awd aw1d QThen QBlock QFn QFnM ACode ACalls AYield
theorem mixed : Tryz.prog.follows .mixedOrders = true := by kernel_rfl
/-! ### lines, records -/
def strs (ws : List (List UInt8)) : List AV := ws.map AV.str
def wordsAV (ws : List (List UInt8)) : AV := .pl 1 (strs ws)
/-- the bytes of a line, up to some words -/
def tot1 (ws : List (List UInt8)) : Nat := (ws.map fun w => w.length + 1).sum
theorem flat_len32 (ws : List (List UInt8)) : (ws.flatMap fun w => (32 : UInt8) :: w).length = tot1 ws := by
  induction ws with
  | nil => rfl
  | cons w t ih => simp [tot1] at *; omega
theorem tot1_mem {ws : List (List UInt8)} {w : List UInt8} (h : w ∈ ws) : w.length + 1 ≤ tot1 ws := by
  induction ws with
  | nil => simp at h
  | cons x t ih =>
    rcases List.mem_cons.1 h with rfl | h
    · simp [tot1]
    · have := ih h; simp [tot1] at *; omega
theorem name_len (k : Int) : (Oyez.name k).length ≤ 6 := by
  unfold Oyez.name
  generalize k.toNat = n
  match n with
  | 0 => decide
  | 1 => decide
  | 2 => decide
  | 3 => decide
  | _ + 4 => exact (by decide : ([112, 108, 101, 97] : List UInt8).length ≤ 6)
end Ab
namespace Ab
open Go Go.Proofs
attribute [local irreducible] aws awp aw1 Og Om Oc Oa Ogd Ov Ot awd aw1d QThen QBlock QFn QFnM ACode ACalls AYield
def recAV (r : Oyez.Rec) : AV := .agg [.int .i64 r.kind, .int .i64 r.number, wordsAV r.words]
def fileAV (f : List Oyez.Rec) : AV := .pl 3 (f.map recAV)
attribute [simp] wordsAV strs recAV fileAV
def kindInt (w : List UInt8) : Int := match Oyez.kindOf w with | some k => k | none => -1
theorem split_ne (s : List UInt8) : Oyez.words s ≠ [] := by
  unfold Oyez.words
  cases s with
  | nil => simp [Oyez.splitAt]
  | cons b t =>
    unfold Oyez.splitAt
    split
    · simp
    · split <;> simp
def joinW (w : List UInt8) : List (List UInt8) → List (List UInt8)
  | [] => [w]
  | x :: r => (w ++ x) :: r
theorem words_blank (t : List UInt8) : Oyez.words (32 :: t) = [] :: Oyez.words t := by simp [Oyez.words, Oyez.splitAt]
theorem words_other (b : UInt8) (t : List UInt8) (h : b ≠ 32) : Oyez.words (b :: t) = joinW [b] (Oyez.words t) := by
  unfold Oyez.words
  rw [Oyez.splitAt, if_neg h]
  cases hx : Oyez.splitAt 32 t with
  | nil => rfl
  | cons w r => rfl
theorem strs_len (ws : List (List UInt8)) : (strs ws).length = ws.length := by simp [strs]
theorem words_len (s : List UInt8) : (Oyez.words s).length ≤ s.length + 1 := by
  induction s with
  | nil => simp [Oyez.words, Oyez.splitAt]
  | cons b t ih =>
    by_cases h : b = 32
    · subst h; rw [words_blank]; simp; omega
    · rw [words_other b t h]
      revert ih
      cases Oyez.words t <;> simp [joinW] <;> omega
end Ab
namespace Oyez
open Go
theorem isDig_nat (c : UInt8) : isDig c = true ↔ 48 ≤ c.toNat ∧ c.toNat ≤ 57 := by simp [isDig, UInt8.le_iff_toNat_le]
theorem dig_byte {d : Nat} (h : d < 10) : (UInt8.ofNat (48 + d)).toNat = 48 + d := by simp; omega
theorem isDig_byte {d : Nat} (h : d < 10) : isDig (UInt8.ofNat (48 + d)) = true := by rw [isDig_nat, dig_byte h]; omega
theorem valueN_append (a b : S) (k : Nat) : valueN (a ++ b) k = (valueN a k).bind (valueN b) := by
  induction a generalizing k with
  | nil => rfl
  | cons c t ih =>
    simp only [List.cons_append, valueN]
    split
    · exact ih _
    · rfl
theorem valueN_digits (n : Nat) : valueN (digitsN n) 0 = some n := by
  induction n using Nat.strongRecOn with
  | _ n ih =>
    rcases Nat.lt_or_ge n 10 with h | h
    · rw [digitsN_lt h]
      simp only [valueN, isDig_byte h, dig_byte h, if_true]
      congr 1
      omega
    · rw [digitsN_ge h, valueN_append, ih (n / 10) (by omega)]
      have hd : n % 10 < 10 := Nat.mod_lt _ (by decide)
      simp only [Option.bind_some, valueN, isDig_byte hd, dig_byte hd, if_true]
      congr 1
      omega
theorem digits_len : ∀ (k n : Nat), n < 10 ^ (k + 1) → (digitsN n).length ≤ k + 1 := by
  intro k
  induction k with
  | zero => intro n h; rw [digitsN_lt (by simpa using h)]; simp
  | succ k ih =>
    intro n h
    rcases Nat.lt_or_ge n 10 with h1 | h1
    · rw [digitsN_lt h1]; simp
    · rw [digitsN_ge h1, List.length_append]
      have := ih (n / 10) (by rw [Nat.div_lt_iff_lt_mul (by decide)]; rw [Nat.pow_succ] at h; exact h)
      simp; omega
theorem digits_ne (n : Nat) : digitsN n ≠ [] := by
  rcases Nat.lt_or_ge n 10 with h | h
  · rw [digitsN_lt h]; simp
  · rw [digitsN_ge h]; simp
theorem digits_head {n : Nat} (h : 1 ≤ n) : (digitsN n).head? ≠ some 48 := by
  induction n using Nat.strongRecOn with
  | _ n ih =>
    rcases Nat.lt_or_ge n 10 with h1 | h1
    · rw [digitsN_lt h1]
      simp only [List.head?_cons, ne_eq, Option.some.injEq]
      intro e
      have := congrArg UInt8.toNat e
      rw [dig_byte h1] at this
      have e2 : (48 : UInt8).toNat = 48 := rfl
      omega
    · have e : (digitsN (n / 10) ++ [UInt8.ofNat (48 + n % 10)]).head? = (digitsN (n / 10)).head? := by
        cases hd : digitsN (n / 10) with
        | nil => exact absurd hd (digits_ne _)
        | cons x t => rfl
      rw [digitsN_ge h1, e]
      exact ih (n / 10) (by omega) (by omega)
theorem value_digits {n most : Nat} (h : n ≤ most) (hm : most ≤ 999999) : value (digitsN n) most = some n := by
  have hl := digits_len 5 n (by omega)
  unfold value
  have h0 : (digitsN n).isEmpty = false := by simpa using digits_ne n
  rw [h0, if_neg (by simp), if_neg (by omega), if_neg, valueN_digits]
  · simp only; rw [if_neg (by omega)]
  · rintro ⟨h1, h2⟩
    rcases Nat.eq_zero_or_pos n with hn | hn
    · subst hn; rw [digitsN_lt (by decide)] at h2; simp at h2
    · exact digits_head hn h1
theorem valueN_pos {w : S} {k n : Nat} (h : valueN w k = some n) : k ≤ n ∧ (1 ≤ k → 1 ≤ n) := by
  induction w generalizing k with
  | nil => simp [valueN] at h; omega
  | cons c t ih =>
    simp only [valueN] at h
    split at h
    · have := ih h; omega
    · cases h
/-- a numeral without leading zeros is that of its number -/
theorem digits_value : ∀ (m : Nat) (w : S) (n : Nat), w.length = m → w ≠ [] → (1 < w.length → w.head? ≠ some 48) → valueN w 0 = some n → digitsN n = w := by
  intro m
  induction m with
  | zero => intro w n hl hne; exact absurd (List.eq_nil_of_length_eq_zero hl) hne
  | succ m ih =>
    intro w n hl hne hz hv
    obtain ⟨w', c, rfl⟩ : ∃ w' c, w = w' ++ [c] := ⟨w.dropLast, w.getLast hne, (List.dropLast_concat_getLast hne).symm⟩
    rw [valueN_append] at hv
    cases h' : valueN w' 0 with
    | none => rw [h'] at hv; cases hv
    | some n' =>
      rw [h'] at hv
      simp only [Option.bind_some, valueN] at hv
      split at hv
      · rename_i hd
        rw [isDig_nat] at hd
        simp only [Option.some.injEq] at hv
        have hc : UInt8.ofNat (48 + (c.toNat - 48)) = c := by rw [show 48 + (c.toNat - 48) = c.toNat by omega]; simp
        cases w' with
        | nil =>
          simp [valueN] at h'
          subst h'
          rw [← hv, Nat.mul_zero, Nat.zero_add, digitsN_lt (by omega), hc]
          rfl
        | cons x t =>
          have hx : x ≠ 48 := by
            have := hz (by simp)
            simpa using this
          have hn' : 1 ≤ n' := by
            simp only [valueN] at h'
            split at h'
            · rename_i hxd
              rw [isDig_nat] at hxd
              refine (valueN_pos h').2 ?_
              have : x.toNat ≠ 48 := fun e => hx (by have := congrArg UInt8.ofNat e; simpa using this)
              omega
            · cases h'
          have := ih (x :: t) n' (by simpa using hl) (by simp) (fun _ => by simpa using hx) h'
          rw [← hv, digitsN_ge (by omega), show (10 * n' + (c.toNat - 48)) / 10 = n' by omega, show (10 * n' + (c.toNat - 48)) % 10 = c.toNat - 48 by omega, this, hc]
      · cases hv
theorem parse_value : ∀ (w : S) (k n : Nat), valueN w k = some n → n < 10 ^ 18 → Lib.parseUint10 k w = .ok n := by
  intro w
  induction w with
  | nil => intro k n h _; simp [valueN] at h; subst h; rfl
  | cons c t ih =>
    intro k n h hn
    simp only [valueN] at h
    split at h
    · rename_i hd
      rw [isDig_nat] at hd
      have hle := (valueN_pos h).1
      unfold Lib.parseUint10
      rw [if_pos hd, if_neg (by omega), if_neg (by omega)]
      rw [show k * 10 + (c.toNat - 48) = 10 * k + (c.toNat - 48) by omega]
      exact ih _ _ h hn
    · cases h
theorem valueN_bound : ∀ (w : S) (k n : Nat), valueN w k = some n → n < (k + 1) * 10 ^ w.length := by
  intro w
  induction w with
  | nil => intro k n h; simp [valueN] at h; subst h; simp
  | cons c t ih =>
    intro k n h
    simp only [valueN] at h
    split at h
    · rename_i hd
      rw [isDig_nat] at hd
      have h1 := ih _ _ h
      refine Nat.lt_of_lt_of_le h1 ?_
      rw [List.length_cons, Nat.pow_succ, Nat.mul_comm (10 ^ t.length) 10, ← Nat.mul_assoc]
      exact Nat.mul_le_mul_right _ (by omega)
    · cases h
theorem value_inv {w : S} {most n : Nat} (h : value w most = some n) : w ≠ [] ∧ w.length ≤ 6 ∧ (1 < w.length → w.head? ≠ some 48) ∧ valueN w 0 = some n ∧ n ≤ most := by
  unfold value at h
  split at h
  · cases h
  · rename_i h1
    split at h
    · cases h
    · rename_i h2
      split at h
      · cases h
      · rename_i h3
        split at h
        · rename_i m hm
          split at h
          · cases h
          · rename_i h4
            simp only [Option.some.injEq] at h
            subst h
            exact ⟨by simpa using h1, by omega, fun h5 h6 => h3 ⟨h6, h5⟩, hm, by omega⟩
        · cases h
theorem atoi_value {w : S} {most n : Nat} (h : value w most = some n) : Lib.atoiAll w = .ok n ∧ Lib.itoa n = digitsN n ∧ digitsN n = w ∧ n ≤ most := by
  obtain ⟨h1, h2, h3, h4, h5⟩ := value_inv h
  have hdec : ∀ n, Lib.decDigits n = digitsN n := by
    intro n
    induction n using Nat.strongRecOn with
    | _ n ih =>
      rw [Lib.decDigits]
      rcases Nat.lt_or_ge n 10 with h | h
      · rw [dif_pos h, digitsN_lt h]
      · rw [dif_neg (by omega), digitsN_ge h, ih (n / 10) (by omega)]
  have hb := valueN_bound _ _ _ h4
  have hb2 : n < 10 ^ 6 := Nat.lt_of_lt_of_le hb (by rw [Nat.zero_add, Nat.one_mul]; exact Nat.pow_le_pow_right (by decide) h2)
  refine ⟨?_, ?_, digits_value _ w n rfl h1 h3 h4, h5⟩
  · cases w with
    | nil => exact absurd rfl h1
    | cons c t =>
      have hc : isDig c = true := by
        simp only [valueN] at h4
        split at h4
        · rename_i h; exact h
        · cases h4
      rw [isDig_nat] at hc
      unfold Lib.atoiAll
      simp only
      rw [if_neg (by omega)]
      unfold Lib.parseMag
      rw [if_neg (by simp), parse_value _ _ _ h4 (by omega)]
      simp only
      rw [if_neg (by omega), if_neg (by omega), if_neg (by omega)]
  · unfold Lib.itoa
    rw [if_neg (by omega), Int.toNat_natCast, hdec]
end Oyez
namespace Ab
open Go Go.Proofs
attribute [local irreducible] aws awp aw1 Og Om Oc Oa Ogd Ov Ot awd aw1d QThen QBlock QFn QFnM ACode ACalls AYield
def Small (f : List Oyez.Rec) : Prop := ∀ r ∈ f, tot1 r.words ≤ 2 ^ 49 ∧ r.words.length ≤ 2 ^ 49
/-- the place ahead of number i -/
def prevOf (f : List Oyez.Rec) (i : Nat) : Option Oyez.Place := if i = 0 then none else (f[i - 1]?).map Oyez.Rec.place
end Ab
namespace Ab
open Go Go.Proofs
attribute [local irreducible] aws awp aw1 Og Om Oc Oa Ogd Ov Ot awd aw1d QThen QBlock QFn QFnM ACode ACalls AYield
/-- what reading a line gives: the record; the word and the error -/
def readAV (x : Except (Nat × Int) Oyez.Rec) : AV := match x with
  | .ok r => .tup [recAV r, .int .i64 0, .int .i64 0]
  | .error (w, e) => .tup [recAV ⟨0, 0, []⟩, .int .i64 w, .int .i64 e]
theorem words_mem_len {s w : List UInt8} (h : w ∈ Oyez.words s) : w.length ≤ s.length := by
  induction s generalizing w with
  | nil => simp [Oyez.words, Oyez.splitAt] at h; subst h; simp
  | cons b t ih =>
    by_cases hb : b = 32
    · subst hb
      rw [words_blank] at h
      rcases List.mem_cons.1 h with rfl | h
      · simp
      · have := ih h; simp; omega
    · rw [words_other b t hb] at h
      cases hx : Oyez.words t with
      | nil => rw [hx] at h; simp [joinW] at h; subst h; simp
      | cons x r =>
        rw [hx] at h ih
        simp only [joinW, List.mem_cons] at h
        rcases h with rfl | h
        · have := ih (List.mem_cons_self); simp; omega
        · have := ih (List.mem_cons_of_mem _ h); simp; omega
theorem Fz_strs (n : Nat) (σ : Heap) (ws : List (List UInt8)) : Fz n σ (.pl 1 (List.map AV.str ws)) (.pl 1 (List.map AV.str ws)) ↔ True := by
  refine ⟨fun _ => trivial, fun _ => .pl 1 _ fun i x hx j y hy => ?_⟩
  rw [List.getElem?_map, Option.map_eq_some_iff] at hx
  obtain ⟨w, _, rfl⟩ := hx
  cases j with
  | zero => simp [AV.cells] at hy; subst hy; exact .str w
  | succ j => simp [AV.cells] at hy
attribute [simp] Fz_strs
end Ab
namespace Ab
open Go Go.Proofs
attribute [local irreducible] aws awp aw1 Og Om Oc Oa Ogd Ov Ot awd aw1d QThen QBlock QFn QFnM ACode ACalls AYield
def parsedAV (p : Oyez.Parsed) : AV := .tup [fileAV p.recs, .int .i64 p.line, .int .i64 p.word, .int .i64 p.err]
def recCells (r : Oyez.Rec) : List AV := [.int .i64 r.kind, .int .i64 r.number, wordsAV r.words]
theorem flat_rec (f : List Oyez.Rec) (i j : Nat) (h : i < f.length) (hj : j < 3) : ((f.map recAV).flatMap AV.cells)[i * 3 + j]? = (recCells f[i])[j]? := by
  have := flat_get (f.map recAV) (k := 3) (fun x hx => by obtain ⟨r, _, rfl⟩ := List.mem_map.1 hx; rfl) (by decide) (i * 3 + j)
  rw [this, show (i * 3 + j) / 3 = i by omega, show (i * 3 + j) % 3 = j by omega]
  simp [h, recCells, AV.cells]
theorem readLine_line {own : List UInt8} {fed : Bool} {n : Nat} {r : Oyez.Rec} (h : Oyez.readLine own fed n = .ok r) : n < 40 ∧ own.length ≤ 64 ∧ fed = true := by
  unfold Oyez.readLine at h
  split at h
  · cases h
  · split at h
    · cases h
    · split at h
      · cases h
      · rename_i h1 h2 h3
        refine ⟨by omega, by omega, ?_⟩
        cases fed <;> simp_all
/-- what is left to parse: the lines behind a place, with the place of the record ahead -/
def cutAt (s : List UInt8) : List UInt8 := (Oyez.cutLine s).2.2
theorem Acc.more {σ g : Heap} {k : Nat} {v : AV} {l : List AV} {o : Option Nat} (h : Acc σ g k v l o) (y : Heap) : Acc σ (g ++ y) k v l o := ⟨h.len, by
  have := h.val
  cases o with
  | none => exact this
  | some j => exact ⟨this.1, by rw [List.getElem?_append_left (List.getElem?_eq_some_iff.1 this.2).1]; exact this.2⟩⟩
/-- records ahead of what is parsed -/
def glue (f : List Oyez.Rec) (p : Oyez.Parsed) : Oyez.Parsed := if p.err = 0 then ⟨f ++ p.recs, 0, 0, 0⟩ else p
theorem readLine_err {own : List UInt8} {fed : Bool} {n : Nat} {w : Nat} {e : Int} (h : Oyez.readLine own fed n = .error (w, e)) : e ≠ 0 := by
  unfold Oyez.readLine at h
  repeat' split at h
  all_goals first
    | (cases h; decide)
    | cases h
theorem parseLines_zero : ∀ (l : List (Oyez.S × Bool)) (p : Option Oyez.Place) (n : Nat), (Oyez.parseLines l p n).err = 0 → (Oyez.parseLines l p n).line = 0 ∧ (Oyez.parseLines l p n).word = 0 := by
  intro l
  induction l with
  | nil => intro p n _; exact ⟨rfl, rfl⟩
  | cons x t ih =>
    intro p n h
    obtain ⟨own, ended⟩ := x
    rw [Oyez.parseLines] at h ⊢
    split at h
    · rename_i w e he
      exact absurd h (readLine_err he)
    · rename_i r hr
      simp only at h ⊢
      split at h
      · cases h
      · rename_i h2
        rw [if_neg h2]
        split at h
        · rename_i h3; rw [if_pos h3]; exact ⟨rfl, rfl⟩
        · rename_i h3; exact absurd h h3
theorem glue_nil (s : List UInt8) : glue [] (Oyez.parse s) = Oyez.parse s := by
  unfold glue
  split
  · rename_i h
    have := parseLines_zero _ _ _ h
    unfold Oyez.parse at h ⊢
    generalize Oyez.parseLines (Oyez.linesOf s) none 0 = p at *
    obtain ⟨a, b, c, d⟩ := p
    simp_all
  · rfl
/-- the place of the last record -/
def lastP (f : List Oyez.Rec) : Option Oyez.Place := f.getLast?.map Oyez.Rec.place
/-- what is left to parse behind a place -/
def restP (s : List UInt8) (at_ : Nat) (f : List Oyez.Rec) : Oyez.Parsed := glue f (Oyez.parseLines (Oyez.linesOf (s.drop at_)) (lastP f) f.length)
end Ab
namespace Ab
open Go Go.Proofs
attribute [local irreducible] aws awp aw1 Og Om Oc Oa Ogd Ov Ot awd aw1d QThen QBlock QFn QFnM ACode ACalls AYield
end Ab
namespace Ab
open Go Go.Proofs
attribute [local irreducible] aws awp aw1 Og Om Oc Oa Ogd Ov Ot awd aw1d QThen QBlock QFn QFnM ACode ACalls AYield
theorem sums_lt (s : Oyez.S) : (Oyez.sums s).1 < 65537 ∧ (Oyez.sums s).2 < 65537 := by
  rw [Oyez.sums_eq]; exact ⟨Nat.mod_lt _ (by decide), Nat.mod_lt _ (by decide)⟩
/-! ### Open -/
theorem value_le {w : List UInt8} {most n : Nat} (h : Oyez.value w most = some n) : n ≤ most := by
  unfold Oyez.value at h
  split at h
  · cases h
  · split at h
    · cases h
    · split at h
      · cases h
      · split at h
        · split at h
          · cases h
          · cases h; omega
        · cases h
def openAV (x : Except Int (List UInt8 × Nat × Nat)) : AV := match x with
  | .error e => .tup [.str [], .int .i64 e]
  | .ok (b, m, n) => .tup [.str b, .int .i64 (if Oyez.sums b = (m, n) then 0 else 8)]
end Ab
namespace Oyez
def glueW : List S → S
  | [] => []
  | w :: t => w ++ t.flatMap (fun x => 32 :: x)
theorem wordsErr_zero {k n : Int} {ws : List S} (h : wordsErr k n ws = 0) : ws.length ≤ 6 ∧ ws.all word = true ∧ (line k n ws).length ≤ 64 := by
  unfold wordsErr at h
  split at h
  · cases h
  · split at h
    · cases h
    · split at h
      · cases h
      · rename_i h1 h2 h3
        exact ⟨by omega, by simpa using h2, by omega⟩
theorem placeErr_rng {k n : Int} (h : placeErr k n = 0) : (0 ≤ k ∧ k ≤ 4) ∧ 0 ≤ n ∧ n ≤ 999 := by
  unfold placeErr at h
  split at h
  · cases h
  · split at h
    · cases h
    · omega
theorem recErr_iff (r : Rec) : recErr r = 0 ↔ placeErr r.kind r.number = 0 ∧ wordsErr r.kind r.number r.words = 0 := by
  refine ⟨recErr_place, fun ⟨h1, h2⟩ => ?_⟩
  unfold recErr oneErr
  rw [if_neg (by simpa using h1)]
  exact h2
/-! ### lines -/
def cat (l : List (S × Bool)) : S := l.flatMap fun x => x.1 ++ if x.2 then [10] else []
def okL : List (S × Bool) → Prop
  | [] => True
  | (w, e) :: t => (10 : UInt8) ∉ w ∧ (e = false → w ≠ [] ∧ t = []) ∧ okL t
end Oyez
namespace Oyez
/-- the pieces of a text at a byte, which each piece keeps or not -/
def sp (c : UInt8) (sv : Bool) : S → List S
  | [] => [[]]
  | b :: t => if b = c then (if sv then [b] else []) :: sp c sv t else
    match sp c sv t with
    | [] => [[b]]
    | w :: r => (b :: w) :: r
def piece (x : S × Bool) : S := x.1 ++ if x.2 then [10] else []
end Oyez
namespace Oyez
/-- what the reference's Put lays from here on -/
def putR (r : Rec) : Bool → List Rec → List Rec
  | done, [] => if done then [] else [r]
  | done, x :: t => (if !done && !(x.place.lt r.place) then [r] else []) ++ ((if x.place = r.place then [] else [x]) ++ putR r (done || !(x.place.lt r.place)) t)
end Oyez
namespace Ab
open Go Go.RowKit Go.Proofs
attribute [local irreducible] aws awp aw1 Og Om Oc Oa Ogd Ov Ot awd aw1d QThen QBlock QFn QFnM ACode ACalls AYield
theorem fz_recs (n : Nat) (σ : Heap) (f : List Oyez.Rec) : ∀ x ∈ f.map recAV, ∀ y ∈ x.cells, Fz n σ y y := fun x hx y hy => by
  obtain ⟨r, _, rfl⟩ := List.mem_map.1 hx
  simp [AV.cells] at hy
  rcases hy with rfl | rfl | rfl
  · exact .int _ _
  · exact .int _ _
  · exact (Fz_strs _ _ _).2 trivial
/-- what a place has: the words, and whether it has any -/
def getW (o : Option (List (List UInt8))) : List (List UInt8) := o.getD []
/-- the file without a place, or the error -/
def dropC (f : List Oyez.Rec) (p : Oyez.Place) : List Oyez.Rec × Int := if (Oyez.getIn f p).isSome then (Oyez.drop f p, 0) else ([], 1)
/-- a file with a record put, or the error -/
def putC (f : List Oyez.Rec) (r : Oyez.Rec) : List Oyez.Rec × Int := if 40 < (Oyez.putR r false f).length then ([], 2) else (Oyez.putR r false f, 0)
end Ab
namespace Ab
open Go Go.RowKit Go.Proofs
/-- as they are -/
def asIs (ws : List (List UInt8)) (xs : List AV) : Prop := xs = strs ws
/-- as many -/
def asMany (ws : List (List UInt8)) (xs : List AV) : Prop := xs.length = ws.length
theorem fz_strs0 {τ : Heap} {q : Nat} (ws : List (List UInt8)) (h : τ[q]? = some (.cells (strs ws))) : Fz 0 τ (.arr 1 q 0 ws.length) (wordsAV ws) := by
  have hl : ws.length = (strs ws).length := by simp [strs]
  rw [hl]
  refine Fz.arr 1 q 0 (strs ws) (strs ws) (fun i _ => (strs ws).getD i .any) (Nat.zero_le _) h (fun i x hx => ?_) (fun i x hx j y hy => ?_)
  · have hx' := hx
    simp only [strs, List.getElem?_map, Option.map_eq_some_iff] at hx
    obtain ⟨s, hs, rfl⟩ := hx
    refine ⟨rfl, fun j y hy => ?_⟩
    match j, hy with
    | 0, hy =>
      simp [AV.cells] at hy; subst hy
      refine ⟨rfl, ?_⟩
      rw [Nat.zero_add, Nat.mul_one, Nat.add_zero, List.getD_eq_getElem?_getD, hx']
      rfl
    | j + 1, hy => simp [AV.cells] at hy
  · have hx' := hx
    simp only [strs, List.getElem?_map, Option.map_eq_some_iff] at hx
    obtain ⟨s, hs, rfl⟩ := hx
    match j, hy with
    | 0, hy =>
      simp [AV.cells] at hy; subst hy
      rw [List.getD_eq_getElem?_getD, hx']
      exact .str _
    | j + 1, hy => simp [AV.cells] at hy
theorem set_behind {σ g : Heap} {q : Nat} (h : σ.length ≤ q) (o : AObj) : (σ ++ g).set q o = σ ++ g.set (q - σ.length) o := by
  rw [List.set_append_right _ _ h]
end Ab

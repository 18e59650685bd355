/-
  PLAIN LAW: the numbers that the library reads and writes, and those of the document.
  PLAIN LAWS: files, what they have at a place, what becomes of them.
  PLAIN LAWS: places that are sorted, each once; which conflicts there are does not depend on the choices.
  PLAIN LAWS: what is printed is parsed as it was, what is parsed is printed as it was; the lines ahead of the first error.
  STRINGS SPLIT AT ONE BYTE: the plain part.
-/
import Derived.Lib.AtoiAll
import Derived.Lib.ItoaNum
import Derived.Test.YtcoikmapjepdjaaGreatDoorC10
set_option linter.unusedSimpArgs false
set_option linter.unusedVariables false
set_option linter.unusedSectionVars false
namespace Oyez
open Go
theorem isDig_nat (c : UInt8) : isDig c = true ↔ 48 ≤ c.toNat ∧ c.toNat ≤ 57 := by simp [isDig, UInt8.le_iff_toNat_le]
theorem dig_byte {d : Nat} (h : d < 10) : (UInt8.ofNat (48 + d)).toNat = 48 + d := by simp; omega
theorem isDig_byte {d : Nat} (h : d < 10) : isDig (UInt8.ofNat (48 + d)) = true := by rw [isDig_nat, dig_byte h]; omega
theorem valueN_append (a b : S) (k : Nat) : valueN (a ++ b) k = (valueN a k).bind (valueN b) := by
  induction a generalizing k with
  | nil => rfl
  | cons c t ih =>
    simp only [List.cons_append, valueN]
    split
    · exact ih _
    · rfl
theorem valueN_digits (n : Nat) : valueN (digitsN n) 0 = some n := by
  induction n using Nat.strongRecOn with
  | _ n ih =>
    rcases Nat.lt_or_ge n 10 with h | h
    · rw [digitsN_lt h]
      simp only [valueN, isDig_byte h, dig_byte h, if_true]
      congr 1
      omega
    · rw [digitsN_ge h, valueN_append, ih (n / 10) (by omega)]
      have hd : n % 10 < 10 := Nat.mod_lt _ (by decide)
      simp only [Option.bind_some, valueN, isDig_byte hd, dig_byte hd, if_true]
      congr 1
      omega
theorem digits_len : ∀ (k n : Nat), n < 10 ^ (k + 1) → (digitsN n).length ≤ k + 1 := by
  intro k
  induction k with
  | zero => intro n h; rw [digitsN_lt (by simpa using h)]; simp
  | succ k ih =>
    intro n h
    rcases Nat.lt_or_ge n 10 with h1 | h1
    · rw [digitsN_lt h1]; simp
    · rw [digitsN_ge h1, List.length_append]
      have := ih (n / 10) (by rw [Nat.div_lt_iff_lt_mul (by decide)]; rw [Nat.pow_succ] at h; exact h)
      simp; omega
theorem digits_ne (n : Nat) : digitsN n ≠ [] := by
  rcases Nat.lt_or_ge n 10 with h | h
  · rw [digitsN_lt h]; simp
  · rw [digitsN_ge h]; simp
theorem digits_head {n : Nat} (h : 1 ≤ n) : (digitsN n).head? ≠ some 48 := by
  induction n using Nat.strongRecOn with
  | _ n ih =>
    rcases Nat.lt_or_ge n 10 with h1 | h1
    · rw [digitsN_lt h1]
      simp only [List.head?_cons, ne_eq, Option.some.injEq]
      intro e
      have := congrArg UInt8.toNat e
      rw [dig_byte h1] at this
      have e2 : (48 : UInt8).toNat = 48 := rfl
      omega
    · have e : (digitsN (n / 10) ++ [UInt8.ofNat (48 + n % 10)]).head? = (digitsN (n / 10)).head? := by
        cases hd : digitsN (n / 10) with
        | nil => exact absurd hd (digits_ne _)
        | cons x t => rfl
      rw [digitsN_ge h1, e]
      exact ih (n / 10) (by omega) (by omega)
theorem value_digits {n most : Nat} (h : n ≤ most) (hm : most ≤ 999999) : value (digitsN n) most = some n := by
  have hl := digits_len 5 n (by omega)
  unfold value
  have h0 : (digitsN n).isEmpty = false := by simpa using digits_ne n
  rw [h0, if_neg (by simp), if_neg (by omega), if_neg, valueN_digits]
  · simp only; rw [if_neg (by omega)]
  · rintro ⟨h1, h2⟩
    rcases Nat.eq_zero_or_pos n with hn | hn
    · subst hn; rw [digitsN_lt (by decide)] at h2; simp at h2
    · exact digits_head hn h1
theorem valueN_pos {w : S} {k n : Nat} (h : valueN w k = some n) : k ≤ n ∧ (1 ≤ k → 1 ≤ n) := by
  induction w generalizing k with
  | nil => simp [valueN] at h; omega
  | cons c t ih =>
    simp only [valueN] at h
    split at h
    · have := ih h; omega
    · cases h
/-- a numeral without leading zeros is that of its number -/
theorem digits_value : ∀ (m : Nat) (w : S) (n : Nat), w.length = m → w ≠ [] → (1 < w.length → w.head? ≠ some 48) → valueN w 0 = some n → digitsN n = w := by
  intro m
  induction m with
  | zero => intro w n hl hne; exact absurd (List.eq_nil_of_length_eq_zero hl) hne
  | succ m ih =>
    intro w n hl hne hz hv
    obtain ⟨w', c, rfl⟩ : ∃ w' c, w = w' ++ [c] := ⟨w.dropLast, w.getLast hne, (List.dropLast_concat_getLast hne).symm⟩
    rw [valueN_append] at hv
    cases h' : valueN w' 0 with
    | none => rw [h'] at hv; cases hv
    | some n' =>
      rw [h'] at hv
      simp only [Option.bind_some, valueN] at hv
      split at hv
      · rename_i hd
        rw [isDig_nat] at hd
        simp only [Option.some.injEq] at hv
        have hc : UInt8.ofNat (48 + (c.toNat - 48)) = c := by rw [show 48 + (c.toNat - 48) = c.toNat by omega]; simp
        cases w' with
        | nil =>
          simp [valueN] at h'
          subst h'
          rw [← hv, Nat.mul_zero, Nat.zero_add, digitsN_lt (by omega), hc]
          rfl
        | cons x t =>
          have hx : x ≠ 48 := by
            have := hz (by simp)
            simpa using this
          have hn' : 1 ≤ n' := by
            simp only [valueN] at h'
            split at h'
            · rename_i hxd
              rw [isDig_nat] at hxd
              refine (valueN_pos h').2 ?_
              have : x.toNat ≠ 48 := fun e => hx (by have := congrArg UInt8.ofNat e; simpa using this)
              omega
            · cases h'
          have := ih (x :: t) n' (by simpa using hl) (by simp) (fun _ => by simpa using hx) h'
          rw [← hv, digitsN_ge (by omega), show (10 * n' + (c.toNat - 48)) / 10 = n' by omega, show (10 * n' + (c.toNat - 48)) % 10 = c.toNat - 48 by omega, this, hc]
      · cases hv
theorem parse_value : ∀ (w : S) (k n : Nat), valueN w k = some n → n < 10 ^ 18 → Lib.parseUint10 k w = .ok n := by
  intro w
  induction w with
  | nil => intro k n h _; simp [valueN] at h; subst h; rfl
  | cons c t ih =>
    intro k n h hn
    simp only [valueN] at h
    split at h
    · rename_i hd
      rw [isDig_nat] at hd
      have hle := (valueN_pos h).1
      unfold Lib.parseUint10
      rw [if_pos hd, if_neg (by omega), if_neg (by omega)]
      rw [show k * 10 + (c.toNat - 48) = 10 * k + (c.toNat - 48) by omega]
      exact ih _ _ h hn
    · cases h
theorem valueN_bound : ∀ (w : S) (k n : Nat), valueN w k = some n → n < (k + 1) * 10 ^ w.length := by
  intro w
  induction w with
  | nil => intro k n h; simp [valueN] at h; subst h; simp
  | cons c t ih =>
    intro k n h
    simp only [valueN] at h
    split at h
    · rename_i hd
      rw [isDig_nat] at hd
      have h1 := ih _ _ h
      refine Nat.lt_of_lt_of_le h1 ?_
      rw [List.length_cons, Nat.pow_succ, Nat.mul_comm (10 ^ t.length) 10, ← Nat.mul_assoc]
      exact Nat.mul_le_mul_right _ (by omega)
    · cases h
theorem value_inv {w : S} {most n : Nat} (h : value w most = some n) : w ≠ [] ∧ w.length ≤ 6 ∧ (1 < w.length → w.head? ≠ some 48) ∧ valueN w 0 = some n ∧ n ≤ most := by
  unfold value at h
  split at h
  · cases h
  · rename_i h1
    split at h
    · cases h
    · rename_i h2
      split at h
      · cases h
      · rename_i h3
        split at h
        · rename_i m hm
          split at h
          · cases h
          · rename_i h4
            simp only [Option.some.injEq] at h
            subst h
            exact ⟨by simpa using h1, by omega, fun h5 h6 => h3 ⟨h6, h5⟩, hm, by omega⟩
        · cases h
theorem atoi_value {w : S} {most n : Nat} (h : value w most = some n) : Lib.atoiAll w = .ok n ∧ Lib.itoa n = digitsN n ∧ digitsN n = w ∧ n ≤ most := by
  obtain ⟨h1, h2, h3, h4, h5⟩ := value_inv h
  have hdec : ∀ n, Lib.decDigits n = digitsN n := by
    intro n
    induction n using Nat.strongRecOn with
    | _ n ih =>
      rw [Lib.decDigits]
      rcases Nat.lt_or_ge n 10 with h | h
      · rw [dif_pos h, digitsN_lt h]
      · rw [dif_neg (by omega), digitsN_ge h, ih (n / 10) (by omega)]
  have hb := valueN_bound _ _ _ h4
  have hb2 : n < 10 ^ 6 := Nat.lt_of_lt_of_le hb (by rw [Nat.zero_add, Nat.one_mul]; exact Nat.pow_le_pow_right (by decide) h2)
  refine ⟨?_, ?_, digits_value _ w n rfl h1 h3 h4, h5⟩
  · cases w with
    | nil => exact absurd rfl h1
    | cons c t =>
      have hc : isDig c = true := by
        simp only [valueN] at h4
        split at h4
        · rename_i h; exact h
        · cases h4
      rw [isDig_nat] at hc
      unfold Lib.atoiAll
      simp only
      rw [if_neg (by omega)]
      unfold Lib.parseMag
      rw [if_neg (by simp), parse_value _ _ _ h4 (by omega)]
      simp only
      rw [if_neg (by omega), if_neg (by omega), if_neg (by omega)]
  · unfold Lib.itoa
    rw [if_neg (by omega), Int.toNat_natCast, hdec]
end Oyez
namespace Oyez
/-! ### what a file has at a place -/
/-- in their order, each place once -/
def RSorted (f : List Rec) : Prop := Sorted (f.map Rec.place)
def InRange (f : List Rec) : Prop := ∀ r ∈ f, r.place ∈ allPlaces
theorem checkFrom_zero {p : Option Place} {f : List Rec} (h : checkFrom p f = 0) : (∀ r ∈ f, recErr r = 0) ∧ RSorted f ∧ ∀ q, p = some q → ∀ r ∈ f, q.lt r.place = true := by
  induction f generalizing p with
  | nil => simp [RSorted, Sorted]
  | cons r t ih =>
    simp only [checkFrom] at h
    split at h
    · rename_i h1; exact absurd h h1
    · rename_i h1
      split at h
      · cases h
      · rename_i h2
        obtain ⟨g1, g2, g3⟩ := ih h
        have hp : ∀ q, p = some q → q.lt r.place = true := fun q hq => by rw [hq] at h2; simpa using h2
        refine ⟨?_, ?_, fun q hq x hx => ?_⟩
        · intro x hx
          rcases List.mem_cons.1 hx with rfl | hx
          · simpa using h1
          · exact g1 x hx
        · refine List.pairwise_cons.2 ⟨fun y hy => ?_, g2⟩
          obtain ⟨x, hx, rfl⟩ := List.mem_map.1 hy
          exact g3 _ rfl x hx
        · rcases List.mem_cons.1 hx with rfl | hx
          · exact hp q hq
          · exact Place.lt_trans (hp q hq) (g3 _ rfl x hx)
theorem placeErr_zero {k n : Int} (h : placeErr k n = 0) : (⟨k, n⟩ : Place) ∈ allPlaces := by
  unfold placeErr at h
  rw [mem_allPlaces]
  split at h
  · cases h
  · split at h
    · cases h
    · show (0 ≤ k ∧ k < 5) ∧ 0 ≤ n ∧ n < 1000
      omega
theorem recErr_place {r : Rec} (h : recErr r = 0) : placeErr r.kind r.number = 0 ∧ wordsErr r.kind r.number r.words = 0 := by
  unfold recErr oneErr at h
  split at h
  · rename_i h1; exact absurd h h1
  · rename_i h1; exact ⟨by simpa using h1, h⟩
structure Right (f : List Rec) : Prop where
  len : f.length ≤ 40
  recs : ∀ r ∈ f, recErr r = 0
  sorted : RSorted f
theorem Right.range {f : List Rec} (h : Right f) : InRange f := fun r hr => placeErr_zero (recErr_place (h.recs r hr)).1
theorem check_zero {f : List Rec} (h : check f = 0) : Right f := by
  unfold check at h
  split at h
  · cases h
  · obtain ⟨h1, h2, _⟩ := checkFrom_zero h
    exact ⟨by omega, h1, h2⟩
/-- what a place's record is -/
def recAt (F : Place → St) (p : Place) : Option Rec := (F p).map fun ws => ⟨p.kind, p.number, ws⟩
/-! ### a record is dropped, or put -/
/-- as the reference puts a record -/
def putL (r : Rec) : Bool → List Rec → List Rec
  | done, [] => if done then [] else [r]
  | done, q :: t =>
    (if !done && !q.place.lt r.place then [r] else []) ++ (if q.place = r.place then [] else [q]) ++ putL r (done || !q.place.lt r.place) t
/-! ### differences and joins -/
end Oyez
namespace Oyez
/-- of elements that follow each other and are the same, one -/
def dd (l : List Place) : List Place := l.foldl (fun a q => if a.getLast? = some q then a else a ++ [q]) []
end Oyez
namespace Oyez
def glueW : List S → S
  | [] => []
  | w :: t => w ++ t.flatMap (fun x => 32 :: x)
theorem glue_split : ∀ ws : List S, ws ≠ [] → (∀ w ∈ ws, (32 : UInt8) ∉ w) → splitAt 32 (glueW ws) = ws := by
  intro ws
  induction ws with
  | nil => intro h; exact absurd rfl h
  | cons w t ih =>
    intro _ h
    cases t with
    | nil =>
      have := splitAt_none 32 w (h w (by simp)) [] [] [] rfl
      simpa [glueW] using this
    | cons v t =>
      have h2 := ih (by simp) fun x hx => h x (List.mem_cons_of_mem _ hx)
      have h3 : splitAt 32 (32 :: glueW (v :: t)) = [] :: (v :: t) := by rw [splitAt, if_pos rfl, h2]
      have h4 := splitAt_none 32 w (h w (by simp)) _ _ _ h3
      simpa [glueW] using h4
theorem line_glue (k n : Int) (ws : List S) : line k n ws = glueW (name k :: digits n :: ws) := by simp [line, glueW]
theorem name_facts {d : Int} (h0 : 0 ≤ d) (h4 : d ≤ 4) : kindOf (name d) = some d ∧ (32 : UInt8) ∉ name d ∧ (10 : UInt8) ∉ name d := by
  have : d = 0 ∨ d = 1 ∨ d = 2 ∨ d = 3 ∨ d = 4 := by omega
  rcases this with rfl | rfl | rfl | rfl | rfl <;> decide
theorem valueN_dig : ∀ (w : S) (k n : Nat), valueN w k = some n → ∀ c ∈ w, isDig c = true := by
  intro w
  induction w with
  | nil => intro k n _ c hc; simp at hc
  | cons b t ih =>
    intro k n h c hc
    unfold valueN at h
    split at h
    · rename_i hb
      rcases List.mem_cons.1 hc with rfl | hc
      · exact hb
      · exact ih _ _ h c hc
    · cases h
theorem dig_not {c : UInt8} (h : isDig c = true) : c ≠ 32 ∧ c ≠ 10 := by
  constructor <;> (rintro rfl; revert h; decide)
theorem digits_not (n : Int) : (32 : UInt8) ∉ digits n ∧ (10 : UInt8) ∉ digits n := by
  have h := valueN_dig _ _ _ (valueN_digits n.toNat)
  exact ⟨fun hc => (dig_not (h _ hc)).1 rfl, fun hc => (dig_not (h _ hc)).2 rfl⟩
theorem word_not {w : S} (h : word w = true) : (32 : UInt8) ∉ w ∧ (10 : UInt8) ∉ w := by
  unfold word at h
  rw [Bool.and_eq_true] at h
  have := List.all_eq_true.1 h.1
  constructor
  · intro hc; have := this _ hc; revert this; decide
  · intro hc; have := this _ hc; revert this; decide
theorem wordsErr_zero {k n : Int} {ws : List S} (h : wordsErr k n ws = 0) : ws.length ≤ 6 ∧ ws.all word = true ∧ (line k n ws).length ≤ 64 := by
  unfold wordsErr at h
  split at h
  · cases h
  · split at h
    · cases h
    · split at h
      · cases h
      · rename_i h1 h2 h3
        exact ⟨by omega, by simpa using h2, by omega⟩
theorem placeErr_rng {k n : Int} (h : placeErr k n = 0) : (0 ≤ k ∧ k ≤ 4) ∧ 0 ≤ n ∧ n ≤ 999 := by
  unfold placeErr at h
  split at h
  · cases h
  · split at h
    · cases h
    · omega
theorem recErr_iff (r : Rec) : recErr r = 0 ↔ placeErr r.kind r.number = 0 ∧ wordsErr r.kind r.number r.words = 0 := by
  refine ⟨recErr_place, fun ⟨h1, h2⟩ => ?_⟩
  unfold recErr oneErr
  rw [if_neg (by simpa using h1)]
  exact h2
theorem firstBad_all {ws : List S} : ∀ i, firstBad ws i = none ↔ ws.all word = true := by
  induction ws with
  | nil => intro i; simp [firstBad]
  | cons w t ih =>
    intro i
    rw [firstBad]
    split
    · rename_i h; rw [ih]; simp [h]
    · rename_i h; simp [h]
theorem readLine_of {r : Rec} (h : recErr r = 0) {n : Nat} (hn : n < 40) : readLine (line r.kind r.number r.words) true n = .ok r := by
  obtain ⟨h1, h2⟩ := (recErr_iff r).1 h
  obtain ⟨hk, hnum⟩ := placeErr_rng h1
  obtain ⟨h6, hall, h64⟩ := wordsErr_zero h2
  obtain ⟨hkn, hn32, _⟩ := name_facts hk.1 hk.2
  have hws : words (line r.kind r.number r.words) = name r.kind :: digits r.number :: r.words := by
    rw [line_glue]
    refine glue_split _ (by simp) fun w hw => ?_
    rcases List.mem_cons.1 hw with rfl | hw
    · exact hn32
    · rcases List.mem_cons.1 hw with rfl | hw
      · exact (digits_not _).1
      · exact (word_not (List.all_eq_true.1 hall w hw)).1
  have hv : value (digits r.number) 999 = some r.number.toNat := value_digits (by omega) (by omega)
  unfold readLine
  rw [if_neg (by omega), if_neg (by omega), if_neg (by simp), hws]
  simp only [hkn, hv]
  rw [if_neg (by omega), (firstBad_all 2).2 hall]
  have : (r.number.toNat : Int) = r.number := by omega
  rw [this]
theorem line_no10 {r : Rec} (h : recErr r = 0) : (10 : UInt8) ∉ line r.kind r.number r.words := by
  obtain ⟨h1, h2⟩ := (recErr_iff r).1 h
  obtain ⟨hk, hnum⟩ := placeErr_rng h1
  obtain ⟨h6, hall, h64⟩ := wordsErr_zero h2
  intro hc
  unfold line at hc
  simp only [List.mem_append, List.mem_flatMap, List.mem_cons, List.mem_singleton, List.not_mem_nil, or_false] at hc
  rcases hc with ((hc | hc) | hc) | ⟨w, hw, hc | hc⟩
  · exact (name_facts hk.1 hk.2).2.2 hc
  · revert hc; decide
  · exact (digits_not _).2 hc
  · revert hc; decide
  · exact (word_not (List.all_eq_true.1 hall w hw)).2 hc

/-! ### lines -/
def cat (l : List (S × Bool)) : S := l.flatMap fun x => x.1 ++ if x.2 then [10] else []
def okL : List (S × Bool) → Prop
  | [] => True
  | (w, e) :: t => (10 : UInt8) ∉ w ∧ (e = false → w ≠ [] ∧ t = []) ∧ okL t
theorem linesOf_app : ∀ (w t : S), (10 : UInt8) ∉ w → linesOf (w ++ 10 :: t) = (w, true) :: linesOf t := by
  intro w
  induction w with
  | nil => intro t _; simp [linesOf]
  | cons b w ih =>
    intro t h
    simp only [List.mem_cons, not_or] at h
    rw [List.cons_append, linesOf, if_neg (Ne.symm h.1), ih t h.2]
theorem linesOf_one : ∀ w : S, (10 : UInt8) ∉ w → w ≠ [] → linesOf w = [(w, false)] := by
  intro w
  induction w with
  | nil => intro _ h; exact absurd rfl h
  | cons b w ih =>
    intro h _
    simp only [List.mem_cons, not_or] at h
    rw [linesOf, if_neg (Ne.symm h.1)]
    cases w with
    | nil => rfl
    | cons c w => rw [ih h.2 (by simp)]
theorem cat_lines : ∀ l : List (S × Bool), okL l → linesOf (cat l) = l := by
  intro l
  induction l with
  | nil => intro _; rfl
  | cons x t ih =>
    obtain ⟨w, e⟩ := x
    rintro ⟨h1, h2, h3⟩
    cases e with
    | true =>
      have : cat ((w, true) :: t) = w ++ 10 :: cat t := by simp [cat]
      rw [this, linesOf_app _ _ h1, ih h3]
    | false =>
      obtain ⟨h4, rfl⟩ := h2 rfl
      have : cat [(w, false)] = w := by simp [cat]
      rw [this, linesOf_one _ h1 h4]
theorem parseLines_print : ∀ (f : List Rec) (p : Option Place) (n : Nat), checkFrom p f = 0 → n + f.length ≤ 40 → parseLines (f.map fun r => (line r.kind r.number r.words, true)) p n = ⟨f, 0, 0, 0⟩ := by
  intro f
  induction f with
  | nil => intro p n _ _; rfl
  | cons r t ih =>
    intro p n h hn
    rw [checkFrom] at h
    split at h
    · rename_i h1; exact absurd h h1
    · rename_i h1
      split at h
      · cases h
      · rename_i h2
        simp only [List.length_cons] at hn
        rw [List.map_cons, parseLines, readLine_of (by simpa using h1) (by omega)]
        simp only
        rw [if_neg h2, ih _ _ h (by omega)]
        simp
theorem check_inv {f : List Rec} (h : check f = 0) : f.length ≤ 40 ∧ checkFrom none f = 0 := by
  unfold check at h
  split at h
  · cases h
  · exact ⟨by omega, h⟩
theorem print_cat (f : List Rec) : cat (f.map fun r => (line r.kind r.number r.words, true)) = print f := by
  simp [cat, print, List.flatMap_map]
theorem okL_print : ∀ f : List Rec, (∀ r ∈ f, recErr r = 0) → okL (f.map fun r => (line r.kind r.number r.words, true)) := by
  intro f
  induction f with
  | nil => intro _; exact trivial
  | cons r t ih => intro h; exact ⟨line_no10 (h r (by simp)), by simp, ih fun q hq => h q (List.mem_cons_of_mem _ hq)⟩
/-- WHAT IS PRINTED IS PARSED AS IT WAS. -/
theorem parse_print {f : List Rec} (h : check f = 0) : parse (print f) = ⟨f, 0, 0, 0⟩ := by
  obtain ⟨h1, h2⟩ := check_inv h
  unfold parse
  rw [← print_cat, cat_lines _ (okL_print f (checkFrom_zero h2).1)]
  exact parseLines_print f none 0 h2 (by omega)
end Oyez
namespace Oyez
/-- the pieces of a text at a byte, which each piece keeps or not -/
def sp (c : UInt8) (sv : Bool) : S → List S
  | [] => [[]]
  | b :: t => if b = c then (if sv then [b] else []) :: sp c sv t else
    match sp c sv t with
    | [] => [[b]]
    | w :: r => (b :: w) :: r
def piece (x : S × Bool) : S := x.1 ++ if x.2 then [10] else []
end Oyez

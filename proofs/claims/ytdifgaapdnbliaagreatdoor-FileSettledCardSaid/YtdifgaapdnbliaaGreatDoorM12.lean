/-
  PLAIN LAW: the numbers that the library reads and writes, and those of the document.
-/
import Derived.Lib.AtoiAll
import Derived.Lib.ItoaNum
import Derived.Test.YtdifgaapdnbliaaGreatDoorM11
set_option linter.unusedSimpArgs false
set_option linter.unusedVariables false
set_option linter.unusedSectionVars false
namespace Oyez
open Go
theorem isDig_nat (c : UInt8) : isDig c = true ↔ 48 ≤ c.toNat ∧ c.toNat ≤ 57 := by simp [isDig, UInt8.le_iff_toNat_le]
theorem dig_byte {d : Nat} (h : d < 10) : (UInt8.ofNat (48 + d)).toNat = 48 + d := by simp; omega
theorem isDig_byte {d : Nat} (h : d < 10) : isDig (UInt8.ofNat (48 + d)) = true := by rw [isDig_nat, dig_byte h]; omega
theorem valueN_append (a b : S) (k : Nat) : valueN (a ++ b) k = (valueN a k).bind (valueN b) := by
  induction a generalizing k with
  | nil => rfl
  | cons c t ih =>
    simp only [List.cons_append, valueN]
    split
    · exact ih _
    · rfl
theorem valueN_digits (n : Nat) : valueN (digitsN n) 0 = some n := by
  induction n using Nat.strongRecOn with
  | _ n ih =>
    rcases Nat.lt_or_ge n 10 with h | h
    · rw [digitsN_lt h]
      simp only [valueN, isDig_byte h, dig_byte h, if_true]
      congr 1
      omega
    · rw [digitsN_ge h, valueN_append, ih (n / 10) (by omega)]
      have hd : n % 10 < 10 := Nat.mod_lt _ (by decide)
      simp only [Option.bind_some, valueN, isDig_byte hd, dig_byte hd, if_true]
      congr 1
      omega
theorem digits_len : ∀ (k n : Nat), n < 10 ^ (k + 1) → (digitsN n).length ≤ k + 1 := by
  intro k
  induction k with
  | zero => intro n h; rw [digitsN_lt (by simpa using h)]; simp
  | succ k ih =>
    intro n h
    rcases Nat.lt_or_ge n 10 with h1 | h1
    · rw [digitsN_lt h1]; simp
    · rw [digitsN_ge h1, List.length_append]
      have := ih (n / 10) (by rw [Nat.div_lt_iff_lt_mul (by decide)]; rw [Nat.pow_succ] at h; exact h)
      simp; omega
theorem digits_ne (n : Nat) : digitsN n ≠ [] := by
  rcases Nat.lt_or_ge n 10 with h | h
  · rw [digitsN_lt h]; simp
  · rw [digitsN_ge h]; simp
theorem digits_head {n : Nat} (h : 1 ≤ n) : (digitsN n).head? ≠ some 48 := by
  induction n using Nat.strongRecOn with
  | _ n ih =>
    rcases Nat.lt_or_ge n 10 with h1 | h1
    · rw [digitsN_lt h1]
      simp only [List.head?_cons, ne_eq, Option.some.injEq]
      intro e
      have := congrArg UInt8.toNat e
      rw [dig_byte h1] at this
      have e2 : (48 : UInt8).toNat = 48 := rfl
      omega
    · have e : (digitsN (n / 10) ++ [UInt8.ofNat (48 + n % 10)]).head? = (digitsN (n / 10)).head? := by
        cases hd : digitsN (n / 10) with
        | nil => exact absurd hd (digits_ne _)
        | cons x t => rfl
      rw [digitsN_ge h1, e]
      exact ih (n / 10) (by omega) (by omega)
theorem value_digits {n most : Nat} (h : n ≤ most) (hm : most ≤ 999999) : value (digitsN n) most = some n := by
  have hl := digits_len 5 n (by omega)
  unfold value
  have h0 : (digitsN n).isEmpty = false := by simpa using digits_ne n
  rw [h0, if_neg (by simp), if_neg (by omega), if_neg, valueN_digits]
  · simp only; rw [if_neg (by omega)]
  · rintro ⟨h1, h2⟩
    rcases Nat.eq_zero_or_pos n with hn | hn
    · subst hn; rw [digitsN_lt (by decide)] at h2; simp at h2
    · exact digits_head hn h1
theorem valueN_pos {w : S} {k n : Nat} (h : valueN w k = some n) : k ≤ n ∧ (1 ≤ k → 1 ≤ n) := by
  induction w generalizing k with
  | nil => simp [valueN] at h; omega
  | cons c t ih =>
    simp only [valueN] at h
    split at h
    · have := ih h; omega
    · cases h
/-- a numeral without leading zeros is that of its number -/
theorem digits_value : ∀ (m : Nat) (w : S) (n : Nat), w.length = m → w ≠ [] → (1 < w.length → w.head? ≠ some 48) → valueN w 0 = some n → digitsN n = w := by
  intro m
  induction m with
  | zero => intro w n hl hne; exact absurd (List.eq_nil_of_length_eq_zero hl) hne
  | succ m ih =>
    intro w n hl hne hz hv
    obtain ⟨w', c, rfl⟩ : ∃ w' c, w = w' ++ [c] := ⟨w.dropLast, w.getLast hne, (List.dropLast_concat_getLast hne).symm⟩
    rw [valueN_append] at hv
    cases h' : valueN w' 0 with
    | none => rw [h'] at hv; cases hv
    | some n' =>
      rw [h'] at hv
      simp only [Option.bind_some, valueN] at hv
      split at hv
      · rename_i hd
        rw [isDig_nat] at hd
        simp only [Option.some.injEq] at hv
        have hc : UInt8.ofNat (48 + (c.toNat - 48)) = c := by rw [show 48 + (c.toNat - 48) = c.toNat by omega]; simp
        cases w' with
        | nil =>
          simp [valueN] at h'
          subst h'
          rw [← hv, Nat.mul_zero, Nat.zero_add, digitsN_lt (by omega), hc]
          rfl
        | cons x t =>
          have hx : x ≠ 48 := by
            have := hz (by simp)
            simpa using this
          have hn' : 1 ≤ n' := by
            simp only [valueN] at h'
            split at h'
            · rename_i hxd
              rw [isDig_nat] at hxd
              refine (valueN_pos h').2 ?_
              have : x.toNat ≠ 48 := fun e => hx (by have := congrArg UInt8.ofNat e; simpa using this)
              omega
            · cases h'
          have := ih (x :: t) n' (by simpa using hl) (by simp) (fun _ => by simpa using hx) h'
          rw [← hv, digitsN_ge (by omega), show (10 * n' + (c.toNat - 48)) / 10 = n' by omega, show (10 * n' + (c.toNat - 48)) % 10 = c.toNat - 48 by omega, this, hc]
      · cases hv
theorem parse_value : ∀ (w : S) (k n : Nat), valueN w k = some n → n < 10 ^ 18 → Lib.parseUint10 k w = .ok n := by
  intro w
  induction w with
  | nil => intro k n h _; simp [valueN] at h; subst h; rfl
  | cons c t ih =>
    intro k n h hn
    simp only [valueN] at h
    split at h
    · rename_i hd
      rw [isDig_nat] at hd
      have hle := (valueN_pos h).1
      unfold Lib.parseUint10
      rw [if_pos hd, if_neg (by omega), if_neg (by omega)]
      rw [show k * 10 + (c.toNat - 48) = 10 * k + (c.toNat - 48) by omega]
      exact ih _ _ h hn
    · cases h
theorem valueN_bound : ∀ (w : S) (k n : Nat), valueN w k = some n → n < (k + 1) * 10 ^ w.length := by
  intro w
  induction w with
  | nil => intro k n h; simp [valueN] at h; subst h; simp
  | cons c t ih =>
    intro k n h
    simp only [valueN] at h
    split at h
    · rename_i hd
      rw [isDig_nat] at hd
      have h1 := ih _ _ h
      refine Nat.lt_of_lt_of_le h1 ?_
      rw [List.length_cons, Nat.pow_succ, Nat.mul_comm (10 ^ t.length) 10, ← Nat.mul_assoc]
      exact Nat.mul_le_mul_right _ (by omega)
    · cases h
theorem value_inv {w : S} {most n : Nat} (h : value w most = some n) : w ≠ [] ∧ w.length ≤ 6 ∧ (1 < w.length → w.head? ≠ some 48) ∧ valueN w 0 = some n ∧ n ≤ most := by
  unfold value at h
  split at h
  · cases h
  · rename_i h1
    split at h
    · cases h
    · rename_i h2
      split at h
      · cases h
      · rename_i h3
        split at h
        · rename_i m hm
          split at h
          · cases h
          · rename_i h4
            simp only [Option.some.injEq] at h
            subst h
            exact ⟨by simpa using h1, by omega, fun h5 h6 => h3 ⟨h6, h5⟩, hm, by omega⟩
        · cases h
theorem atoi_value {w : S} {most n : Nat} (h : value w most = some n) : Lib.atoiAll w = .ok n ∧ Lib.itoa n = digitsN n ∧ digitsN n = w ∧ n ≤ most := by
  obtain ⟨h1, h2, h3, h4, h5⟩ := value_inv h
  have hdec : ∀ n, Lib.decDigits n = digitsN n := by
    intro n
    induction n using Nat.strongRecOn with
    | _ n ih =>
      rw [Lib.decDigits]
      rcases Nat.lt_or_ge n 10 with h | h
      · rw [dif_pos h, digitsN_lt h]
      · rw [dif_neg (by omega), digitsN_ge h, ih (n / 10) (by omega)]
  have hb := valueN_bound _ _ _ h4
  have hb2 : n < 10 ^ 6 := Nat.lt_of_lt_of_le hb (by rw [Nat.zero_add, Nat.one_mul]; exact Nat.pow_le_pow_right (by decide) h2)
  refine ⟨?_, ?_, digits_value _ w n rfl h1 h3 h4, h5⟩
  · cases w with
    | nil => exact absurd rfl h1
    | cons c t =>
      have hc : isDig c = true := by
        simp only [valueN] at h4
        split at h4
        · rename_i h; exact h
        · cases h4
      rw [isDig_nat] at hc
      unfold Lib.atoiAll
      simp only
      rw [if_neg (by omega)]
      unfold Lib.parseMag
      rw [if_neg (by simp), parse_value _ _ _ h4 (by omega)]
      simp only
      rw [if_neg (by omega), if_neg (by omega), if_neg (by omega)]
  · unfold Lib.itoa
    rw [if_neg (by omega), Int.toNat_natCast, hdec]
end Oyez

import Derived.Test.YtdifgaapdnbliaaGreatDoorMD
import Derived.Test.YtdifgaapdnbliaaGreatDoorMF
set_option linter.unusedSimpArgs false
set_option linter.unusedVariables false
namespace Ab
open Go Go.Proofs
instance loose : Mode := ⟨False⟩
attribute [local irreducible] aws awp aw1 Og Om Oc Oa QThen QBlock QFn ACode ACalls AYield
set_option maxRecDepth 4000 in
theorem refSums_calls (s : List UInt8) (σ : Heap) (hs : s.length < 2 ^ 50) : ACalls Tryz.prog 90 [.str s] σ (fun v σ' => v = .tup [.int .i64 (Oyez.sums s).1, .int .i64 (Oyez.sums s).2] ∧ σ' = σ) := by
  refine acalls_fn Tryz.func90 rfl (enters_fn Tryz.func90 (by decide) rfl) ?_
  simp [Tryz.ntmps90]
  refine ACode_loopT (fun env σ' => ∃ (t : List AV) (i a b : Nat), env = { t := t } ∧ t.length = 32 ∧ tg t 0 = .str s ∧ tg t 6 = .int .i64 i ∧ tg t 4 = .int .i64 a ∧ tg t 5 = .int .i64 b ∧ σ' = σ ∧ a < 65537 ∧ b < 65537 ∧ i ≤ s.length ∧ Oyez.sumsFrom (s.drop i) i a b = Oyez.sums s)
    (fun env _ => match tg env.t 6 with | .int _ i => s.length - i.toNat | _ => 0) ⟨_, 0, 0, 0, rfl, by simp, by simp, by simp, by simp, by simp, rfl, by decide, by decide, by omega, rfl⟩ ?_
  rintro env σ' ⟨t, i, a, b, rfl, hl, h0, h6, h4, h5, rfl, ha, hb, hi, hd⟩
  rcases Nat.lt_or_ge i s.length with hlt | hge
  · have hc : s[i]? = some s[i] := List.getElem?_eq_getElem hlt
    simp [hl, h0, h6, h4, h5, hc, hlt]
    have hb8 := u8_lt s[i]
    have hm : (i + 1) * s[i].toNat ≤ 2 ^ 50 * 256 := Nat.mul_le_mul (by omega) (by omega)
    have hm2 : ((i : Int) + 1) * (s[i].toNat : Int) = (((i + 1) * s[i].toNat : Nat) : Int) := by simp
    rw [w64 (n := (i : Int) + 1) (by omega) (by omega), w64 (n := (s[i].toNat : Int)) (by omega) (by omega), hm2, w64 (n := (((i + 1) * s[i].toNat : Nat) : Int)) (by omega) (by omega),
      w64 (by omega) (by omega), w64 (by omega) (by omega)]
    refine ⟨⟨i + 1, by simp, (a + s[i].toNat) % 65537, by rw [← Int.natCast_add]; exact (Int.ofNat_tmod _ _).symm, (b + (i + 1) * s[i].toNat) % 65537, by rw [← Int.natCast_add]; exact (Int.ofNat_tmod _ _).symm, Nat.mod_lt _ (by decide), Nat.mod_lt _ (by decide), hlt, ?_⟩, by omega⟩
    rw [← hd, List.drop_eq_getElem_cons hlt]
    rfl
  · simp [hl, h0, h6, h4, h5, Nat.not_lt.2 hge]
    rw [List.drop_eq_nil_of_le hge] at hd
    rw [← hd]
    exact ⟨rfl, rfl⟩
theorem off_calls (n lo hi : Int) : APure Tryz.prog 163 [.int .i64 n, .int .i64 lo, .int .i64 hi] (.bool (decide (n < lo) || decide (hi < n))) := by
  intro σ
  refine acalls_fn Tryz.func163 rfl (enters_fn Tryz.func163 (by decide) rfl) ?_
  by_cases h : n < lo
  · simp [Tryz.ntmps163, h]
  · simp [Tryz.ntmps163, h]
theorem digitsN_len (n : Nat) : (Oyez.digitsN n).length ≤ n + 1 := by
  induction n using Nat.strongRecOn with
  | _ n ih =>
    rcases Nat.lt_or_ge n 10 with h | h
    · rw [Oyez.digitsN_lt h]; simp
    · rw [Oyez.digitsN_ge h, List.length_append]
      have := ih (n / 10) (by omega)
      simp only [List.length_cons, List.length_nil]
      omega
set_option maxRecDepth 4000 in
theorem digits_calls : ∀ n : Nat, n ≤ 2 ^ 50 → APure Tryz.prog 91 [.int .i64 n] (.str (Oyez.digitsN n)) := by
  intro n
  induction n using Nat.strongRecOn with
  | _ n ih =>
    intro hn
    refine APure.of fun σ => ?_
    refine acalls_fn Tryz.func91 rfl (enters_fn Tryz.func91 (by decide) rfl) ?_
    rcases Nat.lt_or_ge n 10 with h | h
    · have h' : (n : Int) < 10 := by omega
      simp [Tryz.ntmps91, h']
      rw [w64 (by omega) (by omega), w8 (by omega) (by omega), Oyez.digitsN_lt h]
      rfl
    · have h' : ¬ (n : Int) < 10 := by omega
      simp [Tryz.ntmps91, h']
      rw [w64 (by omega) (by omega), show (n : Int) / 10 = ((n / 10 : Nat) : Int) by omega]
      refine (ih (n / 10) (by omega) (by omega)).use ?_
      rw [show (n : Int).tmod 10 = ((n % 10 : Nat) : Int) from (Int.ofNat_tmod _ _).symm]
      refine (ih (n % 10) (by omega) (by omega)).use ?_
      have e1 := digitsN_len (n / 10)
      have e2 := digitsN_len (n % 10)
      rw [Oyez.digitsN_ge h, ← Oyez.digitsN_lt (Nat.mod_lt n (by decide))]
      have e3 : (Oyez.digitsN (n / 10)).length + (Oyez.digitsN (n % 10)).length ≤ 9223372036854775807 := by omega
      simp [e3]
theorem u8_eq (c : UInt8) (n : Nat) (h : n < 256) : c.toNat = n ↔ c = UInt8.ofNat n := by
  constructor
  · intro e; rw [← e]; simp
  · intro e; rw [e]; simp; omega
theorem isDig_iff (c : UInt8) : Oyez.isDig c = true ↔ 48 ≤ c.toNat ∧ c.toNat ≤ 57 := by
  simp [Oyez.isDig, UInt8.le_iff_toNat_le]
theorem isDig_not (c : UInt8) (h : ¬ (48 ≤ c.toNat ∧ c.toNat ≤ 57)) : Oyez.isDig c = false := by
  rw [Bool.eq_false_iff]; intro e; exact h ((isDig_iff c).1 e)
set_option maxRecDepth 4000 in
theorem value_calls (w : List UInt8) (most : Nat) : APure Tryz.prog 94 [.str w, .int .i64 most] (.int .i64 (match Oyez.value w most with | some n => n | none => -1)) := by
  refine APure.of fun σ => ?_
  refine acalls_fn Tryz.func94 rfl (enters_fn Tryz.func94 (by decide) rfl) ?_
  cases w with
  | nil => simp [Tryz.ntmps94, Oyez.value]
  | cons c t =>
    by_cases h6 : 6 < t.length + 1
    · have h6' : (6 : Int) < (t.length : Int) + 1 := by omega
      simp [Tryz.ntmps94, Oyez.value, h6, h6']
    · have h6' : ¬ (6 : Int) < (t.length : Int) + 1 := by omega
      by_cases hz : c = 48 ∧ 1 < t.length + 1
      · obtain ⟨rfl, h2⟩ := hz
        have h2' : (1 : Int) < (t.length : Int) + 1 := by omega
        simp [Tryz.ntmps94, Oyez.value, h6, h6', h2, h2']
      · have hv : Oyez.value (c :: t) most = match Oyez.valueN (c :: t) 0 with | some n => if most < n then none else some n | none => none := by
          have e1 : ¬ (c = 48 ∧ 0 < t.length) := fun e => hz ⟨e.1, by omega⟩
          simp [Oyez.value, h6, e1]
          cases Oyez.valueN (c :: t) 0 <;> rfl
        rw [hv]
        by_cases h1 : c.toNat = 48
        all_goals first
          | (have h1' : (c.toNat : Int) = 48 := by omega
             have h2' : ¬ (1 : Int) < (t.length : Int) + 1 := fun e => hz ⟨(u8_eq c 48 (by decide)).1 h1, by omega⟩
             simp [Tryz.ntmps94, h6', h1', h2'])
          | (have h1' : ¬ (c.toNat : Int) = 48 := by omega
             simp [Tryz.ntmps94, h6', h1'])
        all_goals
          refine ACode_loopT (fun env σ' => ∃ (u : List AV) (i n : Nat), env = { t := u } ∧ u.length = 47 ∧ tg u 0 = .str (c :: t) ∧ tg u 1 = .int .i64 most ∧ tg u 6 = .int .i64 i ∧ tg u 5 = .int .i64 n ∧ σ' = σ ∧ i ≤ t.length + 1 ∧ n < 10 ^ i ∧ Oyez.valueN ((c :: t).drop i) n = Oyez.valueN (c :: t) 0)
            (fun env _ => match tg env.t 6 with | .int _ i => t.length + 1 - i.toNat | _ => 0) ⟨_, 0, 0, rfl, by simp, by simp, by simp, by simp, by simp, rfl, by omega, by decide, rfl⟩ ?_
          rintro env σ' ⟨u, i, n, rfl, hl, g0, g1, g6, g5, rfl, hi, hn, hd⟩
          rcases Nat.lt_or_ge i (t.length + 1) with hlt | hge
          · have hlt' : (i : Int) < (t.length : Int) + 1 := by omega
            have hc : (c :: t)[i]? = some ((c :: t)[i]'(by simpa using hlt)) := List.getElem?_eq_getElem (by simpa using hlt)
            have hdr : (c :: t).drop i = (c :: t)[i]'(by simpa using hlt) :: (c :: t).drop (i + 1) := List.drop_eq_getElem_cons (by simpa using hlt)
            generalize (c :: t)[i]'(by simpa using hlt) = b at hc hdr
            have hb := u8_lt b
            simp [hl, g0, g1, g6, g5, hc, hlt']
            refine (off_calls _ _ _).use ?_
            rw [w64 (by omega) (by omega)]
            have h10 : 10 ^ i ≤ 10 ^ 6 := Nat.pow_le_pow_right (by decide) (by omega)
            have h10s : 10 ^ (i + 1) = 10 ^ i * 10 := Nat.pow_succ ..
            rw [hdr] at hd
            by_cases hdig : 48 ≤ b.toNat ∧ b.toNat ≤ 57
            · have e1 : ¬ (b.toNat : Int) < 48 := by omega
              have e2 : ¬ (57 : Int) < (b.toNat : Int) := by omega
              simp [hl, g0, g1, g6, g5, hc, e1, e2]
              rw [w64 (n := 10 * (n : Int)) (by omega) (by omega), w64 (n := 10 * (n : Int) + b.toNat) (by omega) (by omega), w64 (by omega) (by omega), w64 (by omega) (by omega)]
              refine ⟨⟨i + 1, by simp, 10 * n + (b.toNat - 48), by omega, by omega, by omega, ?_⟩, by omega⟩
              rw [← hd]
              simp only [Oyez.valueN, (isDig_iff b).2 hdig, if_true]
            · have hbad : (decide ((b.toNat : Int) < 48) || decide ((57 : Int) < (b.toNat : Int))) = true := by
                simp; omega
              rw [hbad]
              rw [Oyez.valueN, isDig_not b hdig] at hd
              simp only [Bool.false_eq_true, if_false] at hd
              simp [hl, g0, g1, g6, g5, hc, ← hd]
          · have hge' : ¬ (i : Int) < (t.length : Int) + 1 := by omega
            rw [List.drop_eq_nil_of_le (by simpa using hge), Oyez.valueN] at hd
            by_cases hm : most < n
            · have hm' : (most : Int) < n := by omega
              simp [hl, g0, g1, g6, g5, hge', ← hd, hm, hm']
            · have hm' : ¬ (most : Int) < n := by omega
              simp [hl, g0, g1, g6, g5, hge', ← hd, hm, hm']
end Ab

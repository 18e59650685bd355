/-

-/
import Derived.Test.YtdifgaapdnbliaaGreatDoorR07
import Derived.Test.YtdifgaapdnbliaaGreatDoorR10
import Derived.Test.YtdifgaapdnbliaaGreatDoorR12
set_option linter.unusedSimpArgs false
set_option linter.unusedVariables false
set_option linter.unusedSectionVars false
namespace Ab
open Go Go.Proofs
attribute [local irreducible] aws awp aw1 Og Om Oc Oa Ogd Ov Ot awd aw1d QThen QBlock QFn QFnM ACode ACalls AYield
theorem mixed : Tryz.prog.follows .mixedOrders = true := by kernel_rfl
theorem behind_calls (k n k' n' : Int) : APure Tryz.prog 86 [.int .i64 k, .int .i64 n, .int .i64 k', .int .i64 n'] (.bool ((⟨k', n'⟩ : Oyez.Place).lt ⟨k, n⟩)) := by
  intro σ
  refine acalls_fn Tryz.func86 rfl (enters_fn Tryz.func86 (by decide) rfl) ?_
  by_cases h : k' < k
  · simp [Tryz.ntmps86, h, Oyez.Place.lt]
  · by_cases h2 : k = k'
    · simp [Tryz.ntmps86, h, h2, Oyez.Place.lt]
    · have h3 : ¬ k' = k := fun e => h2 e.symm
      simp [Tryz.ntmps86, h, h2, h3, Oyez.Place.lt]
theorem name_calls (k : Int) (h0 : 0 ≤ k) : APure Tryz.prog 177 [.int .i64 k] (.str (Oyez.name k)) := by
  intro σ
  refine acalls_fn Tryz.func177 rfl (enters_fn Tryz.func177 (by decide) rfl) ?_
  by_cases e0 : k = 0
  · subst e0; simp [Tryz.ntmps177]; rfl
  · by_cases e1 : k = 1
    · subst e1; simp [Tryz.ntmps177]; rfl
    · by_cases e2 : k = 2
      · subst e2; simp [Tryz.ntmps177]; rfl
      · by_cases e3 : k = 3
        · subst e3; simp [Tryz.ntmps177]; rfl
        · simp [Tryz.ntmps177, e0, e1, e2, e3]
          obtain ⟨m, rfl⟩ : ∃ m : Nat, k = (m : Int) + 4 := ⟨(k - 4).toNat, by omega⟩
          unfold Oyez.name
          rw [show ((m : Int) + 4).toNat = m + 4 by omega]
          rfl
theorem word_calls (w : List UInt8) (hw : w.length < 2 ^ 50) : APure Tryz.prog 157 [.str w] (.bool (Oyez.word w)) := by
  intro σ
  refine acalls_fn Tryz.func157 rfl (enters_fn Tryz.func157 (by decide) rfl) ?_
  simp [Tryz.ntmps157]
  refine ACode_loopT (fun env σ' => ∃ (u : List AV) (i : Nat), env = { t := u } ∧ u.length = 26 ∧ tg u 0 = .str w ∧ tg u 3 = .int .i64 i ∧ σ' = σ ∧ i ≤ w.length ∧ (w.take i).all Oyez.isWordByte = true)
    (fun env _ => match tg env.t 3 with | .int _ i => w.length - i.toNat | _ => 0) ⟨_, 0, rfl, by simp, by simp, by simp, rfl, by omega, rfl⟩ ?_
  rintro env σ' ⟨u, i, rfl, hl, g0, g3, rfl, hi, hd⟩
  rcases Nat.lt_or_ge i w.length with hlt | hge
  · have hc : w[i]? = some w[i] := List.getElem?_eq_getElem hlt
    have htake : w.take (i + 1) = w.take i ++ [w[i]] := by rw [List.take_add_one, hc]; rfl
    have hb := u8_lt w[i]
    have hlow : Oyez.isLow w[i] = true ↔ 97 ≤ w[i].toNat ∧ w[i].toNat ≤ 122 := by simp [Oyez.isLow, UInt8.le_iff_toNat_le]
    have hdig := isDig_iff w[i]
    generalize w[i] = b at *
    have hlt' : (i : Int) < (w.length : Int) := by omega
    simp [hl, g0, g3, hc, hlt']
    refine (off_calls _ _ _).use ?_
    rw [w64 (n := (b.toNat : Int)) (by omega) (by omega)]
    by_cases h1 : 97 ≤ b.toNat ∧ b.toNat ≤ 122
    · have e1 : ¬ (b.toNat : Int) < 97 := by omega
      have e2 : ¬ (122 : Int) < (b.toNat : Int) := by omega
      simp [hl, g0, g3, hc, e1, e2]
      rw [w64 (by omega) (by omega)]
      refine ⟨⟨i + 1, by simp, hlt, ?_⟩, by omega⟩
      rw [htake]
      intro x hx
      rcases List.mem_append.1 hx with h | h
      · exact List.all_eq_true.1 hd x h
      · simp at h; subst h; simp [Oyez.isWordByte, hlow.2 h1]
    · have hbad : (decide ((b.toNat : Int) < 97) || decide ((122 : Int) < (b.toNat : Int))) = true := by
        simp; omega
      rw [hbad]
      simp [hl, g0, g3, hc]
      refine (off_calls _ _ _).use ?_
      rw [w64 (n := (b.toNat : Int)) (by omega) (by omega)]
      have hl2 : Oyez.isLow b = false := by rw [Bool.eq_false_iff]; intro e; exact h1 (hlow.1 e)
      by_cases h2 : 48 ≤ b.toNat ∧ b.toNat ≤ 57
      · have e1 : ¬ (b.toNat : Int) < 48 := by omega
        have e2 : ¬ (57 : Int) < (b.toNat : Int) := by omega
        simp [hl, g0, g3, hc, e1, e2]
        rw [w64 (by omega) (by omega)]
        refine ⟨⟨i + 1, by simp, hlt, ?_⟩, by omega⟩
        rw [htake]
        intro x hx
        rcases List.mem_append.1 hx with h | h
        · exact List.all_eq_true.1 hd x h
        · simp at h; subst h; simp [Oyez.isWordByte, hdig.2 h2]
      · have hbad : (decide ((b.toNat : Int) < 48) || decide ((57 : Int) < (b.toNat : Int))) = true := by
          simp; omega
        rw [hbad]
        have hd2 : Oyez.isDig b = false := isDig_not b h2
        simp [hl, g0, g3, hc]
        have hm : b ∈ w := List.mem_of_getElem? hc
        have : w.all Oyez.isWordByte = false := by
          rw [Bool.eq_false_iff]; intro e
          have := List.all_eq_true.1 e b hm
          simp [Oyez.isWordByte, hl2, hd2] at this
        simp [Oyez.word, this]
  · have hge' : ¬ i < w.length := Nat.not_lt.2 hge
    simp [hl, g0, g3, hge']
    refine (off_calls _ _ _).use ?_
    rw [List.take_of_length_le hge] at hd
    simp [hl, g0, g3, Oyez.word, hd]
    rw [Bool.eq_iff_iff]
    simp
    omega

/-! ### lines, records -/
def strs (ws : List (List UInt8)) : List AV := ws.map AV.str
def wordsAV (ws : List (List UInt8)) : AV := .pl 1 (strs ws)
/-- the bytes of a line, up to some words -/
def tot1 (ws : List (List UInt8)) : Nat := (ws.map fun w => w.length + 1).sum
theorem flat_len32 (ws : List (List UInt8)) : (ws.flatMap fun w => (32 : UInt8) :: w).length = tot1 ws := by
  induction ws with
  | nil => rfl
  | cons w t ih => simp [tot1] at *; omega
theorem tot1_take (ws : List (List UInt8)) (i : Nat) : tot1 (ws.take i) ≤ tot1 ws := by
  induction ws generalizing i with
  | nil => simp
  | cons w t ih =>
    cases i with
    | zero => simp [tot1]
    | succ i => have := ih i; simp [tot1] at *; omega
theorem tot1_mem {ws : List (List UInt8)} {w : List UInt8} (h : w ∈ ws) : w.length + 1 ≤ tot1 ws := by
  induction ws with
  | nil => simp at h
  | cons x t ih =>
    rcases List.mem_cons.1 h with rfl | h
    · simp [tot1]
    · have := ih h; simp [tot1] at *; omega
theorem name_len (k : Int) : (Oyez.name k).length ≤ 6 := by
  unfold Oyez.name
  generalize k.toNat = n
  match n with
  | 0 => decide
  | 1 => decide
  | 2 => decide
  | 3 => decide
  | _ + 4 => exact (by decide : ([112, 108, 101, 97] : List UInt8).length ≤ 6)
set_option maxRecDepth 4000 in
theorem Line_calls (k n : Int) (ws : List (List UInt8)) (hk : 0 ≤ k) (hn : 0 ≤ n) (hn2 : n ≤ 2 ^ 20) (hw : tot1 ws ≤ 2 ^ 50) (hwl : ws.length ≤ 2 ^ 50) : APure Tryz.prog 129 [.int .i64 k, .int .i64 n, wordsAV ws] (.str (Oyez.line k n ws)) := by
  intro σ
  refine acalls_fn Tryz.func129 rfl (enters_fn Tryz.func129 (by decide) rfl) ?_
  obtain ⟨m, rfl⟩ : ∃ m : Nat, n = m := ⟨n.toNat, by omega⟩
  have hnl := name_len k
  have hdl := digitsN_len m
  have hm : m ≤ 2 ^ 20 := by omega
  simp [Tryz.ntmps129]
  refine (name_calls k hk).use ?_
  have e1 : (Oyez.name k).length + 1 ≤ 9223372036854775807 := by omega
  simp [e1]
  refine (digits_calls m (by omega)).use ?_
  have e2 : (Oyez.name k).length + (1 + (Oyez.digitsN m).length) ≤ 9223372036854775807 := by omega
  have e2' : (Oyez.name k).length + 1 + (Oyez.digitsN m).length ≤ 9223372036854775807 := by omega
  simp [e2, e2']
  refine ACode_loopT (fun env σ' => ∃ (u : List AV) (i : Nat), env = { t := u } ∧ u.length = 29 ∧ tg u 2 = wordsAV ws ∧ tg u 8 = .int .i64 i ∧ tg u 7 = .str (Oyez.name k ++ [32] ++ Oyez.digitsN m ++ (ws.take i).flatMap (fun w => 32 :: w)) ∧ σ' = σ ∧ i ≤ ws.length)
    (fun env _ => match tg env.t 8 with | .int _ i => ws.length - i.toNat | _ => 0) ⟨_, 0, rfl, by simp, by simp, by simp, by simp, rfl, by omega⟩ ?_
  rintro env σ' ⟨u, i, rfl, hl, g2, g8, g7, rfl, hi⟩
  generalize hX : Oyez.name k ++ [32] ++ Oyez.digitsN m ++ (ws.take i).flatMap (fun w => 32 :: w) = X at g7
  have hXl : X.length ≤ 2 ^ 52 := by
    rw [← hX, List.length_append, flat_len32]
    have := tot1_take ws i
    simp
    omega
  rcases Nat.lt_or_ge i ws.length with hlt | hge
  · have hlt' : (i : Int) < (ws.length : Int) := by omega
    have hc : ws[i]? = some ws[i] := List.getElem?_eq_getElem hlt
    have htake : ws.take (i + 1) = ws.take i ++ [ws[i]] := by rw [List.take_add_one, hc]; rfl
    have hwi := tot1_mem (List.getElem_mem hlt)
    have e3 : X.length + (1 + ws[i].length) ≤ 9223372036854775807 := by omega
    have e4 : X.length + 1 ≤ 9223372036854775807 := by omega
    have e5 : X.length + 1 + ws[i].length ≤ 9223372036854775807 := by omega
    simp [hl, g2, g8, g7, wordsAV, strs, hlt', hlt, e3, e4, e5]
    rw [w64 (by omega) (by omega)]
    refine ⟨⟨i + 1, by simp, ?_, hlt⟩, by omega⟩
    rw [← hX]
    simp
    rw [htake, List.flatMap_append]
    simp only [List.flatMap_cons, List.flatMap_nil, List.append_nil]
  · have hge' : ¬ (i : Int) < (ws.length : Int) := by omega
    simp [hl, g2, g8, g7, wordsAV, strs, hge']
    rw [List.take_of_length_le hge] at hX
    rw [← hX]
    simp [Oyez.line, Oyez.digits]
end Ab
namespace Ab
open Go Go.Proofs
attribute [local irreducible] aws awp aw1 Og Om Oc Oa Ogd Ov Ot awd aw1d QThen QBlock QFn QFnM ACode ACalls AYield
def recAV (r : Oyez.Rec) : AV := .agg [.int .i64 r.kind, .int .i64 r.number, wordsAV r.words]
def fileAV (f : List Oyez.Rec) : AV := .pl 3 (f.map recAV)
attribute [simp] wordsAV strs recAV fileAV
def kindInt (w : List UInt8) : Int := match Oyez.kindOf w with | some k => k | none => -1
theorem Place_calls (k n : Int) : APure Tryz.prog 106 [.int .i64 k, .int .i64 n] (.int .i64 (Oyez.placeErr k n)) := by
  intro σ
  refine acalls_fn Tryz.func106 rfl (enters_fn Tryz.func106 (by decide) rfl) ?_
  simp [Tryz.ntmps106]
  refine (off_calls _ _ _).use ?_
  unfold Oyez.placeErr
  by_cases h : k < 0 ∨ 4 < k
  · have : (decide (k < 0) || decide (4 < k)) = true := by simpa using h
    rw [this]
    simp [h]
  · have : (decide (k < 0) || decide (4 < k)) = false := by rw [Bool.eq_false_iff]; simpa using h
    rw [this]
    simp
    refine (off_calls _ _ _).use ?_
    by_cases h2 : n < 0 ∨ 999 < n
    · have : (decide (n < 0) || decide (999 < n)) = true := by simpa using h2
      rw [this]
      simp [h, h2]
    · have : (decide (n < 0) || decide (999 < n)) = false := by rw [Bool.eq_false_iff]; simpa using h2
      rw [this]
      simp [h, h2]
set_option maxRecDepth 4000 in
theorem Words_calls (k n : Int) (ws : List (List UInt8)) (hk : 0 ≤ k) (hn : 0 ≤ n) (hn2 : n ≤ 2 ^ 20) (hw : tot1 ws ≤ 2 ^ 49) (hwl : ws.length ≤ 2 ^ 49) : APure Tryz.prog 107 [.int .i64 k, .int .i64 n, wordsAV ws] (.int .i64 (Oyez.wordsErr k n ws)) := by
  intro σ
  refine acalls_fn Tryz.func107 rfl (enters_fn Tryz.func107 (by decide) rfl) ?_
  by_cases h6 : 6 < ws.length
  · have h6' : (6 : Int) < (ws.length : Int) := by omega
    have hE : Oyez.wordsErr k n ws = 2 := by unfold Oyez.wordsErr; rw [if_pos h6]
    simp [Tryz.ntmps107, wordsAV, strs, h6', hE]
  · have h6' : ¬ (6 : Int) < (ws.length : Int) := by omega
    simp [Tryz.ntmps107, wordsAV, strs, h6']
    refine ACode_loopT (fun env σ' => ∃ (u : List AV) (i : Nat), env = { t := u } ∧ u.length = 29 ∧ tg u 0 = .int .i64 k ∧ tg u 1 = .int .i64 n ∧ tg u 2 = wordsAV ws ∧ tg u 7 = .int .i64 i ∧ σ' = σ ∧ i ≤ ws.length ∧ ∀ x, x ∈ ws.take i → Oyez.word x = true)
      (fun env _ => match tg env.t 7 with | .int _ i => ws.length - i.toNat | _ => 0) ⟨_, 0, rfl, by simp, by simp, by simp, by simp [wordsAV, strs], by simp, rfl, by omega, fun x hx => by simp at hx⟩ ?_
    rintro env σ' ⟨u, i, rfl, hl, g0, g1, g2, g7, rfl, hi, hd⟩
    rcases Nat.lt_or_ge i ws.length with hlt | hge
    · have hlt' : (i : Int) < (ws.length : Int) := by omega
      have hc : ws[i]? = some ws[i] := List.getElem?_eq_getElem hlt
      have htake : ws.take (i + 1) = ws.take i ++ [ws[i]] := by rw [List.take_add_one, hc]; rfl
      have hwi := tot1_mem (List.getElem_mem hlt)
      simp [hl, g0, g1, g2, g7, wordsAV, strs, hlt', hlt]
      refine (word_calls ws[i] (by omega)).use ?_
      cases hx : Oyez.word ws[i] with
      | true =>
        simp [hl, g0, g1, g2, g7, wordsAV, strs]
        rw [w64 (by omega) (by omega)]
        refine ⟨⟨i + 1, by simp, hlt, ?_⟩, by omega⟩
        rw [htake]
        intro x hx'
        rcases List.mem_append.1 hx' with h | h
        · exact hd x h
        · simp at h; subst h; exact hx
      | false =>
        have hE : Oyez.wordsErr k n ws = 11 := by
          have : ws.all Oyez.word = false := by
            rw [Bool.eq_false_iff]; intro e
            rw [List.all_eq_true.1 e _ (List.getElem_mem hlt)] at hx
            cases hx
          unfold Oyez.wordsErr
          rw [if_neg h6, if_pos this]
        simp [hl, g0, g1, g2, g7, hE]
    · have hge' : ¬ (i : Int) < (ws.length : Int) := by omega
      rw [List.take_of_length_le hge] at hd
      have hall : ws.all Oyez.word = true := List.all_eq_true.2 hd
      simp [hl, g0, g1, g2, g7, wordsAV, strs, hge']
      have := Line_calls k n ws hk hn hn2 (by omega) (by omega)
      simp only [wordsAV, strs] at this
      refine this.use ?_
      by_cases h64 : 64 < (Oyez.line k n ws).length
      · have h64' : (64 : Int) < ((Oyez.line k n ws).length : Int) := by omega
        have hE : Oyez.wordsErr k n ws = 10 := by unfold Oyez.wordsErr; rw [if_neg h6, hall, if_neg (by simp), if_pos h64]
        simp [hl, g0, g1, g2, g7, h64', hE]
      · have h64' : ¬ (64 : Int) < ((Oyez.line k n ws).length : Int) := by omega
        have hE : Oyez.wordsErr k n ws = 0 := by unfold Oyez.wordsErr; rw [if_neg h6, hall, if_neg (by simp), if_neg h64]
        simp [hl, g0, g1, g2, g7, h64', hE]
theorem One_calls (r : Oyez.Rec) (hw : tot1 r.words ≤ 2 ^ 49) (hwl : r.words.length ≤ 2 ^ 49) : APure Tryz.prog 61 [recAV r] (.int .i64 (Oyez.recErr r)) := by
  refine APure.of fun σ => ?_
  refine acalls_fn Tryz.func61 rfl (enters_fn Tryz.func61 (by decide) rfl) ?_
  simp [Tryz.ntmps61, recAV]
  refine (Place_calls _ _).use ?_
  unfold Oyez.recErr Oyez.oneErr
  by_cases h : Oyez.placeErr r.kind r.number = 0
  · simp [h]
    have hp := h
    unfold Oyez.placeErr at hp
    have hp1 : ¬ (r.kind < 0 ∨ 4 < r.kind) := fun e => by rw [if_pos e] at hp; cases hp
    rw [if_neg hp1] at hp
    have hp2 : ¬ (r.number < 0 ∨ 999 < r.number) := fun e => by rw [if_pos e] at hp; cases hp
    refine (Words_calls _ _ _ (by omega) (by omega) (by omega) hw hwl).use ?_
    simp [h]
  · simp [h]

theorem split_ne (s : List UInt8) : Oyez.words s ≠ [] := by
  unfold Oyez.words
  cases s with
  | nil => simp [Oyez.splitAt]
  | cons b t =>
    unfold Oyez.splitAt
    split
    · simp
    · split <;> simp
def joinW (w : List UInt8) : List (List UInt8) → List (List UInt8)
  | [] => [w]
  | x :: r => (w ++ x) :: r
theorem words_blank (t : List UInt8) : Oyez.words (32 :: t) = [] :: Oyez.words t := by simp [Oyez.words, Oyez.splitAt]
theorem words_other (b : UInt8) (t : List UInt8) (h : b ≠ 32) : Oyez.words (b :: t) = joinW [b] (Oyez.words t) := by
  unfold Oyez.words
  rw [Oyez.splitAt, if_neg h]
  cases hx : Oyez.splitAt 32 t with
  | nil => rfl
  | cons w r => rfl
theorem strs_len (ws : List (List UInt8)) : (strs ws).length = ws.length := by simp [strs]
theorem words_len (s : List UInt8) : (Oyez.words s).length ≤ s.length + 1 := by
  induction s with
  | nil => simp [Oyez.words, Oyez.splitAt]
  | cons b t ih =>
    by_cases h : b = 32
    · subst h; rw [words_blank]; simp; omega
    · rw [words_other b t h]
      revert ih
      cases Oyez.words t <;> simp [joinW] <;> omega
end Ab
namespace Ab
open Go Go.Proofs
attribute [local irreducible] aws awp aw1 Og Om Oc Oa Ogd Ov Ot awd aw1d QThen QBlock QFn QFnM ACode ACalls AYield
def Small (f : List Oyez.Rec) : Prop := ∀ r ∈ f, tot1 r.words ≤ 2 ^ 49 ∧ r.words.length ≤ 2 ^ 49
/-- the place ahead of number i -/
def prevOf (f : List Oyez.Rec) (i : Nat) : Option Oyez.Place := if i = 0 then none else (f[i - 1]?).map Oyez.Rec.place
set_option maxHeartbeats 4000000 in
set_option maxRecDepth 8000 in
theorem refCheck_calls (f : List Oyez.Rec) (hf : Small f) : APure Tryz.prog 30 [fileAV f] (.int .i64 (Oyez.check f)) := by
  intro σ
  refine acalls_fn Tryz.func30 rfl (enters_fn Tryz.func30 (by decide) rfl) ?_
  by_cases h40 : 40 < f.length
  · have h40' : (40 : Int) < (f.length : Int) := by omega
    have hE : Oyez.check f = 2 := by unfold Oyez.check; rw [if_pos h40]
    simp [Tryz.ntmps30, h40', hE]
  · have h40' : ¬ (40 : Int) < (f.length : Int) := by omega
    have hE : Oyez.check f = Oyez.checkFrom none f := by unfold Oyez.check; rw [if_neg h40]
    simp [Tryz.ntmps30, h40']
    refine ACode_loopT (fun env σ' => ∃ (u : List AV) (i : Nat), env = { t := u } ∧ u.length = 50 ∧ tg u 0 = fileAV f ∧ tg u 3 = .int .i64 i ∧ σ' = σ ∧ i ≤ f.length ∧ Oyez.checkFrom (prevOf f i) (f.drop i) = Oyez.check f)
      (fun env _ => match tg env.t 3 with | .int _ i => f.length - i.toNat | _ => 0) ⟨_, 0, rfl, by simp, by simp, by simp, rfl, by omega, by simp [prevOf, hE]⟩ ?_
    rintro env σ' ⟨u, i, rfl, hl, g0, g3, rfl, hi, hd⟩
    rcases Nat.lt_or_ge i f.length with hlt | hge
    · have hlt' : (i : Int) < (f.length : Int) := by omega
      have hdr : f.drop i = f[i] :: f.drop (i + 1) := List.drop_eq_getElem_cons hlt
      have hs := hf _ (List.getElem_mem hlt)
      rw [hdr, Oyez.checkFrom] at hd
      simp [hl, g0, g3, hlt', hlt]
      refine (One_calls f[i] hs.1 hs.2).use ?_
      by_cases h0 : Oyez.recErr f[i] = 0
      · rw [if_neg (by simpa using h0)] at hd
        simp [hl, g0, g3, h0]
        refine ACode_draw0 mixed (by kernel_rfl) ?_
        cases i with
        | zero =>
          have hx1 : IntKind.i64.wrap 1 = 1 := w64 (by omega) (by omega)
          simp [hl, g0, g3, hx1]
          refine ⟨⟨1, rfl, hlt, ?_⟩, by omega⟩
          simpa [prevOf, List.getElem?_eq_getElem hlt] using hd
        | succ j =>
          have hz' : (0 : Int) < (j : Int) + 1 := by omega
          have hx := w64 (n := (j : Int)) (by omega) (by omega)
          have hx2 := w64 (n := (j : Int) + 1 + 1) (by omega) (by omega)
          have hj : j < f.length := by omega
          have hj0 : (0 : Int) ≤ (j : Int) + 1 := by omega
          have hj1 : (j : Int) + 1 < (f.length : Int) := by omega
          have hp : prevOf f (j + 1) = some f[j].place := by simp [prevOf, hj]
          rw [hp] at hd
          simp [hl, g0, g3, hz', hlt, hx, hj, hj0, hj1]
          refine Ou_use (behind_calls _ _ _ _) ?_
          cases hb : f[j].place.lt f[j + 1].place with
          | true =>
            simp [hl, g0, g3, hx2, show ((⟨f[j].kind, f[j].number⟩ : Oyez.Place).lt ⟨f[j + 1].kind, f[j + 1].number⟩) = true from hb]
            refine ⟨⟨j + 1 + 1, by simp, hlt, ?_⟩, by omega⟩
            have hp2 : prevOf f (j + 1 + 1) = some f[j + 1].place := by simp [prevOf, hlt]
            rw [hp2, ← hd]
            simp [hb]
          | false =>
            simp [hl, g0, g3, show ((⟨f[j].kind, f[j].number⟩ : Oyez.Place).lt ⟨f[j + 1].kind, f[j + 1].number⟩) = false from hb]
            simpa [hb] using hd
      · rw [if_pos (by simpa using h0)] at hd
        simp [hl, g0, g3, h0, ← hd]
    · have hge' : ¬ (i : Int) < (f.length : Int) := by omega
      rw [List.drop_eq_nil_of_le hge, Oyez.checkFrom] at hd
      simp [hl, g0, g3, hge', ← hd]
end Ab
namespace Ab
open Go Go.Proofs
attribute [local irreducible] aws awp aw1 Og Om Oc Oa Ogd Ov Ot awd aw1d QThen QBlock QFn QFnM ACode ACalls AYield
/-- what reading a line gives: the record; the word and the error -/
def readAV (x : Except (Nat × Int) Oyez.Rec) : AV := match x with
  | .ok r => .tup [recAV r, .int .i64 0, .int .i64 0]
  | .error (w, e) => .tup [recAV ⟨0, 0, []⟩, .int .i64 w, .int .i64 e]
theorem words_mem_len {s w : List UInt8} (h : w ∈ Oyez.words s) : w.length ≤ s.length := by
  induction s generalizing w with
  | nil => simp [Oyez.words, Oyez.splitAt] at h; subst h; simp
  | cons b t ih =>
    by_cases hb : b = 32
    · subst hb
      rw [words_blank] at h
      rcases List.mem_cons.1 h with rfl | h
      · simp
      · have := ih h; simp; omega
    · rw [words_other b t hb] at h
      cases hx : Oyez.words t with
      | nil => rw [hx] at h; simp [joinW] at h; subst h; simp
      | cons x r =>
        rw [hx] at h ih
        simp only [joinW, List.mem_cons] at h
        rcases h with rfl | h
        · have := ih (List.mem_cons_self); simp; omega
        · have := ih (List.mem_cons_of_mem _ h); simp; omega
theorem Fz_strs (n : Nat) (σ : Heap) (ws : List (List UInt8)) : Fz n σ (.pl 1 (List.map AV.str ws)) (.pl 1 (List.map AV.str ws)) ↔ True := by
  refine ⟨fun _ => trivial, fun _ => .pl 1 _ fun i x hx j y hy => ?_⟩
  rw [List.getElem?_map, Option.map_eq_some_iff] at hx
  obtain ⟨w, _, rfl⟩ := hx
  cases j with
  | zero => simp [AV.cells] at hy; subst hy; exact .str w
  | succ j => simp [AV.cells] at hy
attribute [simp] Fz_strs
end Ab
namespace Ab
open Go Go.Proofs
attribute [local irreducible] aws awp aw1 Og Om Oc Oa Ogd Ov Ot awd aw1d QThen QBlock QFn QFnM ACode ACalls AYield
def parsedAV (p : Oyez.Parsed) : AV := .tup [fileAV p.recs, .int .i64 p.line, .int .i64 p.word, .int .i64 p.err]
def recCells (r : Oyez.Rec) : List AV := [.int .i64 r.kind, .int .i64 r.number, wordsAV r.words]
theorem flat_rec (f : List Oyez.Rec) (i j : Nat) (h : i < f.length) (hj : j < 3) : ((f.map recAV).flatMap AV.cells)[i * 3 + j]? = (recCells f[i])[j]? := by
  have := flat_get (f.map recAV) (k := 3) (fun x hx => by obtain ⟨r, _, rfl⟩ := List.mem_map.1 hx; rfl) (by decide) (i * 3 + j)
  rw [this, show (i * 3 + j) / 3 = i by omega, show (i * 3 + j) % 3 = j by omega]
  simp [h, recCells, AV.cells]
theorem readLine_line {own : List UInt8} {fed : Bool} {n : Nat} {r : Oyez.Rec} (h : Oyez.readLine own fed n = .ok r) : n < 40 ∧ own.length ≤ 64 ∧ fed = true := by
  unfold Oyez.readLine at h
  split at h
  · cases h
  · split at h
    · cases h
    · split at h
      · cases h
      · rename_i h1 h2 h3
        refine ⟨by omega, by omega, ?_⟩
        cases fed <;> simp_all
/-- what is left to parse: the lines behind a place, with the place of the record ahead -/
def cutAt (s : List UInt8) : List UInt8 := (Oyez.cutLine s).2.2
theorem Acc.more {σ g : Heap} {k : Nat} {v : AV} {l : List AV} {o : Option Nat} (h : Acc σ g k v l o) (y : Heap) : Acc σ (g ++ y) k v l o := ⟨h.len, by
  have := h.val
  cases o with
  | none => exact this
  | some j => exact ⟨this.1, by rw [List.getElem?_append_left (List.getElem?_eq_some_iff.1 this.2).1]; exact this.2⟩⟩
/-- records ahead of what is parsed -/
def glue (f : List Oyez.Rec) (p : Oyez.Parsed) : Oyez.Parsed := if p.err = 0 then ⟨f ++ p.recs, 0, 0, 0⟩ else p
theorem readLine_err {own : List UInt8} {fed : Bool} {n : Nat} {w : Nat} {e : Int} (h : Oyez.readLine own fed n = .error (w, e)) : e ≠ 0 := by
  unfold Oyez.readLine at h
  repeat' split at h
  all_goals first
    | (cases h; decide)
    | cases h
theorem parseLines_zero : ∀ (l : List (Oyez.S × Bool)) (p : Option Oyez.Place) (n : Nat), (Oyez.parseLines l p n).err = 0 → (Oyez.parseLines l p n).line = 0 ∧ (Oyez.parseLines l p n).word = 0 := by
  intro l
  induction l with
  | nil => intro p n _; exact ⟨rfl, rfl⟩
  | cons x t ih =>
    intro p n h
    obtain ⟨own, ended⟩ := x
    rw [Oyez.parseLines] at h ⊢
    split at h
    · rename_i w e he
      exact absurd h (readLine_err he)
    · rename_i r hr
      simp only at h ⊢
      split at h
      · cases h
      · rename_i h2
        rw [if_neg h2]
        split at h
        · rename_i h3; rw [if_pos h3]; exact ⟨rfl, rfl⟩
        · rename_i h3; exact absurd h h3
theorem glue_nil (s : List UInt8) : glue [] (Oyez.parse s) = Oyez.parse s := by
  unfold glue
  split
  · rename_i h
    have := parseLines_zero _ _ _ h
    unfold Oyez.parse at h ⊢
    generalize Oyez.parseLines (Oyez.linesOf s) none 0 = p at *
    obtain ⟨a, b, c, d⟩ := p
    simp_all
  · rfl
/-- the place of the last record -/
def lastP (f : List Oyez.Rec) : Option Oyez.Place := f.getLast?.map Oyez.Rec.place
/-- what is left to parse behind a place -/
def restP (s : List UInt8) (at_ : Nat) (f : List Oyez.Rec) : Oyez.Parsed := glue f (Oyez.parseLines (Oyez.linesOf (s.drop at_)) (lastP f) f.length)
end Ab
namespace Ab
open Go Go.Proofs
attribute [local irreducible] aws awp aw1 Og Om Oc Oa Ogd Ov Ot awd aw1d QThen QBlock QFn QFnM ACode ACalls AYield
end Ab
namespace Ab
open Go Go.Proofs
attribute [local irreducible] aws awp aw1 Og Om Oc Oa Ogd Ov Ot awd aw1d QThen QBlock QFn QFnM ACode ACalls AYield
theorem sums_lt (s : Oyez.S) : (Oyez.sums s).1 < 65537 ∧ (Oyez.sums s).2 < 65537 := by
  rw [Oyez.sums_eq]; exact ⟨Nat.mod_lt _ (by decide), Nat.mod_lt _ (by decide)⟩
/-! ### Open -/
theorem value_le {w : List UInt8} {most n : Nat} (h : Oyez.value w most = some n) : n ≤ most := by
  unfold Oyez.value at h
  split at h
  · cases h
  · split at h
    · cases h
    · split at h
      · cases h
      · split at h
        · split at h
          · cases h
          · cases h; omega
        · cases h
def openAV (x : Except Int (List UInt8 × Nat × Nat)) : AV := match x with
  | .error e => .tup [.str [], .int .i64 e]
  | .ok (b, m, n) => .tup [.str b, .int .i64 (if Oyez.sums b = (m, n) then 0 else 8)]
end Ab

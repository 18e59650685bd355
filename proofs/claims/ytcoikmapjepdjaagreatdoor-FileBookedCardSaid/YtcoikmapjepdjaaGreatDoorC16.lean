/-
  THE IMPLEMENTATION's WORDS: characters of a text, letters, words.
-/
import Derived.Test.YtcoikmapjepdjaaGreatDoorC08
import Derived.Test.YtcoikmapjepdjaaGreatDoorC15
set_option linter.unusedSimpArgs false
set_option linter.unusedVariables false
set_option linter.unusedSectionVars false
namespace Ab
open Go Go.RowKit Go.Proofs
attribute [local irreducible] aws awp aw1 Og Om Oc Oa Ogd Ov Ot awd aw1d awh aw1h Ogh Ohd QThen QBlock QFn QFnM ACode AYield
theorem encode_last (r : Int) (h : 128 ≤ r) : ∃ (pre : List UInt8) (b : UInt8), (Utf8.encode r).data.toList = pre ++ [b] ∧ 1 ≤ pre.length ∧ pre.length ≤ 3 ∧ 128 ≤ b.toNat := by
  have hv : ∀ n : Nat, n < 64 → 128 ≤ (UInt8.ofNat (0x80 + n)).toNat := fun n hn => by simp; omega
  have hc : 0x80 ≤ (if Utf8.valid r then r.toNat else Utf8.runeError) := by
    split
    · omega
    · decide
  unfold Utf8.encode
  simp only
  generalize (if Utf8.valid r then r.toNat else Utf8.runeError) = c at hc
  rw [if_neg (by omega)]
  split
  · exact ⟨[UInt8.ofNat (0xC0 + c / 64)], UInt8.ofNat (0x80 + c % 64), rfl, by simp, by simp, hv _ (Nat.mod_lt _ (by decide))⟩
  · split
    · exact ⟨[UInt8.ofNat (0xE0 + c / 4096), UInt8.ofNat (0x80 + c / 64 % 64)], UInt8.ofNat (0x80 + c % 64), rfl, by simp, by simp, hv _ (Nat.mod_lt _ (by decide))⟩
    · exact ⟨[UInt8.ofNat (0xF0 + c / 262144), UInt8.ofNat (0x80 + c / 4096 % 64), UInt8.ofNat (0x80 + c / 64 % 64)], UInt8.ofNat (0x80 + c % 64), rfl, by simp, by simp, hv _ (Nat.mod_lt _ (by decide))⟩
theorem decode_low (s : List UInt8) (i : Nat) (h : i < s.length) (hb : s[i].toNat < 128) : Utf8.decode ⟨⟨s⟩⟩ i = (s[i].toNat, 1) := by
  have hg : (ByteArray.mk ⟨s⟩).get! i = s[i] := by
    show (Array.mk s)[i]! = _
    simp [h]
  unfold Utf8.decode
  simp only [Nat.add_zero, hg]
  rw [if_pos hb]
theorem decode_high (s : List UInt8) (i : Nat) (h : i < s.length) (hb : ¬ s[i].toNat < 128) : 128 ≤ (Utf8.decode ⟨⟨s⟩⟩ i).1 ∧ (Utf8.decode ⟨⟨s⟩⟩ i).1 < 2 ^ 21 ∧ 1 ≤ (Utf8.decode ⟨⟨s⟩⟩ i).2 := by
  have hg : (ByteArray.mk ⟨s⟩).get! i = s[i] := by
    show (Array.mk s)[i]! = _
    simp [h]
  have hb2 := s[i].toNat_lt
  unfold Utf8.decode
  simp only [Nat.add_zero, hg]
  rw [if_neg hb]
  have hre : Utf8.runeError = 65533 := rfl
  generalize ((ByteArray.mk ⟨s⟩).get! (i + 1)).toNat = a1
  generalize ((ByteArray.mk ⟨s⟩).get! (i + 2)).toNat = a2
  generalize ((ByteArray.mk ⟨s⟩).get! (i + 3)).toNat = a3
  generalize s[i].toNat = b0 at *
  have m1 := Nat.mod_lt a1 (show 0 < 64 by decide)
  have m2 := Nat.mod_lt a2 (show 0 < 64 by decide)
  have m3 := Nat.mod_lt a3 (show 0 < 64 by decide)
  repeat' split
  all_goals (try simp only [hre])
  all_goals (try simp only [Bool.and_eq_true, decide_eq_true_eq, ge_iff_le] at *)
  all_goals omega
theorem sindexByte_calls (s : List UInt8) (c : UInt8) : APure Tryz.prog 354 [.str s, .int .u8 c.toNat] (.int .i64 (Lib.indexByte s c)) := by
  intro σ
  refine acalls_fn Tryz.func354 rfl (enters_fn Tryz.func354 (by decide) rfl) ?_
  simp [Tryz.ntmps354]
  refine (indexByte_calls s c).use ?_
  simp
theorem indexByte_none {s : List UInt8} {c : UInt8} (h : c ∉ s) : Lib.indexByte s c = -1 := by
  induction s with
  | nil => rfl
  | cons b t ih =>
    simp only [List.mem_cons, not_or] at h
    unfold Lib.indexByte
    rw [if_neg (by simpa using Ne.symm h.1), ih h.2]
    rfl
abbrev digs : List UInt8 := [48, 49, 50, 51, 52, 53, 54, 55, 56, 57]
theorem validRune_calls (c : Int) (h0 : 0 ≤ c) : ∃ b : Bool, APure Tryz.prog 355 [.int .i32 c] (.bool b) := by
  by_cases h : c < 55296
  · refine ⟨true, fun σ => ?_⟩
    refine acalls_fn Tryz.func355 rfl (enters_fn Tryz.func355 (by decide) rfl) ?_
    simp [Tryz.ntmps355, h0, h]
  · by_cases h2 : 57343 < c
    · by_cases h3 : c ≤ 1114111
      · refine ⟨true, fun σ => ?_⟩
        refine acalls_fn Tryz.func355 rfl (enters_fn Tryz.func355 (by decide) rfl) ?_
        simp [Tryz.ntmps355, h0, h, h2, h3]
      · refine ⟨false, fun σ => ?_⟩
        refine acalls_fn Tryz.func355 rfl (enters_fn Tryz.func355 (by decide) rfl) ?_
        simp [Tryz.ntmps355, h0, h, h2, h3]
    · refine ⟨false, fun σ => ?_⟩
      refine acalls_fn Tryz.func355 rfl (enters_fn Tryz.func355 (by decide) rfl) ?_
      simp [Tryz.ntmps355, h0, h, h2]
theorem digs_low : ∀ i, (h : i < digs.length) → (digs[i]'h).toNat < 128 := by decide
set_option maxRecDepth 8000 in
set_option maxHeartbeats 1000000 in
theorem indexRune_calls (c : Int) (h0 : 0 ≤ c) (h1 : c < 2 ^ 21) : APure Tryz.prog 344 [.str digs, .int .i32 c] (.int .i64 (if c < 128 then Lib.indexByte digs (UInt8.ofNat c.toNat) else -1)) := by
  refine APure.of fun σ => ?_
  refine acalls_fn Tryz.func344 rfl (enters_fn Tryz.func344 (by decide) rfl) ?_
  by_cases hc : c < 128
  · have hb : ((UInt8.ofNat c.toNat).toNat : Int) = c := by simp; omega
    have hw := w8 h0 (by omega : c ≤ 255)
    have hs := sindexByte_calls digs (UInt8.ofNat c.toNat)
    rw [hb] at hs
    simp [Tryz.ntmps344, h0, hc, hw]
    refine hs.use ?_
    simp
  · rw [if_neg hc]
    by_cases he : c = 65533
    · subst he
      simp [Tryz.ntmps344]
      refine ACode_loopT (fun env σ' => ∃ (u : List AV) (pos : Nat), env = { t := u } ∧ u.length = 187 ∧ tg u 175 = .ptr σ.length 0 ∧ σ' = σ ++ [.iter digs pos] ∧ pos ≤ 10)
        (fun _ σ' => match σ'[σ.length]? with | some (.iter _ pos) => 10 - pos | _ => 0) ⟨_, 0, rfl, by simp, by simp, rfl, by omega⟩ ?_
      rintro env σ' ⟨u, pos, rfl, hl, g, rfl, hp⟩
      rcases Nat.lt_or_ge pos 10 with hlt | hge
      · have hd := decode_low digs pos hlt (digs_low pos hlt)
        have hne : ¬ (((digs[pos]'hlt).toNat : Nat) : Int) = 65533 := by have := digs_low pos hlt; omega
        simp [hl, g, hlt, hd, hne]
        omega
      · have hge' : ¬ pos < 10 := by omega
        simp [hl, g, hge']
    · simp [Tryz.ntmps344, h0, hc, he]
      obtain ⟨b, hb⟩ := validRune_calls c h0
      refine hb.use ?_
      cases b with
      | false => simp
      | true =>
        obtain ⟨pre, x, hx, hp1, hp2, hx2⟩ := encode_last c (by omega)
        have hwp := w64 (n := (pre.length : Int)) (by omega) (by omega)
        simp
        refine ACode_scopeT ?_
        simp [hx, hwp]
        refine ACode_loopT (fun env σ' => ∃ (u : List AV), env = { t := u } ∧ u.length = 187 ∧ tg u 0 = .str digs ∧ tg u 7 = .str (pre ++ [x]) ∧ tg u 8 = .int .i64 pre.length ∧ tg u 9 = .int .i64 pre.length ∧ σ' = σ)
          (fun _ _ => 0) ⟨_, rfl, by simp, by simp, by simp, by simp, by simp, rfl⟩ ?_
        rintro env σ' ⟨u, rfl, hl, g0, g7, g8, g9, rfl⟩
        have hnd : ∀ l : List UInt8, (∀ y ∈ l, y.toNat < 128) → Lib.indexByte l x = -1 := fun l hl => indexByte_none fun hm => by have := hl x hm; omega
        obtain ⟨y, hy, hy2, hrest⟩ : ∃ y, digs[pre.length]? = some y ∧ y.toNat < 128 ∧ Lib.indexByte (digs.drop (pre.length + 1)) x = -1 := by
          have : pre.length < 10 := by omega
          refine ⟨digs[pre.length]'this, List.getElem?_eq_getElem this, digs_low _ this, hnd _ fun y hy => ?_⟩
          obtain ⟨i, hi, rfl⟩ := List.mem_iff_getElem.1 (List.mem_of_mem_drop hy)
          exact digs_low i hi
        have hlt : (pre.length : Int) < 10 := by omega
        have hlt2 : pre.length < 10 := by omega
        have hne : ¬ ((y.toNat : Nat) : Int) = (x.toNat : Int) := by omega
        have hw1 := w64 (n := (pre.length : Int) + 1) (by omega) (by omega)
        have h9 : (0 : Int) ≤ (pre.length : Int) + 1 := by omega
        have h10 : pre.length + 1 ≤ 10 := by omega
        have hxa : (pre ++ [x])[pre.length]? = some x := by simp
        generalize hn : pre.length = n at *
        have hcall := sindexByte_calls (digs.drop (n + 1)) x
        rw [hrest] at hcall
        generalize hdg : digs = D at *
        have hDl : D.length = 10 := by rw [← hdg]; rfl
        have hD10 : ((D.length : Nat) : Int) = 10 := by rw [hDl]; rfl
        have htk : List.drop (n + 1) (List.take D.length D) = D.drop (n + 1) := by rw [List.take_length]
        have htk2 : List.drop (n + 1) (List.take 10 D) = D.drop (n + 1) := by rw [← hDl, List.take_length]
        simp [hl, g0, g7, g8, g9, hDl, hlt]
        refine ACode_scopeT ?_
        simp
        refine ACode_draw0 mixed (by kernel_rfl) ?_
        simp [hl, g0, g7, g8, g9, hDl, hlt, hy, hxa, hne]
        refine ACode_draw0 mixed (by kernel_rfl) ?_
        simp [hl, g0, g7, g8, g9, hDl, hw1, h9, h10, hxa, htk, htk2]
        refine Ou_use hcall ?_
        simp [hl, g0, g7, g8, g9]
/-- which characters stand in words -/
def mayB (c : Int) : Bool := (decide (97 ≤ c) && decide (c ≤ 122)) || (decide (48 ≤ c) && decide (c ≤ 57))
theorem digs_index : ∀ n : Nat, n < 128 → (decide (0 ≤ Lib.indexByte digs (UInt8.ofNat n)) = (decide (48 ≤ n) && decide (n ≤ 57))) := by decide +kernel
theorem containsRune_calls (c : Int) (h0 : 0 ≤ c) (h1 : c < 2 ^ 21) : APure Tryz.prog 313 [.str digs, .int .i32 c] (.bool (decide (48 ≤ c) && decide (c ≤ 57))) := by
  intro σ
  refine acalls_fn Tryz.func313 rfl (enters_fn Tryz.func313 (by decide) rfl) ?_
  simp [Tryz.ntmps313]
  refine (indexRune_calls c h0 h1).use ?_
  by_cases hc : c < 128
  · obtain ⟨n, rfl⟩ : ∃ n : Nat, c = n := ⟨c.toNat, by omega⟩
    have h := digs_index n (by omega)
    rw [if_pos hc, Int.toNat_natCast]
    generalize Lib.indexByte digs (UInt8.ofNat n) = q at *
    have e : (decide (48 ≤ (n : Int)) && decide ((n : Int) ≤ 57)) = decide (0 ≤ q) := by
      rw [h, Bool.eq_iff_iff]; simp; omega
    rw [e]
    simp
  · rw [if_neg hc]
    have e : (decide (48 ≤ c) && decide (c ≤ 57)) = false := by rw [Bool.eq_false_iff]; simp; omega
    rw [e]
    simp
theorem may_calls (c : Int) (h0 : 0 ≤ c) (h1 : c < 2 ^ 21) : APure Tryz.prog 266 [.agg [.str digs], .int .i32 c] (.bool (mayB c)) := by
  refine APure.of fun σ => ?_
  refine acalls_fn Tryz.func266 rfl (enters_fn Tryz.func266 (by decide) rfl) ?_
  have hw := w64 (n := c) (by omega) (by omega)
  simp [Tryz.ntmps266, hw]
  refine (in_calls _ _ _).use ?_
  unfold mayB
  by_cases h : 97 ≤ c ∧ c ≤ 122
  · have e : (decide (97 ≤ c) && decide (c ≤ 122)) = true := by simpa using h
    rw [e]
    simp
  · have e : (decide (97 ≤ c) && decide (c ≤ 122)) = false := by rw [Bool.eq_false_iff]; simpa using h
    rw [e]
    simp
    refine (containsRune_calls c h0 h1).use ?_
    simp
theorem mayB_byte (b : UInt8) : mayB (b.toNat : Int) = Oyez.isWordByte b := by
  have hlow : Oyez.isLow b = true ↔ 97 ≤ b.toNat ∧ b.toNat ≤ 122 := by simp [Oyez.isLow, UInt8.le_iff_toNat_le]
  have hdig := isDig_iff b
  rw [Bool.eq_iff_iff]
  unfold mayB Oyez.isWordByte
  rw [Bool.or_eq_true, Bool.or_eq_true, hlow, hdig]
  simp
  omega
theorem notWord {w : List UInt8} {b : UInt8} (hm : b ∈ w) (h : Oyez.isWordByte b = false) : Oyez.word w = false := by
  have : w.all Oyez.isWordByte = false := by
    rw [Bool.eq_false_iff]; intro e
    rw [List.all_eq_true.1 e b hm] at h
    cases h
  simp [Oyez.word, this]
set_option maxRecDepth 4000 in
theorem iword_calls (w : List UInt8) (hw : w.length < 2 ^ 50) : APure Tryz.prog 201 [.str w] (.bool (Oyez.word w)) := by
  refine APure.of fun σ => ?_
  refine acalls_fn Tryz.func201 rfl (enters_fn Tryz.func201 (by decide) rfl) ?_
  simp [Tryz.ntmps201]
  refine ACode_loopT (fun env σ' => ∃ (u : List AV) (pos : Nat), env = { t := u } ∧ u.length = 20 ∧ tg u 0 = .str w ∧ tg u 3 = .fn (.func 266) [.agg [.str digs]] [] ∧ tg u 9 = .ptr σ.length 0 ∧ σ' = σ ++ [.iter w pos] ∧ pos ≤ w.length ∧ ∀ x, x ∈ w.take pos → Oyez.isWordByte x = true)
    (fun _ σ' => match σ'[σ.length]? with | some (.iter _ pos) => w.length - pos | _ => 0) ⟨_, 0, rfl, by simp, by simp, by simp, by simp, rfl, by omega, fun x hx => by simp at hx⟩ ?_
  rintro env σ' ⟨u, pos, rfl, hl, g0, g3, g9, rfl, hp, hd⟩
  rcases Nat.lt_or_ge pos w.length with hlt | hge
  · by_cases hb : w[pos].toNat < 128
    · have hdc := decode_low w pos hlt hb
      simp [hl, g0, g3, g9, hlt, hdc]
      refine (may_calls _ (by omega) (by omega)).use ?_
      cases hm : mayB (w[pos].toNat : Int) with
      | true =>
        simp [hl, g0, g3, g9]
        have htake : w.take (pos + 1) = w.take pos ++ [w[pos]] := by rw [List.take_add_one, List.getElem?_eq_getElem hlt]; rfl
        refine ⟨⟨hlt, fun x hx => ?_⟩, by omega⟩
        rw [htake] at hx
        rcases List.mem_append.1 hx with h | h
        · exact hd x h
        · simp at h; subst h; rw [← mayB_byte]; exact hm
      | false =>
        simp [hl, g0, g3, g9]
        exact notWord (List.getElem_mem hlt) (by rw [← mayB_byte]; exact hm)
    · obtain ⟨d1, d2, d3⟩ := decode_high w pos hlt hb
      simp [hl, g0, g3, g9, hlt]
      refine (may_calls _ (by omega) (by omega)).use ?_
      have hm : mayB ((Utf8.decode ⟨⟨w⟩⟩ pos).1 : Int) = false := by
        unfold mayB; rw [Bool.eq_false_iff]; simp; omega
      rw [hm]
      simp [hl, g0, g3, g9]
      refine notWord (List.getElem_mem hlt) ?_
      rw [← mayB_byte]
      unfold mayB; rw [Bool.eq_false_iff]; simp; omega
  · have hge' : ¬ pos < w.length := by omega
    simp [hl, g0, g3, g9, hge']
    refine (in_calls _ _ _).use ?_
    simp [hl, g0, g3, g9]
    rw [List.take_of_length_le hge] at hd
    have hall : w.all Oyez.isWordByte = true := List.all_eq_true.2 hd
    rw [Oyez.word, hall, Bool.true_and, Bool.eq_iff_iff]
    simp
    omega
end Ab

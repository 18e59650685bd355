/-
  THE LIBRARY's FUNCTIONS, as contracts on abstract values: the kit's own contracts carried over; bytes of texts.
-/
import Derived.Lib.Bytealg
import Derived.Test.YtdifgaapdnbliaaGreatDoorP13
import Derived.Test.YtdifgaapdnbliaaGreatDoorP15
set_option linter.unusedSimpArgs false
set_option linter.unusedVariables false
set_option linter.unusedSectionVars false
namespace Ab
open Go Go.RowKit Go.Proofs
attribute [local irreducible] aws awp aw1 Og Om Oc Oa Ogd Ov Ot awd aw1d QThen QBlock QFn QFnM ACode AYield
/-- A CONTRACT OF THE KIT's, of a call behind which new blocks lie and nothing else is changed. -/
theorem APure.kit {f : FuncId} {args : List AV} {v : AV} (hen : Enters Tryz.prog f)
    (h : ∀ (C : Ctx) (cargs : List Value) (σ : Heap), Inv C σ → VRs C args cargs → Calls Tryz.prog f cargs.toArray C.w fun e w' => ∃ c, e = .returned c ∧ VR C v c ∧ Below C.w.heap.size C.w w') : APure Tryz.prog f args v := by
  intro σ
  refine .inl ⟨hen, fun C cargs hI hv => callsIn_wide.2 ((h C cargs σ hI hv).mono ?_)⟩
  rintro e w' ⟨c, rfl, hc, hb⟩
  have hE := Ext.below hI.plt hb (fun h => False.elim h)
  exact ⟨c, C.at_ w', v, σ, rfl, rfl, hE, hI.below hb, hc.ext hE, rfl, rfl⟩
/-- a function that the model answers by itself, without touching the world -/
theorem APure.ext {f : FuncId} {args : List AV} {v : AV} (h : ∀ (C : Ctx) (cargs : List Value), VRs C args cargs → ∃ c, (callFunc f cargs.toArray).run Tryz.prog C.w = .ok (.value c) C.w ∧ VR C v c) : APure Tryz.prog f args v := by
  intro σ
  refine .inr fun C cargs hI hv => ?_
  obtain ⟨c, h1, h2⟩ := h C cargs hv
  exact ⟨c, C, v, σ, h1, Ext.refl C, hI, h2, rfl, rfl⟩
theorem goodW {C : Ctx} {σ : Heap} (hI : Inv C σ) : GoodW C.w := hI.glob.below hI.base
theorem below_grow (w : World) (n : Nat) (os : Array Obj) : Below w.heap.size w (Go.Sort.grow (w.drewN n) os) := by
  refine ⟨rfl, rfl, rfl, ?_, fun k hk => ?_⟩
  · show w.heap.size ≤ (w.heap ++ os).size
    simp
  · show (w.heap ++ os)[k]? = w.heap[k]?
    rw [Array.getElem?_append_left hk]

/-! ### one byte in a text -/
theorem indexByteString_calls (s : List UInt8) (c : UInt8) : APure Tryz.prog 242 [.str s, .int .u8 c.toNat] (.int .i64 (Lib.indexByte s c)) := by
  refine APure.ext fun C cargs hv => ?_
  obtain ⟨x, r, rfl, h1, h2⟩ := hv.inv
  obtain ⟨y, r, rfl, h4, h3⟩ := h2.inv
  obtain rfl := h3.of_nil
  rw [h1.str_inv, h4.int_inv]
  refine ⟨.int .i64 (Lib.indexByte s c), ?_, .int _ _⟩
  rw [run_callFunc_extern Tryz.func242 (by kernel_rfl) (by kernel_rfl) (by kernel_rfl) (e := Extern.BytealgIndexByte.indexByte) (by kernel_rfl)]
  have := Lib.run_indexByteString (P := Tryz.prog) ⟨⟨s⟩⟩ (c.toNat : Int) C.w
  simp only [Int.toNat_natCast] at this
  rw [this]
  simp [Result.andThen]
/-- a text up to a byte, whether it is there, and what follows -/
def cutB (c : UInt8) : List UInt8 → List UInt8 × List UInt8 × Bool
  | [] => ([], [], false)
  | b :: t => if b = c then ([], t, true) else (b :: (cutB c t).1, (cutB c t).2.1, (cutB c t).2.2)
theorem cutB_index (c : UInt8) (s : List UInt8) : if (cutB c s).2.2 = true then
      ∃ n : Nat, Lib.indexByte s c = n ∧ n < s.length ∧ (cutB c s).1 = s.take n ∧ (cutB c s).2.1 = s.drop (n + 1)
    else Lib.indexByte s c = -1 ∧ (cutB c s).1 = s ∧ (cutB c s).2.1 = [] := by
  induction s with
  | nil => simp [cutB, Lib.indexByte]
  | cons b t ih =>
    unfold cutB Lib.indexByte
    by_cases h : b = c
    · simp [h]
      exact ⟨0, rfl, by omega, rfl, rfl⟩
    · have hb : (b == c) = false := by simpa using h
      simp only [if_neg h, hb, Bool.false_eq_true, if_false]
      cases hf : (cutB c t).2.2 with
      | true =>
        rw [hf] at ih
        simp only [if_true] at ih ⊢
        obtain ⟨n, h1, h2, h3, h4⟩ := ih
        have h5 : (Lib.indexByte t c == -1) = false := by rw [h1]; simp
        refine ⟨n + 1, by rw [h5, h1]; simp, by simpa using h2, by simp [h3], by simpa using h4⟩
      | false =>
        rw [hf] at ih
        simp only [Bool.false_eq_true, if_false] at ih ⊢
        obtain ⟨h1, h2, h3⟩ := ih
        simp [h1, h2, h3]
theorem indexByte_calls (s : List UInt8) (c : UInt8) : APure Tryz.prog 216 [.str s, .int .u8 c.toNat] (.int .i64 (Lib.indexByte s c)) := by
  intro σ
  refine acalls_fn Tryz.func216 rfl (enters_fn Tryz.func216 (by decide) rfl) ?_
  simp [Tryz.ntmps216]
  refine (indexByteString_calls s c).use ?_
  simp
set_option maxRecDepth 4000 in
theorem index1_calls (s : List UInt8) (c : UInt8) : APure Tryz.prog 186 [.str s, .str [c]] (.int .i64 (Lib.indexByte s c)) := by
  intro σ
  refine acalls_fn Tryz.func186 rfl (enters_fn Tryz.func186 (by decide) rfl) ?_
  by_cases h : [c] = s
  · subst h
    simp [Tryz.ntmps186, Lib.indexByte]
  · simp [Tryz.ntmps186, h]
    refine (indexByte_calls s c).use ?_
    simp
set_option maxRecDepth 4000 in
theorem cut_calls (s : List UInt8) (c : UInt8) (hs : s.length ≤ 2 ^ 50) : APure Tryz.prog 81 [.str s, .str [c]] (.tup [.str (cutB c s).1, .str (cutB c s).2.1, .bool (cutB c s).2.2]) := by
  have h1 : APure Tryz.prog 144 [.str s, .str [c]] (.tup [.str (cutB c s).1, .str (cutB c s).2.1, .bool (cutB c s).2.2]) := by
    intro σ
    refine acalls_fn Tryz.func144 rfl (enters_fn Tryz.func144 (by decide) rfl) ?_
    have hx := cutB_index c s
    simp [Tryz.ntmps144]
    refine (index1_calls s c).use ?_
    cases hf : (cutB c s).2.2 with
    | true =>
      rw [hf] at hx
      simp only [if_true] at hx
      obtain ⟨n, h1, h2, h3, h4⟩ := hx
      rw [h1, h3, h4]
      have h0 : (0 : Int) ≤ (n : Int) := by omega
      simp [h0]
      refine ACode_draw0 mixed (by kernel_rfl) ?_
      have hw := w64 (n := (n : Int) + 1) (by omega) (by omega)
      have h5 : (0 : Int) ≤ (n : Int) + 1 := by omega
      have h6 : n ≤ s.length := by omega
      have h7 : n + 1 ≤ s.length := by omega
      simp [hw, h0, h5, h6, h7]
    | false =>
      rw [hf] at hx
      simp only [Bool.false_eq_true, if_false] at hx
      obtain ⟨h1, h2, h3⟩ := hx
      rw [h1, h2, h3]
      simp
  intro σ
  refine acalls_fn Tryz.func81 rfl (enters_fn Tryz.func81 (by decide) rfl) ?_
  simp [Tryz.ntmps81]
  refine h1.use ?_
  simp

theorem cutB_line (s : List UInt8) : Oyez.cutLine s = ((cutB 10 s).1, (cutB 10 s).2.2, (cutB 10 s).2.1) := by
  induction s with
  | nil => rfl
  | cons b t ih =>
    unfold Oyez.cutLine cutB
    by_cases h : b = 10
    · simp [h]
    · simp [h, ih]
theorem cutB_words (s : List UInt8) : Oyez.words s = if (cutB 32 s).2.2 then (cutB 32 s).1 :: Oyez.words (cutB 32 s).2.1 else [(cutB 32 s).1] := by
  induction s with
  | nil => rfl
  | cons b t ih =>
    by_cases h : b = 32
    · subst h; rw [words_blank]; simp [cutB]
    · have e : cutB 32 (b :: t) = (b :: (cutB 32 t).1, (cutB 32 t).2.1, (cutB 32 t).2.2) := by rw [cutB, if_neg h]
      rw [words_other b t h, ih, e]
      cases (cutB 32 t).2.2 <;> simp [joinW]
theorem cutB_len (c : UInt8) (s : List UInt8) : (cutB c s).2.1.length ≤ s.length ∧ (cutB c s).1.length ≤ s.length ∧ ((cutB c s).2.2 = true → (cutB c s).2.1.length < s.length) := by
  induction s with
  | nil => simp [cutB]
  | cons b t ih =>
    unfold cutB
    split
    · simp
    · refine ⟨by simp; omega, by simp; omega, fun h => ?_⟩
      have := ih.2.2 h
      simp; omega

/-! ### ends -/
theorem hasSuffix1_calls (s : List UInt8) (c : UInt8) (hs : s.length ≤ 2 ^ 50) : APure Tryz.prog 192 [.str s, .str [c]] (.bool (decide (s.getLast? = some c))) := by
  intro σ
  refine acalls_fn Tryz.func192 rfl (enters_fn Tryz.func192 (by decide) rfl) ?_
  obtain rfl | ⟨t, b, rfl⟩ : s = [] ∨ ∃ t b, s = t ++ [b] := by
    rcases List.eq_nil_or_concat s with h | ⟨t, b, h⟩
    · exact .inl h
    · exact .inr ⟨t, b, by simpa using h⟩
  · simp [Tryz.ntmps192]
  · simp at hs
    have h1 : (1 : Int) ≤ (t.length : Int) + 1 := by omega
    have hw := w64 (n := (t.length : Int)) (by omega) (by omega)
    have h2 : (0 : Int) ≤ (t.length : Int) := by omega
    have h3 : List.drop t.length (List.take (t.length + 1) (t ++ [b])) = [b] := by
      rw [List.take_of_length_le (by simp), List.drop_left]
    by_cases h : b = c
    · subst h
      simp [Tryz.ntmps192, h1, hw, h2, h3]
    · simp [Tryz.ntmps192, h1, hw, h2, h3, h]
theorem hasSuffix_calls (s : List UInt8) (c : UInt8) (hs : s.length ≤ 2 ^ 50) : APure Tryz.prog 158 [.str s, .str [c]] (.bool (decide (s.getLast? = some c))) := by
  intro σ
  refine acalls_fn Tryz.func158 rfl (enters_fn Tryz.func158 (by decide) rfl) ?_
  simp [Tryz.ntmps158]
  refine (hasSuffix1_calls s c hs).use ?_
  simp
theorem cutSuffix_calls (s : List UInt8) (c : UInt8) (hs : s.length ≤ 2 ^ 50) : APure Tryz.prog 161 [.str s, .str [c]] (.tup [.str (if s.getLast? = some c then s.dropLast else s), .bool (decide (s.getLast? = some c))]) := by
  have h1 : APure Tryz.prog 194 [.str s, .str [c]] (.tup [.str (if s.getLast? = some c then s.dropLast else s), .bool (decide (s.getLast? = some c))]) := by
    intro σ
    refine acalls_fn Tryz.func194 rfl (enters_fn Tryz.func194 (by decide) rfl) ?_
    simp [Tryz.ntmps194]
    refine (hasSuffix1_calls s c hs).use ?_
    by_cases h : s.getLast? = some c
    · obtain ⟨t, rfl⟩ := List.getLast?_eq_some_iff.1 h
      simp at hs
      have hw := w64 (n := (t.length : Int)) (by omega) (by omega)
      have h2 : (0 : Int) ≤ (t.length : Int) := by omega
      simp [hw, h2]
    · simp [h]
  intro σ
  refine acalls_fn Tryz.func161 rfl (enters_fn Tryz.func161 (by decide) rfl) ?_
  simp [Tryz.ntmps161]
  refine h1.use ?_
  simp

/-! ### numbers in decimal -/
theorem decDigits_eq (n : Nat) : Lib.decDigits n = Oyez.digitsN n := by
  induction n using Nat.strongRecOn with
  | _ n ih =>
    rw [Lib.decDigits]
    rcases Nat.lt_or_ge n 10 with h | h
    · rw [dif_pos h, Oyez.digitsN_lt h]
    · rw [dif_neg (by omega), Oyez.digitsN_ge h, ih (n / 10) (by omega)]
theorem itoa_calls (n : Int) (h0 : -9223372036854775808 ≤ n) (h1 : n ≤ 9223372036854775807) : APure Tryz.prog 160 [.int .i64 n] (.str (Lib.itoa n)) := by
  refine APure.kit (enters_fn Tryz.func160 (by decide) rfl) fun C cargs σ hI hv => ?_
  obtain ⟨x, r, rfl, h2, h3⟩ := hv.inv
  obtain rfl := h3.of_nil
  rw [h2.int_inv]
  refine (Tryz.strconv_Itoa n h0 h1 C.w (goodW hI).pow).mono ?_
  rintro e w' ⟨rfl, k, os, rfl⟩
  exact ⟨_, rfl, by simpa using VR.str (C := C) (Lib.itoa n), below_grow _ _ _⟩
theorem itoa_nat (n : Nat) : Lib.itoa n = Oyez.digitsN n := by
  unfold Lib.itoa
  rw [if_neg (by omega), Int.toNat_natCast, decDigits_eq]
end Ab

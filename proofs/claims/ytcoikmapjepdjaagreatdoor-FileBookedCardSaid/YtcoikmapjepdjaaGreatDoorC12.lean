/-
  THE LIBRARY's FUNCTIONS, as contracts on abstract values: the kit's own contracts carried over; bytes of texts.
-/
import Derived.Lib.Bytealg
import Derived.Test.YtcoikmapjepdjaaGreatDoorC07
import Derived.Test.YtcoikmapjepdjaaGreatDoorC10
import Derived.Test.YtcoikmapjepdjaaGreatDoorC11
set_option linter.unusedSimpArgs false
set_option linter.unusedVariables false
set_option linter.unusedSectionVars false
namespace Ab
open Go Go.Proofs
instance loose : Mode := ⟨False⟩
attribute [local irreducible] aws awp aw1 Og Om Oc Oa QThen QBlock QFn ACode ACalls AYield
theorem digitsN_len (n : Nat) : (Oyez.digitsN n).length ≤ n + 1 := by
  induction n using Nat.strongRecOn with
  | _ n ih =>
    rcases Nat.lt_or_ge n 10 with h | h
    · rw [Oyez.digitsN_lt h]; simp
    · rw [Oyez.digitsN_ge h, List.length_append]
      have := ih (n / 10) (by omega)
      simp only [List.length_cons, List.length_nil]
      omega
theorem u8_eq (c : UInt8) (n : Nat) (h : n < 256) : c.toNat = n ↔ c = UInt8.ofNat n := by
  constructor
  · intro e; rw [← e]; simp
  · intro e; rw [e]; simp; omega
theorem isDig_iff (c : UInt8) : Oyez.isDig c = true ↔ 48 ≤ c.toNat ∧ c.toNat ≤ 57 := by
  simp [Oyez.isDig, UInt8.le_iff_toNat_le]
end Ab
namespace Ab
open Go Go.Proofs
attribute [local irreducible] aws awp aw1 Og Om Oc Oa Ogd Ov Ot awd aw1d QThen QBlock QFn QFnM ACode ACalls AYield
theorem mixed : Tryz.prog.follows .mixedOrders = true := by kernel_rfl
/-! ### lines, records -/
def strs (ws : List (List UInt8)) : List AV := ws.map AV.str
def wordsAV (ws : List (List UInt8)) : AV := .pl 1 (strs ws)
/-- the bytes of a line, up to some words -/
def tot1 (ws : List (List UInt8)) : Nat := (ws.map fun w => w.length + 1).sum
theorem flat_len32 (ws : List (List UInt8)) : (ws.flatMap fun w => (32 : UInt8) :: w).length = tot1 ws := by
  induction ws with
  | nil => rfl
  | cons w t ih => simp [tot1] at *; omega
theorem tot1_mem {ws : List (List UInt8)} {w : List UInt8} (h : w ∈ ws) : w.length + 1 ≤ tot1 ws := by
  induction ws with
  | nil => simp at h
  | cons x t ih =>
    rcases List.mem_cons.1 h with rfl | h
    · simp [tot1]
    · have := ih h; simp [tot1] at *; omega
theorem name_len (k : Int) : (Oyez.name k).length ≤ 6 := by
  unfold Oyez.name
  generalize k.toNat = n
  match n with
  | 0 => decide
  | 1 => decide
  | 2 => decide
  | 3 => decide
  | _ + 4 => exact (by decide : ([112, 108, 101, 97] : List UInt8).length ≤ 6)
end Ab
namespace Ab
open Go Go.Proofs
attribute [local irreducible] aws awp aw1 Og Om Oc Oa Ogd Ov Ot awd aw1d QThen QBlock QFn QFnM ACode ACalls AYield
def recAV (r : Oyez.Rec) : AV := .agg [.int .i64 r.kind, .int .i64 r.number, wordsAV r.words]
def fileAV (f : List Oyez.Rec) : AV := .pl 3 (f.map recAV)
attribute [simp] wordsAV strs recAV fileAV
def kindInt (w : List UInt8) : Int := match Oyez.kindOf w with | some k => k | none => -1
theorem split_ne (s : List UInt8) : Oyez.words s ≠ [] := by
  unfold Oyez.words
  cases s with
  | nil => simp [Oyez.splitAt]
  | cons b t =>
    unfold Oyez.splitAt
    split
    · simp
    · split <;> simp
def joinW (w : List UInt8) : List (List UInt8) → List (List UInt8)
  | [] => [w]
  | x :: r => (w ++ x) :: r
theorem words_blank (t : List UInt8) : Oyez.words (32 :: t) = [] :: Oyez.words t := by simp [Oyez.words, Oyez.splitAt]
theorem words_other (b : UInt8) (t : List UInt8) (h : b ≠ 32) : Oyez.words (b :: t) = joinW [b] (Oyez.words t) := by
  unfold Oyez.words
  rw [Oyez.splitAt, if_neg h]
  cases hx : Oyez.splitAt 32 t with
  | nil => rfl
  | cons w r => rfl
theorem strs_len (ws : List (List UInt8)) : (strs ws).length = ws.length := by simp [strs]
theorem words_len (s : List UInt8) : (Oyez.words s).length ≤ s.length + 1 := by
  induction s with
  | nil => simp [Oyez.words, Oyez.splitAt]
  | cons b t ih =>
    by_cases h : b = 32
    · subst h; rw [words_blank]; simp; omega
    · rw [words_other b t h]
      revert ih
      cases Oyez.words t <;> simp [joinW] <;> omega
end Ab
namespace Ab
open Go Go.RowKit Go.Proofs
attribute [local irreducible] aws awp aw1 Og Om Oc Oa Ogd Ov Ot awd aw1d QThen QBlock QFn QFnM ACode AYield
/-- A CONTRACT OF THE KIT's, of a call behind which new blocks lie and nothing else is changed. -/
theorem APure.kit {f : FuncId} {args : List AV} {v : AV} (hen : Enters Tryz.prog f)
    (h : ∀ (C : Ctx) (cargs : List Value) (σ : Heap), Inv C σ → VRs C args cargs → Calls Tryz.prog f cargs.toArray C.w fun e w' => ∃ c, e = .returned c ∧ VR C v c ∧ Below C.w.heap.size C.w w') : APure Tryz.prog f args v := by
  intro σ
  refine .inl ⟨hen, fun C cargs hI hv => callsIn_wide.2 ((h C cargs σ hI hv).mono ?_)⟩
  rintro e w' ⟨c, rfl, hc, hb⟩
  have hE := Ext.below hI.plt hb (fun h => False.elim h)
  exact ⟨c, C.at_ w', v, σ, rfl, rfl, hE, hI.below hb, hc.ext hE, rfl, rfl⟩
/-- a function that the model answers by itself, without touching the world -/
theorem APure.ext {f : FuncId} {args : List AV} {v : AV} (h : ∀ (C : Ctx) (cargs : List Value), VRs C args cargs → ∃ c, (callFunc f cargs.toArray).run Tryz.prog C.w = .ok (.value c) C.w ∧ VR C v c) : APure Tryz.prog f args v := by
  intro σ
  refine .inr fun C cargs hI hv => ?_
  obtain ⟨c, h1, h2⟩ := h C cargs hv
  exact ⟨c, C, v, σ, h1, Ext.refl C, hI, h2, rfl, rfl⟩
theorem goodW {C : Ctx} {σ : Heap} (hI : Inv C σ) : GoodW C.w := hI.glob.below hI.base
theorem below_grow (w : World) (n : Nat) (os : Array Obj) : Below w.heap.size w (Go.Sort.grow (w.drewN n) os) := by
  refine ⟨rfl, rfl, rfl, ?_, fun k hk => ?_⟩
  · show w.heap.size ≤ (w.heap ++ os).size
    simp
  · show (w.heap ++ os)[k]? = w.heap[k]?
    rw [Array.getElem?_append_left hk]

/-! ### one byte in a text -/
theorem indexByteString_calls (s : List UInt8) (c : UInt8) : APure Tryz.prog 342 [.str s, .int .u8 c.toNat] (.int .i64 (Lib.indexByte s c)) := by
  refine APure.ext fun C cargs hv => ?_
  obtain ⟨x, r, rfl, h1, h2⟩ := hv.inv
  obtain ⟨y, r, rfl, h4, h3⟩ := h2.inv
  obtain rfl := h3.of_nil
  rw [h1.str_inv, h4.int_inv]
  refine ⟨.int .i64 (Lib.indexByte s c), ?_, .int _ _⟩
  rw [run_callFunc_extern Tryz.func342 (by kernel_rfl) (by kernel_rfl) (by kernel_rfl) (e := Extern.BytealgIndexByte.indexByte) (by kernel_rfl)]
  have := Lib.run_indexByteString (P := Tryz.prog) ⟨⟨s⟩⟩ (c.toNat : Int) C.w
  simp only [Int.toNat_natCast] at this
  rw [this]
  simp [Result.andThen]
/-- a text up to a byte, whether it is there, and what follows -/
def cutB (c : UInt8) : List UInt8 → List UInt8 × List UInt8 × Bool
  | [] => ([], [], false)
  | b :: t => if b = c then ([], t, true) else (b :: (cutB c t).1, (cutB c t).2.1, (cutB c t).2.2)
theorem cutB_index (c : UInt8) (s : List UInt8) : if (cutB c s).2.2 = true then
      ∃ n : Nat, Lib.indexByte s c = n ∧ n < s.length ∧ (cutB c s).1 = s.take n ∧ (cutB c s).2.1 = s.drop (n + 1)
    else Lib.indexByte s c = -1 ∧ (cutB c s).1 = s ∧ (cutB c s).2.1 = [] := by
  induction s with
  | nil => simp [cutB, Lib.indexByte]
  | cons b t ih =>
    unfold cutB Lib.indexByte
    by_cases h : b = c
    · simp [h]
      exact ⟨0, rfl, by omega, rfl, rfl⟩
    · have hb : (b == c) = false := by simpa using h
      simp only [if_neg h, hb, Bool.false_eq_true, if_false]
      cases hf : (cutB c t).2.2 with
      | true =>
        rw [hf] at ih
        simp only [if_true] at ih ⊢
        obtain ⟨n, h1, h2, h3, h4⟩ := ih
        have h5 : (Lib.indexByte t c == -1) = false := by rw [h1]; simp
        refine ⟨n + 1, by rw [h5, h1]; simp, by simpa using h2, by simp [h3], by simpa using h4⟩
      | false =>
        rw [hf] at ih
        simp only [Bool.false_eq_true, if_false] at ih ⊢
        obtain ⟨h1, h2, h3⟩ := ih
        simp [h1, h2, h3]
theorem indexByte_calls (s : List UInt8) (c : UInt8) : APure Tryz.prog 309 [.str s, .int .u8 c.toNat] (.int .i64 (Lib.indexByte s c)) := by
  intro σ
  refine acalls_fn Tryz.func309 rfl (enters_fn Tryz.func309 (by decide) rfl) ?_
  simp [Tryz.ntmps309]
  refine (indexByteString_calls s c).use ?_
  simp
set_option maxRecDepth 4000 in
theorem index1_calls (s : List UInt8) (c : UInt8) : APure Tryz.prog 265 [.str s, .str [c]] (.int .i64 (Lib.indexByte s c)) := by
  intro σ
  refine acalls_fn Tryz.func265 rfl (enters_fn Tryz.func265 (by decide) rfl) ?_
  by_cases h : [c] = s
  · subst h
    simp [Tryz.ntmps265, Lib.indexByte]
  · simp [Tryz.ntmps265, h]
    refine (indexByte_calls s c).use ?_
    simp
set_option maxRecDepth 4000 in
theorem cut_calls (s : List UInt8) (c : UInt8) (hs : s.length ≤ 2 ^ 50) : APure Tryz.prog 122 [.str s, .str [c]] (.tup [.str (cutB c s).1, .str (cutB c s).2.1, .bool (cutB c s).2.2]) := by
  have h1 : APure Tryz.prog 196 [.str s, .str [c]] (.tup [.str (cutB c s).1, .str (cutB c s).2.1, .bool (cutB c s).2.2]) := by
    intro σ
    refine acalls_fn Tryz.func196 rfl (enters_fn Tryz.func196 (by decide) rfl) ?_
    have hx := cutB_index c s
    simp [Tryz.ntmps196]
    refine (index1_calls s c).use ?_
    cases hf : (cutB c s).2.2 with
    | true =>
      rw [hf] at hx
      simp only [if_true] at hx
      obtain ⟨n, h1, h2, h3, h4⟩ := hx
      rw [h1, h3, h4]
      have h0 : (0 : Int) ≤ (n : Int) := by omega
      simp [h0]
      refine ACode_draw0 mixed (by kernel_rfl) ?_
      have hw := w64 (n := (n : Int) + 1) (by omega) (by omega)
      have h5 : (0 : Int) ≤ (n : Int) + 1 := by omega
      have h6 : n ≤ s.length := by omega
      have h7 : n + 1 ≤ s.length := by omega
      simp [hw, h0, h5, h6, h7]
    | false =>
      rw [hf] at hx
      simp only [Bool.false_eq_true, if_false] at hx
      obtain ⟨h1, h2, h3⟩ := hx
      rw [h1, h2, h3]
      simp
  intro σ
  refine acalls_fn Tryz.func122 rfl (enters_fn Tryz.func122 (by decide) rfl) ?_
  simp [Tryz.ntmps122]
  refine h1.use ?_
  simp

theorem cutB_line (s : List UInt8) : Oyez.cutLine s = ((cutB 10 s).1, (cutB 10 s).2.2, (cutB 10 s).2.1) := by
  induction s with
  | nil => rfl
  | cons b t ih =>
    unfold Oyez.cutLine cutB
    by_cases h : b = 10
    · simp [h]
    · simp [h, ih]
theorem cutB_words (s : List UInt8) : Oyez.words s = if (cutB 32 s).2.2 then (cutB 32 s).1 :: Oyez.words (cutB 32 s).2.1 else [(cutB 32 s).1] := by
  induction s with
  | nil => rfl
  | cons b t ih =>
    by_cases h : b = 32
    · subst h; rw [words_blank]; simp [cutB]
    · have e : cutB 32 (b :: t) = (b :: (cutB 32 t).1, (cutB 32 t).2.1, (cutB 32 t).2.2) := by rw [cutB, if_neg h]
      rw [words_other b t h, ih, e]
      cases (cutB 32 t).2.2 <;> simp [joinW]
theorem cutB_len (c : UInt8) (s : List UInt8) : (cutB c s).2.1.length ≤ s.length ∧ (cutB c s).1.length ≤ s.length ∧ ((cutB c s).2.2 = true → (cutB c s).2.1.length < s.length) := by
  induction s with
  | nil => simp [cutB]
  | cons b t ih =>
    unfold cutB
    split
    · simp
    · refine ⟨by simp; omega, by simp; omega, fun h => ?_⟩
      have := ih.2.2 h
      simp; omega

/-! ### ends -/
theorem hasSuffix1_calls (s : List UInt8) (c : UInt8) (hs : s.length ≤ 2 ^ 50) : APure Tryz.prog 260 [.str s, .str [c]] (.bool (decide (s.getLast? = some c))) := by
  intro σ
  refine acalls_fn Tryz.func260 rfl (enters_fn Tryz.func260 (by decide) rfl) ?_
  obtain rfl | ⟨t, b, rfl⟩ : s = [] ∨ ∃ t b, s = t ++ [b] := by
    rcases List.eq_nil_or_concat s with h | ⟨t, b, h⟩
    · exact .inl h
    · exact .inr ⟨t, b, by simpa using h⟩
  · simp [Tryz.ntmps260]
  · simp at hs
    have h1 : (1 : Int) ≤ (t.length : Int) + 1 := by omega
    have hw := w64 (n := (t.length : Int)) (by omega) (by omega)
    have h2 : (0 : Int) ≤ (t.length : Int) := by omega
    have h3 : List.drop t.length (List.take (t.length + 1) (t ++ [b])) = [b] := by
      rw [List.take_of_length_le (by simp), List.drop_left]
    by_cases h : b = c
    · subst h
      simp [Tryz.ntmps260, h1, hw, h2, h3]
    · simp [Tryz.ntmps260, h1, hw, h2, h3, h]
theorem hasSuffix_calls (s : List UInt8) (c : UInt8) (hs : s.length ≤ 2 ^ 50) : APure Tryz.prog 191 [.str s, .str [c]] (.bool (decide (s.getLast? = some c))) := by
  intro σ
  refine acalls_fn Tryz.func191 rfl (enters_fn Tryz.func191 (by decide) rfl) ?_
  simp [Tryz.ntmps191]
  refine (hasSuffix1_calls s c hs).use ?_
  simp
theorem cutSuffix_calls (s : List UInt8) (c : UInt8) (hs : s.length ≤ 2 ^ 50) : APure Tryz.prog 192 [.str s, .str [c]] (.tup [.str (if s.getLast? = some c then s.dropLast else s), .bool (decide (s.getLast? = some c))]) := by
  have h1 : APure Tryz.prog 261 [.str s, .str [c]] (.tup [.str (if s.getLast? = some c then s.dropLast else s), .bool (decide (s.getLast? = some c))]) := by
    intro σ
    refine acalls_fn Tryz.func261 rfl (enters_fn Tryz.func261 (by decide) rfl) ?_
    simp [Tryz.ntmps261]
    refine (hasSuffix1_calls s c hs).use ?_
    by_cases h : s.getLast? = some c
    · obtain ⟨t, rfl⟩ := List.getLast?_eq_some_iff.1 h
      simp at hs
      have hw := w64 (n := (t.length : Int)) (by omega) (by omega)
      have h2 : (0 : Int) ≤ (t.length : Int) := by omega
      simp [hw, h2]
    · simp [h]
  intro σ
  refine acalls_fn Tryz.func192 rfl (enters_fn Tryz.func192 (by decide) rfl) ?_
  simp [Tryz.ntmps192]
  refine h1.use ?_
  simp

/-! ### numbers in decimal -/
theorem decDigits_eq (n : Nat) : Lib.decDigits n = Oyez.digitsN n := by
  induction n using Nat.strongRecOn with
  | _ n ih =>
    rw [Lib.decDigits]
    rcases Nat.lt_or_ge n 10 with h | h
    · rw [dif_pos h, Oyez.digitsN_lt h]
    · rw [dif_neg (by omega), Oyez.digitsN_ge h, ih (n / 10) (by omega)]
theorem itoa_calls (n : Int) (h0 : -9223372036854775808 ≤ n) (h1 : n ≤ 9223372036854775807) : APure Tryz.prog 38 [.int .i64 n] (.str (Lib.itoa n)) := by
  refine APure.kit (enters_fn Tryz.func38 (by decide) rfl) fun C cargs σ hI hv => ?_
  obtain ⟨x, r, rfl, h2, h3⟩ := hv.inv
  obtain rfl := h3.of_nil
  rw [h2.int_inv]
  refine (Tryz.strconv_Itoa n h0 h1 C.w (goodW hI).pow).mono ?_
  rintro e w' ⟨rfl, k, os, rfl⟩
  exact ⟨_, rfl, by simpa using VR.str (C := C) (Lib.itoa n), below_grow _ _ _⟩
theorem itoa_nat (n : Nat) : Lib.itoa n = Oyez.digitsN n := by
  unfold Lib.itoa
  rw [if_neg (by omega), Int.toNat_natCast, decDigits_eq]
end Ab
namespace Ab
open Go Go.Proofs
attribute [local irreducible] aws awp aw1 Og Om Oc Oa Ogd Ov Ot awd aw1d QThen QBlock QFn QFnM ACode ACalls AYield
def Small (f : List Oyez.Rec) : Prop := ∀ r ∈ f, tot1 r.words ≤ 2 ^ 49 ∧ r.words.length ≤ 2 ^ 49
/-- the place ahead of number i -/
def prevOf (f : List Oyez.Rec) (i : Nat) : Option Oyez.Place := if i = 0 then none else (f[i - 1]?).map Oyez.Rec.place
end Ab
namespace Ab
open Go Go.Proofs
attribute [local irreducible] aws awp aw1 Og Om Oc Oa Ogd Ov Ot awd aw1d QThen QBlock QFn QFnM ACode ACalls AYield
/-- what reading a line gives: the record; the word and the error -/
def readAV (x : Except (Nat × Int) Oyez.Rec) : AV := match x with
  | .ok r => .tup [recAV r, .int .i64 0, .int .i64 0]
  | .error (w, e) => .tup [recAV ⟨0, 0, []⟩, .int .i64 w, .int .i64 e]
theorem words_mem_len {s w : List UInt8} (h : w ∈ Oyez.words s) : w.length ≤ s.length := by
  induction s generalizing w with
  | nil => simp [Oyez.words, Oyez.splitAt] at h; subst h; simp
  | cons b t ih =>
    by_cases hb : b = 32
    · subst hb
      rw [words_blank] at h
      rcases List.mem_cons.1 h with rfl | h
      · simp
      · have := ih h; simp; omega
    · rw [words_other b t hb] at h
      cases hx : Oyez.words t with
      | nil => rw [hx] at h; simp [joinW] at h; subst h; simp
      | cons x r =>
        rw [hx] at h ih
        simp only [joinW, List.mem_cons] at h
        rcases h with rfl | h
        · have := ih (List.mem_cons_self); simp; omega
        · have := ih (List.mem_cons_of_mem _ h); simp; omega
theorem Fz_strs (n : Nat) (σ : Heap) (ws : List (List UInt8)) : Fz n σ (.pl 1 (List.map AV.str ws)) (.pl 1 (List.map AV.str ws)) ↔ True := by
  refine ⟨fun _ => trivial, fun _ => .pl 1 _ fun i x hx j y hy => ?_⟩
  rw [List.getElem?_map, Option.map_eq_some_iff] at hx
  obtain ⟨w, _, rfl⟩ := hx
  cases j with
  | zero => simp [AV.cells] at hy; subst hy; exact .str w
  | succ j => simp [AV.cells] at hy
attribute [simp] Fz_strs
end Ab
namespace Ab
open Go Go.Proofs
attribute [local irreducible] aws awp aw1 Og Om Oc Oa Ogd Ov Ot awd aw1d QThen QBlock QFn QFnM ACode ACalls AYield
def parsedAV (p : Oyez.Parsed) : AV := .tup [fileAV p.recs, .int .i64 p.line, .int .i64 p.word, .int .i64 p.err]
def recCells (r : Oyez.Rec) : List AV := [.int .i64 r.kind, .int .i64 r.number, wordsAV r.words]
theorem flat_rec (f : List Oyez.Rec) (i j : Nat) (h : i < f.length) (hj : j < 3) : ((f.map recAV).flatMap AV.cells)[i * 3 + j]? = (recCells f[i])[j]? := by
  have := flat_get (f.map recAV) (k := 3) (fun x hx => by obtain ⟨r, _, rfl⟩ := List.mem_map.1 hx; rfl) (by decide) (i * 3 + j)
  rw [this, show (i * 3 + j) / 3 = i by omega, show (i * 3 + j) % 3 = j by omega]
  simp [h, recCells, AV.cells]
theorem readLine_line {own : List UInt8} {fed : Bool} {n : Nat} {r : Oyez.Rec} (h : Oyez.readLine own fed n = .ok r) : n < 40 ∧ own.length ≤ 64 ∧ fed = true := by
  unfold Oyez.readLine at h
  split at h
  · cases h
  · split at h
    · cases h
    · split at h
      · cases h
      · rename_i h1 h2 h3
        refine ⟨by omega, by omega, ?_⟩
        cases fed <;> simp_all
/-- what is left to parse: the lines behind a place, with the place of the record ahead -/
def cutAt (s : List UInt8) : List UInt8 := (Oyez.cutLine s).2.2
theorem Acc.more {σ g : Heap} {k : Nat} {v : AV} {l : List AV} {o : Option Nat} (h : Acc σ g k v l o) (y : Heap) : Acc σ (g ++ y) k v l o := ⟨h.len, by
  have := h.val
  cases o with
  | none => exact this
  | some j => exact ⟨this.1, by rw [List.getElem?_append_left (List.getElem?_eq_some_iff.1 this.2).1]; exact this.2⟩⟩
theorem Acc.base {σ σ' g : Heap} {k : Nat} {v : AV} {l : List AV} {o : Option Nat} (h : Acc σ g k v l o) (hl : σ.length = σ'.length) : Acc σ' g k v l o := ⟨h.len, by
  have hv := h.val
  cases o with
  | none => exact hv
  | some j => rw [← hl]; exact hv⟩
/-- records ahead of what is parsed -/
def glue (f : List Oyez.Rec) (p : Oyez.Parsed) : Oyez.Parsed := if p.err = 0 then ⟨f ++ p.recs, 0, 0, 0⟩ else p
theorem readLine_err {own : List UInt8} {fed : Bool} {n : Nat} {w : Nat} {e : Int} (h : Oyez.readLine own fed n = .error (w, e)) : e ≠ 0 := by
  unfold Oyez.readLine at h
  repeat' split at h
  all_goals first
    | (cases h; decide)
    | cases h
theorem parseLines_zero : ∀ (l : List (Oyez.S × Bool)) (p : Option Oyez.Place) (n : Nat), (Oyez.parseLines l p n).err = 0 → (Oyez.parseLines l p n).line = 0 ∧ (Oyez.parseLines l p n).word = 0 := by
  intro l
  induction l with
  | nil => intro p n _; exact ⟨rfl, rfl⟩
  | cons x t ih =>
    intro p n h
    obtain ⟨own, ended⟩ := x
    rw [Oyez.parseLines] at h ⊢
    split at h
    · rename_i w e he
      exact absurd h (readLine_err he)
    · rename_i r hr
      simp only at h ⊢
      split at h
      · cases h
      · rename_i h2
        rw [if_neg h2]
        split at h
        · rename_i h3; rw [if_pos h3]; exact ⟨rfl, rfl⟩
        · rename_i h3; exact absurd h h3
theorem glue_nil (s : List UInt8) : glue [] (Oyez.parse s) = Oyez.parse s := by
  unfold glue
  split
  · rename_i h
    have := parseLines_zero _ _ _ h
    unfold Oyez.parse at h ⊢
    generalize Oyez.parseLines (Oyez.linesOf s) none 0 = p at *
    obtain ⟨a, b, c, d⟩ := p
    simp_all
  · rfl
/-- the place of the last record -/
def lastP (f : List Oyez.Rec) : Option Oyez.Place := f.getLast?.map Oyez.Rec.place
/-- what is left to parse behind a place -/
def restP (s : List UInt8) (at_ : Nat) (f : List Oyez.Rec) : Oyez.Parsed := glue f (Oyez.parseLines (Oyez.linesOf (s.drop at_)) (lastP f) f.length)
end Ab
namespace Ab
open Go Go.Proofs
attribute [local irreducible] aws awp aw1 Og Om Oc Oa Ogd Ov Ot awd aw1d QThen QBlock QFn QFnM ACode ACalls AYield
end Ab
namespace Ab
open Go Go.Proofs
attribute [local irreducible] aws awp aw1 Og Om Oc Oa Ogd Ov Ot awd aw1d QThen QBlock QFn QFnM ACode ACalls AYield
theorem sums_lt (s : Oyez.S) : (Oyez.sums s).1 < 65537 ∧ (Oyez.sums s).2 < 65537 := by
  rw [Oyez.sums_eq]; exact ⟨Nat.mod_lt _ (by decide), Nat.mod_lt _ (by decide)⟩
/-! ### Open -/
theorem value_le {w : List UInt8} {most n : Nat} (h : Oyez.value w most = some n) : n ≤ most := by
  unfold Oyez.value at h
  split at h
  · cases h
  · split at h
    · cases h
    · split at h
      · cases h
      · split at h
        · split at h
          · cases h
          · cases h; omega
        · cases h
def openAV (x : Except Int (List UInt8 × Nat × Nat)) : AV := match x with
  | .error e => .tup [.str [], .int .i64 e]
  | .ok (b, m, n) => .tup [.str b, .int .i64 (if Oyez.sums b = (m, n) then 0 else 8)]
end Ab

/-
  PLAIN LAWS: what is printed is parsed as it was, what is parsed is printed as it was; the lines ahead of the first error.
  STRINGS SPLIT AT ONE BYTE: the plain part.
  PLAIN LAWS: a sealed text of which a byte is damaged.
-/
import Derived.Test.YtdifgaapdnbliaaGreatDoorH13
import Derived.Test.YtdifgaapdnbliaaGreatDoorH18
set_option linter.unusedSimpArgs false
set_option linter.unusedVariables false
set_option linter.unusedSectionVars false
namespace Oyez
def glueW : List S → S
  | [] => []
  | w :: t => w ++ t.flatMap (fun x => 32 :: x)
theorem glue_split : ∀ ws : List S, ws ≠ [] → (∀ w ∈ ws, (32 : UInt8) ∉ w) → splitAt 32 (glueW ws) = ws := by
  intro ws
  induction ws with
  | nil => intro h; exact absurd rfl h
  | cons w t ih =>
    intro _ h
    cases t with
    | nil =>
      have := splitAt_none 32 w (h w (by simp)) [] [] [] rfl
      simpa [glueW] using this
    | cons v t =>
      have h2 := ih (by simp) fun x hx => h x (List.mem_cons_of_mem _ hx)
      have h3 : splitAt 32 (32 :: glueW (v :: t)) = [] :: (v :: t) := by rw [splitAt, if_pos rfl, h2]
      have h4 := splitAt_none 32 w (h w (by simp)) _ _ _ h3
      simpa [glueW] using h4
theorem line_glue (k n : Int) (ws : List S) : line k n ws = glueW (name k :: digits n :: ws) := by simp [line, glueW]
theorem name_facts {d : Int} (h0 : 0 ≤ d) (h4 : d ≤ 4) : kindOf (name d) = some d ∧ (32 : UInt8) ∉ name d ∧ (10 : UInt8) ∉ name d := by
  have : d = 0 ∨ d = 1 ∨ d = 2 ∨ d = 3 ∨ d = 4 := by omega
  rcases this with rfl | rfl | rfl | rfl | rfl <;> decide
theorem valueN_dig : ∀ (w : S) (k n : Nat), valueN w k = some n → ∀ c ∈ w, isDig c = true := by
  intro w
  induction w with
  | nil => intro k n _ c hc; simp at hc
  | cons b t ih =>
    intro k n h c hc
    unfold valueN at h
    split at h
    · rename_i hb
      rcases List.mem_cons.1 hc with rfl | hc
      · exact hb
      · exact ih _ _ h c hc
    · cases h
theorem dig_not {c : UInt8} (h : isDig c = true) : c ≠ 32 ∧ c ≠ 10 := by
  constructor <;> (rintro rfl; revert h; decide)
theorem digits_not (n : Int) : (32 : UInt8) ∉ digits n ∧ (10 : UInt8) ∉ digits n := by
  have h := valueN_dig _ _ _ (valueN_digits n.toNat)
  exact ⟨fun hc => (dig_not (h _ hc)).1 rfl, fun hc => (dig_not (h _ hc)).2 rfl⟩
theorem word_not {w : S} (h : word w = true) : (32 : UInt8) ∉ w ∧ (10 : UInt8) ∉ w := by
  unfold word at h
  rw [Bool.and_eq_true] at h
  have := List.all_eq_true.1 h.1
  constructor
  · intro hc; have := this _ hc; revert this; decide
  · intro hc; have := this _ hc; revert this; decide
theorem wordsErr_zero {k n : Int} {ws : List S} (h : wordsErr k n ws = 0) : ws.length ≤ 6 ∧ ws.all word = true ∧ (line k n ws).length ≤ 64 := by
  unfold wordsErr at h
  split at h
  · cases h
  · split at h
    · cases h
    · split at h
      · cases h
      · rename_i h1 h2 h3
        exact ⟨by omega, by simpa using h2, by omega⟩
theorem placeErr_rng {k n : Int} (h : placeErr k n = 0) : (0 ≤ k ∧ k ≤ 4) ∧ 0 ≤ n ∧ n ≤ 999 := by
  unfold placeErr at h
  split at h
  · cases h
  · split at h
    · cases h
    · omega
theorem recErr_iff (r : Rec) : recErr r = 0 ↔ placeErr r.kind r.number = 0 ∧ wordsErr r.kind r.number r.words = 0 := by
  refine ⟨recErr_place, fun ⟨h1, h2⟩ => ?_⟩
  unfold recErr oneErr
  rw [if_neg (by simpa using h1)]
  exact h2
theorem firstBad_all {ws : List S} : ∀ i, firstBad ws i = none ↔ ws.all word = true := by
  induction ws with
  | nil => intro i; simp [firstBad]
  | cons w t ih =>
    intro i
    rw [firstBad]
    split
    · rename_i h; rw [ih]; simp [h]
    · rename_i h; simp [h]
theorem readLine_of {r : Rec} (h : recErr r = 0) {n : Nat} (hn : n < 40) : readLine (line r.kind r.number r.words) true n = .ok r := by
  obtain ⟨h1, h2⟩ := (recErr_iff r).1 h
  obtain ⟨hk, hnum⟩ := placeErr_rng h1
  obtain ⟨h6, hall, h64⟩ := wordsErr_zero h2
  obtain ⟨hkn, hn32, _⟩ := name_facts hk.1 hk.2
  have hws : words (line r.kind r.number r.words) = name r.kind :: digits r.number :: r.words := by
    rw [line_glue]
    refine glue_split _ (by simp) fun w hw => ?_
    rcases List.mem_cons.1 hw with rfl | hw
    · exact hn32
    · rcases List.mem_cons.1 hw with rfl | hw
      · exact (digits_not _).1
      · exact (word_not (List.all_eq_true.1 hall w hw)).1
  have hv : value (digits r.number) 999 = some r.number.toNat := value_digits (by omega) (by omega)
  unfold readLine
  rw [if_neg (by omega), if_neg (by omega), if_neg (by simp), hws]
  simp only [hkn, hv]
  rw [if_neg (by omega), (firstBad_all 2).2 hall]
  have : (r.number.toNat : Int) = r.number := by omega
  rw [this]
theorem line_no10 {r : Rec} (h : recErr r = 0) : (10 : UInt8) ∉ line r.kind r.number r.words := by
  obtain ⟨h1, h2⟩ := (recErr_iff r).1 h
  obtain ⟨hk, hnum⟩ := placeErr_rng h1
  obtain ⟨h6, hall, h64⟩ := wordsErr_zero h2
  intro hc
  unfold line at hc
  simp only [List.mem_append, List.mem_flatMap, List.mem_cons, List.mem_singleton, List.not_mem_nil, or_false] at hc
  rcases hc with ((hc | hc) | hc) | ⟨w, hw, hc | hc⟩
  · exact (name_facts hk.1 hk.2).2.2 hc
  · revert hc; decide
  · exact (digits_not _).2 hc
  · revert hc; decide
  · exact (word_not (List.all_eq_true.1 hall w hw)).2 hc

/-! ### lines -/
def cat (l : List (S × Bool)) : S := l.flatMap fun x => x.1 ++ if x.2 then [10] else []
def okL : List (S × Bool) → Prop
  | [] => True
  | (w, e) :: t => (10 : UInt8) ∉ w ∧ (e = false → w ≠ [] ∧ t = []) ∧ okL t
theorem linesOf_app : ∀ (w t : S), (10 : UInt8) ∉ w → linesOf (w ++ 10 :: t) = (w, true) :: linesOf t := by
  intro w
  induction w with
  | nil => intro t _; simp [linesOf]
  | cons b w ih =>
    intro t h
    simp only [List.mem_cons, not_or] at h
    rw [List.cons_append, linesOf, if_neg (Ne.symm h.1), ih t h.2]
theorem linesOf_one : ∀ w : S, (10 : UInt8) ∉ w → w ≠ [] → linesOf w = [(w, false)] := by
  intro w
  induction w with
  | nil => intro _ h; exact absurd rfl h
  | cons b w ih =>
    intro h _
    simp only [List.mem_cons, not_or] at h
    rw [linesOf, if_neg (Ne.symm h.1)]
    cases w with
    | nil => rfl
    | cons c w => rw [ih h.2 (by simp)]
theorem cat_lines : ∀ l : List (S × Bool), okL l → linesOf (cat l) = l := by
  intro l
  induction l with
  | nil => intro _; rfl
  | cons x t ih =>
    obtain ⟨w, e⟩ := x
    rintro ⟨h1, h2, h3⟩
    cases e with
    | true =>
      have : cat ((w, true) :: t) = w ++ 10 :: cat t := by simp [cat]
      rw [this, linesOf_app _ _ h1, ih h3]
    | false =>
      obtain ⟨h4, rfl⟩ := h2 rfl
      have : cat [(w, false)] = w := by simp [cat]
      rw [this, linesOf_one _ h1 h4]
theorem parseLines_print : ∀ (f : List Rec) (p : Option Place) (n : Nat), checkFrom p f = 0 → n + f.length ≤ 40 → parseLines (f.map fun r => (line r.kind r.number r.words, true)) p n = ⟨f, 0, 0, 0⟩ := by
  intro f
  induction f with
  | nil => intro p n _ _; rfl
  | cons r t ih =>
    intro p n h hn
    rw [checkFrom] at h
    split at h
    · rename_i h1; exact absurd h h1
    · rename_i h1
      split at h
      · cases h
      · rename_i h2
        simp only [List.length_cons] at hn
        rw [List.map_cons, parseLines, readLine_of (by simpa using h1) (by omega)]
        simp only
        rw [if_neg h2, ih _ _ h (by omega)]
        simp
theorem check_inv {f : List Rec} (h : check f = 0) : f.length ≤ 40 ∧ checkFrom none f = 0 := by
  unfold check at h
  split at h
  · cases h
  · exact ⟨by omega, h⟩
theorem print_cat (f : List Rec) : cat (f.map fun r => (line r.kind r.number r.words, true)) = print f := by
  simp [cat, print, List.flatMap_map]
theorem okL_print : ∀ f : List Rec, (∀ r ∈ f, recErr r = 0) → okL (f.map fun r => (line r.kind r.number r.words, true)) := by
  intro f
  induction f with
  | nil => intro _; exact trivial
  | cons r t ih => intro h; exact ⟨line_no10 (h r (by simp)), by simp, ih fun q hq => h q (List.mem_cons_of_mem _ hq)⟩
/-- WHAT IS PRINTED IS PARSED AS IT WAS. -/
theorem parse_print {f : List Rec} (h : check f = 0) : parse (print f) = ⟨f, 0, 0, 0⟩ := by
  obtain ⟨h1, h2⟩ := check_inv h
  unfold parse
  rw [← print_cat, cat_lines _ (okL_print f (checkFrom_zero h2).1)]
  exact parseLines_print f none 0 h2 (by omega)
end Oyez
namespace Oyez
/-- the pieces of a text at a byte, which each piece keeps or not -/
def sp (c : UInt8) (sv : Bool) : S → List S
  | [] => [[]]
  | b :: t => if b = c then (if sv then [b] else []) :: sp c sv t else
    match sp c sv t with
    | [] => [[b]]
    | w :: r => (b :: w) :: r
def piece (x : S × Bool) : S := x.1 ++ if x.2 then [10] else []
end Oyez
namespace Oyez
/-- the seal's line -/
def sealLine (m n : Nat) : S := glueW [sealW, digitsN m, digitsN n]
theorem sealed_def (t : S) : sealed t = t ++ sealLine (sums t).1 (sums t).2 ++ [10] := by
  unfold sealed sealLine glueW
  simp
theorem sums_lt (t : S) : (sums t).1 < 65537 ∧ (sums t).2 < 65537 := by
  rw [sums_eq]
  exact ⟨Nat.mod_lt _ (by decide), Nat.mod_lt _ (by decide)⟩
theorem digitsN_not (n : Nat) : (32 : UInt8) ∉ digitsN n ∧ (10 : UInt8) ∉ digitsN n := by
  have := digits_not (n : Int)
  unfold digits at this
  rwa [Int.toNat_natCast] at this
theorem sealLine_ok {m n : Nat} (hm : m < 65537) (hn : n < 65537) : (10 : UInt8) ∉ sealLine m n ∧ words (sealLine m n) = [sealW, digitsN m, digitsN n] ∧ (sealLine m n).length ≤ 16 := by
  have h1 := digits_len 4 m (by omega)
  have h2 := digits_len 4 n (by omega)
  refine ⟨?_, ?_, ?_⟩
  · unfold sealLine glueW
    intro hc
    simp only [List.mem_append, List.flatMap_cons, List.flatMap_nil, List.append_nil, List.mem_cons] at hc
    rcases hc with hc | (hc | hc) | (hc | hc)
    · revert hc; decide
    · revert hc; decide
    · exact (digitsN_not m).2 hc
    · revert hc; decide
    · exact (digitsN_not n).2 hc
  · refine glue_split _ (by simp) fun w hw => ?_
    simp only [List.mem_cons, List.not_mem_nil, or_false] at hw
    rcases hw with rfl | rfl | rfl
    · decide
    · exact (digitsN_not m).1
    · exact (digitsN_not n).1
  · unfold sealLine glueW
    simp
    omega
theorem sealed_ok {t : S} (h : t.getLast? = some 10) (hl : t.length ≤ 4096) : Sealed (sealed t) t (sealLine (sums t).1 (sums t).2) (digitsN (sums t).1) (digitsN (sums t).2) (sums t).1 (sums t).2 := by
  obtain ⟨h1, h2⟩ := sums_lt t
  obtain ⟨k1, k2, k3⟩ := sealLine_ok h1 h2
  exact ⟨sealed_def t, k1, h, hl, k2, value_digits (by omega) (by omega), value_digits (by omega) (by omega), by rw [sealed_def]; simp; omega⟩
theorem open_sealed {t : S} (h : t.getLast? = some 10) (hl : t.length ≤ 4096) : openOf (sealed t) = (t, 0) := by
  unfold openOf
  rw [(sealed_ok h hl).opened]
  simp
theorem seal_of {t : S} (h : t.getLast? = some 10) (hl : t.length ≤ 4096) : sealOf t = (sealed t, 0) := by
  unfold sealOf
  rw [if_neg (by omega), if_neg (by simp [h])]
theorem sealed_set {t : S} {i : Nat} (hi : i < t.length) (c : UInt8) : (sealed t).set i c = t.set i c ++ sealLine (sums t).1 (sums t).2 ++ [10] := by
  rw [sealed_def, List.set_append_left _ _ (by simp; omega), List.set_append_left _ _ hi]
theorem mend_sealed {t : S} (h : t.getLast? = some 10) (hl : t.length ≤ 4096) {i : Nat} (hi : i + 1 < t.length) {c : UInt8} (hc : c ≠ t[i]) : mendOf ((sealed t).set i c) = (sealed t, i, 0) := by
  have hS := sealed_ok h hl
  have hit : i < t.length := by omega
  have hset := sealed_set hit c
  have hS' : Sealed ((sealed t).set i c) (t.set i c) (sealLine (sums t).1 (sums t).2) (digitsN (sums t).1) (digitsN (sums t).2) (sums t).1 (sums t).2 := by
    refine ⟨hset, hS.noLf, ?_, by simpa using hl, hS.ws, hS.one, hS.two, by simpa using hS.len⟩
    rw [List.getLast?_eq_getElem?, List.length_set, List.getElem?_set_ne (by omega), ← List.getLast?_eq_getElem?, h]
  have hne : sums (t.set i c) ≠ ((sums t).1, (sums t).2) := by
    intro e
    have t1 := tot_set t i hit c
    have e1 := congrArg Prod.fst e
    rw [sums_eq, sums_eq] at e1
    simp only at e1
    have c1 := c.toNat_lt
    have c2 := t[i].toNat_lt
    apply hc
    apply UInt8.toNat.inj
    omega
  rw [mendOf_eq hS'.opened hne]
  have hb : (UInt8.ofNat t[i].toNat) = t[i] := by simp
  have hlen : i < ((sealed t).set i c).length := by rw [hset]; simp; omega
  have hst : i < (sealed t).length := by rw [List.length_set] at hlen; exact hlen
  have hti : (sealed t)[i]'hst = t[i] := by
    have : (sealed t)[i]? = t[i]? := by rw [sealed_def, List.append_assoc, List.getElem?_append_left hit]
    rw [List.getElem?_eq_getElem hst, List.getElem?_eq_getElem hit] at this
    exact Option.some.inj this
  have hback : (sealed t).set i t[i] = sealed t := by rw [← hti, List.set_getElem_self]
  have hm : mendAt ((sealed t).set i c) i t[i].toNat = some (sealed t, i) := by
    unfold mendAt
    rw [tryByte_eq hlen, hb, List.set_set, hback, if_neg, if_pos (by rw [open_sealed h hl])]
    intro e
    have := congrArg (fun l => l[i]?) e
    simp only [List.getElem?_set_self hst, List.getElem?_eq_getElem hst, hti] at this
    exact hc (Option.some.inj this).symm
  exact mendAt_some hS' (by simpa using hit) t[i].toNat_lt hm
theorem mend_last {t : S} (h : t.getLast? = some 10) (hl : t.length ≤ 4096) {c : UInt8} (hc : c ≠ 10) : mendOf ((sealed t).set (t.length - 1) c) = ([], 0, 11) := by
  obtain ⟨pre, rfl⟩ := List.getLast?_eq_some_iff.1 h
  have hS := sealed_ok h hl
  have hi : (pre ++ [10]).length - 1 = pre.length := by simp
  have hset := sealed_set (t := pre ++ [10]) (i := pre.length) (by simp) c
  rw [hi, hset]
  have hlen := hS.len
  rw [sealed_def] at hlen
  obtain ⟨L, hL⟩ : ∃ L, sealLine (sums (pre ++ [10])).1 (sums (pre ++ [10])).2 = L := ⟨_, rfl⟩
  have hnl := hS.noLf
  have hws := hS.ws
  rw [hL] at hnl hws hlen ⊢
  have e1 : (pre ++ [10]).set pre.length c = pre ++ [c] := by
    rw [List.set_append_right _ _ (Nat.le_refl _)]; simp
  rw [e1]
  obtain ⟨g1, g2⟩ := lastLine_split _ pre rfl
  obtain ⟨body, hbd⟩ : ∃ b, pre.take (lastLine pre) = b := ⟨_, rfl⟩
  obtain ⟨q, hq⟩ : ∃ q, pre.drop (lastLine pre) = q := ⟨_, rfl⟩
  have hpre : pre = body ++ q := by rw [← hbd, ← hq, List.take_append_drop]
  rw [hbd] at g2
  rw [hq] at g1
  have hop : openedOf (pre ++ [c] ++ L ++ [10]) = .error 11 := by
    have hln : (10 : UInt8) ∉ q ++ c :: L := by
      simp only [List.mem_append, List.mem_cons, not_or]
      exact ⟨g1, fun e => hc e.symm, hnl⟩
    have hu : pre ++ [c] ++ L = body ++ (q ++ c :: L) := by rw [hpre]; simp
    have hll := lastLine_of hln body g2
    unfold openedOf
    rw [if_neg (by simp at hlen ⊢; omega), if_neg (by rw [List.getLast?_concat]; simp), List.dropLast_concat, hu, hll, List.drop_left]
    split
    · rename_i k' a' b' hw
      rw [if_pos (.inr (.inr (words_longer hws hw)))]
    · rfl
  have ho : openOf (pre ++ [c] ++ L ++ [10]) = ([], 11) := by unfold openOf; rw [hop]
  unfold mendOf
  rw [ho]
  simp
theorem print_last {f : List Rec} (h : f ≠ []) : (print f).getLast? = some 10 := by
  obtain ⟨g, r, rfl⟩ : ∃ g r, f = g ++ [r] := ⟨f.dropLast, f.getLast h, (List.dropLast_concat_getLast h).symm⟩
  unfold print
  rw [List.flatMap_append, List.flatMap_cons, List.flatMap_nil, List.append_nil, ← List.append_assoc, List.getLast?_append]
  simp
end Oyez

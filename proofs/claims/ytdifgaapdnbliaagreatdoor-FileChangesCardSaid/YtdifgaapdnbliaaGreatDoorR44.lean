/-
  ROWS WHOSE ARGUMENTS ARE LISTS: lists of texts, of choices, of records, read as what they hold.
  ROWS WITH AN ARGUMENT THAT IS A RECORD, OR A PLACE: read as what it holds.
  ROWS WHOSE ARGUMENTS ARE LISTS OF CHANGES: read as what they hold.
-/
import Derived.Deep.Strs
import Derived.Test.YtdifgaapdnbliaaGreatDoorR18
import Derived.Test.YtdifgaapdnbliaaGreatDoorR23
import Derived.Test.YtdifgaapdnbliaaGreatDoorR25
set_option linter.unusedSimpArgs false
set_option linter.unusedVariables false
set_option linter.unusedSectionVars false
namespace Ab
open Go Go.RowKit Go.Proofs Go.ChangeShapes Go.WideShapes Go.ChangeAt
/-- cells that are an element's -/
def Els (W : World) (a : AV) (cs : List Value) : Prop := a.cells.length = cs.length ∧ ∀ (j : Nat) (y : AV) (c : Value), a.cells[j]? = some y → cs[j]? = some c → y.one = true ∧ ∀ C : Ctx, C.w = W → (∀ b, b < W.heap.size → C.pers b) → VR C y c
theorem list_of {α : Type} (R : Nat → α → Prop) : ∀ len : Nat, (∀ i, i < len → ∃ a, R i a) → ∃ l : List α, l.length = len ∧ ∀ (i : Nat) (a : α), l[i]? = some a → R i a := by
  intro len
  induction len with
  | zero => intro _; exact ⟨[], rfl, fun i a h => by simp at h⟩
  | succ n ih =>
    intro h
    obtain ⟨l, hl, hr⟩ := ih fun i hi => h i (by omega)
    obtain ⟨a, ha⟩ := h n (by omega)
    refine ⟨l ++ [a], by simp [hl], fun i b hb => ?_⟩
    rcases Nat.lt_or_ge i l.length with hi | hi
    · rw [List.getElem?_append_left hi] at hb; exact hr i b hb
    · rw [List.getElem?_append_right hi] at hb
      have : i - l.length = 0 := by
        have := (List.getElem?_eq_some_iff.1 hb).1
        simp at this
        omega
      rw [this] at hb
      simp at hb
      subst hb
      rw [show i = n by omega]
      exact ha
theorem open_list {H : Type} {enc : TypeId × Value → H} {P : Program} {W : World} {sp : Nat → Bool} {held : Bool} {t e : TypeId} {k : Nat} {α : Type} (el : α → AV) (Q : α → Prop) (ht : P.underlying t = some (.slice e)) (hk : P.cellsOf e = k) (h0 : 0 < k)
    (each : ∀ (n : Nat) (cs : List Value) (y : DataW H × List MemPlace), cs.length = k → DataW.trod enc P W 0 sp held n e cs = some y → ∃ a : α, Els W (el a) cs ∧ Q a) {fuel : Nat} {cs : List Value} {x : DataW H × List MemPlace}
    (h : DataW.trod enc P W 0 sp held fuel t cs = some x) : ∃ (v : Value) (l : List α), cs = [v] ∧ l.length ≤ 9223372036854775807 ∧ (∀ a ∈ l, Q a) ∧ ∀ C : Ctx, C.w = W → (∀ b, b < W.heap.size → C.pers b) → VR C (.pl k (l.map el)) v := by
  rcases DataW.trod_slice ht h with ⟨rfl, _⟩ | ⟨A, len, cap, elems, rest, n, _, rfl, rfl, hb, hl, hm, hlen, hel, _, _⟩
  · exact ⟨_, [], rfl, by simp, fun a h => by simp at h, fun C _ _ => .pl0 k none 0 fun _ => rfl⟩
  · obtain ⟨l, hll, hR⟩ := list_of (fun (i : Nat) (a : α) => ∃ cs : List Value, cs.length = k ∧ (∀ j, j < k → W.cell? ((A.add (i * k)).add j) = cs[j]?) ∧ Els W (el a) cs ∧ Q a) len fun i hi => by
      have h1 := hel i hi
      rw [hk, List.getElem?_eq_getElem (by omega), Option.bind_eq_some_iff] at h1
      obtain ⟨cs, g1, g2⟩ := h1
      obtain ⟨_, g3, g4⟩ := World.cells?_some g1
      obtain ⟨a, g5, g6⟩ := each n cs _ g3 g2
      exact ⟨a, cs, g3, g4, g5, g6⟩
    have hml : len ≤ 9223372036854775807 := by unfold maxLen at hm; omega
    refine ⟨_, l, rfl, by omega, fun a ha => ?_, fun C hC hp => ?_⟩
    · obtain ⟨i, hi⟩ := List.getElem?_of_mem ha
      obtain ⟨_, _, _, _, h⟩ := hR i a hi
      exact h
    · rcases Nat.eq_zero_or_pos len with hz | hz
      · obtain rfl : l = [] := List.eq_nil_of_length_eq_zero (by omega)
        subst hz
        exact .pl0 k (some A) cap fun h => by cases h
      · obtain ⟨b, o, spot⟩ := A
        have hl0 : l[0]? = some (l[0]'(by omega)) := List.getElem?_eq_getElem (by omega)
        obtain ⟨c0, g1, g2, _, _⟩ := hR 0 _ hl0
        have h2 := g2 0 h0
        rw [List.getElem?_eq_getElem (by omega)] at h2
        have hsp : spot = none := by
          cases spot with
          | none => rfl
          | some s => simp [World.cell?, Addr.add] at h2; split at h2 <;> simp at h2
        subst hsp
        have hbl : b < W.heap.size := by
          rcases Nat.lt_or_ge b W.heap.size with h | h
          · exact h
          · simp [World.cell?, Addr.add, Array.getElem?_eq_none h] at h2
        subst hC
        have key : ∀ (i : Nat) (x : AV), (l.map el)[i]? = some x → ∃ cs : List Value, x.cells.length = k ∧ cs.length = k ∧ (∀ j, j < k → C.w.cell? ⟨b, o + i * k + j, none⟩ = cs[j]?) ∧ Els C.w x cs := by
          intro i x hx
          rw [List.getElem?_map, Option.map_eq_some_iff] at hx
          obtain ⟨a, ha, rfl⟩ := hx
          obtain ⟨cs, g1, g2, g3, _⟩ := hR i a ha
          refine ⟨cs, g3.1.trans g1, g1, fun j hj => ?_, g3⟩
          have := g2 j hj
          rw [add_none, add_none] at this
          exact this
        refine .pl k _ b o len cap (fun i j => (C.w.cell? ⟨b, o + i * k + j, none⟩).getD .nilIface) (hp b hbl) (by simp [hll]) hl (fun i x hx => ?_) (fun i x hx j y hy => ?_)
        · obtain ⟨cs, g1, g2, g3, g4⟩ := key i x hx
          refine ⟨g1, fun j y hy => ?_⟩
          have hj : j < k := by have := (List.getElem?_eq_some_iff.1 hy).1; omega
          have hc : cs[j]? = some (cs[j]'(by omega)) := List.getElem?_eq_getElem (by omega)
          exact ⟨(g4.2 j y _ hy hc).1, by rw [g3 j hj, hc]; rfl⟩
        · obtain ⟨cs, g1, g2, g3, g4⟩ := key i x hx
          have hj : j < k := by have := (List.getElem?_eq_some_iff.1 hy).1; omega
          have hc : cs[j]? = some (cs[j]'(by omega)) := List.getElem?_eq_getElem (by omega)
          rw [g3 j hj, hc]
          exact (g4.2 j y _ hy hc).2 C rfl hp
theorem els_one {W : World} {a : AV} {c : Value} (h1 : a.cells = [a]) (h2 : a.one = true) (h : ∀ C : Ctx, C.w = W → (∀ b, b < W.heap.size → C.pers b) → VR C a c) : Els W a [c] := by
  refine ⟨by rw [h1]; rfl, fun j y d hy hd => ?_⟩
  rw [h1] at hy
  match j, hy, hd with
  | 0, hy, hd => simp at hy hd; subst hy; subst hd; exact ⟨h2, h⟩
  | j + 1, hy, _ => simp at hy
set_option maxRecDepth 100000 in
/-- a list of texts -/
theorem open_strs {H : Type} {enc : TypeId × Value → H} {W : World} {sp : Nat → Bool} {held : Bool} {fuel : Nat} {cs : List Value} {x : DataW H × List MemPlace} (h : DataW.trod enc Tryz.prog W 0 sp held fuel 55 cs = some x) :
    ∃ (v : Value) (l : List (List UInt8)), cs = [v] ∧ l.length ≤ 9223372036854775807 ∧ (∀ a ∈ l, True) ∧ ∀ C : Ctx, C.w = W → (∀ b, b < W.heap.size → C.pers b) → VR C (.pl 1 (l.map AV.str)) v :=
  open_list (k := 1) AV.str (fun _ => True) Tryz.underlying55 (by kernel_rfl) (by decide) (fun n cs y _ hy => by
    obtain ⟨s, rfl, rfl, _⟩ := DataW.trod_string Tryz.underlying9 hy
    exact ⟨s.data.toList, els_one rfl rfl fun C _ _ => .str _, trivial⟩) h
set_option maxRecDepth 100000 in
/-- records -/
theorem open_recs {H : Type} {enc : TypeId × Value → H} {W : World} {sp : Nat → Bool} {held : Bool} {v : Value} {d : DataW H} {p : List MemPlace} (hval : Value.okWide Tryz.prog W .any 0 23 v) (hd : DataW.Trod enc Tryz.prog W 0 sp held 23 v d p) :
    ∃ l : List Oyez.Rec, l.length ≤ 9223372036854775807 ∧ (∀ r ∈ l, r.words.length ≤ 9223372036854775807) ∧ ∀ C : Ctx, C.w = W → (∀ b, b < W.heap.size → C.pers b) → VR C (fileAV l) v := by
  obtain ⟨a, len, cap, rfl⟩ := okWide_slice Tryz.underlying23 hval
  obtain ⟨fuel, hf⟩ := hd
  obtain ⟨v', l, he, h1, h3, h2⟩ := open_list (e := 59) (k := 3) recAV (fun r => r.words.length ≤ 9223372036854775807) Tryz.underlying23 (by kernel_rfl) (by decide) (fun n cs y hl hy => by
    obtain ⟨y0, y1, y2, m, _, _, g0, g1, g2⟩ := Go.Deep.trod_struct3 Tryz.underlying59 hy
    match cs, hl with
    | [c0, c1, c2], _ =>
      obtain ⟨n0, e0, _, _⟩ := DataW.trod_int (k := .i64) Tryz.underlying52 g0
      obtain ⟨n1, e1, _, _⟩ := DataW.trod_int (k := .i64) Tryz.underlying3 g1
      obtain ⟨v2, ws, e2, w1, _, w2⟩ := open_strs g2
      have e0' : c0 = .int .i64 n0 := by
        have : ([c0, c1, c2].drop 0).take 1 = [Value.int .i64 n0] := e0
        simpa using this
      have e1' : c1 = .int .i64 n1 := by
        have : ([c0, c1, c2].drop 1).take 1 = [Value.int .i64 n1] := e1
        simpa using this
      have e2' : c2 = v2 := by
        have : ([c0, c1, c2].drop 2).take 1 = [v2] := e2
        simpa using this
      subst e0'; subst e1'; subst e2'
      refine ⟨⟨n0, n1, ws⟩, ⟨rfl, fun j z c hz hc => ?_⟩, w1⟩
      match j, hz, hc with
      | 0, hz, hc => simp [AV.cells] at hz hc; subst hz; subst hc; exact ⟨rfl, fun C _ _ => .int _ _⟩
      | 1, hz, hc => simp [AV.cells] at hz hc; subst hz; subst hc; exact ⟨rfl, fun C _ _ => .int _ _⟩
      | 2, hz, hc =>
        have hz' : z = wordsAV ws := by simpa [recAV, AV.cells] using hz.symm
        simp at hc
        subst hz'; subst hc
        exact ⟨rfl, w2⟩
      | j + 3, hz, _ => simp [AV.cells] at hz) hf
  simp [Value.cells] at he
  subst he
  exact ⟨l, h1, h3, h2⟩
end Ab
namespace Ab
open Go Go.RowKit Go.Proofs Go.ChangeShapes Go.WideShapes Go.ChangeAt
end Ab
namespace Ab
open Go Go.RowKit Go.Proofs Go.ChangeShapes Go.WideShapes Go.ChangeAt
theorem trod_struct6 {H : Type} {enc : TypeId × Value → H} {P : Program} {w : World} {base : Nat} {spare : Nat → Bool} {held : Bool} {t : TypeId} {f0 f1 f2 f3 f4 f5 : Field} {fuel : Nat} {cs : List Value} {x : DataW H × List MemPlace} (ht : P.underlying t = some (.struct #[f0, f1, f2, f3, f4, f5])) (h : DataW.trod enc P w base spare held fuel t cs = some x) :
    ∃ y0 y1 y2 y3 y4 y5 n, DataW.trod enc P w base spare held n f0.type ((cs.drop f0.offset).take (P.cellsOf f0.type)) = some y0 ∧ DataW.trod enc P w base spare held n f1.type ((cs.drop f1.offset).take (P.cellsOf f1.type)) = some y1 ∧
      DataW.trod enc P w base spare held n f2.type ((cs.drop f2.offset).take (P.cellsOf f2.type)) = some y2 ∧ DataW.trod enc P w base spare held n f3.type ((cs.drop f3.offset).take (P.cellsOf f3.type)) = some y3 ∧
      DataW.trod enc P w base spare held n f4.type ((cs.drop f4.offset).take (P.cellsOf f4.type)) = some y4 ∧ DataW.trod enc P w base spare held n f5.type ((cs.drop f5.offset).take (P.cellsOf f5.type)) = some y5 := by
  obtain ⟨xs, n, _, rfl, hl, hlen, hf⟩ := DataW.trod_struct ht h
  match xs, hlen with
  | [y0, y1, y2, y3, y4, y5], _ => exact ⟨y0, y1, y2, y3, y4, y5, n, by simpa using hf 0 f0 rfl, by simpa using hf 1 f1 rfl, by simpa using hf 2 f2 rfl, by simpa using hf 3 f3 rfl, by simpa using hf 4 f4 rfl, by simpa using hf 5 f5 rfl⟩
set_option maxRecDepth 100000 in
/-- changes -/
theorem open_chgs {H : Type} {enc : TypeId × Value → H} {W : World} {sp : Nat → Bool} {held : Bool} {v : Value} {d : DataW H} {p : List MemPlace} (hval : Value.okWide Tryz.prog W .any 0 62 v) (hd : DataW.Trod enc Tryz.prog W 0 sp held 62 v d p) :
    ∃ l : List Oyez.Chg, l.length ≤ 9223372036854775807 ∧ (∀ c ∈ l, c.old.length ≤ 9223372036854775807 ∧ c.new.length ≤ 9223372036854775807) ∧ ∀ C : Ctx, C.w = W → (∀ b, b < W.heap.size → C.pers b) → VR C (chgsAV l) v := by
  obtain ⟨a, len, cap, rfl⟩ := okWide_slice Tryz.underlying62 hval
  obtain ⟨fuel, hf⟩ := hd
  obtain ⟨v', l, he, h1, h3, h2⟩ := open_list (e := 74) (k := 6) chgAV (fun c => c.old.length ≤ 9223372036854775807 ∧ c.new.length ≤ 9223372036854775807) Tryz.underlying62 (by kernel_rfl) (by decide) (fun n cs y hl hy => by
    obtain ⟨y0, y1, y2, y3, y4, y5, m, g0, g1, g2, g3, g4, g5⟩ := trod_struct6 Tryz.underlying74 hy
    match cs, hl with
    | [c0, c1, c2, c3, c4, c5], _ =>
      obtain ⟨n0, e0, _, _⟩ := DataW.trod_int (k := .i64) Tryz.underlying52 g0
      obtain ⟨n1, e1, _, _⟩ := DataW.trod_int (k := .i64) Tryz.underlying3 g1
      obtain ⟨b2, e2, _⟩ := DataW.trod_bool Tryz.underlying4 g2
      obtain ⟨b3, e3, _⟩ := DataW.trod_bool Tryz.underlying4 g3
      obtain ⟨v4, ws, e4, w4, _, r4⟩ := open_strs g4
      obtain ⟨v5, us, e5, w5, _, r5⟩ := open_strs g5
      have e0' : c0 = .int .i64 n0 := by
        have : ([c0, c1, c2, c3, c4, c5].drop 0).take 1 = [Value.int .i64 n0] := e0
        simpa using this
      have e1' : c1 = .int .i64 n1 := by
        have : ([c0, c1, c2, c3, c4, c5].drop 1).take 1 = [Value.int .i64 n1] := e1
        simpa using this
      have e2' : c2 = .bool b2 := by
        have : ([c0, c1, c2, c3, c4, c5].drop 2).take 1 = [Value.bool b2] := e2
        simpa using this
      have e3' : c3 = .bool b3 := by
        have : ([c0, c1, c2, c3, c4, c5].drop 3).take 1 = [Value.bool b3] := e3
        simpa using this
      have e4' : c4 = v4 := by
        have : ([c0, c1, c2, c3, c4, c5].drop 4).take 1 = [v4] := e4
        simpa using this
      have e5' : c5 = v5 := by
        have : ([c0, c1, c2, c3, c4, c5].drop 5).take 1 = [v5] := e5
        simpa using this
      subst e0'; subst e1'; subst e2'; subst e3'; subst e4'; subst e5'
      refine ⟨⟨n0, n1, b2, b3, ws, us⟩, ⟨rfl, fun j z c hz hc => ?_⟩, w4, w5⟩
      match j, hz, hc with
      | 0, hz, hc => simp [AV.cells] at hz hc; subst hz; subst hc; exact ⟨rfl, fun C _ _ => .int _ _⟩
      | 1, hz, hc => simp [AV.cells] at hz hc; subst hz; subst hc; exact ⟨rfl, fun C _ _ => .int _ _⟩
      | 2, hz, hc => simp [AV.cells] at hz hc; subst hz; subst hc; exact ⟨rfl, fun C _ _ => .bool _⟩
      | 3, hz, hc => simp [AV.cells] at hz hc; subst hz; subst hc; exact ⟨rfl, fun C _ _ => .bool _⟩
      | 4, hz, hc =>
        have hz' : z = wordsAV ws := by simpa [chgAV, AV.cells] using hz.symm
        simp at hc
        subst hz'; subst hc
        exact ⟨rfl, r4⟩
      | 5, hz, hc =>
        have hz' : z = wordsAV us := by simpa [chgAV, AV.cells] using hz.symm
        simp at hc
        subst hz'; subst hc
        exact ⟨rfl, r5⟩
      | j + 6, hz, _ => simp [AV.cells] at hz) hf
  simp [Value.cells] at he
  subst he
  exact ⟨l, h1, h3, h2⟩
end Ab

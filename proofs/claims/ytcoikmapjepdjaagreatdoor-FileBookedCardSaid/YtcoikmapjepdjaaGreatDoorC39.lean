/-
  THE BELL: seldom, exactly; complaints that are drawn.
-/
import Derived.Test.YtcoikmapjepdjaaGreatDoorC35
import Derived.Test.YtcoikmapjepdjaaGreatDoorC36
import Derived.Test.YtcoikmapjepdjaaGreatDoorC38
set_option linter.unusedSimpArgs false
set_option linter.unusedVariables false
set_option linter.unusedSectionVars false
namespace Ab
open Go Go.RowKit Go.Proofs
attribute [local irreducible] aws awp aw1 Og Om Oc Oa Ogd Ov Ot awd aw1d awh aw1h Ogh Ohd awl Ogl Ohl awv Ogv Ohv QThen QBlock QFn QFnM QRo QBe ACode AYield
theorem seldomX_calls (σ : Heap) (d : Nat) (l : List UInt8) (a : Nat) (c n : Int) (h : σ[d]? = some (bellObj l a c)) (ha : a ≤ l.length) (hl : l.length ≤ 9223372036854775807) (h0 : 1 ≤ n) (h2 : n ≤ 2 ^ 30) :
    ∃ (b : Bool) (a' : Nat) (c' : Int), ACalls Tryz.prog 51 [.ptr d 0, .int .i64 n] σ (fun v s => v = .bool b ∧ s = σ.set d (bellObj l a' c')) ∧ a' ≤ l.length := by
  obtain ⟨x, a', c', hr, _, _, ha'⟩ := strokeX_calls σ d l a c (n - 1) h ha hl (by omega) (by omega)
  refine ⟨decide (x = 0), a', c', ?_, ha'⟩
  refine acalls_fn Tryz.func51 rfl (enters_fn Tryz.func51 (by decide) rfl) ?_
  have hx := w64 (n := n - 1) (by omega) (by omega)
  simp [Tryz.ntmps51, hx]
  refine StA.of (hr.mono ?_)
  rintro v σ' ⟨rfl, rfl⟩
  simp
theorem appM {S g : Heap} {v : AV} {L : List Cm} {o : Option Nat} (hA : Acc S g 3 v (L.map cmAV) o) (x : Cm) (hl : L.length ≤ 2 ^ 30) :
    ∃ v' g' jo, aappend Tryz.prog #[118, 118] v (.pl 3 [cmAV x]) (S ++ g) = some (v', S ++ g') ∧ Acc S g' 3 v' ((L ++ [x]).map cmAV) (some jo) ∧ v' = .arr 3 (S.length + jo) 0 (L.length + 1) := by
  obtain ⟨v', g', o', he, hA', hlen, hkeep, ho⟩ := hA.app (P := Tryz.prog) (t := 118) (e := 122) (ag := true) (ys := [cmAV x]) (y := .pl 3 [cmAV x]) (by simp) (by simp) (by simp) (by omega) (fun y hy => by
    rw [List.mem_singleton.1 hy]
    exact ⟨rfl, by simp [AV.cells, AV.one, cmAV]⟩) (by simp [AV.cells, cmAV]) (by simp; omega)
  have e : L.map cmAV ++ [cmAV x] = (L ++ [x]).map cmAV := by simp
  rw [e] at hA'
  obtain ⟨jo, rfl⟩ : ∃ jo, o' = some jo := by
    cases o' with
    | none => exact absurd hA'.val.2 (by simp)
    | some jo => exact ⟨jo, rfl⟩
  exact ⟨v', g', jo, he, hA', by rw [hA'.val.1]; simp⟩
theorem appM2 {S g : Heap} {v : AV} {L : List Cm} {o : Option Nat} (hA : Acc S g 3 v (L.map cmAV) o) (x : Cm) (hl : L.length ≤ 2 ^ 30) :
    ∃ v' g' jo, aappend Tryz.prog #[118, 118] v (.arr 3 (S.length + g.length) 0 1) (S ++ (g ++ [.cells [.int .i64 x.house, .int .i64 x.notice, .bool x.heard]])) = some (v', S ++ g') ∧ Acc S g' 3 v' ((L ++ [x]).map cmAV) (some jo) ∧ v' = .arr 3 (S.length + jo) 0 (L.length + 1) ∧ (∀ j, some j ≠ o → j < g.length → g'[j]? = g[j]?) ∧ (some jo = o ∨ g.length ≤ jo) := by
  obtain ⟨v', g', o', he, hA', hlen, hkeep, ho⟩ := hA.push (P := Tryz.prog) (t := 118) (e := 122) (ag := true) (x := cmAV x) (by simp) (by simp) (by simp) (by omega) ⟨rfl, by simp [AV.cells, AV.one, cmAV]⟩ (by simp; omega)
  have e : L.map cmAV ++ [cmAV x] = (L ++ [x]).map cmAV := by simp
  rw [e] at hA'
  obtain ⟨jo, rfl⟩ : ∃ jo, o' = some jo := by
    cases o' with
    | none => exact absurd hA'.val.2 (by simp)
    | some jo => exact ⟨jo, rfl⟩
  refine ⟨v', g', jo, he, hA', by rw [hA'.val.1]; simp, hkeep, ?_⟩
  rcases ho with h | ⟨m, h1, h⟩
  · exact .inl h
  · exact .inr (by simp at h; omega)
theorem appC2 {S g : Heap} {v : AV} {L : List Cr} {o : Option Nat} (hA : Acc S g 3 v (L.map crAV) o) (x : Cr) (hl : L.length ≤ 2 ^ 30) :
    ∃ v' g' jo, aappend Tryz.prog #[98, 98] v (.arr 3 (S.length + g.length) 0 1) (S ++ (g ++ [.cells [.int .i64 x.hour, .int .i64 x.stand, .int .i64 x.notice]])) = some (v', S ++ g') ∧ Acc S g' 3 v' ((L ++ [x]).map crAV) (some jo) ∧ v' = .arr 3 (S.length + jo) 0 (L.length + 1) := by
  obtain ⟨v', g', o', he, hA', hlen, hkeep, ho⟩ := hA.push (P := Tryz.prog) (t := 98) (e := 108) (ag := true) (x := crAV x) (by simp) (by simp) (by simp) (by omega) ⟨rfl, by simp [AV.cells, AV.one, crAV]⟩ (by simp; omega)
  have e : L.map crAV ++ [crAV x] = (L ++ [x]).map crAV := by simp
  rw [e] at hA'
  obtain ⟨jo, rfl⟩ : ∃ jo, o' = some jo := by
    cases o' with
    | none => exact absurd hA'.val.2 (by simp)
    | some jo => exact ⟨jo, rfl⟩
  exact ⟨v', g', jo, he, hA', by rw [hA'.val.1]; simp⟩
theorem appR {S g : Heap} {v : AV} {L : List Oyez.Rec} {o : Option Nat} (hA : Acc S g 3 v (L.map recAV) o) (x : Oyez.Rec) (hl : L.length ≤ 2 ^ 30) :
    ∃ v' g' jo, aappend Tryz.prog #[57, 57] v (.pl 3 [recAV x]) (S ++ g) = some (v', S ++ g') ∧ Acc S g' 3 v' ((L ++ [x]).map recAV) (some jo) ∧ v' = .arr 3 (S.length + jo) 0 (L.length + 1) := by
  obtain ⟨v', g', o', he, hA', hlen, hkeep, ho⟩ := hA.app (P := Tryz.prog) (t := 57) (e := 88) (ag := true) (ys := [recAV x]) (y := .pl 3 [recAV x]) (by simp) (by simp) (by simp) (by omega) (fun y hy => by
    rw [List.mem_singleton.1 hy]
    exact ⟨rfl, by simp [AV.cells, AV.one, recAV]⟩) (by simp [AV.cells, recAV]) (by simp; omega)
  have e : L.map recAV ++ [recAV x] = (L ++ [x]).map recAV := by simp
  rw [e] at hA'
  obtain ⟨jo, rfl⟩ : ∃ jo, o' = some jo := by
    cases o' with
    | none => exact absurd hA'.val.2 (by simp)
    | some jo => exact ⟨jo, rfl⟩
  exact ⟨v', g', jo, he, hA', by rw [hA'.val.1]; simp⟩
/-- a row of cells that hold plain things, as it is seen once it is whole -/
theorem Acc.vwk {σ g : Heap} {k : Nat} {v : AV} {l : List AV} {o : Option Nat} (h : Acc σ g k v l o) {p : Nat → Bool} (hp : ∀ r, σ.length ≤ r → p r = true) (hk : 0 < k) (hf : ∀ x ∈ l, ∀ y ∈ x.cells, ∀ S, Fz 0 S y y) : Vw p (σ ++ g) v (.pl k l) := by
  have hv := h.val
  cases o with
  | none =>
    obtain ⟨rfl, e⟩ := hv
    rw [e]
    exact .inr (.nils_pl k)
  | some jo =>
    obtain ⟨rfl, hjo⟩ := hv
    have hT : (σ ++ g)[σ.length + jo]? = some (.cells (l.flatMap AV.cells)) := by rw [List.getElem?_append_right (by omega), Nat.add_sub_cancel_left]; exact hjo
    refine .inr (.arr k _ 0 _ l (fun i j => (((l[i]?).getD .any).cells[j]?).getD .any) (Nat.zero_le _) (barP_get hT (hp _ (by omega))) (fun i x hx => ?_) fun i x hx j y hy => ?_)
    · have hm := List.mem_of_getElem? hx
      refine ⟨(h.len x hm).1, fun j y hy => ⟨(h.len x hm).2 y (List.mem_of_getElem? hy), ?_⟩⟩
      have hjl := (List.getElem?_eq_some_iff.1 hy).1
      rw [(h.len x hm).1] at hjl
      rw [flat_get l (fun x hx => (h.len x hx).1) hk, show (0 + i) * k + j = j + k * i by rw [Nat.zero_add, Nat.mul_comm, Nat.add_comm], Nat.add_mul_div_left _ _ hk, Nat.div_eq_of_lt hjl, Nat.zero_add, Nat.add_mul_mod_self_left, Nat.mod_eq_of_lt hjl, hx]
      show x.cells[j]? = some ((x.cells[j]?).getD .any)
      rw [hy]
      rfl
    · rw [hx]
      simp only [Option.getD_some, hy]
      exact hf x (List.mem_of_getElem? hx) y (List.mem_of_getElem? hy) _
end Ab

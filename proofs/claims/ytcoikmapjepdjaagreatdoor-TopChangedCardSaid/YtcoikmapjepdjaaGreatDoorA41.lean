/-
  echo.Distance: how far two texts are from each other.
-/
import Derived.Test.YtcoikmapjepdjaaGreatDoorA11
import Derived.Test.YtcoikmapjepdjaaGreatDoorA13
import Derived.Test.YtcoikmapjepdjaaGreatDoorA18
import Derived.Test.YtcoikmapjepdjaaGreatDoorA40
set_option linter.unusedSimpArgs false
set_option linter.unusedVariables false
set_option linter.unusedSectionVars false
namespace Ab
open Go Go.RowKit Go.Proofs
/-- numbers, as a row that is never written again -/
def intsAV (l : List Int) : AV := .pl 1 (l.map fun x => .int .i64 x)
def rowsAV (l : List (List Int)) : AV := .pl 1 (l.map fun x => intsAV x)
/-- the first element for which it holds -/
def idxI {α : Type} (l : List α) (p : α → Bool) : Int := match l.findIdx? p with | some i => i | none => -1
theorem take_false {α : Type} {l : List α} {p : α → Bool} {i : Nat} (h : i < l.length) (hd : ∀ x ∈ l.take i, p x = false) (hx : p l[i] = false) : ∀ x ∈ l.take (i + 1), p x = false := by
  intro x hm
  rw [List.take_succ_eq_append_getElem h] at hm
  rcases List.mem_append.1 hm with hm | hm
  · exact hd x hm
  · rw [List.mem_singleton.1 hm]; exact hx
theorem idxI_at {α : Type} {l : List α} {p : α → Bool} {i : Nat} (h : i < l.length) (hd : ∀ x ∈ l.take i, p x = false) (hx : p l[i] = true) : idxI l p = i := by
  unfold idxI
  have : l.findIdx? p = some i := by
    rw [List.findIdx?_eq_some_iff_getElem]
    refine ⟨h, hx, fun j hj => ?_⟩
    have := hd l[j] (by rw [List.mem_iff_getElem]; exact ⟨j, by simp; omega, by simp⟩)
    simp [this]
  rw [this]
theorem idxI_none {α : Type} {l : List α} {p : α → Bool} (hd : ∀ x ∈ l, p x = false) : idxI l p = -1 := by
  unfold idxI
  have : l.findIdx? p = none := by rw [List.findIdx?_eq_none_iff]; exact hd
  rw [this]
theorem idxI_any {α : Type} (l : List α) (p : α → Bool) : decide (0 ≤ idxI l p) = l.any p := by
  unfold idxI
  rw [← List.findIdx?_isSome]
  cases l.findIdx? p <;> simp
theorem any_not {α : Type} (l : List α) (p : α → Bool) : (!(l.any fun x => !p x)) = l.all p := by
  rw [List.all_eq_not_any_not]
attribute [local irreducible] aws awp aw1 Og Om Oc Oa Ogd Ov Ot awd aw1d awh aw1h Ogh Ohd awl Ogl Ohl awv Ogv Ohv QThen QBlock QFn QFnM QRo QBe ACode AYield
theorem idxf_int (l : List (Int)) (p : Int → Bool) (h : FuncId) (fs cs : List AV) (hl : l.length ≤ 2 ^ 40) (σ : Heap) (hc : ∀ x ∈ l, ACalls Tryz.prog h (fs ++ [AV.int .i64 x] ++ cs) σ fun v s => v = .bool (p x) ∧ s = σ) :
    ACalls Tryz.prog 152 [.pl 1 (l.map fun x => AV.int .i64 x), .fn (.func h) fs cs] σ fun v s => v = .int .i64 (idxI l p) ∧ s = σ := by
  refine acalls_fn Tryz.func152 rfl (enters_fn Tryz.func152 (by decide) rfl) ?_
  simp [Tryz.ntmps152]
  refine ACode_loopT (fun env σ' => ∃ (u : List AV) (i : Nat), env = { t := u } ∧ u.length = 19 ∧ tg u 0 = .pl 1 (l.map fun x => AV.int .i64 x) ∧ tg u 1 = .fn (.func h) fs cs ∧ tg u 7 = .int .i64 l.length ∧ tg u 8 = .int .i64 i ∧ σ' = σ ∧ i ≤ l.length ∧ ∀ x ∈ l.take i, p x = false)
    (fun env _ => match tg env.t 8 with | .int _ i => l.length - i.toNat | _ => 0) ⟨_, 0, rfl, by simp, by simp, by simp, by simp, by simp, rfl, by omega, fun x hx => by simp at hx⟩ ?_
  rintro env σ' ⟨u, i, rfl, hl0, g0, g1, g7, g8, rfl, hi, hd⟩
  rcases Nat.lt_or_ge i l.length with hlt | hge
  · have hlt' : (i : Int) < (l.length : Int) := by omega
    simp [hl0, g0, g1, g7, g8, hlt', hlt]
    have hci := hc _ (List.getElem_mem hlt)
    simp only [List.append_assoc, List.cons_append, List.nil_append] at hci
    refine StA.of (hci.mono ?_)
    rintro v σ'' ⟨rfl, rfl⟩
    cases hx : p l[i] with
    | false =>
      have hw1 := w64 (n := (i : Int) + 1) (by omega) (by omega)
      simp [hl0, g0, g1, g7, g8, hw1]
      exact ⟨⟨i + 1, by simp, hlt, take_false hlt hd hx⟩, by omega⟩
    | true =>
      simp [hl0, g0, g1, g7, g8, idxI_at hlt hd hx]
  · have hge' : ¬ (i : Int) < (l.length : Int) := by omega
    rw [List.take_of_length_le hge] at hd
    simp [hl0, g0, g1, g7, g8, hge', idxI_none hd]
theorem contf_int (l : List (Int)) (p : Int → Bool) (h : FuncId) (fs cs : List AV) (hl : l.length ≤ 2 ^ 40) (σ : Heap) (hc : ∀ x ∈ l, ACalls Tryz.prog h (fs ++ [AV.int .i64 x] ++ cs) σ fun v s => v = .bool (p x) ∧ s = σ) :
    ACalls Tryz.prog 184 [.pl 1 (l.map fun x => AV.int .i64 x), .fn (.func h) fs cs] σ fun v s => v = .bool (l.any p) ∧ s = σ := by
  refine acalls_fn Tryz.func184 rfl (enters_fn Tryz.func184 (by decide) rfl) ?_
  simp [Tryz.ntmps184]
  refine StA.of ((idxf_int l p h fs cs hl σ hc).mono ?_)
  rintro v σ' ⟨rfl, rfl⟩
  simp [idxI_any]
theorem idxf_row (l : List (List Int)) (p : List Int → Bool) (h : FuncId) (fs cs : List AV) (hl : l.length ≤ 2 ^ 40) (σ : Heap) (hc : ∀ x ∈ l, ACalls Tryz.prog h (fs ++ [AV.pl 1 (x.map fun y => AV.int .i64 y)] ++ cs) σ fun v s => v = .bool (p x) ∧ s = σ) :
    ACalls Tryz.prog 253 [.pl 1 (l.map fun x => AV.pl 1 (x.map fun y => AV.int .i64 y)), .fn (.func h) fs cs] σ fun v s => v = .int .i64 (idxI l p) ∧ s = σ := by
  refine acalls_fn Tryz.func253 rfl (enters_fn Tryz.func253 (by decide) rfl) ?_
  simp [Tryz.ntmps253]
  refine ACode_loopT (fun env σ' => ∃ (u : List AV) (i : Nat), env = { t := u } ∧ u.length = 19 ∧ tg u 0 = .pl 1 (l.map fun x => AV.pl 1 (x.map fun y => AV.int .i64 y)) ∧ tg u 1 = .fn (.func h) fs cs ∧ tg u 7 = .int .i64 l.length ∧ tg u 8 = .int .i64 i ∧ σ' = σ ∧ i ≤ l.length ∧ ∀ x ∈ l.take i, p x = false)
    (fun env _ => match tg env.t 8 with | .int _ i => l.length - i.toNat | _ => 0) ⟨_, 0, rfl, by simp, by simp, by simp, by simp, by simp, rfl, by omega, fun x hx => by simp at hx⟩ ?_
  rintro env σ' ⟨u, i, rfl, hl0, g0, g1, g7, g8, rfl, hi, hd⟩
  rcases Nat.lt_or_ge i l.length with hlt | hge
  · have hlt' : (i : Int) < (l.length : Int) := by omega
    simp [hl0, g0, g1, g7, g8, hlt', hlt]
    have hci := hc _ (List.getElem_mem hlt)
    simp only [List.append_assoc, List.cons_append, List.nil_append] at hci
    refine StA.of (hci.mono ?_)
    rintro v σ'' ⟨rfl, rfl⟩
    cases hx : p l[i] with
    | false =>
      have hw1 := w64 (n := (i : Int) + 1) (by omega) (by omega)
      simp [hl0, g0, g1, g7, g8, hw1]
      exact ⟨⟨i + 1, by simp, hlt, take_false hlt hd hx⟩, by omega⟩
    | true =>
      simp [hl0, g0, g1, g7, g8, idxI_at hlt hd hx]
  · have hge' : ¬ (i : Int) < (l.length : Int) := by omega
    rw [List.take_of_length_le hge] at hd
    simp [hl0, g0, g1, g7, g8, hge', idxI_none hd]
theorem contf_row (l : List (List Int)) (p : List Int → Bool) (h : FuncId) (fs cs : List AV) (hl : l.length ≤ 2 ^ 40) (σ : Heap) (hc : ∀ x ∈ l, ACalls Tryz.prog h (fs ++ [AV.pl 1 (x.map fun y => AV.int .i64 y)] ++ cs) σ fun v s => v = .bool (p x) ∧ s = σ) :
    ACalls Tryz.prog 182 [.pl 1 (l.map fun x => AV.pl 1 (x.map fun y => AV.int .i64 y)), .fn (.func h) fs cs] σ fun v s => v = .bool (l.any p) ∧ s = σ := by
  refine acalls_fn Tryz.func182 rfl (enters_fn Tryz.func182 (by decide) rfl) ?_
  simp [Tryz.ntmps182]
  refine StA.of ((idxf_row l p h fs cs hl σ hc).mono ?_)
  rintro v σ' ⟨rfl, rfl⟩
  simp [idxI_any]
theorem every_eint (l : List (Int)) (p : Int → Bool) (h : FuncId) (fs cs : List AV) (hl : l.length ≤ 2 ^ 40) (σ : Heap) (hc : ∀ x ∈ l, ∀ g : Heap, ACalls Tryz.prog h (fs ++ [AV.int .i64 x] ++ cs) (σ ++ g) fun v s => v = .bool (p x) ∧ s = σ ++ g) :
    ACalls Tryz.prog 245 [.pl 1 (l.map fun x => AV.int .i64 x), .fn (.func h) fs cs] σ fun v s => v = .bool (l.all p) ∧ s = σ := by
  refine ACalls.forget ?_
  refine acalls_fn Tryz.func245 rfl (enters_fn Tryz.func245 (by decide) rfl) ?_
  simp [Tryz.ntmps245]
  refine StA.of ((contf_int l (fun x => !p x) 300 [] [.ptr σ.length 0] hl _ fun x hx => ?_).mono ?_)
  · refine acalls_fn Tryz.func300 rfl (enters_fn Tryz.func300 (by decide) rfl) ?_
    simp [Tryz.ntmps300]
    have hci := hc x hx [.cells [.fn (.func h) fs cs]]
    simp only [List.append_assoc, List.cons_append, List.nil_append] at hci
    refine StA.of (hci.mono ?_)
    rintro v s ⟨rfl, rfl⟩
    simp
  · rintro v s ⟨rfl, rfl⟩
    simp [any_not]
theorem every_erow (l : List (List Int)) (p : List Int → Bool) (h : FuncId) (fs cs : List AV) (hl : l.length ≤ 2 ^ 40) (σ : Heap) (hc : ∀ x ∈ l, ∀ g : Heap, ACalls Tryz.prog h (fs ++ [AV.pl 1 (x.map fun y => AV.int .i64 y)] ++ cs) (σ ++ g) fun v s => v = .bool (p x) ∧ s = σ ++ g) :
    ACalls Tryz.prog 248 [.pl 1 (l.map fun x => AV.pl 1 (x.map fun y => AV.int .i64 y)), .fn (.func h) fs cs] σ fun v s => v = .bool (l.all p) ∧ s = σ := by
  refine ACalls.forget ?_
  refine acalls_fn Tryz.func248 rfl (enters_fn Tryz.func248 (by decide) rfl) ?_
  simp [Tryz.ntmps248]
  refine StA.of ((contf_row l (fun x => !p x) 301 [] [.ptr σ.length 0] hl _ fun x hx => ?_).mono ?_)
  · refine acalls_fn Tryz.func301 rfl (enters_fn Tryz.func301 (by decide) rfl) ?_
    simp [Tryz.ntmps301]
    have hci := hc x hx [.cells [.fn (.func h) fs cs]]
    simp only [List.append_assoc, List.cons_append, List.nil_append] at hci
    refine StA.of (hci.mono ?_)
    rintro v s ⟨rfl, rfl⟩
    simp
  · rintro v s ⟨rfl, rfl⟩
    simp [any_not]
theorem ein_calls (n lo hi : Int) : APure Tryz.prog 247 [.int .i64 n, .int .i64 lo, .int .i64 hi] (.bool (decide (lo ≤ n) && decide (n ≤ hi))) := by
  intro σ
  refine acalls_fn Tryz.func247 rfl (enters_fn Tryz.func247 (by decide) rfl) ?_
  simp [Tryz.ntmps247]
  by_cases h : lo ≤ n <;> by_cases h2 : n ≤ hi <;> simp [h, h2]
theorem emost_calls (n m : Int) : APure Tryz.prog 178 [.int .i64 n, .pl 1 [.int .i64 m]] (.int .i64 (max n m)) := by
  intro σ
  refine acalls_fn Tryz.func178 rfl (enters_fn Tryz.func178 (by decide) rfl) ?_
  simp [Tryz.ntmps178]
  refine ACode_loopT (fun env σ' => ∃ (u : List AV) (i : Nat), env = { t := u } ∧ u.length = 18 ∧ tg u 0 = .int .i64 (if i = 0 then n else max n m) ∧ tg u 7 = .pl 1 [.int .i64 m] ∧ tg u 8 = .int .i64 1 ∧ tg u 9 = .int .i64 i ∧ σ' = σ ∧ i ≤ 1)
    (fun env _ => match tg env.t 9 with | .int _ i => 1 - i.toNat | _ => 0) ⟨_, 0, rfl, by simp, by simp, by simp, by simp, by simp, rfl, by omega⟩ ?_
  rintro env σ' ⟨u, i, rfl, hl, g0, g7, g8, g9, rfl, hi⟩
  rcases Nat.lt_or_ge i 1 with h | h
  · obtain rfl : i = 0 := by omega
    have hw1 := w64 (n := 1) (by omega) (by omega)
    simp [hl, g0, g7, g8, g9, hw1]
    refine ⟨1, ?_, rfl, by omega⟩
    rw [if_neg (show ¬ (1 : Nat) = 0 by omega)]
    split <;> omega
  · obtain rfl : i = 1 := by omega
    simp [hl, g0, g7, g8, g9]
/-- every word is right -/
def eword (w : Int) : Bool := decide (0 ≤ w) && decide (w ≤ 9)
theorem eword_calls (w : Int) : APure Tryz.prog 246 [.int .i64 w] (.bool (eword w)) := by
  intro σ
  refine acalls_fn Tryz.func246 rfl (enters_fn Tryz.func246 (by decide) rfl) ?_
  simp [Tryz.ntmps246]
  refine (ein_calls _ _ _).use ?_
  simp [eword]
theorem ewords_calls (l : List Int) (hl : l.length ≤ 2 ^ 40) : APure Tryz.prog 244 [.pl 1 (l.map fun y => AV.int .i64 y)] (.bool (l.all eword)) := by
  intro σ
  refine acalls_fn Tryz.func244 rfl (enters_fn Tryz.func244 (by decide) rfl) ?_
  simp [Tryz.ntmps244]
  refine StA.of ((every_eint l eword 246 [] [] hl σ fun x _ g => eword_calls x _).mono ?_)
  rintro v s ⟨rfl, rfl⟩
  simp
theorem elen_calls (l : List Int) (hl : l.length ≤ 2 ^ 40) : APure Tryz.prog 249 [.pl 1 (l.map fun y => AV.int .i64 y)] (.bool (decide (1 ≤ (l.length : Int)) && decide ((l.length : Int) ≤ 6))) := by
  intro σ
  refine acalls_fn Tryz.func249 rfl (enters_fn Tryz.func249 (by decide) rfl) ?_
  simp [Tryz.ntmps249]
  refine (ein_calls _ _ _).use ?_
  simp
/-- numbers, as they lie in rows -/
abbrev R1 (l : List Int) : AV := .pl 1 (l.map fun y => AV.int .i64 y)
theorem echeck_calls (x y : List Int) (hx : 1 ≤ x.length ∧ x.length ≤ 6) (hy : 1 ≤ y.length ∧ y.length ≤ 6) (wx : x.all eword = true) (wy : y.all eword = true) :
    APure Tryz.prog 176 [.agg [.pl 1 [R1 x, R1 y], .pl 1 [], .int .i64 0]] (.int .i64 0) := by
  refine APure.of fun σ => ?_
  refine acalls_fn Tryz.func176 rfl (enters_fn Tryz.func176 (by decide) rfl) ?_
  have e1 := every_erow [x, y] (fun l => decide (1 ≤ (l.length : Int)) && decide ((l.length : Int) ≤ 6)) 249 [] [] (by simp)
  have e2 := every_erow [x, y] (fun l => l.all eword) 244 [] [] (by simp)
  have e3 : ([x, y].all fun l => decide (1 ≤ (l.length : Int)) && decide ((l.length : Int) ≤ 6)) = true := by
    simp; omega
  have e4 : ([x, y].all fun l => l.all eword) = true := by simp only [List.all_cons, List.all_nil, wx, wy]; rfl
  rw [e3] at e1
  rw [e4] at e2
  have hm : ∀ r ∈ [x, y], r.length ≤ 2 ^ 40 := by simp; omega
  simp [Tryz.ntmps176]
  refine (ein_calls _ _ _).use ?_
  simp
  refine StA.of ((e1 _ fun r hr g => elen_calls r (hm r hr) _).mono ?_)
  rintro v s ⟨rfl, rfl⟩
  simp
  refine StA.of ((e2 _ fun r hr g => ewords_calls r (hm r hr) _).mono ?_)
  rintro v s ⟨rfl, rfl⟩
  simp
  refine (ewords_calls [] (by simp)).use ?_
  simp
  refine (ein_calls _ _ _).use ?_
  simp
theorem etext_calls (x y : List Int) (n : Int) : APure Tryz.prog 177 [.agg [.pl 1 [R1 x, R1 y], .pl 1 [], .int .i64 0], .int .i64 n] (.bool (decide (0 ≤ n) && decide (n ≤ 1))) := by
  refine APure.of fun σ => ?_
  refine acalls_fn Tryz.func177 rfl (enters_fn Tryz.func177 (by decide) rfl) ?_
  have hw1 := w64 (n := 1) (by omega) (by omega)
  simp [Tryz.ntmps177, hw1]
  refine (ein_calls _ _ _).use ?_
  simp
theorem eopened_calls (x y : List Int) (hx : 1 ≤ x.length ∧ x.length ≤ 6) (hy : 1 ≤ y.length ∧ y.length ≤ 6) (wx : x.all eword = true) (wy : y.all eword = true) (σ : Heap) :
    ACalls Tryz.prog 101 [.agg [.pl 1 [R1 x, R1 y], .pl 1 [], .int .i64 0], .agg [.int .i64 0, .int .i64 1]] σ fun v s => v = .tup [.ptr (σ.length + 2) 0, .int .i64 0] ∧
      s = σ ++ [.cells [.pl 1 [R1 x, R1 y], .pl 1 [], .int .i64 0], .cells [.int .i64 0, .int .i64 1], .cells [.pl 1 [R1 x, R1 y], .pl 1 [], .int .i64 0, R1 x, R1 y]] := by
  refine acalls_fn Tryz.func101 rfl (enters_fn Tryz.func101 (by decide) rfl) ?_
  simp [Tryz.ntmps101]
  refine (echeck_calls x y hx hy wx wy).use ?_
  simp
  refine (etext_calls x y 0).use ?_
  simp
  refine (etext_calls x y 1).use ?_
  simp
  refine ACode_drawL [14] [] mixed (by kernel_rfl) (by kernel_rfl) ?_
  simp
/-! ### the common words -/
/-- a table of numbers -/
def grid (f : Nat → Nat → Int) : List AV := (List.range 49).map fun n => AV.int .i64 (f (n / 7) (n % 7))
theorem grid_get (f : Nat → Nat → Int) {i k : Nat} (hi : i < 7) (hk : k < 7) : (grid f)[i * 7 + k]? = some (.int .i64 (f i k)) := by
  unfold grid
  rw [List.getElem?_map, List.getElem?_range (by omega)]
  simp only [Option.map_some, Option.some.injEq, AV.int.injEq, true_and]
  rw [show (i * 7 + k) / 7 = i from by omega, show (i * 7 + k) % 7 = k from by omega]
theorem grid_len (f : Nat → Nat → Int) : (grid f).length = 49 := by simp [grid]
theorem grid_wr (f : Nat → Nat → Int) {i k : Nat} (hi : i < 7) (hk : k < 7) (v : Int) : (grid f).take (i * 7 + k) ++ AV.int .i64 v :: (grid f).drop (i * 7 + k + 1) = grid fun i' k' => if i' = i ∧ k' = k then v else f i' k' := by
  refine List.ext_getElem? fun n => ?_
  have hl := grid_len f
  rw [List.getElem?_append, List.length_take, Nat.min_eq_left (by omega)]
  rcases Nat.lt_or_ge n 49 with hn | hn
  · have e : ∀ g : Nat → Nat → Int, (grid g)[n]? = some (.int .i64 (g (n / 7) (n % 7))) := fun g => by
      unfold grid
      rw [List.getElem?_map, List.getElem?_range hn]; rfl
    rw [e]
    split
    · rw [List.getElem?_take_of_lt (by omega), e]
      rw [if_neg (by omega)]
    · rename_i h
      rcases Nat.eq_or_lt_of_le (Nat.le_of_not_lt h) with h1 | h1
      · rw [← h1, Nat.sub_self, List.getElem?_cons_zero, if_pos (by omega)]
      · obtain ⟨m, hm⟩ : ∃ m, n - (i * 7 + k) = m + 1 := ⟨n - (i * 7 + k) - 1, by omega⟩
        rw [hm, List.getElem?_cons_succ, List.getElem?_drop, show i * 7 + k + 1 + m = n from by omega, e, if_neg (by omega)]
  · have e2 : (grid fun i' k' => if i' = i ∧ k' = k then v else f i' k')[n]? = none := List.getElem?_eq_none (by rw [grid_len]; omega)
    rw [e2, if_neg (by omega), List.getElem?_eq_none]
    simp [hl]
    omega
theorem tz281 : tz Tryz.prog 281 = some (.agg (grid fun _ _ => 0)) := by kernel_rfl
/-- how many words two lists have in common behind so many -/
def comL (a b : List Int) (i k : Nat) : Int := Oyez.lcs (a.drop i) (b.drop k)
theorem comL_out (a b : List Int) (i k : Nat) (h : a.length ≤ i ∨ b.length ≤ k) : comL a b i k = 0 := by
  unfold comL
  rcases h with h | h
  · rw [List.drop_of_length_le h, Oyez.lcs_nil]; rfl
  · rw [List.drop_of_length_le h, Oyez.lcs_nil']; rfl
theorem comL_step (a b : List Int) {i k : Nat} (hi : i < a.length) (hk : k < b.length) : comL a b i k = if a[i] = b[k] then max (max (comL a b (i + 1) k) (comL a b i (k + 1))) (comL a b (i + 1) (k + 1) + 1) else max (comL a b (i + 1) k) (comL a b i (k + 1)) := by
  have h1 : a.drop i = a[i] :: a.drop (i + 1) := List.drop_eq_getElem_cons hi
  have h2 : b.drop k = b[k] :: b.drop (k + 1) := List.drop_eq_getElem_cons hk
  have := Oyez.lcs_cons a[i] b[k] (a.drop (i + 1)) (b.drop (k + 1))
  unfold comL
  rw [h1, h2, this]
  split <;> omega
theorem comL_same (a b : List Int) {i k : Nat} (hi : i < a.length) (hk : k < b.length) (h : a[i] = b[k]) : comL a b i k = comL a b (i + 1) (k + 1) + 1 := by
  have h1 : a.drop i = a[i] :: a.drop (i + 1) := List.drop_eq_getElem_cons hi
  have h2 : b.drop k = b[k] :: b.drop (k + 1) := List.drop_eq_getElem_cons hk
  unfold comL
  rw [h1, h2, h, Oyez.lcs_same]
  omega
/-- the table when so much is told -/
def comG (a b : List Int) (i k : Int) : Nat → Nat → Int := fun i' k' => if i < i' ∨ ((i' : Int) = i ∧ k < k') then comL a b i' k' else 0
theorem grid_congr {f g : Nat → Nat → Int} (h : ∀ i k, i < 7 → k < 7 → f i k = g i k) : grid f = grid g := by
  unfold grid
  refine List.map_congr_left fun n hn => ?_
  rw [List.mem_range] at hn
  rw [h _ _ (by omega) (by omega)]
theorem comG_start (a b : List Int) : grid (fun _ _ => 0) = grid (comG a b ((a.length : Int) - 1) 6) := by
  refine grid_congr fun i k _ _ => ?_
  unfold comG
  split
  · rw [comL_out]; omega
  · rfl
theorem comG_row (a b : List Int) (i : Int) : grid (comG a b i 6) = grid (comG a b i ((b.length : Int) - 1)) := by
  refine grid_congr fun i' k' _ _ => ?_
  unfold comG
  by_cases h : i < i' ∨ ((i' : Int) = i ∧ (b.length : Int) - 1 < k')
  · rw [if_pos h]
    by_cases h2 : i < i' ∨ ((i' : Int) = i ∧ (6 : Int) < k')
    · rw [if_pos h2]
    · rw [if_neg h2, comL_out]; omega
  · rw [if_neg h, if_neg]; omega
theorem comG_next (a b : List Int) (i : Int) : grid (comG a b i (-1)) = grid (comG a b (i - 1) 6) := by
  refine grid_congr fun i' k' _ _ => ?_
  unfold comG
  by_cases h : i < i' ∨ ((i' : Int) = i ∧ (-1 : Int) < k')
  · rw [if_pos h, if_pos]; omega
  · rw [if_neg h, if_neg]; omega
theorem comG_get (a b : List Int) (i k : Int) {i' k' : Nat} (h : i < i' ∨ ((i' : Int) = i ∧ k < k')) : comG a b i k i' k' = comL a b i' k' := by
  unfold comG; rw [if_pos h]
theorem comG_put (a b : List Int) (i k : Nat) : (fun i' k' => if i' = i ∧ k' = k then comL a b i k else comG a b i k i' k') = comG a b i ((k : Int) - 1) := by
  funext i' k'
  unfold comG
  by_cases h : i' = i ∧ k' = k
  · obtain ⟨rfl, rfl⟩ := h
    rw [if_pos ⟨rfl, rfl⟩, if_pos]; omega
  · rw [if_neg h]
    by_cases h2 : (i : Int) < i' ∨ ((i' : Int) = i ∧ (k : Int) < k')
    · rw [if_pos h2, if_pos]; omega
    · rw [if_neg h2, if_neg]; omega
theorem comG_put2 (a b : List Int) (i k : Nat) (v : Int) : (fun i' k' => if i' = i ∧ k' = k then comL a b i k else (fun i' k' => if i' = i ∧ k' = k then v else comG a b i k i' k') i' k') = comG a b i ((k : Int) - 1) := by
  rw [← comG_put]
  funext i' k'
  by_cases h : i' = i ∧ k' = k
  · simp only [if_pos h]
  · simp only [if_neg h]
/-- the common words that are found, from a place in both on -/
def etr (a b : List Int) : Nat → Nat → Nat → List Int
  | 0, _, _ => []
  | n + 1, i, k => if h : i < a.length ∧ k < b.length then (if a[i] = b[k] then a[i] :: etr a b n (i + 1) (k + 1) else if comL a b i (k + 1) ≤ comL a b (i + 1) k then etr a b n (i + 1) k else etr a b n i (k + 1)) else []
theorem etr_len (a b : List Int) : ∀ (n i k : Nat), (a.length - i) + (b.length - k) ≤ n → ((etr a b n i k).length : Int) = comL a b i k := by
  intro n
  induction n with
  | zero => intro i k h; rw [comL_out]; rfl; omega
  | succ n ih =>
    intro i k h
    unfold etr
    by_cases h1 : i < a.length ∧ k < b.length
    · rw [dif_pos h1]
      have hs := comL_step a b h1.1 h1.2
      by_cases h2 : a[i] = b[k]
      · rw [if_pos h2, comL_same a b h1.1 h1.2 h2, List.length_cons]
        have := ih (i + 1) (k + 1) (by omega)
        omega
      · rw [if_neg h2] at hs
        rw [if_neg h2]
        by_cases h3 : comL a b i (k + 1) ≤ comL a b (i + 1) k
        · rw [if_pos h3, ih _ _ (by omega)]; omega
        · rw [if_neg h3, ih _ _ (by omega)]; omega
    · rw [dif_neg h1, comL_out]; rfl; omega
theorem etr_fuel (a b : List Int) : ∀ (n m i k : Nat), (a.length - i) + (b.length - k) ≤ n → (a.length - i) + (b.length - k) ≤ m → etr a b n i k = etr a b m i k := by
  intro n
  induction n with
  | zero =>
    intro m i k h1 h2
    have : ¬ (i < a.length ∧ k < b.length) := by omega
    cases m with
    | zero => rfl
    | succ m => unfold etr; rw [dif_neg this]
  | succ n ih =>
    intro m i k h1 h2
    cases m with
    | zero =>
      have : ¬ (i < a.length ∧ k < b.length) := by omega
      unfold etr; rw [dif_neg this]
    | succ m =>
      unfold etr
      by_cases h : i < a.length ∧ k < b.length
      · rw [dif_pos h, dif_pos h, ih m (i + 1) (k + 1) (by omega) (by omega), ih m (i + 1) k (by omega) (by omega), ih m i (k + 1) (by omega) (by omega)]
      · rw [dif_neg h, dif_neg h]
theorem abox_grid (f : Nat → Nat → Int) (σ : Heap) : abox (.agg (grid f)) σ = some (.ptr σ.length 0, σ ++ [.cells (grid f)]) := by
  unfold abox
  rw [if_pos]
  · rfl
  · show (grid f).all AV.one = true
    unfold grid
    rw [List.all_map, List.all_eq_true]
    intro n _
    rfl
theorem Acc.under {σ g : Heap} {X : AObj} {k : Nat} {v : AV} {l : List AV} {o : Option Nat} (h : Acc (σ ++ [X]) g k v l o) : Acc σ (X :: g) k v l (o.map (· + 1)) := ⟨h.len, by
  have hv := h.val
  cases o with
  | none => exact hv
  | some j =>
    simp only [Option.map_some, List.length_append, List.length_singleton, List.getElem?_cons_succ] at hv ⊢
    rw [hv.1, show σ.length + 1 + j = σ.length + (j + 1) from by omega]
    exact ⟨rfl, hv.2⟩⟩
theorem ecommon_calls (a b : List Int) (ha : a.length ≤ 6) (hb : b.length ≤ 6) : APure Tryz.prog 102 [R1 a, R1 b] (R1 (etr a b (a.length + b.length) 0 0)) := by
  refine APure.of fun σ => ?_
  refine acalls_fn Tryz.func102 rfl (enters_fn Tryz.func102 (by decide) rfl) ?_
  have hw1 := w64 (n := (a.length : Int) - 1) (by omega) (by omega)
  have hw2 := w64 (n := (b.length : Int) - 1) (by omega) (by omega)
  simp [Tryz.ntmps102, -n281tz, tz281, hw1, -abox, abox_grid]
  refine ACode_loopT (fun env σ' => ∃ (u : List AV) (i : Int), env = { t := u } ∧ u.length = 121 ∧ tg u 0 = R1 a ∧ tg u 1 = R1 b ∧ tg u 5 = .ptr σ.length 0 ∧ tg u 6 = .int .i64 i ∧ -1 ≤ i ∧ i < a.length ∧ σ' = σ ++ [.cells (grid (comG a b i 6))])
    (fun env _ => match tg env.t 6 with | .int _ i => (i + 1).toNat | _ => 0) ⟨_, (a.length : Int) - 1, rfl, by simp, by simp, by simp, by simp, by simp, by omega, by omega, by rw [← comG_start]⟩ ?_
  · rintro env σ' ⟨u, i, rfl, hl, g0, g1, g5, g6, hi1, hi2, rfl⟩
    by_cases hi : 0 ≤ i
    · obtain ⟨i, rfl⟩ := Int.eq_ofNat_of_zero_le hi
      have hil : i < a.length := by omega
      simp [hl, g0, g1, g5, g6, hw2]
      rw [comG_row]
      refine ACode_loopT (fun env σ' => ∃ (u : List AV) (k : Int), env = { t := u } ∧ u.length = 121 ∧ tg u 0 = R1 a ∧ tg u 1 = R1 b ∧ tg u 5 = .ptr σ.length 0 ∧ tg u 6 = .int .i64 i ∧ tg u 7 = .int .i64 k ∧ -1 ≤ k ∧ k < b.length ∧ σ' = σ ++ [.cells (grid (comG a b i k))])
        (fun env _ => match tg env.t 7 with | .int _ i => (i + 1).toNat | _ => 0) ⟨_, (b.length : Int) - 1, rfl, by simp [hl], by simp [g0], by simp [g1], by simp [g5], by simp [g6], by simp [hl], by omega, by omega, rfl⟩ ?_
      clear g0 g1 g5 g6 hl u
      rintro env σ' ⟨u, k, rfl, hl, g0, g1, g5, g6, g7, hk1, hk2, rfl⟩
      have hwi := w64 (n := (i : Int) + 1) (by omega) (by omega)
      have hwd := w64 (n := (i : Int) - 1) (by omega) (by omega)
      by_cases hk : 0 ≤ k
      · obtain ⟨k, rfl⟩ := Int.eq_ofNat_of_zero_le hk
        have hkl : k < b.length := by omega
        have hwk := w64 (n := (k : Int) + 1) (by omega) (by omega)
        have hwe := w64 (n := (k : Int) - 1) (by omega) (by omega)
        have q1 : 0 ≤ (i : Int) + 1 ∧ (i : Int) + 1 < 7 := by omega
        have q2 : 0 ≤ (k : Int) + 1 ∧ (k : Int) + 1 < 7 := by omega
        have q3 : (i : Int) < 7 := by omega
        have q4 : (k : Int) < 7 := by omega
        have L : ∀ f, (grid f).length = 49 := grid_len
        have r1 : (i + 1) * 7 + k + 1 ≤ 49 := by omega
        have r2 : i * 7 + (k + 1) + 1 ≤ 49 := by omega
        have r3 : i * 7 + k + 1 ≤ 49 := by omega
        have r4 : (i + 1) * 7 + (k + 1) + 1 ≤ 49 := by omega
        have G1 : (grid (comG a b i k))[(i + 1) * 7 + k]? = some (.int .i64 (comL a b (i + 1) k)) := by rw [grid_get _ (by omega) (by omega), comG_get]; omega
        have G2 : (grid (comG a b i k))[i * 7 + (k + 1)]? = some (.int .i64 (comL a b i (k + 1))) := by rw [grid_get _ (by omega) (by omega), comG_get]; omega
        have st := comL_step a b hil hkl
        simp [hl, g0, g1, g5, g6, g7]
        refine ACode_drawL [18] [] mixed (by kernel_rfl) (by kernel_rfl) ?_
        simp [hl, g0, g1, g5, g6, g7, hwi, hwk, q1, q2, q3, q4, L, r1, r2, r3, G1, G2]
        refine Ou_use (emost_calls _ _) ?_
        simp [hl, g0, g1, g5, g6, g7, hwi, hwk, q1, q2, q3, q4, L, r1, r2, r3]
        rw [grid_wr _ (by omega) (by omega)]
        refine ACode_draw0 mixed (by kernel_rfl) ?_
        simp [hl, g0, g1, g5, g6, g7, hil, hkl]
        by_cases hab : a[i] = b[k]
        · rw [if_pos hab] at st
          obtain ⟨v, hv⟩ : ∃ v, max (comL a b (i + 1) k) (comL a b i (k + 1)) = v := ⟨_, rfl⟩
          have G3 : (grid (fun i' k' => if i' = i ∧ k' = k then v else comG a b i k i' k'))[i * 7 + k]? = some (.int .i64 v) := by rw [grid_get _ (by omega) (by omega), if_pos ⟨rfl, rfl⟩]
          have G4 : (grid (fun i' k' => if i' = i ∧ k' = k then v else comG a b i k i' k'))[(i + 1) * 7 + (k + 1)]? = some (.int .i64 (comL a b (i + 1) (k + 1))) := by
            rw [grid_get _ (by omega) (by omega), if_neg (by omega), comG_get]; omega
          have hc0 : 0 ≤ comL a b (i + 1) (k + 1) := by unfold comL; omega
          have hc1 : comL a b (i + 1) (k + 1) ≤ 6 := by
            have := Oyez.lcs_le (a.drop (i + 1)) (b.drop (k + 1))
            unfold comL
            simp at this
            omega
          have hwc := w64 (n := comL a b (i + 1) (k + 1) + 1) (by omega) (by omega)
          simp [hab, hv]
          refine ACode_drawL [19] [] mixed (by kernel_rfl) (by kernel_rfl) ?_
          simp [hl, g0, g1, g5, g6, g7, hwi, hwk, hwc, q1, q2, q3, q4, L, r1, r2, r3, r4, G3, G4]
          refine Ou_use (emost_calls _ _) ?_
          simp [hl, g0, g1, g5, g6, g7, hwi, hwk, hwe, q1, q2, q3, q4, L, r1, r2, r3]
          rw [grid_wr _ (by omega) (by omega)]
          have e : max v (comL a b (i + 1) (k + 1) + 1) = comL a b i k := by omega
          rw [e, comG_put2]
          exact ⟨⟨by omega, by omega, rfl⟩, by omega⟩
        · rw [if_neg hab] at st
          simp [hab, hl, g0, g1, g5, g6, g7, hwe]
          rw [← st, comG_put]
          exact ⟨⟨by omega, by omega, rfl⟩, by omega⟩
      · obtain rfl : k = -1 := by omega
        simp [hl, g0, g1, g5, g6, g7, hwd]
        exact ⟨by omega, by omega, comG_next a b i⟩
    · obtain rfl : i = -1 := by omega
      simp [hl, g0, g1, g5, g6]
      have eG : grid (comG a b (-1) 6) = grid (comL a b) := grid_congr fun i k _ _ => comG_get a b _ _ (by omega)
      rw [eG]
      obtain ⟨N, hN⟩ : ∃ N, a.length + b.length = N := ⟨_, rfl⟩
      rw [hN]
      obtain ⟨E0, hE0⟩ : ∃ E0, etr a b N 0 0 = E0 := ⟨_, rfl⟩
      have hE1 : [] ++ etr a b (N - 0 - 0) 0 0 = E0 := by simpa using hE0
      rw [hE0]
      have gr : ∀ i k, i < 7 → k < 7 → (grid (comL a b))[i * 7 + k]? = some (.int .i64 (comL a b i k)) := fun i k h1 h2 => grid_get _ h1 h2
      obtain ⟨GG, hGG⟩ : ∃ GG, grid (comL a b) = GG := ⟨_, rfl⟩
      have hGl : GG.length = 49 := by rw [← hGG, grid_len]
      rw [hGG] at gr ⊢
      refine ACode_loopT (fun env σ' => ∃ (u : List AV) (i k : Nat) (v : AV) (g : Heap) (o : Option Nat) (c : List Int), env = { t := u } ∧ u.length = 121 ∧ tg u 0 = R1 a ∧ tg u 1 = R1 b ∧ tg u 5 = .ptr σ.length 0 ∧ tg u 8 = v ∧ tg u 9 = .int .i64 i ∧ tg u 10 = .int .i64 k ∧ i ≤ a.length ∧ k ≤ b.length ∧ c.length ≤ i ∧
          Acc (σ ++ [.cells GG]) g 1 v (c.map fun y => AV.int .i64 y) o ∧ c ++ etr a b (N - i - k) i k = E0 ∧ σ' = σ ++ .cells GG :: g)
        (fun env _ => match tg env.t 9, tg env.t 10 with | .int _ i, .int _ k => N - i.toNat - k.toNat | _, _ => 0) ⟨_, 0, 0, .nils, [], none, [], rfl, by simp [hl], by simp [g0], by simp [g1], by simp [g5], by simp [hl], by simp [hl], by simp [hl], by omega, by omega, by simp, .nil _ _ _, hE1, rfl⟩ ?_
      clear g0 g1 g5 g6 hl u
      rintro env σ' ⟨u, i, k, v, g, o, c, rfl, hl, g0, g1, g5, g8, g9, g10, hia, hkb, hci, hA, hc, rfl⟩
      have hil : (i : Int) < a.length ∨ ¬ (i : Int) < a.length := Classical.em _
      have hkl : (k : Int) < b.length ∨ ¬ (k : Int) < b.length := Classical.em _
      have hwi := w64 (n := (i : Int) + 1) (by omega) (by omega)
      have hwk := w64 (n := (k : Int) + 1) (by omega) (by omega)
      have fin : (i = a.length ∨ k = b.length) → c = E0 := fun h => by
        rw [← hc]
        have : etr a b (N - i - k) i k = [] := List.eq_nil_of_length_eq_zero (by have := etr_len a b (N - i - k) i k (by omega); rw [comL_out a b i k (by omega)] at this; omega)
        rw [this, List.append_nil]
      have done : (i = a.length ∨ k = b.length) → Fz σ.length (σ ++ .cells GG :: g) v (.pl 1 ((E0).map fun y => AV.int .i64 y)) := fun h => by
        rw [← fin h]
        exact hA.under.fz fun x hx y hy => by
          obtain ⟨w, _, rfl⟩ := List.mem_map.1 hx
          simp [AV.cells] at hy
          subst hy
          exact .int _ _
      rcases hil with hil | hil
      · rcases hkl with hkl | hkl
        · have hil' : i < a.length := by omega
          have hkl' : k < b.length := by omega
          simp [-aappend, hl, g0, g1, g5, g8, g9, g10, hil, hkl]
          refine ACode_draw0 mixed (by kernel_rfl) ?_
          simp [-aappend, hl, g0, g1, g5, g8, g9, g10, hil', hkl']
          obtain ⟨m, hm⟩ : ∃ m, N - i - k = m + 1 := ⟨N - i - k - 1, by omega⟩
          rw [hm] at hc
          unfold etr at hc
          rw [dif_pos ⟨hil', hkl'⟩] at hc
          by_cases hab : a[i] = b[k]
          · rw [if_pos hab] at hc
            obtain ⟨v', g', o', he, hA', _⟩ := (hA.push (P := Tryz.prog) (t := 32) (e := 3) (ag := false) (x := .int .i64 b[k]) (by simp) (by simp) (by simp) (by omega) ⟨by simp [AV.cells], by simp [AV.cells, AV.one]⟩ (by simp; omega))
            simp [-aappend, Nat.add_assoc] at he
            simp [-aappend, hab, hl, g0, g1, g5, g8, g9, g10, hil', hkl', hwi, hwk, Nat.add_assoc]
            rw [Nat.add_comm 1] at he
            rw [he, Om_some]
            refine ⟨⟨i + 1, by simp, k + 1, by simp, by omega, by omega, g', o', c ++ [b[k]], by simp; omega, by simpa using hA', ?_, rfl⟩, by omega⟩
            rw [show N - (i + 1) - (k + 1) = m - 1 from by omega]
            have em : etr a b (m - 1) (i + 1) (k + 1) = etr a b m (i + 1) (k + 1) := etr_fuel a b _ _ _ _ (by omega) (by omega)
            rw [em, ← hab, List.append_assoc]
            exact hc
          · rw [if_neg hab] at hc
            have q1 : 0 ≤ (i : Int) + 1 ∧ (i : Int) + 1 < 7 := by omega
            have q2 : 0 ≤ (k : Int) + 1 ∧ (k : Int) + 1 < 7 := by omega
            have q3 : (i : Int) < 7 := by omega
            have q4 : (k : Int) < 7 := by omega
            have r1 : (i + 1) * 7 + k + 1 ≤ 49 := by omega
            have r2 : i * 7 + (k + 1) + 1 ≤ 49 := by omega
            have G1 := gr (i + 1) k (by omega) (by omega)
            have G2 := gr i (k + 1) (by omega) (by omega)
            simp [hab, hl]
            refine ACode_draw0 mixed (by kernel_rfl) ?_
            simp [hl, g0, g1, g5, g8, g9, g10, hwi, hwk, q1, q2, q3, q4, hGl, r1, r2, G1, G2]
            by_cases hle : comL a b i (k + 1) ≤ comL a b (i + 1) k
            · rw [if_pos hle] at hc
              simp [hle, hl, g0, g1, g5, g8, g9, g10, hwi]
              refine ⟨⟨i + 1, by simp, k, rfl, by omega, by omega, g, o, c, by omega, hA, ?_, rfl⟩, by omega⟩
              rw [show N - (i + 1) - k = m from by omega]
              exact hc
            · rw [if_neg hle] at hc
              simp [hle, hl, g0, g1, g5, g8, g9, g10, hwk]
              refine ⟨⟨i, rfl, k + 1, by simp, by omega, by omega, g, o, c, by omega, hA, ?_, rfl⟩, by omega⟩
              rw [show N - i - (k + 1) = m from by omega]
              exact hc
        · simp [hl, g0, g1, g5, g8, g9, g10, hil, hkl]
          exact done (by omega)
      · simp [hl, g0, g1, g5, g8, g9, g10, hil]
        exact done (by omega)
/-- **how far two texts are from each other** -/
theorem distance_calls (x y : List Int) (hx : 1 ≤ x.length ∧ x.length ≤ 6) (hy : 1 ≤ y.length ∧ y.length ≤ 6) (wx : x.all eword = true) (wy : y.all eword = true) :
    APure Tryz.prog 31 [.agg [.pl 1 [R1 x, R1 y], .pl 1 [], .int .i64 0], .int .i64 0, .int .i64 1] (.tup [.int .i64 (Oyez.dist x y), .int .i64 0]) := by
  refine APure.of fun σ => ?_
  refine acalls_fn Tryz.func31 rfl (enters_fn Tryz.func31 (by decide) rfl) ?_
  have hl := etr_len x y (x.length + y.length) 0 0 (by omega)
  have h2 := Oyez.lcs_le x y
  have hd : (Oyez.dist x y : Int) = x.length + y.length - 2 * (etr x y (x.length + y.length) 0 0).length := by
    rw [hl]
    unfold Oyez.dist comL
    simp only [List.drop_zero]
    omega
  have hl6 : (etr x y (x.length + y.length) 0 0).length ≤ 6 := by
    rw [show comL x y 0 0 = Oyez.lcs x y from rfl] at hl
    omega
  simp [Tryz.ntmps31]
  refine StA.of ((eopened_calls x y hx hy wx wy _).mono ?_)
  rintro v s ⟨rfl, rfl⟩
  simp
  refine ACode_draw0 mixed (by kernel_rfl) ?_
  have w1 := w64 (n := (x.length : Int) + y.length) (by omega) (by omega)
  have w2 := w64 (n := 2 * ((etr x y (x.length + y.length) 0 0).length : Int)) (by omega) (by omega)
  have w3 := w64 (n := (x.length : Int) + y.length - 2 * (etr x y (x.length + y.length) 0 0).length) (by omega) (by omega)
  simp [w1, Nat.add_assoc]
  refine Ou_use (ecommon_calls x y hx.2 hy.2) ?_
  simp [w2, w3, hd]
end Ab

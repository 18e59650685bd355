/-
  The book: Check, opened.
-/
import Derived.Test.YtcoikmapjepdjaaGreatDoorC22
set_option linter.unusedSimpArgs false
set_option linter.unusedVariables false
set_option linter.unusedSectionVars false
namespace Ab
open Go Go.RowKit Go.Proofs
attribute [local irreducible] aws awp aw1 Og Om Oc Oa Ogd Ov Ot awd aw1d awh aw1h Ogh Ohd awl Ogl Ohl awv Ogv Ohv QThen QBlock QFn QFnM QRo QBe ACode AYield
theorem idxf_wnd (l : List (List (List Int))) (p : List (List Int) → Bool) (h : FuncId) (fs cs : List AV) (hl : l.length ≤ 2 ^ 40) (σ : Heap) (hc : ∀ x ∈ l, ACalls Tryz.prog h (fs ++ [AV.pl 1 (x.map fun z => AV.pl 1 (z.map fun y => AV.int .i64 y))] ++ cs) σ fun v s => v = .bool (p x) ∧ s = σ) :
    ACalls Tryz.prog 359 [.pl 1 (l.map fun x => AV.pl 1 (x.map fun z => AV.pl 1 (z.map fun y => AV.int .i64 y))), .fn (.func h) fs cs] σ fun v s => v = .int .i64 (idxI l p) ∧ s = σ := by
  refine acalls_fn Tryz.func359 rfl (enters_fn Tryz.func359 (by decide) rfl) ?_
  simp [Tryz.ntmps359]
  refine ACode_loopT (fun env σ' => ∃ (u : List AV) (i : Nat), env = { t := u } ∧ u.length = 19 ∧ tg u 0 = .pl 1 (l.map fun x => AV.pl 1 (x.map fun z => AV.pl 1 (z.map fun y => AV.int .i64 y))) ∧ tg u 1 = .fn (.func h) fs cs ∧ tg u 7 = .int .i64 l.length ∧ tg u 8 = .int .i64 i ∧ σ' = σ ∧ i ≤ l.length ∧ ∀ x ∈ l.take i, p x = false)
    (fun env _ => match tg env.t 8 with | .int _ i => l.length - i.toNat | _ => 0) ⟨_, 0, rfl, by simp, by simp, by simp, by simp, by simp, rfl, by omega, fun x hx => by simp at hx⟩ ?_
  rintro env σ' ⟨u, i, rfl, hl0, g0, g1, g7, g8, rfl, hi, hd⟩
  rcases Nat.lt_or_ge i l.length with hlt | hge
  · have hlt' : (i : Int) < (l.length : Int) := by omega
    simp [hl0, g0, g1, g7, g8, hlt', hlt]
    have hci := hc _ (List.getElem_mem hlt)
    simp only [List.append_assoc, List.cons_append, List.nil_append] at hci
    refine StA.of (hci.mono ?_)
    rintro v σ'' ⟨rfl, rfl⟩
    cases hx : p l[i] with
    | false =>
      have hw1 := w64 (n := (i : Int) + 1) (by omega) (by omega)
      simp [hl0, g0, g1, g7, g8, hw1]
      exact ⟨⟨i + 1, by simp, hlt, take_false hlt hd hx⟩, by omega⟩
    | true =>
      simp [hl0, g0, g1, g7, g8, idxI_at hlt hd hx]
  · have hge' : ¬ (i : Int) < (l.length : Int) := by omega
    rw [List.take_of_length_le hge] at hd
    simp [hl0, g0, g1, g7, g8, hge', idxI_none hd]
theorem contf_wnd (l : List (List (List Int))) (p : List (List Int) → Bool) (h : FuncId) (fs cs : List AV) (hl : l.length ≤ 2 ^ 40) (σ : Heap) (hc : ∀ x ∈ l, ACalls Tryz.prog h (fs ++ [AV.pl 1 (x.map fun z => AV.pl 1 (z.map fun y => AV.int .i64 y))] ++ cs) σ fun v s => v = .bool (p x) ∧ s = σ) :
    ACalls Tryz.prog 356 [.pl 1 (l.map fun x => AV.pl 1 (x.map fun z => AV.pl 1 (z.map fun y => AV.int .i64 y))), .fn (.func h) fs cs] σ fun v s => v = .bool (l.any p) ∧ s = σ := by
  refine acalls_fn Tryz.func356 rfl (enters_fn Tryz.func356 (by decide) rfl) ?_
  simp [Tryz.ntmps356]
  refine StA.of ((idxf_wnd l p h fs cs hl σ hc).mono ?_)
  rintro v σ' ⟨rfl, rfl⟩
  simp [idxI_any]
theorem every_bwnd (l : List (List (List Int))) (p : List (List Int) → Bool) (h : FuncId) (fs cs : List AV) (hl : l.length ≤ 2 ^ 40) (σ : Heap) (hc : ∀ x ∈ l, ∀ g : Heap, ACalls Tryz.prog h (fs ++ [AV.pl 1 (x.map fun z => AV.pl 1 (z.map fun y => AV.int .i64 y))] ++ cs) (σ ++ g) fun v s => v = .bool (p x) ∧ s = σ ++ g) :
    ACalls Tryz.prog 345 [.pl 1 (l.map fun x => AV.pl 1 (x.map fun z => AV.pl 1 (z.map fun y => AV.int .i64 y))), .fn (.func h) fs cs] σ fun v s => v = .bool (l.all p) ∧ s = σ := by
  refine ACalls.forget ?_
  refine acalls_fn Tryz.func345 rfl (enters_fn Tryz.func345 (by decide) rfl) ?_
  simp [Tryz.ntmps345]
  refine StA.of ((contf_wnd l (fun x => !p x) 357 [] [.ptr σ.length 0] hl _ fun x hx => ?_).mono ?_)
  · skip
    refine acalls_fn Tryz.func357 rfl (enters_fn Tryz.func357 (by decide) rfl) ?_
    simp [Tryz.ntmps357]
    have hci := hc x hx [.cells [.fn (.func h) fs cs]]
    simp only [List.append_assoc, List.cons_append, List.nil_append] at hci
    refine StA.of (hci.mono ?_)
    rintro v s ⟨rfl, rfl⟩
    simp
  · rintro v s ⟨rfl, rfl⟩
    simp [any_not]
theorem idxf_cry (l : List (Cr)) (p : Cr → Bool) (h : FuncId) (fs cs : List AV) (hl : l.length ≤ 2 ^ 40) (σ : Heap) (hc : ∀ x ∈ l, ACalls Tryz.prog h (fs ++ [AV.agg [.int .i64 x.hour, .int .i64 x.stand, .int .i64 x.notice]] ++ cs) σ fun v s => v = .bool (p x) ∧ s = σ) :
    ACalls Tryz.prog 358 [.pl 3 (l.map fun x => AV.agg [.int .i64 x.hour, .int .i64 x.stand, .int .i64 x.notice]), .fn (.func h) fs cs] σ fun v s => v = .int .i64 (idxI l p) ∧ s = σ := by
  refine acalls_fn Tryz.func358 rfl (enters_fn Tryz.func358 (by decide) rfl) ?_
  simp [Tryz.ntmps358]
  refine ACode_loopT (fun env σ' => ∃ (u : List AV) (i : Nat), env = { t := u } ∧ u.length = 19 ∧ tg u 0 = .pl 3 (l.map fun x => AV.agg [.int .i64 x.hour, .int .i64 x.stand, .int .i64 x.notice]) ∧ tg u 1 = .fn (.func h) fs cs ∧ tg u 7 = .int .i64 l.length ∧ tg u 8 = .int .i64 i ∧ σ' = σ ∧ i ≤ l.length ∧ ∀ x ∈ l.take i, p x = false)
    (fun env _ => match tg env.t 8 with | .int _ i => l.length - i.toNat | _ => 0) ⟨_, 0, rfl, by simp, by simp, by simp, by simp, by simp, rfl, by omega, fun x hx => by simp at hx⟩ ?_
  rintro env σ' ⟨u, i, rfl, hl0, g0, g1, g7, g8, rfl, hi, hd⟩
  rcases Nat.lt_or_ge i l.length with hlt | hge
  · have hlt' : (i : Int) < (l.length : Int) := by omega
    simp [hl0, g0, g1, g7, g8, hlt', hlt]
    have hci := hc _ (List.getElem_mem hlt)
    simp only [List.append_assoc, List.cons_append, List.nil_append] at hci
    refine StA.of (hci.mono ?_)
    rintro v σ'' ⟨rfl, rfl⟩
    cases hx : p l[i] with
    | false =>
      have hw1 := w64 (n := (i : Int) + 1) (by omega) (by omega)
      simp [hl0, g0, g1, g7, g8, hw1]
      exact ⟨⟨i + 1, by simp, hlt, take_false hlt hd hx⟩, by omega⟩
    | true =>
      simp [hl0, g0, g1, g7, g8, idxI_at hlt hd hx]
  · have hge' : ¬ (i : Int) < (l.length : Int) := by omega
    rw [List.take_of_length_le hge] at hd
    simp [hl0, g0, g1, g7, g8, hge', idxI_none hd]
theorem contf_cry (l : List (Cr)) (p : Cr → Bool) (h : FuncId) (fs cs : List AV) (hl : l.length ≤ 2 ^ 40) (σ : Heap) (hc : ∀ x ∈ l, ACalls Tryz.prog h (fs ++ [AV.agg [.int .i64 x.hour, .int .i64 x.stand, .int .i64 x.notice]] ++ cs) σ fun v s => v = .bool (p x) ∧ s = σ) :
    ACalls Tryz.prog 348 [.pl 3 (l.map fun x => AV.agg [.int .i64 x.hour, .int .i64 x.stand, .int .i64 x.notice]), .fn (.func h) fs cs] σ fun v s => v = .bool (l.any p) ∧ s = σ := by
  refine acalls_fn Tryz.func348 rfl (enters_fn Tryz.func348 (by decide) rfl) ?_
  simp [Tryz.ntmps348]
  refine StA.of ((idxf_cry l p h fs cs hl σ hc).mono ?_)
  rintro v σ' ⟨rfl, rfl⟩
  simp [idxI_any]
theorem every_bcry (l : List (Cr)) (p : Cr → Bool) (h : FuncId) (fs cs : List AV) (hl : l.length ≤ 2 ^ 40) (σ : Heap) (hc : ∀ x ∈ l, ∀ g : Heap, ACalls Tryz.prog h (fs ++ [AV.agg [.int .i64 x.hour, .int .i64 x.stand, .int .i64 x.notice]] ++ cs) (σ ++ g) fun v s => v = .bool (p x) ∧ s = σ ++ g) :
    ACalls Tryz.prog 320 [.pl 3 (l.map fun x => AV.agg [.int .i64 x.hour, .int .i64 x.stand, .int .i64 x.notice]), .fn (.func h) fs cs] σ fun v s => v = .bool (l.all p) ∧ s = σ := by
  refine ACalls.forget ?_
  refine acalls_fn Tryz.func320 rfl (enters_fn Tryz.func320 (by decide) rfl) ?_
  simp [Tryz.ntmps320]
  refine StA.of ((contf_cry l (fun x => !p x) 349 [] [.ptr σ.length 0] hl _ fun x hx => ?_).mono ?_)
  · refine ACalls.forget ?_
    refine acalls_fn Tryz.func349 rfl (enters_fn Tryz.func349 (by decide) rfl) ?_
    simp [Tryz.ntmps349]
    have hci := hc x hx [.cells [.fn (.func h) fs cs], .cells [.int .i64 x.hour, .int .i64 x.stand, .int .i64 x.notice]]
    simp only [List.append_assoc, List.cons_append, List.nil_append] at hci
    refine StA.of (hci.mono ?_)
    rintro v s ⟨rfl, rfl⟩
    simp
  · rintro v s ⟨rfl, rfl⟩
    simp [any_not]
theorem every_bint (l : List (Int)) (p : Int → Bool) (h : FuncId) (fs cs : List AV) (hl : l.length ≤ 2 ^ 40) (σ : Heap) (hc : ∀ x ∈ l, ∀ g : Heap, ACalls Tryz.prog h (fs ++ [AV.int .i64 x] ++ cs) (σ ++ g) fun v s => v = .bool (p x) ∧ s = σ ++ g) :
    ACalls Tryz.prog 318 [.pl 1 (l.map fun x => AV.int .i64 x), .fn (.func h) fs cs] σ fun v s => v = .bool (l.all p) ∧ s = σ := by
  refine ACalls.forget ?_
  refine acalls_fn Tryz.func318 rfl (enters_fn Tryz.func318 (by decide) rfl) ?_
  simp [Tryz.ntmps318]
  refine StA.of ((contf_int l (fun x => !p x) 347 [] [.ptr σ.length 0] hl _ fun x hx => ?_).mono ?_)
  · skip
    refine acalls_fn Tryz.func347 rfl (enters_fn Tryz.func347 (by decide) rfl) ?_
    simp [Tryz.ntmps347]
    have hci := hc x hx [.cells [.fn (.func h) fs cs]]
    simp only [List.append_assoc, List.cons_append, List.nil_append] at hci
    refine StA.of (hci.mono ?_)
    rintro v s ⟨rfl, rfl⟩
    simp
  · rintro v s ⟨rfl, rfl⟩
    simp [any_not]
theorem bleast_calls (n m : Int) (r : Nat) (σ : Heap) (hr : σ[r]? = some (.cells [.int .i64 m])) : ACalls Tryz.prog 350 [.int .i64 n, .arr 1 r 0 1] σ fun v s => v = .int .i64 (min n m) ∧ s = σ := by
  refine acalls_fn Tryz.func350 rfl (enters_fn Tryz.func350 (by decide) rfl) ?_
  simp [Tryz.ntmps350]
  refine ACode_loopT (fun env σ' => ∃ (u : List AV) (i : Nat), env = { t := u } ∧ u.length = 18 ∧ tg u 0 = .int .i64 (if i = 0 then n else min n m) ∧ tg u 7 = .arr 1 r 0 1 ∧ tg u 8 = .int .i64 1 ∧ tg u 9 = .int .i64 i ∧ σ' = σ ∧ i ≤ 1)
    (fun env _ => match tg env.t 9 with | .int _ i => 1 - i.toNat | _ => 0) ⟨_, 0, rfl, by simp, by simp, by simp, by simp, by simp, rfl, by omega⟩ ?_
  rintro env σ' ⟨u, i, rfl, hl0, g0, g7, g8, g9, rfl, hi⟩
  match i, hi with
  | 0, _ =>
    have hw : IntKind.i64.wrap 1 = 1 := by decide
    simp [hl0, g0, g7, g8, g9, hr, hw]
    exact ⟨1, by simp; omega, by simp⟩
  | 1, _ => simp [hl0, g0, g7, g8, g9]
/-- two winds are the same, or lie side by side -/
def nearB (a b : Int) : Bool := decide (min (Int.tmod (a - b + 8) 8) (8 - Int.tmod (a - b + 8) 8) ≤ 1)
theorem bk_near_calls (a b : Int) (ha : 0 ≤ a ∧ a ≤ 7) (hb : 0 ≤ b ∧ b ≤ 7) : APure Tryz.prog 325 [.int .i64 a, .int .i64 b] (.bool (nearB a b)) := by
  refine APure.of fun σ => ?_
  refine acalls_fn Tryz.func325 rfl (enters_fn Tryz.func325 (by decide) rfl) ?_
  have hw := w64 (n := a - b) (by omega) (by omega)
  have hw2 := w64 (n := a - b + 8) (by omega) (by omega)
  have hm : 0 ≤ (a - b + 8).tmod 8 ∧ (a - b + 8).tmod 8 < 8 := ⟨Int.tmod_nonneg _ (by omega), Int.tmod_lt_of_pos _ (by omega)⟩
  have hw3 := w64 (n := (a - b + 8).tmod 8) (by omega) (by omega)
  have hw4 := w64 (n := 8 - (a - b + 8).tmod 8) (by omega) (by omega)
  simp [Tryz.ntmps325, hw, hw2, hw3, hw4]
  refine StA.of ((bleast_calls _ (8 - (a - b + 8).tmod 8) σ.length _ (by simp)).mono ?_)
  rintro v s ⟨rfl, rfl⟩
  simp [nearB]
/-- an hour can have a wind by its reading -/
def canB (b : Bk) (h : Nat) (w : Int) : Bool := decide (b.reads[h]? = some (-1)) || nearB w (b.reads[h]?.getD 0)
theorem bk_can_calls (b : Bk) (h : Nat) (w : Int) (hh : h < b.reads.length) (hw : 0 ≤ w ∧ w ≤ 7) (hr : b.reads[h] = -1 ∨ 0 ≤ b.reads[h] ∧ b.reads[h] ≤ 7) : APure Tryz.prog 271 [bkAV b, .int .i64 h, .int .i64 w] (.bool (canB b h w)) := by
  refine APure.of fun σ => ?_
  refine acalls_fn Tryz.func271 rfl (enters_fn Tryz.func271 (by decide) rfl) ?_
  rcases hr with hr | hr
  · simp [Tryz.ntmps271, bkAV, hh, hr, canB]
  · have hn : ¬ b.reads[h] = -1 := by omega
    simp [Tryz.ntmps271, bkAV, hh, hn, canB]
    refine (bk_near_calls _ _ hw hr).use ?_
    simp
theorem bk_read_calls (n : Int) : APure Tryz.prog 319 [.int .i64 n] (.bool (decide (n = -1) || bk_inB n 0 7)) := by
  intro σ
  refine acalls_fn Tryz.func319 rfl (enters_fn Tryz.func319 (by decide) rfl) ?_
  by_cases h : n = -1
  · simp [Tryz.ntmps319, h]
  · simp [Tryz.ntmps319, h]
    refine (bin_calls _ _ _).use ?_
    simp
end Ab

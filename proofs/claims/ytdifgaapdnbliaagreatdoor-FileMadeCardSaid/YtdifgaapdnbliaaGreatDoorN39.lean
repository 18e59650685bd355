/-
  THE FILE THAT IS MADE OF NUMBERS.
  THE FILES THAT ARE MADE OF NUMBERS: of up to 20 records, and of up to 15; their words.
-/
import Derived.Test.YtdifgaapdnbliaaGreatDoorN21
set_option linter.unusedSimpArgs false
set_option linter.unusedVariables false
set_option linter.unusedSectionVars false
namespace Oyez
theorem checkFrom_app {r : Rec} (hr : recErr r = 0) : ∀ (f : List Rec) (p : Option Place), checkFrom p f = 0 → (∀ q, p = some q → q.lt r.place = true) → (∀ q ∈ f, q.place.lt r.place = true) → checkFrom p (f ++ [r]) = 0 := by
  intro f
  induction f with
  | nil =>
    intro p _ hp _
    rw [List.nil_append, checkFrom, if_neg (by simpa using hr), if_neg]
    · rfl
    · cases p with
      | none => simp
      | some q => simp [hp q rfl]
  | cons x t ih =>
    intro p h hp hq
    rw [checkFrom] at h
    rw [List.cons_append, checkFrom]
    split at h
    · rename_i h1; exact absurd h h1
    · rename_i h1
      rw [if_neg h1]
      split at h
      · cases h
      · rename_i h2
        rw [if_neg h2]
        exact ih _ h (fun q e => by rw [← Option.some.inj e]; exact hq x (by simp)) fun q hm => hq q (List.mem_cons_of_mem _ hm)
end Oyez
namespace Ab
open Go Go.RowKit Go.Proofs
attribute [local irreducible] aws awp aw1 Og Om Oc Oa Ogd Ov Ot awd aw1d awh aw1h Ogh Ohd awl Ogl Ohl awv Ogv Ohv QThen QBlock QFn QFnM QRo QBe ACode AYield
theorem wordL_word : ∀ w ∈ wordL, Oyez.word w = true ∧ w.length ≤ 6 := by decide
theorem made_rec {k n : Int} {ws : List (List UInt8)} (hk : 0 ≤ k) (hk4 : k ≤ 4) (hn : 0 ≤ n) (hn2 : n ≤ 99) (hl : ws.length ≤ 4) (hw : ∀ w ∈ ws, w ∈ wordL) : Oyez.recErr ⟨k, n, ws⟩ = 0 := by
  rw [Oyez.recErr_iff]
  constructor
  · unfold Oyez.placeErr
    simp only
    rw [if_neg (by omega), if_neg (by omega)]
  · unfold Oyez.wordsErr
    simp only
    have hall : ws.all Oyez.word = true := List.all_eq_true.2 fun w h => (wordL_word w (hw w h)).1
    rw [if_neg (by omega), hall, if_neg (by simp), if_neg]
    have h1 : (Oyez.name k).length ≤ 6 := by
      have : k = 0 ∨ k = 1 ∨ k = 2 ∨ k = 3 ∨ k = 4 := by omega
      rcases this with rfl | rfl | rfl | rfl | rfl <;> decide
    have h2 : (Oyez.digits n).length ≤ 2 := Oyez.digits_len 1 n.toNat (by omega)
    have h3 : ∀ l : List (List UInt8), (∀ w ∈ l, w ∈ wordL) → (l.flatMap fun w => (32 : UInt8) :: w).length ≤ 7 * l.length := by
      intro l
      induction l with
      | nil => intro _; simp
      | cons w t ih =>
        intro h
        have h4 := ih fun x hx => h x (List.mem_cons_of_mem _ hx)
        have h5 := (wordL_word w (h w (by simp))).2
        simp only [List.flatMap_cons, List.length_append, List.length_cons]
        omega
    have h4 := h3 ws hw
    unfold Oyez.line
    simp only [List.length_append, List.length_cons, List.length_nil]
    omega
theorem hang_calls (σ : Heap) (x : AV) (hx : x.one = true) : ACalls Tryz.prog 45 [x] σ (fun v σ' => v = .ptr σ.length 0 ∧ σ' = σ ++ [.cells [x, .int .i64 0, .int .u32 0]]) := by
  refine acalls_fn Tryz.func45 rfl (enters_fn Tryz.func45 (by decide) rfl) ?_
  cases x <;> first | (simp [AV.one] at hx; done) | simp [Tryz.ntmps45]
end Ab
namespace Ab
open Go Go.RowKit Go.Proofs
attribute [local irreducible] aws awp aw1 Og Om Oc Oa Ogd Ov Ot awd aw1d awh aw1h Ogh Ohd awl Ogl Ohl awv Ogv Ohv QThen QBlock QFn QFnM QRo QBe ACode AYield
set_option maxHeartbeats 4000000 in
theorem made20_calls (σ : Heap) (d : Nat) (l : List UInt8) (a : Nat) (c : Int) (h : σ[d]? = some (bellObj l a c)) (ha : a ≤ l.length) (hl : l.length ≤ 9223372036854775807) :
    ACalls Tryz.prog 44 [.ptr d 0, .int .i64 20] σ (fun v σ' => ∃ (f : List Oyez.Rec) (a' : Nat) (c' : Int), v = fileAV f ∧ Oyez.check f = 0 ∧ f.length ≤ 20 ∧ (∀ r ∈ f, ∀ w ∈ r.words, w ∈ wordL) ∧ a' ≤ l.length ∧ σ' = σ.set d (bellObj l a' c')) := by
  have hd := (List.getElem?_eq_some_iff.1 h).1
  have h0 : σ.set d (bellObj l a c) = σ := by
    apply List.ext_getElem?
    intro i
    rw [List.getElem?_set]
    split
    · rename_i e; subst e; exact h.symm
    · rfl
  refine ACalls.forgetT ?_
  refine acalls_fn Tryz.func44 rfl (enters_fn Tryz.func44 (by decide) rfl) ?_
  simp [-aappend, Tryz.ntmps44]
  refine ACode_loopT (fun env σ' => ∃ (u : List AV) (k : Nat) (v : AV) (f : List Oyez.Rec) (g : Heap) (o : Option Nat) (a2 : Nat) (c2 : Int), env = { t := u } ∧ u.length = 32 ∧ tg u 0 = .ptr d 0 ∧ tg u 1 = .int .i64 20 ∧ tg u 5 = v ∧ tg u 6 = .int .i64 k ∧ σ' = σ.set d (bellObj l a2 c2) ++ g ∧ a2 ≤ l.length ∧ k ≤ 5 ∧ f.length ≤ 4 * k ∧ Oyez.checkFrom none f = 0 ∧ (∀ r ∈ f, r.kind < k) ∧ (∀ r ∈ f, ∀ w ∈ r.words, w ∈ wordL) ∧ Acc σ g 3 v (f.map recAV) o)
    (fun env _ => match tg env.t 6 with | .int _ i => 5 - i.toNat | _ => 0) ⟨_, 0, .nils, [], [], none, a, c, rfl, by simp, by simp, by simp, by simp, by simp, by simp [h0], ha, by omega, by simp, rfl, by simp, by simp, by simpa using Acc.nil _ _ _⟩ ?_
  rintro env σ' ⟨u, k, v, f, g, o, a2, c2, rfl, hl2, g0, g1, g5, g6, rfl, ha2, hk, hfl, hck, hkind, hwrd, hA⟩
  rcases Nat.lt_or_ge k 5 with hlt | hge
  · have hlt' : (k : Int) ≤ 4 := by omega
    have hx := w64 (n := (k : Int) + 1) (by omega) (by omega)
    simp [-aappend, hl2, g0, g1, g5, g6, hlt']
    refine StA.of ((stroke_calls _ d l a2 c2 4 (bell_at hd _) ha2 hl (by omega) (by omega)).mono ?_)
    rintro v2 σ' ⟨n, a3, c3, rfl, k0, k1, ha3, rfl⟩
    rw [set_set hd]
    obtain ⟨m, rfl⟩ : ∃ m : Nat, n = m := ⟨n.toNat, by omega⟩
    simp [-aappend, hl2, g0, g1, g5, g6]
    refine ACode_loopT (fun env σ' => ∃ (u : List AV) (i : Nat) (n : Int) (v : AV) (f : List Oyez.Rec) (g : Heap) (o : Option Nat) (a2 : Nat) (c2 : Int), env = { t := u } ∧ u.length = 32 ∧ tg u 0 = .ptr d 0 ∧ tg u 1 = .int .i64 20 ∧ tg u 5 = v ∧ tg u 6 = .int .i64 k ∧ tg u 7 = .int .i64 n ∧ tg u 15 = .int .i64 m ∧ tg u 16 = .int .i64 i ∧ σ' = σ.set d (bellObj l a2 c2) ++ g ∧ a2 ≤ l.length ∧ i ≤ m ∧ (i : Int) - 1 ≤ n ∧ n ≤ 4 * (i : Int) - 1 ∧ f.length ≤ 4 * k + i ∧ Oyez.checkFrom none f = 0 ∧ (∀ r ∈ f, r.kind < k ∨ (r.kind = k ∧ r.number ≤ n)) ∧ (∀ r ∈ f, ∀ w ∈ r.words, w ∈ wordL) ∧ Acc σ g 3 v (f.map recAV) o)
      (fun env _ => match tg env.t 16 with | .int _ i => m - i.toNat | _ => 0) ⟨_, 0, -1, v, f, g, o, a3, c3, rfl, by simp [hl2], by simp [hl2, g0], by simp [hl2, g1], by simp [hl2, g5], by simp [hl2, g6], by simp [hl2], by simp [hl2], by simp [hl2], rfl, ha3, by omega, by omega, by omega, by omega, hck, fun r hr => .inl (hkind r hr), hwrd, hA⟩ ?_
    clear hA hck hkind hwrd g0 g1 g5 g6 hl2 u hfl ha2 ha3
    rintro env σ' ⟨u, i, n, v, f, g, o, a2, c2, rfl, hl2, g0, g1, g5, g6, g7, g15, g16, rfl, ha2, hi, hn1, hn2, hfl, hck, hkind, hwrd, hA⟩
    rcases Nat.lt_or_ge i m with hlt2 | hge2
    · have hlt2' : (i : Int) < (m : Int) := by omega
      have hx2 := w64 (n := (i : Int) + 1) (by omega) (by omega)
      simp [-aappend, hl2, g0, g1, g5, g6, g7, g15, g16, hlt2']
      refine StA.of ((strike_calls _ d l a2 c2 1 4 (bell_at hd _) ha2 hl (by omega) (by omega) (by omega)).mono ?_)
      rintro v2 σ' ⟨s, a3, c3, rfl, k0, k1, ha3, rfl⟩
      rw [set_set hd]
      have hxs := w64 (n := n + s) (by omega) (by omega)
      simp [-aappend, hl2, g0, g1, g5, g6, g7, g15, g16, hxs]
      refine StA.of ((Worded_calls _ d l a3 c3 4 (bell_at hd _) ha3 hl (by omega) (by omega)).mono ?_)
      rintro v3 σ' ⟨ws, a4, c4, rfl, hwl, hwm, ha4, rfl⟩
      rw [set_set hd]
      have hr : Oyez.recErr ⟨k, n + s, ws⟩ = 0 := made_rec (by omega) hlt' (by omega) (by omega) (by omega) hwm
      have hA1 := ((hA.set d (bellObj l a4 c4)).push (P := Tryz.prog) (t := 23) (e := 59) (ag := true) (x := recAV ⟨k, n + s, ws⟩) (by simp) (by simp) (by simp) (by omega) ⟨by simp [AV.cells], by simp [AV.cells, AV.one]⟩ (by simp; omega))
      obtain ⟨v', g', o', he, hA', _⟩ := hA1
      simp [-aappend] at he
      have hA2 : Acc σ g' 3 v' ((f ++ [(⟨k, n + s, ws⟩ : Oyez.Rec)]).map recAV) o' := by
        have := hA'.len_eq (τ := σ) (by simp)
        simpa using this
      have hk1 : Oyez.checkFrom none (f ++ [(⟨k, n + s, ws⟩ : Oyez.Rec)]) = 0 := Oyez.checkFrom_app hr f none hck (fun q hq => by cases hq) fun q hq => by
        rw [Oyez.Place.lt_iff]
        rcases hkind q hq with h1 | ⟨h1, h2⟩
        · exact .inl h1
        · exact .inr ⟨h1, by show q.number < n + s; omega⟩
      have hk2 : ∀ r ∈ f ++ [(⟨k, n + s, ws⟩ : Oyez.Rec)], r.kind < k ∨ (r.kind = k ∧ r.number ≤ n + s) := fun r hr => by
        rcases List.mem_append.1 hr with hr | hr
        · rcases hkind r hr with h1 | ⟨h1, h2⟩
          · exact .inl h1
          · exact .inr ⟨h1, by omega⟩
        · rw [List.mem_singleton.1 hr]; exact .inr ⟨rfl, by simp⟩
      have hk3 : (f ++ [(⟨k, n + s, ws⟩ : Oyez.Rec)]).length ≤ 4 * k + (i + 1) := by simp; omega
      have hk4 : ∀ r ∈ f ++ [(⟨k, n + s, ws⟩ : Oyez.Rec)], ∀ w ∈ r.words, w ∈ wordL := fun r hr => by
        rcases List.mem_append.1 hr with hr | hr
        · exact hwrd r hr
        · rw [List.mem_singleton.1 hr]; exact hwm
      generalize f ++ [(⟨k, n + s, ws⟩ : Oyez.Rec)] = F at hA2 hk1 hk2 hk3 hk4
      simp [-aappend, hl2, g0, g1, g5, g6, g7, g15, g16, he, hx2]
      exact ⟨⟨i + 1, by simp, F, g', o', a4, ⟨c4, rfl⟩, ha4, hlt2, by omega, by omega, hk3, hk1, hk2, hk4, hA2⟩, by omega⟩
    · have hge2' : ¬ (i : Int) < (m : Int) := by omega
      simp [-aappend, hl2, g0, g1, g5, g6, g7, g15, g16, hge2', hx]
      exact ⟨⟨k + 1, by simp, f, g, o, a2, ⟨c2, rfl⟩, ha2, by omega, by omega, hck, fun r hr => by rcases hkind r hr with h1 | ⟨h1, _⟩ <;> omega, hwrd, hA⟩, by omega⟩
  · obtain rfl : k = 5 := by omega
    simp [-aappend, hl2, g0, g1, g5, g6]
    refine ⟨_, g, rfl, by simp, bell_hold hd, fileAV f, ?_, f, rfl, ?_, by omega, hwrd, a2, ha2, c2, rfl⟩
    · exact (hA.len_eq (τ := σ.set d (bellObj l a2 c2)) (by simp)).fz (fun x hx y hy => by
        obtain ⟨r, _, rfl⟩ := List.mem_map.1 hx
        simp [AV.cells] at hy
        rcases hy with rfl | rfl | rfl
        · exact .int _ _
        · exact .int _ _
        · exact (Fz_strs _ _ _).2 trivial)
    · unfold Oyez.check
      rw [if_neg (by omega)]
      exact hck
end Ab

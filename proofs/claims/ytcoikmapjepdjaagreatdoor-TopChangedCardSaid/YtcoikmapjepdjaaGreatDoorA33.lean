/-
  THE BELL: strokes, words, and the file that is made of numbers.
  THE FILE THAT IS MADE OF NUMBERS.
  THE FILES THAT ARE MADE OF NUMBERS: of up to 20 records, and of up to 15; their words.
-/
import Derived.Test.YtcoikmapjepdjaaGreatDoorA13
import Derived.Test.YtcoikmapjepdjaaGreatDoorA22
import Derived.Test.YtcoikmapjepdjaaGreatDoorA18
set_option linter.unusedSimpArgs false
set_option linter.unusedVariables false
set_option linter.unusedSectionVars false
namespace Ab
open Go Go.RowKit Go.Proofs
attribute [local irreducible] aws awp aw1 Og Om Oc Oa Ogd Ov Ot awd aw1d awh aw1h Ogh Ohd awl Ogl Ohl awv Ogv Ohv QThen QBlock QFn QFnM QRo QBe ACode AYield
/-- a number from 0 up to m -/
def Drew (l : List UInt8) (d : Nat) (σ : Heap) (m : Int) (v : AV) (σ' : Heap) : Prop := ∃ (n : Int) (a' : Nat) (c' : Int), v = .int .i64 n ∧ 0 ≤ n ∧ n ≤ m ∧ a' ≤ l.length ∧ σ' = σ.set d (bellObj l a' c')
theorem stroke_calls (σ : Heap) (d : Nat) (l : List UInt8) (a : Nat) (c m : Int) (h : σ[d]? = some (bellObj l a c)) (ha : a ≤ l.length) (hl : l.length ≤ 9223372036854775807) (hm : 0 ≤ m) (hm2 : m ≤ 2 ^ 40) :
    ACalls Tryz.prog 50 [.ptr d 0, .int .i64 m] σ (Drew l d σ m) := by
  refine acalls_fn Tryz.func50 rfl (enters_fn Tryz.func50 (by decide) rfl) ?_
  simp [Tryz.ntmps50]
  refine StA.of ((ring_calls σ d l a c h ha hl).mono ?_)
  rintro v σ' ⟨n, a', c', rfl, h0, h1, ha', rfl⟩
  have hx := w64 (n := m + 1) (by omega) (by omega)
  have hne : ¬ m + 1 = 0 := by omega
  have hif : (if 1 < m + 1 then m + 1 else 1) = m + 1 := by split <;> omega
  simp [hx, hne]
  rw [hif, if_neg hne]
  simp only [Option.map_some, Om_some]
  have h3 := Int.tmod_lt_of_pos n (show 0 < m + 1 by omega)
  exact ⟨_, a', c', rfl, Int.tmod_nonneg _ h0, by omega, ha', rfl⟩
theorem strike_calls (σ : Heap) (d : Nat) (l : List UInt8) (a : Nat) (c lo hi : Int) (h : σ[d]? = some (bellObj l a c)) (ha : a ≤ l.length) (hl : l.length ≤ 9223372036854775807) (h0 : 0 ≤ lo) (h1 : lo ≤ hi) (h2 : hi ≤ 2 ^ 40) :
    ACalls Tryz.prog 45 [.ptr d 0, .int .i64 lo, .int .i64 hi] σ (fun v σ' => ∃ (n : Int) (a' : Nat) (c' : Int), v = .int .i64 n ∧ lo ≤ n ∧ n ≤ hi ∧ a' ≤ l.length ∧ σ' = σ.set d (bellObj l a' c')) := by
  refine acalls_fn Tryz.func45 rfl (enters_fn Tryz.func45 (by decide) rfl) ?_
  have hx := w64 (n := hi - lo) (by omega) (by omega)
  simp [Tryz.ntmps45, hx]
  refine StA.of ((stroke_calls σ d l a c (hi - lo) h ha hl (by omega) (by omega)).mono ?_)
  rintro v σ' ⟨n, a', c', rfl, h0, h1, ha', rfl⟩
  have hx2 := w64 (n := lo + n) (by omega) (by omega)
  simp [hx2]
  exact ⟨by omega, by omega, a', ha', c', rfl⟩
/-- the words that are drawn -/
def wordL : List (List UInt8) := [[116, 105, 100, 101], [115, 116, 111, 114, 109], [113, 117, 97, 121], [112, 117, 114, 115, 101, 55], [98, 101, 108, 108], [97], [48], [108, 111, 97, 102, 52]]
theorem bell_hold {σ : Heap} {d : Nat} {l : List UInt8} {a : Nat} {c : Int} {n : Nat} {S : Heap} (hd : d < σ.length) : ∀ (r : Nat) (o : AObj), (σ.set d (bellObj l a c))[r]? = some o → σ[r]? = some o ∨ ∃ cs, o = .cells cs ∧ ∀ y ∈ cs, Fz n S y y := by
  intro r o h
  rw [List.getElem?_set] at h
  split at h
  · obtain rfl := Option.some.inj h
    refine .inr ⟨_, rfl, fun y hy => ?_⟩
    simp at hy
    rcases hy with rfl | rfl | rfl
    · refine .pl 1 _ fun i x hx j y hy => ?_
      unfold bytesL at hx
      rw [List.getElem?_map, Option.map_eq_some_iff] at hx
      obtain ⟨b, _, rfl⟩ := hx
      match j, hy with
      | 0, hy => simp [AV.cells] at hy; subst hy; exact .int _ _
      | j + 1, hy => simp [AV.cells] at hy
    · exact .int _ _
    · exact .int _ _
  · exact .inl h
theorem Acc.set {σ g : Heap} {k : Nat} {v : AV} {l : List AV} {o : Option Nat} (h : Acc σ g k v l o) (d : Nat) (X : AObj) : Acc (σ.set d X) g k v l o := ⟨h.len, by
  have := h.val
  cases o with
  | none => exact this
  | some j => rw [List.length_set]; exact this⟩
theorem Acc.len_eq {σ τ g : Heap} {k : Nat} {v : AV} {l : List AV} {o : Option Nat} (h : Acc σ g k v l o) (e : σ.length = τ.length) : Acc τ g k v l o := ⟨h.len, by
  have := h.val
  cases o with
  | none => exact this
  | some j => rw [← e]; exact this⟩
theorem set_set {σ g : Heap} {d : Nat} (hd : d < σ.length) (X Y : AObj) : (σ.set d X ++ g).set d Y = σ.set d Y ++ g := by
  rw [List.set_append_left _ _ (by simpa using hd), List.set_set]
theorem bell_at {σ g : Heap} {d : Nat} (hd : d < σ.length) (X : AObj) : (σ.set d X ++ g)[d]? = some X := by
  rw [List.getElem?_append_left (by simpa using hd)]; simp [hd]
set_option maxHeartbeats 4000000 in
theorem Worded_calls (σ : Heap) (d : Nat) (l : List UInt8) (a : Nat) (c m : Int) (h : σ[d]? = some (bellObj l a c)) (ha : a ≤ l.length) (hl : l.length ≤ 9223372036854775807) (hm : 0 ≤ m) (hm2 : m ≤ 2 ^ 10) :
    ACalls Tryz.prog 84 [.ptr d 0, .int .i64 m] σ (fun v σ' => ∃ (ws : List (List UInt8)) (a' : Nat) (c' : Int), v = wordsAV ws ∧ (ws.length : Int) ≤ m ∧ (∀ w ∈ ws, w ∈ wordL) ∧ a' ≤ l.length ∧ σ' = σ.set d (bellObj l a' c')) := by
  have hd := (List.getElem?_eq_some_iff.1 h).1
  refine ACalls.forgetT ?_
  refine acalls_fn Tryz.func84 rfl (enters_fn Tryz.func84 (by decide) rfl) ?_
  simp [Tryz.ntmps84]
  refine StA.of ((stroke_calls σ d l a c m h ha hl hm (by omega)).mono ?_)
  rintro v σ' ⟨n, a1, c1, rfl, h0, h1, ha1, rfl⟩
  obtain ⟨n, rfl⟩ : ∃ k : Nat, n = k := ⟨n.toNat, by omega⟩
  simp
  refine ACode_loopT (fun env σ' => ∃ (u : List AV) (i : Nat) (v : AV) (ws : List (List UInt8)) (g : Heap) (o : Option Nat) (a2 : Nat) (c2 : Int), env = { t := u } ∧ u.length = 21 ∧ tg u 0 = .ptr d 0 ∧ tg u 5 = v ∧ tg u 8 = .int .i64 n ∧ tg u 9 = .int .i64 i ∧ σ' = σ.set d (bellObj l a2 c2) ++ g ∧ a2 ≤ l.length ∧ i ≤ n ∧ ws.length = i ∧ (∀ w ∈ ws, w ∈ wordL) ∧ Acc σ g 1 v (strs ws) o)
    (fun env _ => match tg env.t 9 with | .int _ i => n - i.toNat | _ => 0) ⟨_, 0, .nils, [], [], none, a1, c1, rfl, by simp, by simp, by simp, by simp, by simp, by simp, ha1, by omega, rfl, by simp, by simpa using Acc.nil _ _ _⟩ ?_
  rintro env σ' ⟨u, i, v, ws, g, o, a2, c2, rfl, hl2, g0, g5, g8, g9, rfl, ha2, hi, hws, hwl, hA⟩
  rcases Nat.lt_or_ge i n with hlt | hge
  · have hlt' : (i : Int) < (n : Int) := by omega
    have hx := w64 (n := (i : Int) + 1) (by omega) (by omega)
    simp [-aappend, hl2, g0, g5, g8, g9, hlt']
    refine StA.of ((stroke_calls _ d l a2 c2 7 (bell_at hd _) ha2 hl (by omega) (by omega)).mono ?_)
    rintro v2 σ' ⟨n2, a3, c3, rfl, k0, k1, ha3, rfl⟩
    rw [set_set hd]
    obtain ⟨k, rfl⟩ : ∃ k : Nat, n2 = k := ⟨n2.toNat, by omega⟩
    have hk : k < 8 := by omega
    have hw : ∃ w, wordL[k]? = some w ∧ w ∈ wordL := ⟨wordL[k], List.getElem?_eq_getElem hk, List.getElem_mem _⟩
    obtain ⟨w, hw1, hw2⟩ := hw
    have hA1 := (((hA.more [.cells (strs wordL)]).set d (bellObj l a3 c3)).push (P := Tryz.prog) (t := 66) (e := 9) (ag := false) (x := .str w) (by simp) (by simp) (by simp) (by omega) ⟨by simp [AV.cells], by simp [AV.cells, AV.one]⟩ (by simp; omega))
    obtain ⟨v', g', o', he, hA', _⟩ := hA1
    simp [-aappend, wordL] at he
    have hA2 : Acc σ g' 1 v' (strs (ws ++ [w])) o' := by
      have := hA'.len_eq (τ := σ) (by simp)
      simpa [strs] using this
    have hwl2 : ∀ x ∈ ws ++ [w], x ∈ wordL := fun x hx => by
      rcases List.mem_append.1 hx with hx | hx
      · exact hwl x hx
      · rw [List.mem_singleton.1 hx]; exact hw2
    have hln : (ws ++ [w]).length = i + 1 := by simp [hws]
    have h8 : k = 0 ∨ k = 1 ∨ k = 2 ∨ k = 3 ∨ k = 4 ∨ k = 5 ∨ k = 6 ∨ k = 7 := by omega
    clear hA hA' hw2
    generalize hW : ws ++ [w] = W at hA2 hwl2 hln
    rcases h8 with rfl | rfl | rfl | rfl | rfl | rfl | rfl | rfl <;> (
      simp [wordL] at hw1
      subst hw1
      simp [-aappend, hl2, g0, g5, g8, g9, hlt', hx, he]
      exact ⟨⟨i + 1, by simp, W, g', o', a3, ⟨c3, rfl⟩, ha3, hlt, hln, hwl2, by simpa [strs] using hA2⟩, by omega⟩)
  · have hge' : ¬ (i : Int) < (n : Int) := by omega
    simp [hl2, g0, g5, g8, g9, hge']
    refine ⟨_, g, rfl, by simp, bell_hold hd, wordsAV ws, ?_, ws, rfl, by omega, hwl, a2, ha2, c2, rfl⟩
    exact (hA.len_eq (τ := σ.set d (bellObj l a2 c2)) (by simp)).fz (fun x hx y hy => by
      simp only [strs, List.mem_map] at hx
      obtain ⟨w, _, rfl⟩ := hx
      simp [AV.cells] at hy
      subst hy
      exact .str _)
end Ab
namespace Oyez
theorem checkFrom_app {r : Rec} (hr : recErr r = 0) : ∀ (f : List Rec) (p : Option Place), checkFrom p f = 0 → (∀ q, p = some q → q.lt r.place = true) → (∀ q ∈ f, q.place.lt r.place = true) → checkFrom p (f ++ [r]) = 0 := by
  intro f
  induction f with
  | nil =>
    intro p _ hp _
    rw [List.nil_append, checkFrom, if_neg (by simpa using hr), if_neg]
    · rfl
    · cases p with
      | none => simp
      | some q => simp [hp q rfl]
  | cons x t ih =>
    intro p h hp hq
    rw [checkFrom] at h
    rw [List.cons_append, checkFrom]
    split at h
    · rename_i h1; exact absurd h h1
    · rename_i h1
      rw [if_neg h1]
      split at h
      · cases h
      · rename_i h2
        rw [if_neg h2]
        exact ih _ h (fun q e => by rw [← Option.some.inj e]; exact hq x (by simp)) fun q hm => hq q (List.mem_cons_of_mem _ hm)
end Oyez
namespace Ab
open Go Go.RowKit Go.Proofs
attribute [local irreducible] aws awp aw1 Og Om Oc Oa Ogd Ov Ot awd aw1d awh aw1h Ogh Ohd awl Ogl Ohl awv Ogv Ohv QThen QBlock QFn QFnM QRo QBe ACode AYield
theorem wordL_word : ∀ w ∈ wordL, Oyez.word w = true ∧ w.length ≤ 6 := by decide
theorem made_rec {k n : Int} {ws : List (List UInt8)} (hk : 0 ≤ k) (hk4 : k ≤ 4) (hn : 0 ≤ n) (hn2 : n ≤ 99) (hl : ws.length ≤ 4) (hw : ∀ w ∈ ws, w ∈ wordL) : Oyez.recErr ⟨k, n, ws⟩ = 0 := by
  rw [Oyez.recErr_iff]
  constructor
  · unfold Oyez.placeErr
    simp only
    rw [if_neg (by omega), if_neg (by omega)]
  · unfold Oyez.wordsErr
    simp only
    have hall : ws.all Oyez.word = true := List.all_eq_true.2 fun w h => (wordL_word w (hw w h)).1
    rw [if_neg (by omega), hall, if_neg (by simp), if_neg]
    have h1 : (Oyez.name k).length ≤ 6 := by
      have : k = 0 ∨ k = 1 ∨ k = 2 ∨ k = 3 ∨ k = 4 := by omega
      rcases this with rfl | rfl | rfl | rfl | rfl <;> decide
    have h2 : (Oyez.digits n).length ≤ 2 := Oyez.digits_len 1 n.toNat (by omega)
    have h3 : ∀ l : List (List UInt8), (∀ w ∈ l, w ∈ wordL) → (l.flatMap fun w => (32 : UInt8) :: w).length ≤ 7 * l.length := by
      intro l
      induction l with
      | nil => intro _; simp
      | cons w t ih =>
        intro h
        have h4 := ih fun x hx => h x (List.mem_cons_of_mem _ hx)
        have h5 := (wordL_word w (h w (by simp))).2
        simp only [List.flatMap_cons, List.length_append, List.length_cons]
        omega
    have h4 := h3 ws hw
    unfold Oyez.line
    simp only [List.length_append, List.length_cons, List.length_nil]
    omega
theorem hang_calls (σ : Heap) (x : AV) (hx : x.one = true) : ACalls Tryz.prog 8 [x] σ (fun v σ' => v = .ptr σ.length 0 ∧ σ' = σ ++ [.cells [x, .int .i64 0, .int .u32 0]]) := by
  refine acalls_fn Tryz.func8 rfl (enters_fn Tryz.func8 (by decide) rfl) ?_
  cases x <;> first | (simp [AV.one] at hx; done) | simp [Tryz.ntmps8]
end Ab
namespace Ab
open Go Go.RowKit Go.Proofs
attribute [local irreducible] aws awp aw1 Og Om Oc Oa Ogd Ov Ot awd aw1d awh aw1h Ogh Ohd awl Ogl Ohl awv Ogv Ohv QThen QBlock QFn QFnM QRo QBe ACode AYield
set_option maxHeartbeats 4000000 in
theorem made15_calls (σ : Heap) (d : Nat) (l : List UInt8) (a : Nat) (c : Int) (h : σ[d]? = some (bellObj l a c)) (ha : a ≤ l.length) (hl : l.length ≤ 9223372036854775807) :
    ACalls Tryz.prog 24 [.ptr d 0, .int .i64 15] σ (fun v σ' => ∃ (f : List Oyez.Rec) (a' : Nat) (c' : Int), v = fileAV f ∧ Oyez.check f = 0 ∧ f.length ≤ 15 ∧ (∀ r ∈ f, ∀ w ∈ r.words, w ∈ wordL) ∧ a' ≤ l.length ∧ σ' = σ.set d (bellObj l a' c')) := by
  have hd := (List.getElem?_eq_some_iff.1 h).1
  have h0 : σ.set d (bellObj l a c) = σ := by
    apply List.ext_getElem?
    intro i
    rw [List.getElem?_set]
    split
    · rename_i e; subst e; exact h.symm
    · rfl
  refine ACalls.forgetT ?_
  refine acalls_fn Tryz.func24 rfl (enters_fn Tryz.func24 (by decide) rfl) ?_
  simp [-aappend, Tryz.ntmps24]
  refine ACode_loopT (fun env σ' => ∃ (u : List AV) (k : Nat) (v : AV) (f : List Oyez.Rec) (g : Heap) (o : Option Nat) (a2 : Nat) (c2 : Int), env = { t := u } ∧ u.length = 32 ∧ tg u 0 = .ptr d 0 ∧ tg u 1 = .int .i64 15 ∧ tg u 5 = v ∧ tg u 6 = .int .i64 k ∧ σ' = σ.set d (bellObj l a2 c2) ++ g ∧ a2 ≤ l.length ∧ k ≤ 5 ∧ f.length ≤ 3 * k ∧ Oyez.checkFrom none f = 0 ∧ (∀ r ∈ f, r.kind < k) ∧ (∀ r ∈ f, ∀ w ∈ r.words, w ∈ wordL) ∧ Acc σ g 3 v (f.map recAV) o)
    (fun env _ => match tg env.t 6 with | .int _ i => 5 - i.toNat | _ => 0) ⟨_, 0, .nils, [], [], none, a, c, rfl, by simp, by simp, by simp, by simp, by simp, by simp [h0], ha, by omega, by simp, rfl, by simp, by simp, by simpa using Acc.nil _ _ _⟩ ?_
  rintro env σ' ⟨u, k, v, f, g, o, a2, c2, rfl, hl2, g0, g1, g5, g6, rfl, ha2, hk, hfl, hck, hkind, hwrd, hA⟩
  rcases Nat.lt_or_ge k 5 with hlt | hge
  · have hlt' : (k : Int) ≤ 4 := by omega
    have hx := w64 (n := (k : Int) + 1) (by omega) (by omega)
    simp [-aappend, hl2, g0, g1, g5, g6, hlt']
    refine StA.of ((stroke_calls _ d l a2 c2 3 (bell_at hd _) ha2 hl (by omega) (by omega)).mono ?_)
    rintro v2 σ' ⟨n, a3, c3, rfl, k0, k1, ha3, rfl⟩
    rw [set_set hd]
    obtain ⟨m, rfl⟩ : ∃ m : Nat, n = m := ⟨n.toNat, by omega⟩
    simp [-aappend, hl2, g0, g1, g5, g6]
    refine ACode_loopT (fun env σ' => ∃ (u : List AV) (i : Nat) (n : Int) (v : AV) (f : List Oyez.Rec) (g : Heap) (o : Option Nat) (a2 : Nat) (c2 : Int), env = { t := u } ∧ u.length = 32 ∧ tg u 0 = .ptr d 0 ∧ tg u 1 = .int .i64 15 ∧ tg u 5 = v ∧ tg u 6 = .int .i64 k ∧ tg u 7 = .int .i64 n ∧ tg u 15 = .int .i64 m ∧ tg u 16 = .int .i64 i ∧ σ' = σ.set d (bellObj l a2 c2) ++ g ∧ a2 ≤ l.length ∧ i ≤ m ∧ (i : Int) - 1 ≤ n ∧ n ≤ 4 * (i : Int) - 1 ∧ f.length ≤ 3 * k + i ∧ Oyez.checkFrom none f = 0 ∧ (∀ r ∈ f, r.kind < k ∨ (r.kind = k ∧ r.number ≤ n)) ∧ (∀ r ∈ f, ∀ w ∈ r.words, w ∈ wordL) ∧ Acc σ g 3 v (f.map recAV) o)
      (fun env _ => match tg env.t 16 with | .int _ i => m - i.toNat | _ => 0) ⟨_, 0, -1, v, f, g, o, a3, c3, rfl, by simp [hl2], by simp [hl2, g0], by simp [hl2, g1], by simp [hl2, g5], by simp [hl2, g6], by simp [hl2], by simp [hl2], by simp [hl2], rfl, ha3, by omega, by omega, by omega, by omega, hck, fun r hr => .inl (hkind r hr), hwrd, hA⟩ ?_
    clear hA hck hkind hwrd g0 g1 g5 g6 hl2 u hfl ha2 ha3
    rintro env σ' ⟨u, i, n, v, f, g, o, a2, c2, rfl, hl2, g0, g1, g5, g6, g7, g15, g16, rfl, ha2, hi, hn1, hn2, hfl, hck, hkind, hwrd, hA⟩
    rcases Nat.lt_or_ge i m with hlt2 | hge2
    · have hlt2' : (i : Int) < (m : Int) := by omega
      have hx2 := w64 (n := (i : Int) + 1) (by omega) (by omega)
      simp [-aappend, hl2, g0, g1, g5, g6, g7, g15, g16, hlt2']
      refine StA.of ((strike_calls _ d l a2 c2 1 4 (bell_at hd _) ha2 hl (by omega) (by omega) (by omega)).mono ?_)
      rintro v2 σ' ⟨s, a3, c3, rfl, k0, k1, ha3, rfl⟩
      rw [set_set hd]
      have hxs := w64 (n := n + s) (by omega) (by omega)
      simp [-aappend, hl2, g0, g1, g5, g6, g7, g15, g16, hxs]
      refine StA.of ((Worded_calls _ d l a3 c3 4 (bell_at hd _) ha3 hl (by omega) (by omega)).mono ?_)
      rintro v3 σ' ⟨ws, a4, c4, rfl, hwl, hwm, ha4, rfl⟩
      rw [set_set hd]
      have hr : Oyez.recErr ⟨k, n + s, ws⟩ = 0 := made_rec (by omega) hlt' (by omega) (by omega) (by omega) hwm
      have hA1 := ((hA.set d (bellObj l a4 c4)).push (P := Tryz.prog) (t := 57) (e := 88) (ag := true) (x := recAV ⟨k, n + s, ws⟩) (by simp) (by simp) (by simp) (by omega) ⟨by simp [AV.cells], by simp [AV.cells, AV.one]⟩ (by simp; omega))
      obtain ⟨v', g', o', he, hA', _⟩ := hA1
      simp [-aappend] at he
      have hA2 : Acc σ g' 3 v' ((f ++ [(⟨k, n + s, ws⟩ : Oyez.Rec)]).map recAV) o' := by
        have := hA'.len_eq (τ := σ) (by simp)
        simpa using this
      have hk1 : Oyez.checkFrom none (f ++ [(⟨k, n + s, ws⟩ : Oyez.Rec)]) = 0 := Oyez.checkFrom_app hr f none hck (fun q hq => by cases hq) fun q hq => by
        rw [Oyez.Place.lt_iff]
        rcases hkind q hq with h1 | ⟨h1, h2⟩
        · exact .inl h1
        · exact .inr ⟨h1, by show q.number < n + s; omega⟩
      have hk2 : ∀ r ∈ f ++ [(⟨k, n + s, ws⟩ : Oyez.Rec)], r.kind < k ∨ (r.kind = k ∧ r.number ≤ n + s) := fun r hr => by
        rcases List.mem_append.1 hr with hr | hr
        · rcases hkind r hr with h1 | ⟨h1, h2⟩
          · exact .inl h1
          · exact .inr ⟨h1, by omega⟩
        · rw [List.mem_singleton.1 hr]; exact .inr ⟨rfl, by simp⟩
      have hk3 : (f ++ [(⟨k, n + s, ws⟩ : Oyez.Rec)]).length ≤ 3 * k + (i + 1) := by simp; omega
      have hk4 : ∀ r ∈ f ++ [(⟨k, n + s, ws⟩ : Oyez.Rec)], ∀ w ∈ r.words, w ∈ wordL := fun r hr => by
        rcases List.mem_append.1 hr with hr | hr
        · exact hwrd r hr
        · rw [List.mem_singleton.1 hr]; exact hwm
      generalize f ++ [(⟨k, n + s, ws⟩ : Oyez.Rec)] = F at hA2 hk1 hk2 hk3 hk4
      simp [-aappend, hl2, g0, g1, g5, g6, g7, g15, g16, he, hx2]
      exact ⟨⟨i + 1, by simp, F, g', o', a4, ⟨c4, rfl⟩, ha4, hlt2, by omega, by omega, hk3, hk1, hk2, hk4, hA2⟩, by omega⟩
    · have hge2' : ¬ (i : Int) < (m : Int) := by omega
      simp [-aappend, hl2, g0, g1, g5, g6, g7, g15, g16, hge2', hx]
      exact ⟨⟨k + 1, by simp, f, g, o, a2, ⟨c2, rfl⟩, ha2, by omega, by omega, hck, fun r hr => by rcases hkind r hr with h1 | ⟨h1, _⟩ <;> omega, hwrd, hA⟩, by omega⟩
  · obtain rfl : k = 5 := by omega
    simp [-aappend, hl2, g0, g1, g5, g6]
    refine ⟨_, g, rfl, by simp, bell_hold hd, fileAV f, ?_, f, rfl, ?_, by omega, hwrd, a2, ha2, c2, rfl⟩
    · exact (hA.len_eq (τ := σ.set d (bellObj l a2 c2)) (by simp)).fz (fun x hx y hy => by
        obtain ⟨r, _, rfl⟩ := List.mem_map.1 hx
        simp [AV.cells] at hy
        rcases hy with rfl | rfl | rfl
        · exact .int _ _
        · exact .int _ _
        · exact (Fz_strs _ _ _).2 trivial)
    · unfold Oyez.check
      rw [if_neg (by omega)]
      exact hck
end Ab

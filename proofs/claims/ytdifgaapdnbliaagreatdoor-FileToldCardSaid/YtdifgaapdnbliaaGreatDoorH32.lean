/-
  THE BELL: strokes, words, and the file that is made of numbers.
-/
import Derived.Test.YtdifgaapdnbliaaGreatDoorH22
import Derived.Test.YtdifgaapdnbliaaGreatDoorH17
import Derived.Test.YtdifgaapdnbliaaGreatDoorH19
import Derived.Test.YtdifgaapdnbliaaGreatDoorH20
import Derived.Test.YtdifgaapdnbliaaGreatDoorH31
set_option linter.unusedSimpArgs false
set_option linter.unusedVariables false
set_option linter.unusedSectionVars false
namespace Ab
open Go Go.RowKit Go.Proofs
attribute [local irreducible] aws awp aw1 Og Om Oc Oa Ogd Ov Ot awd aw1d awh aw1h Ogh Ohd awl Ogl Ohl awv Ogv Ohv QThen QBlock QFn QFnM QRo QBe ACode AYield
/-- a number from 0 up to m -/
def Drew (l : List UInt8) (d : Nat) (σ : Heap) (m : Int) (v : AV) (σ' : Heap) : Prop := ∃ (n : Int) (a' : Nat) (c' : Int), v = .int .i64 n ∧ 0 ≤ n ∧ n ≤ m ∧ a' ≤ l.length ∧ σ' = σ.set d (bellObj l a' c')
theorem stroke_calls (σ : Heap) (d : Nat) (l : List UInt8) (a : Nat) (c m : Int) (h : σ[d]? = some (bellObj l a c)) (ha : a ≤ l.length) (hl : l.length ≤ 9223372036854775807) (hm : 0 ≤ m) (hm2 : m ≤ 2 ^ 40) :
    ACalls Tryz.prog 116 [.ptr d 0, .int .i64 m] σ (Drew l d σ m) := by
  refine acalls_fn Tryz.func116 rfl (enters_fn Tryz.func116 (by decide) rfl) ?_
  simp [Tryz.ntmps116]
  refine StA.of ((ring_calls σ d l a c h ha hl).mono ?_)
  rintro v σ' ⟨n, a', c', rfl, h0, h1, ha', rfl⟩
  have hx := w64 (n := m + 1) (by omega) (by omega)
  have hne : ¬ m + 1 = 0 := by omega
  have hif : (if 1 < m + 1 then m + 1 else 1) = m + 1 := by split <;> omega
  simp [hx, hne]
  rw [hif, if_neg hne]
  simp only [Option.map_some, Om_some]
  have h3 := Int.tmod_lt_of_pos n (show 0 < m + 1 by omega)
  exact ⟨_, a', c', rfl, Int.tmod_nonneg _ h0, by omega, ha', rfl⟩
theorem strike_calls (σ : Heap) (d : Nat) (l : List UInt8) (a : Nat) (c lo hi : Int) (h : σ[d]? = some (bellObj l a c)) (ha : a ≤ l.length) (hl : l.length ≤ 9223372036854775807) (h0 : 0 ≤ lo) (h1 : lo ≤ hi) (h2 : hi ≤ 2 ^ 40) :
    ACalls Tryz.prog 117 [.ptr d 0, .int .i64 lo, .int .i64 hi] σ (fun v σ' => ∃ (n : Int) (a' : Nat) (c' : Int), v = .int .i64 n ∧ lo ≤ n ∧ n ≤ hi ∧ a' ≤ l.length ∧ σ' = σ.set d (bellObj l a' c')) := by
  refine acalls_fn Tryz.func117 rfl (enters_fn Tryz.func117 (by decide) rfl) ?_
  have hx := w64 (n := hi - lo) (by omega) (by omega)
  simp [Tryz.ntmps117, hx]
  refine StA.of ((stroke_calls σ d l a c (hi - lo) h ha hl (by omega) (by omega)).mono ?_)
  rintro v σ' ⟨n, a', c', rfl, h0, h1, ha', rfl⟩
  have hx2 := w64 (n := lo + n) (by omega) (by omega)
  simp [hx2]
  exact ⟨by omega, by omega, a', ha', c', rfl⟩
/-- the words that are drawn -/
def wordL : List (List UInt8) := [[116, 105, 100, 101], [115, 116, 111, 114, 109], [113, 117, 97, 121], [112, 117, 114, 115, 101, 55], [98, 101, 108, 108], [97], [48], [108, 111, 97, 102, 52]]
theorem bell_hold {σ : Heap} {d : Nat} {l : List UInt8} {a : Nat} {c : Int} {n : Nat} {S : Heap} (hd : d < σ.length) : ∀ (r : Nat) (o : AObj), (σ.set d (bellObj l a c))[r]? = some o → σ[r]? = some o ∨ ∃ cs, o = .cells cs ∧ ∀ y ∈ cs, Fz n S y y := by
  intro r o h
  rw [List.getElem?_set] at h
  split at h
  · obtain rfl := Option.some.inj h
    refine .inr ⟨_, rfl, fun y hy => ?_⟩
    simp at hy
    rcases hy with rfl | rfl | rfl
    · refine .pl 1 _ fun i x hx j y hy => ?_
      unfold bytesL at hx
      rw [List.getElem?_map, Option.map_eq_some_iff] at hx
      obtain ⟨b, _, rfl⟩ := hx
      match j, hy with
      | 0, hy => simp [AV.cells] at hy; subst hy; exact .int _ _
      | j + 1, hy => simp [AV.cells] at hy
    · exact .int _ _
    · exact .int _ _
  · exact .inl h
theorem Acc.set {σ g : Heap} {k : Nat} {v : AV} {l : List AV} {o : Option Nat} (h : Acc σ g k v l o) (d : Nat) (X : AObj) : Acc (σ.set d X) g k v l o := ⟨h.len, by
  have := h.val
  cases o with
  | none => exact this
  | some j => rw [List.length_set]; exact this⟩
theorem Acc.len_eq {σ τ g : Heap} {k : Nat} {v : AV} {l : List AV} {o : Option Nat} (h : Acc σ g k v l o) (e : σ.length = τ.length) : Acc τ g k v l o := ⟨h.len, by
  have := h.val
  cases o with
  | none => exact this
  | some j => rw [← e]; exact this⟩
theorem set_set {σ g : Heap} {d : Nat} (hd : d < σ.length) (X Y : AObj) : (σ.set d X ++ g).set d Y = σ.set d Y ++ g := by
  rw [List.set_append_left _ _ (by simpa using hd), List.set_set]
theorem bell_at {σ g : Heap} {d : Nat} (hd : d < σ.length) (X : AObj) : (σ.set d X ++ g)[d]? = some X := by
  rw [List.getElem?_append_left (by simpa using hd)]; simp [hd]
set_option maxHeartbeats 4000000 in
theorem Worded_calls (σ : Heap) (d : Nat) (l : List UInt8) (a : Nat) (c m : Int) (h : σ[d]? = some (bellObj l a c)) (ha : a ≤ l.length) (hl : l.length ≤ 9223372036854775807) (hm : 0 ≤ m) (hm2 : m ≤ 2 ^ 10) :
    ACalls Tryz.prog 118 [.ptr d 0, .int .i64 m] σ (fun v σ' => ∃ (ws : List (List UInt8)) (a' : Nat) (c' : Int), v = wordsAV ws ∧ (ws.length : Int) ≤ m ∧ (∀ w ∈ ws, w ∈ wordL) ∧ a' ≤ l.length ∧ σ' = σ.set d (bellObj l a' c')) := by
  have hd := (List.getElem?_eq_some_iff.1 h).1
  refine ACalls.forgetT ?_
  refine acalls_fn Tryz.func118 rfl (enters_fn Tryz.func118 (by decide) rfl) ?_
  simp [Tryz.ntmps118]
  refine StA.of ((stroke_calls σ d l a c m h ha hl hm (by omega)).mono ?_)
  rintro v σ' ⟨n, a1, c1, rfl, h0, h1, ha1, rfl⟩
  obtain ⟨n, rfl⟩ : ∃ k : Nat, n = k := ⟨n.toNat, by omega⟩
  simp
  refine ACode_loopT (fun env σ' => ∃ (u : List AV) (i : Nat) (v : AV) (ws : List (List UInt8)) (g : Heap) (o : Option Nat) (a2 : Nat) (c2 : Int), env = { t := u } ∧ u.length = 21 ∧ tg u 0 = .ptr d 0 ∧ tg u 5 = v ∧ tg u 8 = .int .i64 n ∧ tg u 9 = .int .i64 i ∧ σ' = σ.set d (bellObj l a2 c2) ++ g ∧ a2 ≤ l.length ∧ i ≤ n ∧ ws.length = i ∧ (∀ w ∈ ws, w ∈ wordL) ∧ Acc σ g 1 v (strs ws) o)
    (fun env _ => match tg env.t 9 with | .int _ i => n - i.toNat | _ => 0) ⟨_, 0, .nils, [], [], none, a1, c1, rfl, by simp, by simp, by simp, by simp, by simp, by simp, ha1, by omega, rfl, by simp, by simpa using Acc.nil _ _ _⟩ ?_
  rintro env σ' ⟨u, i, v, ws, g, o, a2, c2, rfl, hl2, g0, g5, g8, g9, rfl, ha2, hi, hws, hwl, hA⟩
  rcases Nat.lt_or_ge i n with hlt | hge
  · have hlt' : (i : Int) < (n : Int) := by omega
    have hx := w64 (n := (i : Int) + 1) (by omega) (by omega)
    simp [-aappend, hl2, g0, g5, g8, g9, hlt']
    refine StA.of ((stroke_calls _ d l a2 c2 7 (bell_at hd _) ha2 hl (by omega) (by omega)).mono ?_)
    rintro v2 σ' ⟨n2, a3, c3, rfl, k0, k1, ha3, rfl⟩
    rw [set_set hd]
    obtain ⟨k, rfl⟩ : ∃ k : Nat, n2 = k := ⟨n2.toNat, by omega⟩
    have hk : k < 8 := by omega
    have hw : ∃ w, wordL[k]? = some w ∧ w ∈ wordL := ⟨wordL[k], List.getElem?_eq_getElem hk, List.getElem_mem _⟩
    obtain ⟨w, hw1, hw2⟩ := hw
    have hA1 := (((hA.more [.cells (strs wordL)]).set d (bellObj l a3 c3)).push (P := Tryz.prog) (t := 55) (e := 9) (ag := false) (x := .str w) (by simp) (by simp) (by simp) (by omega) ⟨by simp [AV.cells], by simp [AV.cells, AV.one]⟩ (by simp; omega))
    obtain ⟨v', g', o', he, hA', _⟩ := hA1
    simp [-aappend, wordL] at he
    have hA2 : Acc σ g' 1 v' (strs (ws ++ [w])) o' := by
      have := hA'.len_eq (τ := σ) (by simp)
      simpa [strs] using this
    have hwl2 : ∀ x ∈ ws ++ [w], x ∈ wordL := fun x hx => by
      rcases List.mem_append.1 hx with hx | hx
      · exact hwl x hx
      · rw [List.mem_singleton.1 hx]; exact hw2
    have hln : (ws ++ [w]).length = i + 1 := by simp [hws]
    have h8 : k = 0 ∨ k = 1 ∨ k = 2 ∨ k = 3 ∨ k = 4 ∨ k = 5 ∨ k = 6 ∨ k = 7 := by omega
    clear hA hA' hw2
    generalize hW : ws ++ [w] = W at hA2 hwl2 hln
    rcases h8 with rfl | rfl | rfl | rfl | rfl | rfl | rfl | rfl <;> (
      simp [wordL] at hw1
      subst hw1
      simp [-aappend, hl2, g0, g5, g8, g9, hlt', hx, he]
      exact ⟨⟨i + 1, by simp, W, g', o', a3, ⟨c3, rfl⟩, ha3, hlt, hln, hwl2, by simpa [strs] using hA2⟩, by omega⟩)
  · have hge' : ¬ (i : Int) < (n : Int) := by omega
    simp [hl2, g0, g5, g8, g9, hge']
    refine ⟨_, g, rfl, by simp, bell_hold hd, wordsAV ws, ?_, ws, rfl, by omega, hwl, a2, ha2, c2, rfl⟩
    exact (hA.len_eq (τ := σ.set d (bellObj l a2 c2)) (by simp)).fz (fun x hx y hy => by
      simp only [strs, List.mem_map] at hx
      obtain ⟨w, _, rfl⟩ := hx
      simp [AV.cells] at hy
      subst hy
      exact .str _)
end Ab

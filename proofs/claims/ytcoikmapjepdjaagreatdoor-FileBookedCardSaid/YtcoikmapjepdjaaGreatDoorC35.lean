/-
  THE BELL: strikes from below nothing, seldom, winds, the numbers in some order.
  THE BELL: what it rings next, exactly.
-/
import Derived.Test.YtcoikmapjepdjaaGreatDoorC34
import Derived.Test.YtcoikmapjepdjaaGreatDoorC29
import Derived.Test.YtcoikmapjepdjaaGreatDoorC31
set_option linter.unusedSimpArgs false
set_option linter.unusedVariables false
set_option linter.unusedSectionVars false
namespace Ab
open Go Go.RowKit Go.Proofs
theorem nodup_swap {L : List Int} {k : Int} {i : Nat} (hn : L.Nodup) (hk : k ∉ L) (hi : i < L.length) : (L.set i k ++ [L[i]]).Nodup := by
  have key : ∀ (L : List Int) (i : Nat) (k : Int), L.Nodup → k ∉ L → ∀ (hi : i < L.length), (L.set i k ++ [L[i]]).Nodup ∧ ∀ x ∈ L.set i k, x = k ∨ x ∈ L := by
    intro L
    induction L with
    | nil => intro i k _ _ hi; simp at hi
    | cons y L ih =>
      intro i k hn hk hi
      rw [List.nodup_cons] at hn
      rw [List.mem_cons, not_or] at hk
      cases i with
      | zero =>
        refine ⟨?_, fun x hx => ?_⟩
        · simp only [List.set_cons_zero, List.getElem_cons_zero, List.cons_append, List.nodup_cons, List.mem_append, List.mem_singleton, not_or]
          refine ⟨⟨hk.2, hk.1⟩, ?_⟩
          rw [List.nodup_append]
          exact ⟨hn.2, by simp, fun a ha b hb => by rw [List.mem_singleton.1 hb]; intro e; subst e; exact hn.1 ha⟩
        · simp at hx
          rcases hx with rfl | hx
          · exact .inl rfl
          · exact .inr (by simp [hx])
      | succ i =>
        have hi' : i < L.length := by simpa using hi
        obtain ⟨h1, h2⟩ := ih i k hn.2 hk.2 hi'
        refine ⟨?_, fun x hx => ?_⟩
        · simp only [List.set_cons_succ, List.getElem_cons_succ, List.cons_append, List.nodup_cons, List.mem_append, List.mem_singleton, not_or]
          refine ⟨⟨fun h => ?_, fun e => ?_⟩, h1⟩
          · rcases h2 y h with e | h
            · exact hk.1 e.symm
            · exact hn.1 h
          · exact hn.1 (e ▸ List.getElem_mem hi')
        · simp at hx
          rcases hx with rfl | hx
          · exact .inr (by simp)
          · rcases h2 x hx with e | h
            · exact .inl e
            · exact .inr (by simp [h])
  exact (key L i k hn hk hi).1
attribute [local irreducible] aws awp aw1 Og Om Oc Oa Ogd Ov Ot awd aw1d awh aw1h Ogh Ohd awl Ogl Ohl awv Ogv Ohv QThen QBlock QFn QFnM QRo QBe ACode AYield
theorem strikeZ_calls (σ : Heap) (d : Nat) (l : List UInt8) (a : Nat) (c lo hi : Int) (h : σ[d]? = some (bellObj l a c)) (ha : a ≤ l.length) (hl : l.length ≤ 9223372036854775807) (h0 : -1000 ≤ lo) (h1 : lo ≤ hi) (h2 : hi ≤ 2 ^ 30) :
    ACalls Tryz.prog 45 [.ptr d 0, .int .i64 lo, .int .i64 hi] σ (fun v σ' => ∃ (n : Int) (a' : Nat) (c' : Int), v = .int .i64 n ∧ lo ≤ n ∧ n ≤ hi ∧ a' ≤ l.length ∧ σ' = σ.set d (bellObj l a' c')) := by
  refine acalls_fn Tryz.func45 rfl (enters_fn Tryz.func45 (by decide) rfl) ?_
  have hx := w64 (n := hi - lo) (by omega) (by omega)
  simp [Tryz.ntmps45, hx]
  refine StA.of ((stroke_calls σ d l a c (hi - lo) h ha hl (by omega) (by omega)).mono ?_)
  rintro v σ' ⟨n, a', c', rfl, h0, h1, ha', rfl⟩
  have hx2 := w64 (n := lo + n) (by omega) (by omega)
  simp [hx2]
  exact ⟨by omega, by omega, a', ha', c', rfl⟩
theorem seldom_calls (σ : Heap) (d : Nat) (l : List UInt8) (a : Nat) (c n : Int) (h : σ[d]? = some (bellObj l a c)) (ha : a ≤ l.length) (hl : l.length ≤ 9223372036854775807) (h0 : 1 ≤ n) (h2 : n ≤ 2 ^ 30) :
    ACalls Tryz.prog 51 [.ptr d 0, .int .i64 n] σ (fun v σ' => ∃ (b : Bool) (a' : Nat) (c' : Int), v = .bool b ∧ a' ≤ l.length ∧ σ' = σ.set d (bellObj l a' c')) := by
  refine acalls_fn Tryz.func51 rfl (enters_fn Tryz.func51 (by decide) rfl) ?_
  have hx := w64 (n := n - 1) (by omega) (by omega)
  simp [Tryz.ntmps51, hx]
  refine StA.of ((stroke_calls σ d l a c (n - 1) h ha hl (by omega) (by omega)).mono ?_)
  rintro v σ' ⟨m, a', c', rfl, h0, h1, ha', rfl⟩
  simp
  exact ⟨by omega, a', ha', c', rfl⟩
theorem wind_calls (v : Int) (h0 : -1000 ≤ v) (h1 : v ≤ 1000) : APure Tryz.prog 130 [.int .i64 v, .int .i64 8] (.int .i64 (v % 8)) := by
  intro σ
  refine acalls_fn Tryz.func130 rfl (enters_fn Tryz.func130 (by decide) rfl) ?_
  have hm := Int.tmod_lt_of_pos v (show (0 : Int) < 8 by decide)
  have hm2 := Int.lt_tmod_of_pos v (show (0 : Int) < 8 by decide)
  have hw := w64 (n := v.tmod 8) (by omega) (by omega)
  have hw2 := w64 (n := v.tmod 8 + 8) (by omega) (by omega)
  have e : v.tmod 8 = if 0 ≤ v ∨ (8 : Int) ∣ v then v % 8 else v % 8 - 8 := by
    rw [Int.tmod_eq_emod]
    split <;> simp
  simp [Tryz.ntmps130, hw]
  by_cases hn : v.tmod 8 < 0
  · simp [hn, hw2]
    omega
  · simp [hn]
    omega
def intsA (l : List Int) : List AV := l.map fun x => AV.int .i64 x
set_option maxHeartbeats 1000000 in
/-- the numbers below n, in some order -/
theorem rung_calls (σ : Heap) (d : Nat) (l : List UInt8) (a : Nat) (c : Int) (n : Nat) (h : σ[d]? = some (bellObj l a c)) (ha : a ≤ l.length) (hl : l.length ≤ 9223372036854775807) (hn : n ≤ 2 ^ 20) :
    ACalls Tryz.prog 62 [.ptr d 0, .int .i64 n] σ (fun v σ' => ∃ (L : List Int) (a' : Nat) (c' : Int), v = .pl 1 (intsA L) ∧ L.length = n ∧ L.Nodup ∧ (∀ x ∈ L, 0 ≤ x ∧ x < n) ∧ a' ≤ l.length ∧ σ' = σ.set d (bellObj l a' c')) := by
  have hd := (List.getElem?_eq_some_iff.1 h).1
  have h0 : σ.set d (bellObj l a c) = σ := by
    apply List.ext_getElem?
    intro i
    rw [List.getElem?_set]
    split
    · rename_i e; subst e; exact h.symm
    · rfl
  refine ACalls.forgetT ?_
  refine acalls_fn Tryz.func62 rfl (enters_fn Tryz.func62 (by decide) rfl) ?_
  have hmax : (if (0 : Int) < (n : Int) then (n : Int) else 0) = n := by split <;> omega
  simp [-aappend, Tryz.ntmps62, hmax]
  refine ACode_loopT (fun env σ' => ∃ (u : List AV) (k : Nat) (v : AV) (L : List Int) (g : Heap) (o : Option Nat) (a2 : Nat) (c2 : Int), env = { t := u } ∧ u.length = 36 ∧ tg u 0 = .ptr d 0 ∧ tg u 5 = v ∧ tg u 9 = .int .i64 n ∧ tg u 10 = .int .i64 k ∧ σ' = σ.set d (bellObj l a2 c2) ++ g ∧ a2 ≤ l.length ∧ k ≤ n ∧ L.length = k ∧ L.Nodup ∧ (∀ x ∈ L, 0 ≤ x ∧ x < (k : Int)) ∧ Acc σ g 1 v (intsA L) o)
    (fun env _ => match tg env.t 10 with | .int _ i => n - i.toNat | _ => 0) ⟨_, 0, .nils, [], [], none, a, c, rfl, by simp, by simp, by simp, by simp; omega, by simp, by simp [h0], ha, by omega, rfl, by simp, by simp, by simpa [intsA] using Acc.nil _ _ _⟩ ?_
  rintro env σ' ⟨u, k, v, L, g, o, a2, c2, rfl, hl2, g0, g5, g9, g10, rfl, ha2, hk, hLl, hLn, hLm, hA⟩
  rcases Nat.lt_or_ge k n with hlt | hge
  · have hlt' : (k : Int) < (n : Int) := by omega
    have hx := w64 (n := (k : Int) + 1) (by omega) (by omega)
    simp [-aappend, hl2, g0, g5, g9, g10, hlt']
    refine StA.of ((stroke_calls _ d l a2 c2 k (bell_at hd _) ha2 hl (by omega) (by omega)).mono ?_)
    rintro v2 σ' ⟨i, a3, c3, rfl, k0, k1, ha3, rfl⟩
    rw [set_set hd]
    obtain ⟨m, rfl⟩ : ∃ m : Nat, i = m := ⟨i.toNat, by omega⟩
    have hA1 := ((hA.set d (bellObj l a3 c3)).push (P := Tryz.prog) (t := 32) (e := 3) (ag := false) (x := .int .i64 (k : Nat)) (by simp) (by simp) (by simp) (by omega) ⟨by simp [AV.cells], by simp [AV.cells, AV.one]⟩ (by simp [intsA]; omega))
    obtain ⟨v', g', o', he, hA', _⟩ := hA1
    simp [-aappend] at he
    simp [-aappend, hl2, g0, g5, g9, g10, he]
    cases o' with
    | none => exact absurd hA'.val.2 (by simp [intsA])
    | some jo =>
      obtain ⟨rfl, hjo⟩ := hA'.val
      have hfl : List.flatMap AV.cells (intsA L ++ [AV.int IntKind.i64 (k : Int)]) = intsA (L ++ [(k : Int)]) := by simp [intsA, List.flatMap_append, bk_flat_int, AV.cells]
      have hll : (intsA L).length = k := by simp [intsA, hLl]
      rw [hfl] at hjo
      have hat : (List.set σ d (bellObj l a3 c3) ++ g')[σ.length + jo]? = some (.cells (intsA (L ++ [(k : Int)]))) := by rw [List.getElem?_append_right (by simp)]; simpa using hjo
      have hmk : m < k + 1 := by omega
      have hl1 : (intsA (L ++ [(k : Int)])).length = k + 1 := by simp [intsA, hLl]
      have hk1 : (intsA (L ++ [(k : Int)]))[k]? = some (.int .i64 k) := by simp [intsA, hLl]
      have hm1 : (intsA (L ++ [(k : Int)]))[m]? = some (.int .i64 ((L ++ [(k : Int)])[m]'(by simp [hLl]; omega))) := by unfold intsA; rw [List.getElem?_map, List.getElem?_eq_getElem (by simp [hLl]; omega)]; rfl
      generalize hx0 : (L ++ [(k : Int)])[m]'(by simp [hLl]; omega) = x0 at hm1
      obtain ⟨Z, hZ⟩ : ∃ Z, intsA (L ++ [(k : Int)]) = Z := ⟨_, rfl⟩
      rw [hZ] at hat hl1 hk1 hm1
      have hk2 : Z[k]'(by omega) = .int .i64 k := Option.some.inj ((List.getElem?_eq_getElem (by omega)).symm.trans hk1)
      have hm2 : Z[m]'(by omega) = .int .i64 x0 := Option.some.inj ((List.getElem?_eq_getElem (by omega)).symm.trans hm1)
      have hmk2 : m ≤ k := by omega
      have hgl : jo < g'.length := (List.getElem?_eq_some_iff.1 hjo).1
      have hgj : g'[jo]'hgl = .cells Z := by rw [← hZ]; exact Option.some.inj ((List.getElem?_eq_getElem hgl).symm.trans hjo)
      simp [-aappend, hl2, g0, g5, g9, g10, hll]
      refine ACode_drawV [13, 15] [(2, 1), (3, 1)] mixed (by kernel_rfl) (by kernel_rfl) ?_
      simp [-aappend, hl2, g0, g5, g9, g10, hll, hmk, hmk2, hgj, hl1, hk2, hm2, hgl]
      have hset : ∀ (A B : AV), List.take k (List.take m Z ++ A :: List.drop (m + 1) Z) ++ B :: List.drop (k + 1) (List.take m Z ++ A :: List.drop (m + 1) Z) = (Z.set m A).set k B := fun A B => by
        rw [← show Z.set m A = List.take m Z ++ A :: List.drop (m + 1) Z from by rw [List.set_eq_take_append_cons_drop, if_pos (by omega)], List.set_eq_take_append_cons_drop (l := Z.set m A), if_pos (by simp; omega)]
      rw [if_pos (by omega), Om_some, hset]
      have hrow : ∃ L' : List Int, (Z.set m (.int .i64 k)).set k (.int .i64 x0) = intsA L' ∧ L'.length = k + 1 ∧ L'.Nodup ∧ ∀ x ∈ L', 0 ≤ x ∧ x < (k : Int) + 1 := by
        refine ⟨((L ++ [(k : Int)]).set m k).set k x0, by rw [← hZ]; simp [intsA, List.map_set], by simp [hLl], ?_⟩
        have hkL : (k : Int) ∉ L := fun h => by have := hLm _ h; omega
        rcases Nat.lt_or_ge m k with h1 | h1
        · have e : ((L ++ [(k : Int)]).set m k).set k x0 = L.set m k ++ [L[m]'(by omega)] := by
            rw [List.set_append_left _ _ (by omega), List.set_append_right _ _ (by simp; omega)]
            rw [← hx0, List.getElem_append_left (by omega)]
            simp [hLl]
          rw [e]
          refine ⟨nodup_swap hLn hkL (by omega), fun x hx => ?_⟩
          rcases List.mem_append.1 hx with hx | hx
          · rcases List.mem_or_eq_of_mem_set hx with hx | rfl
            · have := hLm x hx; omega
            · omega
          · rw [List.mem_singleton.1 hx]
            have := hLm _ (List.getElem_mem (show m < L.length by omega))
            omega
        · obtain rfl : m = k := by omega
          have e : ((L ++ [(m : Int)]).set m m).set m x0 = L ++ [(m : Int)] := by
            rw [← hx0, List.getElem_append_right (by omega)]
            rw [List.set_append_right _ _ (by omega), List.set_append_right _ _ (by omega)]
            simp [hLl]
          rw [e]
          refine ⟨?_, fun x hx => ?_⟩
          · rw [List.nodup_append]
            exact ⟨hLn, by simp, fun a ha b hb => by rw [List.mem_singleton.1 hb]; intro e; subst e; exact hkL ha⟩
          · rcases List.mem_append.1 hx with hx | hx
            · have := hLm x hx; omega
            · rw [List.mem_singleton.1 hx]; omega
      obtain ⟨L', hL', hlL', hnL', hmL'⟩ := hrow
      rw [hL', hx]
      exact ⟨⟨k + 1, by simp, L', _, some jo, a3, ⟨c3, rfl⟩, ha3, hlt, hlL', hnL', fun x hx => by have := hmL' x hx; simpa using this, ⟨fun x hx => by obtain ⟨y, _, rfl⟩ := List.mem_map.1 hx; exact ⟨rfl, by simp [AV.cells, AV.one]⟩, by simp [intsA, hlL'], by simp [hgl, intsA, bk_flat_int]⟩⟩, by omega⟩
  · obtain rfl : k = n := by omega
    simp [-aappend, hl2, g0, g5, g9, g10]
    refine ⟨_, g, rfl, by simp, bell_hold hd, _, ?_, L, rfl, hLl, hLn, hLm, a2, ha2, c2, rfl⟩
    exact (hA.len_eq (τ := σ.set d (bellObj l a2 c2)) (by simp)).fz fun x hx y hy => by
      obtain ⟨z, _, rfl⟩ := List.mem_map.1 hx
      simp [AV.cells] at hy
      subst hy
      exact .int _ _
end Ab
namespace Ab
open Go Go.RowKit Go.Proofs
attribute [local irreducible] aws awp aw1 Og Om Oc Oa Ogd Ov Ot awd aw1d awh aw1h Ogh Ohd awl Ogl Ohl awv Ogv Ohv QThen QBlock QFn QFnM QRo QBe ACode AYield
set_option maxHeartbeats 2000000 in
theorem ringX_calls (σ : Heap) (d : Nat) (l : List UInt8) (a : Nat) (c : Int) (h : σ[d]? = some (bellObj l a c)) (ha : a ≤ l.length) (hl : l.length ≤ 9223372036854775807) :
    ∃ (n : Int) (a' : Nat) (c' : Int), (∀ Post : AV → Heap → Prop, Post (.int .i64 n) (σ.set d (bellObj l a' c')) → ACalls Tryz.prog 131 [.ptr d 0] σ Post) ∧ 0 ≤ n ∧ n < 2 ^ 32 ∧ a' ≤ l.length := by
  have hd := (List.getElem?_eq_some_iff.1 h).1
  have hs : ∀ X : AObj, (σ.set d X)[d]? = some X := fun X => by simp [hd]
  unfold bellObj at h
  by_cases he : a = l.length
  · subst he
    by_cases h0 : l.length = 0
    · have h0' : (l.length : Int) = 0 := by omega
      obtain rfl := List.eq_nil_of_length_eq_zero h0
      refine ⟨?n1, 0, ?c1, fun Post hP => ?walk1, ?b11, ?b21, ?b31⟩
      case walk1 =>
        refine acalls_fn Tryz.func131 rfl (enters_fn Tryz.func131 (by decide) rfl) ?_
        simp [Tryz.ntmps131]
        refine ACode_draw0 mixed (by kernel_rfl) ?_
        simp [h, hs, bytesL]
        exact hP
      · exact (i64_u32 _).1
      · exact (i64_u32 _).2
      · simp
    · have h0' : (0 : Int) < (l.length : Int) := by omega
      have h0'' : 0 < l.length := by omega
      refine ⟨?n2, 1, ?c2, fun Post hP => ?walk2, ?b12, ?b22, ?b32⟩
      case walk2 =>
        refine acalls_fn Tryz.func131 rfl (enters_fn Tryz.func131 (by decide) rfl) ?_
        simp [Tryz.ntmps131]
        refine ACode_draw0 mixed (by kernel_rfl) ?_
        simp [h, hs, bytesL, h0', h0'']
        refine ACode_draw0 mixed (by kernel_rfl) ?_
        have w1 : IntKind.i64.wrap 1 = 1 := by decide
        simp [h, hs, bytesL, h0', h0'', w1]
        exact hP
      · exact (i64_u32 _).1
      · exact (i64_u32 _).2
      · omega
  · have he' : ¬ (a : Int) = (l.length : Int) := by omega
    have h0' : (0 : Int) < (l.length : Int) := by omega
    have hlt : a < l.length := by omega
    have hlt' : (a : Int) < (l.length : Int) := by omega
    have hx := w64 (n := (a : Int) + 1) (by omega) (by omega)
    have h0n : 0 < l.length := by omega
    refine ⟨?n, a + 1, ?c, fun Post hP => ?walk, ?b1, ?b2, ?b3⟩
    case walk =>
      refine acalls_fn Tryz.func131 rfl (enters_fn Tryz.func131 (by decide) rfl) ?_
      simp [Tryz.ntmps131]
      refine ACode_draw0 mixed (by kernel_rfl) ?_
      simp [h, hs, bytesL, he, he', h0', h0n, hlt]
      refine ACode_draw0 mixed (by kernel_rfl) ?_
      simp [h, hs, bytesL, he, he', h0', h0n, hlt, hlt', hx]
      exact hP
    · exact (i64_u32 _).1
    · exact (i64_u32 _).2
    · omega
theorem strokeX_calls (σ : Heap) (d : Nat) (l : List UInt8) (a : Nat) (c m : Int) (h : σ[d]? = some (bellObj l a c)) (ha : a ≤ l.length) (hl : l.length ≤ 9223372036854775807) (hm : 0 ≤ m) (hm2 : m ≤ 2 ^ 40) :
    ∃ (n : Int) (a' : Nat) (c' : Int), ACalls Tryz.prog 50 [.ptr d 0, .int .i64 m] σ (fun v s => v = .int .i64 n ∧ s = σ.set d (bellObj l a' c')) ∧ 0 ≤ n ∧ n ≤ m ∧ a' ≤ l.length := by
  obtain ⟨n, a', c', hr, h0, h1, ha'⟩ := ringX_calls σ d l a c h ha hl
  have h3 := Int.tmod_lt_of_pos n (show 0 < m + 1 by omega)
  refine ⟨n.tmod (m + 1), a', c', ?_, Int.tmod_nonneg _ h0, by omega, ha'⟩
  refine acalls_fn Tryz.func50 rfl (enters_fn Tryz.func50 (by decide) rfl) ?_
  simp [Tryz.ntmps50]
  refine StA.of (hr _ ?_)
  have hx := w64 (n := m + 1) (by omega) (by omega)
  have hne : ¬ m + 1 = 0 := by omega
  have hif : (if 1 < m + 1 then m + 1 else 1) = m + 1 := by split <;> omega
  have hw := w64 (n := n.tmod (m + 1)) (by have := Int.tmod_nonneg (m + 1) h0; omega) (by omega)
  simp [hx, hne]
  rw [hif, if_neg hne]
  simp only [Option.map_some, Om_some]
  exact ⟨trivial, trivial⟩
end Ab

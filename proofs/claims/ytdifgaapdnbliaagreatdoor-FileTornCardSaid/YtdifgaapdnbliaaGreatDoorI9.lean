/-
  THE IMPLEMENTATION's opened.
-/
import Derived.Test.YtdifgaapdnbliaaGreatDoorI7
import Derived.Test.YtdifgaapdnbliaaGreatDoorI8
import Derived.Test.YtdifgaapdnbliaaGreatDoorME
set_option linter.unusedSimpArgs false
set_option linter.unusedVariables false
namespace Ab
open Go Go.RowKit Go.Proofs
attribute [local irreducible] aws awp aw1 Og Om Oc Oa Ogd Ov Ot awd aw1d awh aw1h Ogh Ohd awl Ogl Ohl QThen QBlock QFn QFnM QRo QBe ACode AYield
theorem abuild140 : abuild Tryz.prog 140 [] = some (.agg [.int .i64 0, .int .i64 0]) := by kernel_rfl
attribute [local simp] tarr140 abuild140
theorem wl0 : IntKind.i64.wrap 0 = 0 := w64 (by decide) (by decide)
theorem wl1 : IntKind.i64.wrap 1 = 1 := w64 (by decide) (by decide)
theorem wl2 : IntKind.i64.wrap 2 = 2 := w64 (by decide) (by decide)
theorem wl3 : IntKind.i64.wrap 3 = 3 := w64 (by decide) (by decide)
attribute [local simp] wl0 wl1 wl2 wl3
def seal4 : List UInt8 := [115, 101, 97, 108]
/-- what the round over the words of the last line leaves -/
def sA (pre : List (List UInt8)) : Int := match pre with | _ :: w :: _ => numVal w | _ => 0
def sB (pre : List (List UInt8)) : Int := match pre with | _ :: _ :: w :: _ => numVal w | _ => 0
def sOk (b : Bool) (pre : List (List UInt8)) : Bool := match pre with
  | [] => b
  | [x] => b && decide (x = seal4)
  | [x, y] => b && decide (x = seal4) && numOk y 65536
  | x :: y :: z :: _ => b && decide (x = seal4) && numOk y 65536 && numOk z 65536
def openC (t : List UInt8) : List UInt8 × Int × Int × Int :=
  match Oyez.openedOf t with
  | .error e => ([], 0, 0, e)
  | .ok (b, m, n) => (b, m, n, 0)
theorem openC_eq (s : List UInt8) (h1 : ¬ 4116 < s.length) {u : List UInt8} (hu : (if s.getLast? = some 10 then s.dropLast else s) = u) {L : Nat} (hL : Oyez.lastLine u = L) {b0 : Bool}
    (hb : (decide (s.getLast? = some 10) && decide ((u.take L).getLast? = some 10) && decide (L ≤ 4096)) = b0) :
    openC s = if sOk b0 (Oyez.words (u.drop L)) = true ∧ (Oyez.words (u.drop L)).length = 3 then (u.take L, sA (Oyez.words (u.drop L)), sB (Oyez.words (u.drop L)), 0) else ([], 0, 0, 11) := by
  unfold openC Oyez.openedOf
  rw [if_neg h1]
  by_cases he : s.getLast? = some 10
  · rw [if_pos he] at hu
    subst hu
    rw [if_neg (by simpa using he), hL]
    have hLu : L ≤ s.dropLast.length := by rw [← hL]; exact Nat.sub_le _ _
    have htk : s.take L = s.dropLast.take L := by
      rw [List.dropLast_eq_take, List.take_take, Nat.min_eq_left (by simpa using hLu)]
    rw [htk]
    obtain ⟨_, hl2⟩ := Oyez.lastLine_split _ s.dropLast rfl
    rw [hL] at hl2
    have hb2 : b0 = (decide (L ≠ 0) && decide (L ≤ 4096)) := by
      rw [← hb, he]
      have : (s.dropLast.take L).getLast? = some 10 ↔ L ≠ 0 := by
        constructor
        · intro h h0
          subst h0
          simp at h
        · intro h0
          rcases hl2 with h | h
          · have := congrArg List.length h
            rw [List.length_take, Nat.min_eq_left hLu] at this
            exact absurd this h0
          · exact h
      simp [this]
    clear hb
    generalize Oyez.words (s.dropLast.drop L) = ws
    generalize s.dropLast.take L = B
    have h6 := numOk_eq
    rcases ws with _ | ⟨k, _ | ⟨a, _ | ⟨b, _ | ⟨c, r⟩⟩⟩⟩
    · simp
    · simp
    · simp
    · obtain ⟨a1, a2⟩ := numOk_eq a 65536 (by decide)
      obtain ⟨b1, b2⟩ := numOk_eq b 65536 (by decide)
      have ea : numOk a 65536 = (Oyez.value a 65536).isSome := a1
      have eb : numOk b 65536 = (Oyez.value b 65536).isSome := b1
      simp only [sOk, ea, eb, hb2, sA, sB]
      by_cases c : L = 0 ∨ 4096 < L ∨ k ≠ [115, 101, 97, 108]
      · rw [if_pos c, if_neg]
        rintro ⟨h, _⟩
        simp only [Bool.and_eq_true, decide_eq_true_eq] at h
        obtain ⟨⟨⟨⟨c1, c2⟩, c3⟩, _⟩, _⟩ := h
        rcases c with c | c | c
        · exact c1 c
        · omega
        · exact c c3
      · rw [if_neg c]
        have c1 : L ≠ 0 := fun h => c (.inl h)
        have c2 : L ≤ 4096 := by omega
        have c3 : k = seal4 := Classical.byContradiction fun h => c (.inr (.inr h))
        cases hva : Oyez.value a 65536 with
        | none => simp
        | some m =>
          cases hvb : Oyez.value b 65536 with
          | none => simp
          | some n => simp [c1, c2, c3, a2 m hva, b2 n hvb]
    · simp
  · rw [if_pos (by simpa using he)]
    have : b0 = false := by rw [← hb]; simp [he]
    subst this
    have hs : sOk false (Oyez.words (u.drop L)) = false := by
      generalize Oyez.words (u.drop L) = ws
      rcases ws with _ | ⟨k, _ | ⟨a, _ | ⟨b, r⟩⟩⟩ <;> simp [sOk]
    rw [hs]
    simp
set_option maxHeartbeats 2000000 in
set_option maxRecDepth 8000 in
theorem opened_calls (s : List UInt8) : APure Tryz.prog 92 [.str s] (.tup [.str (openC s).1, .agg [.int .i64 (openC s).2.1, .int .i64 (openC s).2.2.1], .int .i64 (openC s).2.2.2]) := by
  refine APure.of fun σ => ?_
  generalize hX : openC s = X
  by_cases h1 : 4116 < s.length
  · have h1' : (4116 : Int) < (s.length : Int) := by omega
    have hE : X = ([], 0, 0, 10) := by rw [← hX]; unfold openC Oyez.openedOf; rw [if_pos h1]
    subst hE
    refine acalls_fnM Tryz.func92 rfl (enters_fn Tryz.func92 (by decide) rfl) ?_
    simp [Tryz.ntmps92, h1']
  have h1' : ¬ (4116 : Int) < (s.length : Int) := by omega
  have hs : s.length ≤ 2 ^ 40 := by omega
  generalize hu : (if s.getLast? = some 10 then s.dropLast else s) = u
  have hul : u.length ≤ s.length := by rw [← hu]; split <;> simp
  generalize hL : Oyez.lastLine u = L
  have hLu : L ≤ u.length := by rw [← hL]; exact Nat.sub_le _ _
  generalize hb : (decide (s.getLast? = some 10) && decide ((u.take L).getLast? = some 10) && decide (L ≤ 4096)) = b0
  refine acalls_cutM 7 (fun env σ' => ∃ t, env = { t } ∧ t.length = 83 ∧ tg t 3 = .ptr σ.length 0 ∧ tg t 5 = .str (u.drop L) ∧ tg t 8 = .str (u.take L) ∧ tg t 9 = .ptr (σ.length + 1) 0 ∧ tg t 10 = .ptr (σ.length + 2) 0 ∧
    σ' = σ ++ [.cells [.int .i64 0, .int .i64 0], .cells [.int .i64 0, .int .i64 0], .cells [.bool b0]]) Tryz.func92 rfl (enters_fn Tryz.func92 (by decide) rfl) ?_ ?_
  · simp [Tryz.ntmps92, h1']
    refine (cutSuffix_calls s 10 (by omega)).use ?_
    rw [hu]
    simp
    refine (lastIndex_calls u (by omega)).use ?_
    rw [hL]
    have hLi : (L : Int) ≤ (u.length : Int) := by omega
    have hw := w64 (n := (L : Int)) (by omega) (by omega)
    simp [hw]
    refine ACode_draw0 mixed (by kernel_rfl) ?_
    simp [hLi, hLu]
    by_cases he : s.getLast? = some 10
    · simp [he]
      refine (body_calls (u.take L) (by simp; omega)).use ?_
      by_cases he2 : (u.take L).getLast? = some 10
      · simp [he2]
        simp [he, he2] at hb
        rw [Nat.min_eq_left hLu, ← hb]
        simp
        omega
      · simp [he2]
        simp [he2] at hb
        exact hb
    · simp [he]
      simp [he] at hb
      exact hb
  · rintro env σ' ⟨t, rfl, hl, g3, g5, g8, g9, g10, rfl⟩
    simp [hl, g3, g5, g8, g9, g10]
    refine StA.of ((parted_calls _ _).mono ?_)
    rintro v σ' ⟨rfl, rfl⟩
    simp [hl, g3, g5, g8, g9, g10]
    refine ACode_rangeFuncT (gf := 187) (first := []) (caps := [.ptr (σ.length + 4) 0]) (σ.length + 5) (σ.length + 6) (by simp) rfl (by simp [hl]) fun fn D o σ2 ho hrd hσ2 => ?_
    simp only [List.append_assoc, List.cons_append, List.nil_append] at hσ2
    subst hσ2
    refine AEnter.mono (partedSeq_calls (u.drop L) (by simp; omega) _ _ (fun pre x σ' => σ' = σ ++ [.cells [.int .i64 0, .int .i64 0], .cells [.int .i64 (sA pre), .int .i64 (sB pre)], .cells [.bool (sOk b0 pre)], .cells [.int .i64 pre.length], .cells [.str x], .deferred, o]) ?_ ?_ ?_ _ ?_) ?_
    · rintro pre x σ' rfl
      simp
    · rintro pre x y σ' rfl
      simp
    · rintro pre x w σ' rfl hp hw
      refine AYield.round ho (by simp) (by simp) fun o' => ?_
      have hw1 := w64 (n := (pre.length : Int) + 1) (by omega) (by omega)
      clear ho
      have hwl : w.length ≤ 2 ^ 40 := by simp at hw; omega
      have hnum := number_calls w 65536 hwl (by decide)
      rcases pre with _ | ⟨a1, _ | ⟨a2, _ | ⟨a3, pre⟩⟩⟩
      · simp [hl, g9, g10, sOk, sA, sB]
        cases b0 with
        | false => simp [hl, g9, g10]
        | true =>
          simp [hl, g9, g10, seal4]
          exact decide_eq_decide.2 Iff.rfl
      · simp [hl, g9, g10, sOk, sA, sB]
        refine hnum.use ?_
        simp [hl, g9, g10, sOk, sA, sB]
        refine ACode_drawW [8, 9] [(5, 1), (6, 1)] mixed (by kernel_rfl) (by kernel_rfl) ?_
        simp [hl, g9, g10, sOk, sA, sB]
        cases hq : (b0 && decide (a1 = seal4)) with
        | false => simp [hl, g9, g10, hq]
        | true => simp [hl, g9, g10, hq]
      · simp [hl, g9, g10, sOk, sA, sB]
        refine hnum.use ?_
        simp [hl, g9, g10, sOk, sA, sB]
        refine ACode_drawW [8, 9] [(5, 1), (6, 1)] mixed (by kernel_rfl) (by kernel_rfl) ?_
        simp [hl, g9, g10, sOk, sA, sB]
        cases hq : (b0 && decide (a1 = seal4) && numOk a2 65536) with
        | false => simp [hl, g9, g10, hq]
        | true => simp [hl, g9, g10, hq]
      · have h0 : ¬ ((pre.length : Int) + 1 + 1 + 1 = 0) := by omega
        have h01 : ¬ ((pre.length : Int) + 1 + 1 + 1 = 1) := by omega
        have h02 : ¬ ((pre.length : Int) + 1 + 1 + 1 = 2) := by omega
        simp at hw1 hp
        simp [hl, g9, g10, sOk, sA, sB, hw1, h0, h01, h02]
    · simp [sA, sB, sOk]
    rintro v σ' ⟨x, rfl⟩
    clear ho
    have hE := openC_eq s h1 hu hL hb
    rw [hX] at hE
    generalize Oyez.words (u.drop L) = ws at hE
    cases hk : sOk b0 ws with
    | false =>
      rw [if_neg (by simp [hk])] at hE
      subst hE
      simp [hl, g3, g5, g8, g9, g10, hrd, hk]
    | true =>
      by_cases h3 : ws.length = 3
      · rw [if_pos ⟨hk, h3⟩] at hE
        subst hE
        have h3' : (ws.length : Int) = 3 := by omega
        simp [hl, g3, g5, g8, g9, g10, hrd, hk, h3']
        refine ACode_drawH [3] mixed (by kernel_rfl) ?_
        simp [hl, g3, g5, g8, g9, g10]
      · rw [if_neg (fun h => h3 h.2)] at hE
        subst hE
        have h3' : ¬ (ws.length : Int) = 3 := by omega
        simp [hl, g3, g5, g8, g9, g10, hrd, hk, h3']
end Ab

/-
  THE LAST LINE; THE WORDS OF A LINE, one by one.
-/
import Derived.Test.YtdifgaapdnbliaaGreatDoorI2
import Derived.Test.YtdifgaapdnbliaaGreatDoorME
import Derived.Test.YtdifgaapdnbliaaGreatDoorMF
set_option linter.unusedSimpArgs false
set_option linter.unusedVariables false
namespace Ab
open Go Go.RowKit Go.Proofs
attribute [local irreducible] aws awp aw1 Og Om Oc Oa Ogd Ov Ot awd aw1d awh aw1h Ogh Ohd awl Ogl Ohl QThen QBlock QFn QFnM ACode
theorem AYield.mono {P : Program} {r : Nat} {args : List AV} {σ : Heap} {K K' : AV → Heap → Prop} (h : AYield P r args σ K) (hk : ∀ v s, K v s → K' v s) : AYield P r args σ K' := by
  have h1 : ∀ e env s, Ab.QRound r K e env s → Ab.QRound r K' e env s := by
    intro e env s hq
    cases e with
    | normal =>
      unfold Ab.QRound at hq ⊢
      simp only at hq ⊢
      split at hq
      · exact hk _ _ hq
      · cases hq
    | _ => cases hq
  unfold AYield at h ⊢
  split at h
  · rename_i hr
    refine ⟨h.1, h.2.mono fun e env s hq => ?_⟩
    cases e with
    | normal =>
      unfold Ab.QBegin at hq ⊢
      simp only at hq ⊢
      split at hq
      · exact ⟨hq.1, hq.2.mono h1⟩
      · cases hq
    | _ => cases hq
  · cases h
theorem StY.of {P : Program} {r : Nat} {args : List AV} {σ : Heap} {K R : AV → Heap → Prop} (h : AYield P r args σ K) (hk : ∀ v s, K v s → R v s) : @StY _ P r args σ ⟨R⟩ := h.mono hk
set_option maxRecDepth 8000 in
theorem lastIndexByte_calls (s : List UInt8) (hs : s.length ≤ 2 ^ 50) : APure Tryz.prog 195 [.str s, .int .u8 10] (.int .i64 ((Oyez.lastLine s : Int) - 1)) := by
  intro σ
  refine acalls_fn Tryz.func195 rfl (enters_fn Tryz.func195 (by decide) rfl) ?_
  obtain ⟨hl1, hl2⟩ := Oyez.lastLine_split _ s rfl
  have hll : Oyez.lastLine s ≤ s.length := Nat.sub_le _ _
  generalize Oyez.lastLine s = L at hl1 hl2 hll
  have hw0 := w64 (n := (s.length : Int) - 1) (by omega) (by omega)
  simp [Tryz.ntmps195, hw0]
  refine ACode_loopT (fun env σ' => ∃ (u : List AV) (j : Nat), env = { t := u } ∧ u.length = 19 ∧ tg u 0 = .str s ∧ tg u 1 = .int .u8 10 ∧ tg u 5 = .int .i64 ((j : Int) - 1) ∧ σ' = σ ∧ L ≤ j ∧ j ≤ s.length)
    (fun env _ => match tg env.t 5 with | .int _ i => (i + 1).toNat | _ => 0) ⟨_, s.length, rfl, by simp, by simp, by simp, by simp, rfl, hll, by omega⟩ ?_
  rintro env σ' ⟨u, j, rfl, hl, g0, g1, g5, rfl, hj, hj2⟩
  rcases Nat.eq_zero_or_pos j with hz | hz
  · subst hz
    obtain rfl : L = 0 := by omega
    simp [hl, g0, g1, g5]
  · obtain ⟨k, rfl⟩ : ∃ k, j = k + 1 := ⟨j - 1, by omega⟩
    have hk : k < s.length := by omega
    have hk' : (k : Int) < (s.length : Int) := by omega
    have hw := w64 (n := (k : Int) - 1) (by omega) (by omega)
    rw [show ((k + 1 : Nat) : Int) - 1 = (k : Int) by omega] at g5
    rcases Nat.lt_or_ge L (k + 1) with hlt | hge
    · have hne : ¬ ((s[k].toNat : Nat) : Int) = 10 := by
        intro e
        have e1 : s[k] = 10 := (u8_eq _ 10 (by decide)).1 (by omega)
        apply hl1
        rw [← e1]
        have : (s.drop L)[k - L]? = some s[k] := by rw [List.getElem?_drop, show L + (k - L) = k by omega, List.getElem?_eq_getElem hk]
        exact List.mem_of_getElem? this
      simp [hl, g0, g1, g5, hk, hk', hne, hw]
      exact ⟨k, rfl, by omega, by omega⟩
    · obtain rfl : L = k + 1 := by omega
      have h10 : ((s[k].toNat : Nat) : Int) = 10 := by
        rcases hl2 with e | e
        · have e3 := congrArg List.length e
          rw [List.length_take, Nat.min_eq_left hll] at e3
          simp at e3
        · have e2 : (s.take (k + 1)).getLast? = some s[k] := by rw [List.take_add_one, List.getElem?_eq_getElem hk]; exact List.getLast?_concat
          rw [e2] at e
          simp at e
          rw [e]; rfl
      simp [hl, g0, g1, g5, hk, hk', h10]
theorem lastIndex_calls (s : List UInt8) (hs : s.length ≤ 2 ^ 50) : APure Tryz.prog 162 [.str s, .str [10]] (.int .i64 ((Oyez.lastLine s : Int) - 1)) := by
  intro σ
  refine acalls_fn Tryz.func162 rfl (enters_fn Tryz.func162 (by decide) rfl) ?_
  simp [Tryz.ntmps162]
  refine (lastIndexByte_calls s hs).use ?_
  simp
/-! ### parted -/
theorem parted_calls (s : List UInt8) (σ : Heap) : ACalls Tryz.prog 146 [.str s] σ (fun v σ' => v = .fn (.func 187) [] [.ptr σ.length 0] ∧ σ' = σ ++ [.cells [.str s]]) := by
  refine acalls_fn Tryz.func146 rfl (enters_fn Tryz.func146 (by decide) rfl) ?_
  simp [Tryz.ntmps146]
/-- THE WORDS OF A LINE are yielded one by one, with their numbers: r the loop's object, q the line's cell; I what holds of the words that were seen, the line's cell holding what is left. -/
theorem partedSeq_calls (s : List UInt8) (hs : s.length ≤ 2 ^ 40) (r q : Nat) (I : List (List UInt8) → List UInt8 → Heap → Prop)
    (hq : ∀ pre x σ, I pre x σ → σ[q]? = some (.cells [.str x]))
    (hset : ∀ pre x y σ, I pre x σ → I pre y (σ.set q (.cells [.str y])))
    (hy : ∀ pre x w σ, I pre x σ → pre.length ≤ 2 ^ 41 → w.length ≤ s.length → AYield Tryz.prog r [.int .i64 pre.length, .str w] σ (fun v σ' => v = .bool true ∧ I (pre ++ [w]) x σ'))
    (σ : Heap) (h0 : I [] s σ) : AEnter Tryz.prog 187 [.yld r, .ptr q 0] σ (fun _ σ' => ∃ x, I (Oyez.words s) x σ') := by
  refine aenter_fn Tryz.func187 rfl (enters_fn Tryz.func187 (by decide) rfl) ?_
  simp [Tryz.ntmps187]
  refine ACode_loopT (fun env σ' => ∃ (u : List AV) (pre : List (List UInt8)) (x : List UInt8), env = { t := u } ∧ u.length = 25 ∧ tg u 0 = .yld r ∧ tg u 1 = .ptr q 0 ∧ tg u 3 = .int .i64 pre.length ∧ I pre x σ' ∧ pre ++ Oyez.words x = Oyez.words s ∧ x.length + pre.length ≤ s.length)
    (fun _ σ' => match σ'[q]? with | some (.cells [.str x]) => x.length + 1 | _ => 0) ⟨_, [], s, rfl, by simp, by simp, by simp, by simp, h0, rfl, by simp⟩ ?_
  rintro env σ' ⟨u, pre, x, rfl, hl, g0, g1, g3, hI, hd, hlen⟩
  have hqx := hq _ _ _ hI
  have hxl : x.length ≤ s.length := by omega
  have hc := cutB_len 32 x
  have hw := cutB_words x
  simp [hl, g0, g1, g3, hqx]
  refine (cut_calls x 32 (by omega)).use ?_
  simp [hl, g0, g1, g3]
  refine StY.of (hy pre x (cutB 32 x).1 σ' hI (by omega) (by omega)) ?_
  rintro v σ2 ⟨rfl, hI2⟩
  have hqx2 := hq _ _ _ hI2
  cases hf : (cutB 32 x).2.2 with
  | true =>
    rw [hf, if_pos rfl] at hw
    have hlt := hc.2.2 hf
    have hw1 := w64 (n := (pre.length : Int) + 1) (by omega) (by omega)
    have hI3 := hset _ _ (cutB 32 x).2.1 _ hI2
    have hqx3 := hq _ _ _ hI3
    simp [hl, g0, g1, g3, hf, hqx2, hw1, hqx3]
    exact ⟨⟨pre ++ [(cutB 32 x).1], by simp, (cutB 32 x).2.1, hI3, by rw [← hd, hw]; simp, by simp; omega⟩, hlt⟩
  | false =>
    rw [hf, if_neg (by simp)] at hw
    simp [hl, g0, g1, g3, hf]
    exact ⟨x, by rw [← hd, hw]; exact hI2⟩
end Ab

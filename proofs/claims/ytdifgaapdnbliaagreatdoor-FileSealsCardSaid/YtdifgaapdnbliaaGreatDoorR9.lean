/-
  THE REFERENCE's Mend: all bytes are tried.
-/
import Derived.Test.YtdifgaapdnbliaaGreatDoorR6
import Derived.Test.YtdifgaapdnbliaaGreatDoorME
set_option linter.unusedSimpArgs false
set_option linter.unusedVariables false
namespace Ab
open Go Go.RowKit Go.Proofs
attribute [local irreducible] aws awp aw1 Og Om Oc Oa Ogd Ov Ot awd aw1d awh aw1h Ogh Ohd awl Ogl Ohl QThen QBlock QFn QFnM ACode AYield
/-- what is found from byte c on at place i -/
def inF (t : List UInt8) (i c : Nat) : Option (List UInt8 × Nat) := (List.range' c (256 - c)).findSome? fun c => Oyez.mendAt t i c
/-- what is found from place i on -/
def outF (t : List UInt8) (L i : Nat) : Option (List UInt8 × Nat) := (List.range' i (L - i)).findSome? fun i => inF t i 0
theorem inF_end (t : List UInt8) (i : Nat) : inF t i 256 = none := rfl
theorem inF_step (t : List UInt8) (i : Nat) {c : Nat} (h : c < 256) : inF t i c = match Oyez.mendAt t i c with | some r => some r | none => inF t i (c + 1) := by
  unfold inF
  rw [show 256 - c = (256 - (c + 1)) + 1 by omega, List.range'_succ, List.findSome?_cons]
  cases Oyez.mendAt t i c <;> rfl
theorem outF_end (t : List UInt8) (L : Nat) : outF t L L = none := by simp [outF]
theorem outF_step (t : List UInt8) {L i : Nat} (h : i < L) : outF t L i = match inF t i 0 with | some r => some r | none => outF t L (i + 1) := by
  unfold outF
  rw [show L - i = (L - (i + 1)) + 1 by omega, List.range'_succ, List.findSome?_cons]
  cases inF t i 0 <;> rfl
theorem outF_zero (t : List UInt8) (L : Nat) : ((List.range L).findSome? fun i => (List.range 256).findSome? fun c => Oyez.mendAt t i c) = outF t L 0 := by
  simp only [outF, inF, List.range_eq_range', Nat.sub_zero]
def mendR (X : Option (List UInt8 × Nat)) : AV := match X with
  | some (m, i) => .tup [.str m, .int .i64 i, .int .i64 0]
  | none => .tup [.str [], .int .i64 0, .int .i64 6]
set_option maxHeartbeats 4000000 in
set_option maxRecDepth 8000 in
theorem refMend_calls (s : List UInt8) : APure Tryz.prog 26 [.str s] (.tup [.str (Oyez.mendOf s).1, .int .i64 (Oyez.mendOf s).2.1, .int .i64 (Oyez.mendOf s).2.2]) := by
  refine APure.of fun σ => ?_
  have ho := refOpen_calls s
  generalize hR : Oyez.mendOf s = R
  unfold Oyez.mendOf Oyez.openOf at hR
  cases hE : Oyez.openedOf s with
  | error e =>
    have he : ¬ e = 0 := by rcases Oyez.openedOf_err hE with h | h <;> omega
    have he8 : ¬ e = 8 := by rcases Oyez.openedOf_err hE with h | h <;> omega
    rw [hE] at hR ho
    simp only [openAV] at hR ho
    rw [if_neg he, if_pos he8] at hR
    subst hR
    refine acalls_fn Tryz.func26 rfl (enters_fn Tryz.func26 (by decide) rfl) ?_
    simp [Tryz.ntmps26]
    refine ho.use ?_
    simp [he, he8]
  | ok r =>
    obtain ⟨b, m, n⟩ := r
    obtain ⟨line, a, k, hS⟩ := Oyez.openedOf_inv hE
    have hbm := hS.most
    have hs : s.length ≤ 2 ^ 40 := by have := hS.len; omega
    have hbs : b.length < s.length := by have := congrArg List.length hS.text; simp at this; omega
    rw [hE] at hR ho
    simp only [openAV] at hR ho
    by_cases hq : Oyez.sums b = (m, n)
    · rw [if_pos hq] at hR ho
      simp at hR
      subst hR
      refine acalls_fn Tryz.func26 rfl (enters_fn Tryz.func26 (by decide) rfl) ?_
      simp [Tryz.ntmps26]
      refine ho.use ?_
      simp
    · rw [if_neg hq] at hR ho
      simp only [outF_zero] at hR
      rw [if_neg (by decide), if_neg (by decide)] at hR
      have hRv : (AV.tup [.str R.1, .int .i64 R.2.1, .int .i64 R.2.2]) = mendR (outF s b.length 0) := by
        rw [← hR]
        unfold mendR
        split
        · rename_i h; simp only [h]
        · rename_i h; simp only [h]
          rfl
      rw [hRv]
      generalize hX : outF s b.length 0 = X
      refine acalls_fn Tryz.func26 rfl (enters_fn Tryz.func26 (by decide) rfl) ?_
      simp [Tryz.ntmps26]
      refine ho.use ?_
      simp
      refine ACode_loopT (fun env σ' => ∃ (u : List AV) (i : Nat) (g : Heap), env = { t := u } ∧ u.length = 57 ∧ tg u 0 = .str s ∧ tg u 5 = .str b ∧ tg u 7 = .int .i64 i ∧ σ' = σ ++ g ∧ i ≤ b.length ∧ outF s b.length i = X)
        (fun env _ => match tg env.t 7 with | .int _ i => b.length - i.toNat | _ => 0) ⟨_, 0, [], rfl, by simp, by simp, by simp, by simp, by simp, by omega, hX⟩ ?_
      rintro env σ' ⟨u, i, g, rfl, hl, g0, g5, g7, rfl, hi, hd⟩
      rcases Nat.lt_or_ge i b.length with hlt | hge
      · have hlt' : (i : Int) < (b.length : Int) := by omega
        rw [outF_step s hlt] at hd
        simp [hl, g0, g5, g7, hlt', hlt]
        refine ACode_loopT (fun env σ' => ∃ (u : List AV) (c : Nat) (g : Heap), env = { t := u } ∧ u.length = 57 ∧ tg u 0 = .str s ∧ tg u 5 = .str b ∧ tg u 7 = .int .i64 i ∧ tg u 8 = .int .i64 c ∧ σ' = σ ++ g ∧ c ≤ 256 ∧ (match inF s i c with | some r => some r | none => outF s b.length (i + 1)) = X)
          (fun env _ => match tg env.t 8 with | .int _ c => 256 - c.toNat | _ => 0) ⟨_, 0, g, rfl, by simp [hl], by simp [g0], by simp [g5], by simp [g7], by simp [hl], rfl, by omega, hd⟩ ?_
        clear hd hl g0 g5 g7 u g
        rintro env σ' ⟨u, c, g, rfl, hl, g0, g5, g7, g8, rfl, hc, hd⟩
        rcases Nat.lt_or_ge c 256 with hc1 | hc1
        · have hc' : (c : Int) < 256 := by omega
          rw [inF_step s i hc1] at hd
          simp [hl, g0, g5, g7, g8, hc', hc1]
          refine ACode_drawW [5] [(0, 1), (1, 1), (2, 1), (8, 0), (9, 0), (10, 0), (11, 0)] mixed (by kernel_rfl) (by kernel_rfl) ?_
          have hz : (i : Int) ≤ (s.length : Int) := by omega
          have hz2 : i ≤ s.length := by omega
          have hz3 : i ≤ 9223372036854775806 := by omega
          have hz4 : (0 : Int) ≤ (i : Int) + 1 := by omega
          have hz5 : ((i : Int) + 1).toNat = i + 1 := by omega
          have hz6 : i + 1 ≤ s.length := by omega
          have w1 := w64 (n := (i : Int) + 1) (by omega) (by omega)
          have w2 := w64 (n := (c : Int) + 1) (by omega) (by omega)
          have w3 := w8 (n := (c : Int)) (by omega) (by omega)
          have hown : Oyez.tryByte s i c = s.take i ++ UInt8.ofNat c :: s.drop (i + 1) := by simp [Oyez.tryByte]
          have hol : (Oyez.tryByte s i c).length = s.length := by rw [hown]; simp; omega
          have hz7 : s.length ≤ 9223372036854775807 := by omega
          unfold Oyez.mendAt at hd
          simp [hl, g0, g5, g7, g8, hz, hz2, hz3, hz4, hz5, hz6, hz7, w1, w2, w3]
          rw [← hown]
          generalize hownd : Oyez.tryByte s i c = own at hd hol
          by_cases hsame : own = s
          · rw [if_pos hsame] at hd
            simp only at hd
            have hdc : decide (own = s) = true := by simpa using hsame
            rw [hdc]
            simp [hl, g0, g5, g7, g8, w2]
            exact ⟨⟨c + 1, by simp, by omega, hd⟩, by omega⟩
          · rw [if_neg hsame] at hd
            have hdc : decide (own = s) = false := by simpa using hsame
            rw [hdc]
            simp [hl, g0, g5, g7, g8, w2]
            have ho2 := refOpen_calls own
            unfold Oyez.openOf at hd
            cases hE2 : Oyez.openedOf own with
            | error e =>
              have he : ¬ e = 0 := by rcases Oyez.openedOf_err hE2 with h | h <;> omega
              rw [hE2] at hd ho2
              simp only [openAV, if_neg he] at hd ho2
              refine ho2.use ?_
              simp [hl, g0, g5, g7, g8, w2, he]
              exact ⟨⟨c + 1, by simp, by omega, hd⟩, by omega⟩
            | ok q =>
              obtain ⟨b2, m2, n2⟩ := q
              rw [hE2] at hd ho2
              simp only [openAV] at hd ho2
              by_cases hq2 : Oyez.sums b2 = (m2, n2)
              · rw [if_pos hq2] at ho2
                simp only [if_pos hq2, if_true] at hd
                refine ho2.use ?_
                subst hd
                simp [hl, g0, g5, g7, g8, w2, mendR]
              · rw [if_neg hq2] at ho2
                simp only [if_neg hq2] at hd
                rw [if_neg (by decide)] at hd
                refine ho2.use ?_
                simp [hl, g0, g5, g7, g8, w2]
                exact ⟨⟨c + 1, by simp, by omega, hd⟩, by omega⟩
        · obtain rfl : c = 256 := by omega
          rw [inF_end] at hd
          simp only at hd
          have w1 := w64 (n := (i : Int) + 1) (by omega) (by omega)
          simp [hl, g0, g5, g7, g8, w1]
          exact ⟨⟨i + 1, by simp, hlt, hd⟩, by omega⟩
      · obtain rfl : i = b.length := by omega
        rw [outF_end] at hd
        subst hd
        simp [hl, g0, g5, g7, mendR]
end Ab

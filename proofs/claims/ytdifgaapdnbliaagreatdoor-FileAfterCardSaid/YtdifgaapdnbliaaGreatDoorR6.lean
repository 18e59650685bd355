import Derived.Test.YtdifgaapdnbliaaGreatDoorR3
import Derived.Test.YtdifgaapdnbliaaGreatDoorMF
set_option linter.unusedSimpArgs false
set_option linter.unusedVariables false
namespace Ab
open Go Go.Proofs
attribute [local irreducible] aws awp aw1 Og Om Oc Oa Ogd Ov Ot awd aw1d QThen QBlock QFn QFnM ACode ACalls AYield
theorem sums_lt (s : Oyez.S) : (Oyez.sums s).1 < 65537 ∧ (Oyez.sums s).2 < 65537 := by
  rw [Oyez.sums_eq]; exact ⟨Nat.mod_lt _ (by decide), Nat.mod_lt _ (by decide)⟩
set_option maxHeartbeats 1000000 in
set_option maxRecDepth 8000 in
theorem refSeal_calls (s : List UInt8) : APure Tryz.prog 22 [.str s] (.tup [.str (Oyez.sealOf s).1, .int .i64 (Oyez.sealOf s).2]) := by
  intro σ
  refine acalls_fn Tryz.func22 rfl (enters_fn Tryz.func22 (by decide) rfl) ?_
  generalize hX : Oyez.sealOf s = X
  by_cases h1 : 4096 < s.length
  · have h1' : (4096 : Int) < (s.length : Int) := by omega
    have hE : X = ([], 10) := by rw [← hX]; unfold Oyez.sealOf; rw [if_pos h1]
    subst hE
    simp [Tryz.ntmps22, h1']
  have h1' : ¬ (4096 : Int) < (s.length : Int) := by omega
  by_cases h0 : s = []
  · have hE : X = ([], 11) := by rw [← hX]; subst h0; rfl
    subst hE
    subst h0
    simp [Tryz.ntmps22]
  obtain ⟨t, c, rfl⟩ : ∃ t c, s = t ++ [c] := ⟨s.dropLast, s.getLast h0, (List.dropLast_concat_getLast h0).symm⟩
  have hx := w64 (n := (t.length : Int)) (by simp at h1; omega) (by simp at h1; omega)
  by_cases hc : c = 10
  · have hc' : (c.toNat : Int) = 10 := by rw [hc]; rfl
    have hE : X = (Oyez.sealed (t ++ [c]), 0) := by rw [← hX]; unfold Oyez.sealOf; rw [if_neg h1, if_neg (by simp [hc])]
    have h1' : ¬ (4096 : Int) < (t.length : Int) + 1 := by simp at h1; omega
    simp [Tryz.ntmps22, h1', hx, hc']
    refine StA.of ((refSums_calls (t ++ [c]) σ (by omega)).mono ?_)
    rintro v σ' ⟨rfl, rfl⟩
    have hs := sums_lt (t ++ [c])
    simp at h1
    have e1 : t.length + 1 + 5 ≤ 9223372036854775807 := by omega
    have e1' : t.length ≤ 9223372036854775801 := by omega
    simp [e1, e1']
    generalize hm : (Oyez.sums (t ++ [c])).1 = m at *
    generalize hn : (Oyez.sums (t ++ [c])).2 = n at *
    refine (digits_calls m (by omega)).use ?_
    have d1 := digitsN_len m
    have d2 := digitsN_len n
    simp
    rw [if_pos (by omega)]
    simp
    rw [if_pos (by omega)]
    simp
    refine (digits_calls n (by omega)).use ?_
    simp
    rw [if_pos (by omega)]
    simp
    rw [if_pos (by omega)]
    simp [hE, Oyez.sealed, hm, hn]
  · have hc' : ¬ (c.toNat : Int) = 10 := fun e => hc ((u8_eq c 10 (by decide)).1 (by omega))
    have hE : X = ([], 11) := by rw [← hX]; unfold Oyez.sealOf; rw [if_neg h1, if_pos (by simpa using hc)]
    subst hE
    have h1' : ¬ (4096 : Int) < (t.length : Int) + 1 := by simp at h1; omega
    simp [Tryz.ntmps22, h1', hx, hc']

/-! ### Open -/
theorem value_le {w : List UInt8} {most n : Nat} (h : Oyez.value w most = some n) : n ≤ most := by
  unfold Oyez.value at h
  split at h
  · cases h
  · split at h
    · cases h
    · split at h
      · cases h
      · split at h
        · split at h
          · cases h
          · cases h; omega
        · cases h
def openAV (x : Except Int (List UInt8 × Nat × Nat)) : AV := match x with
  | .error e => .tup [.str [], .int .i64 e]
  | .ok (b, m, n) => .tup [.str b, .int .i64 (if Oyez.sums b = (m, n) then 0 else 8)]
set_option maxHeartbeats 2000000 in
set_option maxRecDepth 8000 in
theorem refOpen_calls (s : List UInt8) : APure Tryz.prog 24 [.str s] (openAV (Oyez.openedOf s)) := by
  intro σ
  refine acalls_fn Tryz.func24 rfl (enters_fn Tryz.func24 (by decide) rfl) ?_
  generalize hX : Oyez.openedOf s = X
  by_cases h1 : 4116 < s.length
  · have h1' : (4116 : Int) < (s.length : Int) := by omega
    have hE : X = .error 10 := by rw [← hX]; unfold Oyez.openedOf; rw [if_pos h1]
    subst hE
    simp [Tryz.ntmps24, h1', openAV]
  have h1' : ¬ (4116 : Int) < (s.length : Int) := by omega
  by_cases h0 : s = []
  · have hE : X = .error 11 := by rw [← hX]; subst h0; rfl
    subst hE
    subst h0
    simp [Tryz.ntmps24, openAV]
  obtain ⟨t, c, rfl⟩ : ∃ t c, s = t ++ [c] := ⟨s.dropLast, s.getLast h0, (List.dropLast_concat_getLast h0).symm⟩
  have hx := w64 (n := (t.length : Int)) (by simp at h1; omega) (by simp at h1; omega)
  have h1' : ¬ (4116 : Int) < (t.length : Int) + 1 := by simp at h1; omega
  have htl : t.length ≤ 4115 := by simp at h1; omega
  by_cases hc : ¬ c = 10
  · have hc' : ¬ (c.toNat : Int) = 10 := fun e => hc ((u8_eq c 10 (by decide)).1 (by omega))
    have hE : X = .error 11 := by rw [← hX]; unfold Oyez.openedOf; rw [if_neg h1, if_pos (by simpa using hc)]
    subst hE
    simp [Tryz.ntmps24, h1', hx, hc', openAV]
  simp only [Classical.not_not] at hc
  have hc' : (c.toNat : Int) = 10 := by rw [hc]; rfl
  obtain ⟨hl1, hl2⟩ := Oyez.lastLine_split _ t rfl
  have hll : Oyez.lastLine t ≤ t.length := Nat.sub_le _ _
  generalize hL : Oyez.lastLine t = L at hl1 hl2 hll
  simp [Tryz.ntmps24, h1', hx, hc']
  refine ACode_loopT (fun env σ' => ∃ (u : List AV) (i : Nat), env = { t := u } ∧ u.length = 100 ∧ tg u 0 = .str (t ++ [c]) ∧ tg u 4 = .int .i64 i ∧ σ' = σ ∧ L ≤ i ∧ i ≤ t.length)
    (fun env _ => match tg env.t 4 with | .int _ i => i.toNat | _ => 0) ⟨_, t.length, rfl, by simp, by simp, by simp, rfl, hll, by omega⟩ ?_
  rintro env σ' ⟨u, i, rfl, hl, g0, g4, rfl, hi, hi2⟩
  rcases Nat.lt_or_ge L i with hlt | hge
  · obtain ⟨j, rfl⟩ : ∃ j, i = j + 1 := ⟨i - 1, by omega⟩
    have hz : (0 : Int) < (j : Int) + 1 := by omega
    have hxj := w64 (n := (j : Int)) (by omega) (by omega)
    have hj : j < t.length := by omega
    have hj2 : j < (t ++ [c]).length := by simp; omega
    have hne : ¬ ((t[j].toNat : Nat) : Int) = 10 := by
      intro e
      have e1 : t[j] = 10 := (u8_eq _ 10 (by decide)).1 (by omega)
      apply hl1
      rw [← e1]
      have : (t.drop L)[j - L]? = some t[j] := by rw [List.getElem?_drop, show L + (j - L) = j by omega, List.getElem?_eq_getElem hj]
      exact List.mem_of_getElem? this
    have hg : (t ++ [c])[j]? = some t[j] := by rw [List.getElem?_append_left hj, List.getElem?_eq_getElem hj]
    simp [hl, g0, g4, hz, hxj, hj, hg, hne]
    exact ⟨j, rfl, by omega, by omega⟩
  · obtain rfl : i = L := by omega
    have hsl : List.drop i (List.take t.length (t ++ [c])) = t.drop i := by rw [List.take_left]
    have hil : (i : Int) ≤ (t.length : Int) := by omega
    have htl' : (t.length : Int) ≤ (t.length : Int) + 1 := by omega
    have hsplit := split_calls (t.drop i) (by rw [List.length_drop]; omega)
    have hW := hX
    unfold Oyez.openedOf at hW
    rw [if_neg h1, if_neg (by simp [hc]), List.dropLast_concat, hL] at hW
    rcases Nat.eq_zero_or_pos i with hz | hz
    · subst hz
      have hE : X = .error 11 := by
        rw [← hW]
        split
        · rw [if_pos (.inl rfl)]
        · rfl
      subst hE
      simp [hl, g0, g4, hx, hil, htl', hsl]
      refine hsplit.use ?_
      simp [hl, g0, g4, openAV]
    · obtain ⟨j, rfl⟩ : ∃ j, i = j + 1 := ⟨i - 1, by omega⟩
      have hj : j < t.length := by omega
      have hz' : (0 : Int) < (j : Int) + 1 := by omega
      have hz'' : ¬ (j : Int) + 1 = 0 := by omega
      have hxj := w64 (n := (j : Int)) (by omega) (by omega)
      have hg : (t ++ [c])[j]? = some t[j] := by rw [List.getElem?_append_left hj, List.getElem?_eq_getElem hj]
      have h10 : ((t[j].toNat : Nat) : Int) = 10 := by
        rcases hl2 with e | e
        · have e3 := congrArg List.length e
          rw [List.length_take, Nat.min_eq_left hll] at e3
          simp at e3
        · have e2 : (t.take (j + 1)).getLast? = some t[j] := by rw [List.take_add_one, List.getElem?_eq_getElem hj]; exact List.getLast?_concat
          rw [e2] at e
          simp at e
          rw [e]; rfl
      have hj0 : (0 : Int) ≤ (j : Int) + 1 := by omega
      have hj1 : j + 1 ≤ t.length + 1 := by omega
      have hj2 : j + 1 ≤ t.length := by omega
      have hjt : ((j : Int) + 1).toNat = j + 1 := by omega
      have htk : List.take (j + 1) (t ++ [c]) = t.take (j + 1) := List.take_append_of_le_length hj2
      rw [htk] at hW
      simp [hl, g0, g4, hx, hil, htl', hsl, hz', hxj, hg, hj, h10, hj0, hj1, hj2, hjt]
      refine hsplit.use ?_
      by_cases h4 : 4096 < j + 1
      · have h4' : (4096 : Int) < (j : Int) + 1 := by omega
        have hE : X = .error 11 := by
          rw [← hW]
          split
          · rw [if_pos (.inr (.inl h4))]
          · rfl
        subst hE
        simp [hl, g0, g4, openAV, hz'', h4']
      have h4' : ¬ (4096 : Int) < (j : Int) + 1 := by omega
      match hws : Oyez.words (t.drop (j + 1)) with
      | [] => exact absurd hws (split_ne _)
      | [a] =>
        rw [hws] at hW
        subst hW
        simp [hl, g0, g4, openAV, hz'', h4']
      | [a, b] =>
        rw [hws] at hW
        subst hW
        simp [hl, g0, g4, openAV, hz'', h4']
      | a :: b :: d :: e :: r =>
        rw [hws] at hW
        subst hW
        have : ¬ ((r.length : Int) + 1 + 1 + 1 + 1 = 3) := by omega
        simp [hl, g0, g4, openAV, hz'', h4', this]
      | [k, a, b] =>
        rw [hws] at hW
        have va : APure Tryz.prog 94 [.str a, .int .i64 65536] (.int .i64 (match Oyez.value a 65536 with | some n => n | none => -1)) := value_calls a 65536
        have vb : APure Tryz.prog 94 [.str b, .int .i64 65536] (.int .i64 (match Oyez.value b 65536 with | some n => n | none => -1)) := value_calls b 65536
        by_cases hk : k = [115, 101, 97, 108]
        · simp only at hW
          rw [if_neg (by simp [hk]; omega)] at hW
          simp [hl, g0, g4, openAV, hz'', h4', hk]
          refine va.use ?_
          cases hva : Oyez.value a 65536 with
          | none =>
            rw [hva] at hW
            subst hW
            simp [hl, g0, g4, openAV]
          | some m =>
            rw [hva] at va hW
            have hm0 : ¬ ((m : Int) < 0) := by omega
            simp [hl, g0, g4, hm0]
            refine vb.use ?_
            cases hvb : Oyez.value b 65536 with
            | none =>
              rw [hvb] at hW
              subst hW
              simp [hl, g0, g4, openAV]
            | some n =>
              rw [hvb] at vb hW
              simp only at hW
              subst hW
              have hn0 : ¬ ((n : Int) < 0) := by omega
              simp [hl, g0, g4, hn0, hj0, hj1, hjt, htk]
              refine StA.of ((refSums_calls (t.take (j + 1)) σ' (by rw [List.length_take]; omega)).mono ?_)
              rintro v σ'' ⟨rfl, rfl⟩
              simp [hl, g0, g4]
              refine va.use ?_
              generalize Oyez.sums (t.take (j + 1)) = S
              obtain ⟨p, q⟩ := S
              by_cases h1 : p = m
              · subst h1
                simp [hl, g0, g4]
                refine vb.use ?_
                by_cases h2 : q = n
                · subst h2
                  simp [hl, g0, g4, hj0, hj1, hjt, htk]
                · have h2' : ¬ (q : Int) = n := by omega
                  simp [hl, g0, g4, hj0, hj1, hjt, htk, h2, h2']
              · have h1' : ¬ (p : Int) = m := by omega
                simp [hl, g0, g4, hj0, hj1, hjt, htk, h1, h1']
        · simp only at hW
          rw [if_pos (.inr (.inr hk))] at hW
          subst hW
          simp [hl, g0, g4, openAV, hz'', h4', hk]
end Ab

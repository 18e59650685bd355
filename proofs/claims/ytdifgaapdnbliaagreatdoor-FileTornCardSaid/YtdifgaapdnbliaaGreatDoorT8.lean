/-
  strings.Split and strings.SplitAfter at one byte.
-/
import Derived.Test.YtdifgaapdnbliaaGreatDoorT5
import Derived.Test.YtdifgaapdnbliaaGreatDoorT4
set_option linter.unusedSimpArgs false
set_option linter.unusedVariables false
namespace Ab
open Go Go.RowKit Go.Proofs
attribute [local irreducible] aws awp aw1 Og Om Oc Oa Ogd Ov Ot awd aw1d awh aw1h Ogh Ohd awl Ogl Ohl awv Ogv Ohv QThen QBlock QFn QFnM QRo QBe ACode AYield
theorem countString_calls (s : List UInt8) (c : UInt8) : APure Tryz.prog 210 [.str s, .int .u8 c.toNat] (.int .i64 (s.count c : Nat)) := by
  refine APure.ext fun C cargs hv => ?_
  obtain ⟨x, r, rfl, h1, h2⟩ := hv.inv
  obtain ⟨y, r, rfl, h4, h3⟩ := h2.inv
  obtain rfl := h3.of_nil
  rw [h1.str_inv, h4.int_inv]
  refine ⟨.int .i64 (s.count c : Nat), ?_, .int _ _⟩
  rw [run_callFunc_extern Tryz.func210 (by kernel_rfl) (by kernel_rfl) (by kernel_rfl) (e := Extern.BytealgCount.count) (by kernel_rfl)]
  have := Lib.run_countString (P := Tryz.prog) ⟨⟨s⟩⟩ (c.toNat : Int) C.w
  simp only [Int.toNat_natCast] at this
  rw [this]
  simp [Result.andThen, Lib.countByte]
theorem goCount_calls (s : List UInt8) (c : UInt8) : APure Tryz.prog 170 [.str s, .str [c]] (.int .i64 (s.count c : Nat)) := by
  intro σ
  refine acalls_fn Tryz.func170 rfl (enters_fn Tryz.func170 (by decide) rfl) ?_
  simp [Tryz.ntmps170]
  refine (countString_calls s c).use ?_
  simp
theorem goIndex_calls (s : List UInt8) (c : UInt8) : APure Tryz.prog 171 [.str s, .str [c]] (.int .i64 (Lib.indexByte s c)) := by
  intro σ
  refine acalls_fn Tryz.func171 rfl (enters_fn Tryz.func171 (by decide) rfl) ?_
  simp [Tryz.ntmps171]
  refine (index1_calls s c).use ?_
  simp
/-- the first place of a byte -/
theorem indexByte_split (c : UInt8) (s : List UInt8) : (Lib.indexByte s c = -1 ∧ c ∉ s) ∨ ∃ n : Nat, Lib.indexByte s c = n ∧ n < s.length ∧ c ∉ s.take n ∧ s = s.take n ++ c :: s.drop (n + 1) := by
  induction s with
  | nil => left; simp [Lib.indexByte]
  | cons b t ih =>
    unfold Lib.indexByte
    by_cases h : b = c
    · right
      subst h
      exact ⟨0, by simp, by simp, by simp, by simp⟩
    · have hb : (b == c) = false := by simpa using h
      simp only [hb, Bool.false_eq_true, if_false]
      rcases ih with ⟨h1, h2⟩ | ⟨n, h1, h2, h3, h4⟩
      · left
        simp [h1, h2, Ne.symm h]
      · right
        have h5 : (Lib.indexByte t c == -1) = false := by rw [h1]; simp
        refine ⟨n + 1, by rw [h5, h1]; simp, by simpa using h2, by simp [h3, Ne.symm h], ?_⟩
        simp
        exact h4
def svN (sv : Bool) : Nat := if sv then 1 else 0
theorem sp_take {c : UInt8} {r : List UInt8} {n : Nat} (sv : Bool) (h : r = r.take n ++ c :: r.drop (n + 1)) (hn : n < r.length) : r.take (n + svN sv) = r.take n ++ if sv then [c] else [] := by
  cases sv with
  | false => simp [svN]
  | true =>
    have h1 : r[n] = c := by
      have hm : (r.take n).length = n := by simp; omega
      have h2 : r[n]? = some c := by
        have h3 := congrArg (fun l => l[n]?) h
        rw [h3]
        show (r.take n ++ c :: r.drop (n + 1))[n]? = some c
        rw [List.getElem?_append_right (by omega), hm]
        simp
      rw [List.getElem?_eq_getElem hn] at h2
      exact Option.some.inj h2
    simp only [svN, if_true]
    rw [List.take_succ_eq_append_getElem hn, h1]
set_option maxHeartbeats 2000000 in
theorem genSplit_calls (s : List UInt8) (c : UInt8) (sv : Bool) (hs : s.length ≤ 2 ^ 40) (σ : Heap) : ACalls Tryz.prog 122 [.str s, .str [c], .int .i64 (svN sv), .int .i64 (-1)] σ
    (fun v σ' => v = .arr 1 σ.length 0 (Oyez.sp c sv s).length ∧ σ' = σ ++ [.cells ((Oyez.sp c sv s).map AV.str)]) := by
  obtain ⟨q, hq⟩ : ∃ q, svN sv = q := ⟨_, rfl⟩
  have hq1 : q ≤ 1 := by rw [← hq]; unfold svN; split <;> omega
  rw [hq]
  obtain ⟨N, hN⟩ : ∃ N, s.count c = N := ⟨_, rfl⟩
  have hNl : N ≤ s.length := hN ▸ List.count_le_length
  have hx1 := w64 (n := (N : Int) + 1) (by omega) (by omega)
  have hx2 := w64 (n := (s.length : Int) + 1) (by omega) (by omega)
  have h01 : (0 : Int) ≤ (N : Int) + 1 := by omega
  have hle : ¬ s.length < N := by omega
  have hb1 : ((N : Int) + 1) * 16 ≤ 281474976710656 := by omega
  have hb2 : (N : Int) + 1 ≤ 9223372036854775807 := by omega
  have hx3 := w64 (n := (N : Int)) (by omega) (by omega)
  refine acalls_fn Tryz.func122 rfl (enters_fn Tryz.func122 (by decide) rfl) ?_
  simp [Tryz.ntmps122]
  refine (goCount_calls s c).use ?_
  simp [hN, hx1, hx2, h01, hx3, hle, hb1, hb2]
  refine ACode_loopT (fun env σ' => ∃ (u : List AV) (i : Nat) (r : List UInt8) (dn : List (List UInt8)), env = { t := u } ∧ u.length = 66 ∧ tg u 0 = .str r ∧ tg u 1 = .str [c] ∧ tg u 2 = .int .i64 q ∧ tg u 3 = .int .i64 N ∧ tg u 9 = .arr 1 σ.length 0 (N + 1) ∧ tg u 10 = .int .i64 i ∧
      σ' = σ ++ [.cells (dn.map AV.str ++ List.replicate (N + 1 - i) (.str []))] ∧ dn.length = i ∧ i ≤ N ∧ Oyez.sp c sv s = dn ++ Oyez.sp c sv r ∧ i + r.count c = N ∧ r.length ≤ s.length)
    (fun env _ => match tg env.t 10 with | .int _ i => N - i.toNat | _ => 0) ⟨_, 0, s, [], rfl, by simp, by simp, by simp, by simp, by simp, by simp, by simp, by simp, rfl, by omega, by simp, by simpa using hN, Nat.le_refl _⟩ ?_
  rintro env σ' ⟨u, i, r, dn, rfl, hl, g0, g1, g2, g3, g9, g10, rfl, hdl, hi, hsp, hct, hrl⟩
  rcases Nat.lt_or_ge i N with hlt | hge
  · have hlt' : (i : Int) < (N : Int) := by omega
    have hx := w64 (n := (i : Int) + 1) (by omega) (by omega)
    simp [hl, g0, g1, g2, g3, g9, g10, hlt']
    refine (goIndex_calls r c).use ?_
    rcases indexByte_split c r with ⟨h1, h2⟩ | ⟨n, h1, h2, h3, h4⟩
    · rw [List.count_eq_zero.2 h2] at hct; omega
    · rw [h1]
      have hn0 : ¬ (n : Int) < 0 := by omega
      have hxn := w64 (n := (n : Int) + (q : Int)) (by omega) (by omega)
      have hxm := w64 (n := (n : Int) + 1) (by omega) (by omega)
      have hz1 : (0 : Int) ≤ (n : Int) + (q : Int) := by omega
      have hz2 : n + q ≤ r.length := by omega
      have hz3 : (0 : Int) ≤ (n : Int) + 1 := by omega
      have hz4 : n + 1 ≤ r.length := by omega
      have hz5 : i < N + 1 := by omega
      have hz6 : (n : Int) + (q : Int) ≤ (r.length : Int) := by omega
      have hz7 : (n : Int) + 1 ≤ (r.length : Int) := by omega
      have hz8 : 1 ≤ N + 1 - i := by omega
      have hz9 : ((n : Int) + (q : Int)).toNat = n + q := by omega
      have hcell : dn.map AV.str ++ .str (r.take (n + q)) :: (dn.map AV.str ++ List.replicate (N + 1 - i) (AV.str [])).drop (i + 1) = (dn ++ [r.take (n + q)]).map AV.str ++ List.replicate (N + 1 - (i + 1)) (.str []) := by
        rw [List.drop_append, List.drop_eq_nil_of_le (by simp; omega)]
        simp [hdl, show i + 1 - i = 1 by omega, show N + 1 - i - 1 = N - i by omega]
      have hpc := sp_take sv h4 h2
      rw [hq] at hpc
      have hsp2 : Oyez.sp c sv s = (dn ++ [r.take (n + q)]) ++ Oyez.sp c sv (r.drop (n + 1)) := by
        rw [hsp, hpc]
        conv => lhs; rw [h4, Oyez.sp_step c sv _ _ h3]
        simp
      have hct2 : i + 1 + (r.drop (n + 1)).count c = N := by
        have : r.count c = (r.take n).count c + ((r.drop (n + 1)).count c + 1) := by
          conv => lhs; rw [h4]
          rw [List.count_append, List.count_cons_self]
        rw [List.count_eq_zero.2 h3] at this
        omega
      have hlen2 : (dn ++ [r.take (n + q)]).length = i + 1 := by simp [hdl]
      simp [hl, g0, g1, g2, g3, g9, g10, hlt', hn0, hxn, hxm, hz1, hz2, hz3, hz4, hz5, hz6, hz7, hz8, hz9, hx, hdl]
      generalize dn ++ [r.take (n + q)] = D at hsp2 hlen2 hcell
      exact ⟨⟨i + 1, by simp, D, by rw [hcell], hlen2, by omega, hsp2, hct2, by omega⟩, by omega⟩
  · obtain rfl : i = N := by omega
    have hr0 : r.count c = 0 := by omega
    have hspr := Oyez.sp_none c sv r (List.count_eq_zero.1 hr0)
    rw [hspr] at hsp
    rw [hsp]
    have hge' : ¬ (i : Int) < (i : Int) := by omega
    have hz5 : i < i + 1 := by omega
    simp [hl, g0, g1, g2, g3, g9, g10, hge', hz5, hdl, hx1, h01]
/-- strings.Split and strings.SplitAfter -/
theorem goSplit_calls (s : List UInt8) (c : UInt8) (hs : s.length ≤ 2 ^ 40) (σ : Heap) : ACalls Tryz.prog 48 [.str s, .str [c]] σ
    (fun v σ' => v = .arr 1 σ.length 0 (Oyez.sp c false s).length ∧ σ' = σ ++ [.cells ((Oyez.sp c false s).map AV.str)]) := by
  refine acalls_fn Tryz.func48 rfl (enters_fn Tryz.func48 (by decide) rfl) ?_
  simp [Tryz.ntmps48]
  refine StA.of ((genSplit_calls s c false hs σ).mono ?_)
  rintro v σ' ⟨rfl, rfl⟩
  simp
theorem splitAfter_calls (s : List UInt8) (c : UInt8) (hs : s.length ≤ 2 ^ 40) (σ : Heap) : ACalls Tryz.prog 47 [.str s, .str [c]] σ
    (fun v σ' => v = .arr 1 σ.length 0 (Oyez.sp c true s).length ∧ σ' = σ ++ [.cells ((Oyez.sp c true s).map AV.str)]) := by
  refine acalls_fn Tryz.func47 rfl (enters_fn Tryz.func47 (by decide) rfl) ?_
  simp [Tryz.ntmps47]
  refine StA.of ((genSplit_calls s c true hs σ).mono ?_)
  rintro v σ' ⟨rfl, rfl⟩
  simp
end Ab

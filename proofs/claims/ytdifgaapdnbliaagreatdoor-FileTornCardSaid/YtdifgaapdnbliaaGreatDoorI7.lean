/-
  THE IMPLEMENTATION's SEALS: sums, Seal.
-/
import Derived.Test.YtdifgaapdnbliaaGreatDoorI4
import Derived.Test.YtdifgaapdnbliaaGreatDoorME
import Derived.Test.YtdifgaapdnbliaaGreatDoorMF
set_option linter.unusedSimpArgs false
set_option linter.unusedVariables false
namespace Ab
open Go Go.RowKit Go.Proofs
attribute [local irreducible] aws awp aw1 Og Om Oc Oa Ogd Ov Ot awd aw1d awh aw1h Ogh Ohd awl Ogl Ohl QThen QBlock QFn QFnM ACode AYield
theorem tarr140 : tarr Tryz.prog 140 = some (2, 3) := by kernel_rfl
attribute [simp] tarr140
def sumsAV (p : Nat × Nat) : AV := .agg [.int .i64 p.1, .int .i64 p.2]
set_option maxHeartbeats 1000000 in
set_option maxRecDepth 8000 in
theorem summed_calls (s : List UInt8) (hs : s.length < 2 ^ 50) : APure Tryz.prog 88 [.str s] (sumsAV (Oyez.sums s)) := by
  refine APure.of fun σ => ?_
  refine acalls_fn Tryz.func88 rfl (enters_fn Tryz.func88 (by decide) rfl) ?_
  simp [Tryz.ntmps88]
  refine ACode_loopT (fun env σ' => ∃ (u : List AV) (i a b : Nat), env = { t := u } ∧ u.length = 33 ∧ tg u 0 = .str s ∧ tg u 2 = .ptr σ.length 0 ∧ tg u 3 = .ptr (σ.length + 1) 0 ∧ tg u 6 = .int .i64 s.length ∧ tg u 7 = .int .i64 i ∧
      σ' = σ ++ [.cells [.int .i64 0, .int .i64 0], .cells [.int .i64 a, .int .i64 b]] ∧ a < 65537 ∧ b < 65537 ∧ i ≤ s.length ∧ Oyez.sumsFrom (s.drop i) i a b = Oyez.sums s)
    (fun env _ => match tg env.t 7 with | .int _ i => s.length - i.toNat | _ => 0) ⟨_, 0, 0, 0, rfl, by simp, by simp, by simp, by simp, by simp, by simp, rfl, by decide, by decide, by omega, rfl⟩ ?_
  rintro env σ' ⟨u, i, a, b, rfl, hl, g0, g2, g3, g6, g7, rfl, ha, hb, hi, hd⟩
  rcases Nat.lt_or_ge i s.length with hlt | hge
  · have hlt' : (i : Int) < (s.length : Int) := by omega
    have hb8 := u8_lt s[i]
    have hm : (i + 1) * s[i].toNat ≤ 2 ^ 50 * 256 := Nat.mul_le_mul (by omega) (by omega)
    have hm2 : ((i : Int) + 1) * (s[i].toNat : Int) = (((i + 1) * s[i].toNat : Nat) : Int) := by simp
    have w1 := w64 (n := (i : Int) + 1) (by omega) (by omega)
    have w2 := w64 (n := (s[i].toNat : Int)) (by omega) (by omega)
    have w3 := w64 (n := ((i : Int) + 1) * (s[i].toNat : Int)) (by omega) (by omega)
    have w4 := w64 (n := (a : Int) + (s[i].toNat : Int)) (by omega) (by omega)
    have w5 := w64 (n := (b : Int) + ((i : Int) + 1) * (s[i].toNat : Int)) (by omega) (by omega)
    simp [hl, g0, g2, g3, g6, g7, hlt', hlt]
    refine ACode_drawH [9] mixed (by kernel_rfl) ?_
    simp [hl, g0, g2, g3, g6, g7, hlt', hlt, w1, w2, w3, w4, w5]
    refine ACode_drawH [12] mixed (by kernel_rfl) ?_
    simp [hl, g0, g2, g3, g6, g7, hlt', hlt, w1, w2, w3, w4, w5]
    refine ⟨⟨i + 1, by simp, (a + s[i].toNat) % 65537, (b + (i + 1) * s[i].toNat) % 65537, ⟨?_, ?_⟩, Nat.mod_lt _ (by decide), Nat.mod_lt _ (by decide), hlt, ?_⟩, by omega⟩
    · rw [← Int.natCast_add]; exact (Int.ofNat_tmod _ _).symm
    · rw [hm2, ← Int.natCast_add]; exact (Int.ofNat_tmod _ _).symm
    · rw [← hd, List.drop_eq_getElem_cons hlt]
      rfl
  · have hge' : ¬ (i : Int) < (s.length : Int) := by omega
    rw [List.drop_eq_nil_of_le hge] at hd
    simp [hl, g0, g2, g3, g6, g7, hge', sumsAV, ← hd, Oyez.sumsFrom]
theorem body_calls (s : List UInt8) (hs : s.length ≤ 2 ^ 50) : APure Tryz.prog 87 [.str s] (.bool (decide (s.getLast? = some 10))) := by
  intro σ
  refine acalls_fn Tryz.func87 rfl (enters_fn Tryz.func87 (by decide) rfl) ?_
  simp [Tryz.ntmps87]
  refine (hasSuffix_calls s 10 hs).use ?_
  simp
set_option maxHeartbeats 1000000 in
set_option maxRecDepth 8000 in
theorem sealed_calls (s : List UInt8) (m n : Nat) (hs : s.length ≤ 2 ^ 40) (hm : m < 65537) (hn : n < 65537) : APure Tryz.prog 89 [sumsAV (m, n), .str s] (.str (s ++ [115, 101, 97, 108, 32] ++ Oyez.digitsN m ++ [32] ++ Oyez.digitsN n ++ [10])) := by
  refine APure.of fun σ => ?_
  have d1 := digitsN_len m
  have d2 := digitsN_len n
  have i1 : APure Tryz.prog 160 [.int .i64 m] (.str (Oyez.digitsN m)) := by rw [← itoa_nat]; exact itoa_calls m (by omega) (by omega)
  have i2 : APure Tryz.prog 160 [.int .i64 n] (.str (Oyez.digitsN n)) := by rw [← itoa_nat]; exact itoa_calls n (by omega) (by omega)
  refine acalls_fn Tryz.func89 rfl (enters_fn Tryz.func89 (by decide) rfl) ?_
  simp [Tryz.ntmps89, sumsAV]
  refine ACode_drawW [7] [(0, 1)] mixed (by kernel_rfl) (by kernel_rfl) ?_
  simp
  refine Ou_use0 i1 ?_
  refine Ou_use0 i2 ?_
  simp
  have hj := joined_arr (σ ++ [.cells [.int .i64 m, .int .i64 n], .cells [.str [115, 101, 97, 108], .str (Oyez.digitsN m), .str (Oyez.digitsN n)]]) (σ.length + 1) [[115, 101, 97, 108], Oyez.digitsN m, Oyez.digitsN n] (by simp) (by simp) (by simp [join32, List.intercalate]; omega)
  refine Ou_of0 hj ?_
  have hjl : join32 [[115, 101, 97, 108], Oyez.digitsN m, Oyez.digitsN n] = [115, 101, 97, 108, 32] ++ Oyez.digitsN m ++ [32] ++ Oyez.digitsN n := by simp [join32, List.intercalate]
  rw [hjl]
  simp
  rw [if_pos (by omega)]
  simp
  rw [if_pos (by omega)]
  simp
theorem seal_calls (s : List UInt8) : APure Tryz.prog 21 [.str s] (.tup [.str (Oyez.sealOf s).1, .int .i64 (Oyez.sealOf s).2]) := by
  intro σ
  refine acalls_fn Tryz.func21 rfl (enters_fn Tryz.func21 (by decide) rfl) ?_
  generalize hX : Oyez.sealOf s = X
  unfold Oyez.sealOf at hX
  by_cases h1 : 4096 < s.length
  · have h1' : (4096 : Int) < (s.length : Int) := by omega
    rw [if_pos h1] at hX
    subst hX
    simp [Tryz.ntmps21, h1']
  have h1' : ¬ (4096 : Int) < (s.length : Int) := by omega
  have hs : s.length ≤ 2 ^ 50 := by omega
  rw [if_neg h1] at hX
  simp [Tryz.ntmps21, h1']
  refine (body_calls s hs).use ?_
  by_cases h2 : s.getLast? = some 10
  · rw [if_neg (by simpa using h2)] at hX
    subst hX
    simp [h2]
    refine (summed_calls s (by omega)).use ?_
    have hs1 := Oyez.sums_eq s
    refine (sealed_calls s (Oyez.sums s).1 (Oyez.sums s).2 (by omega) (by rw [hs1]; exact Nat.mod_lt _ (by decide)) (by rw [hs1]; exact Nat.mod_lt _ (by decide))).use ?_
    simp [Oyez.sealed]
  · rw [if_pos h2] at hX
    subst hX
    simp [h2]
end Ab

/-
  THE BELL: numbers that the outright laws draw from their argument.
-/
import Derived.Test.YtdifgaapdnbliaaGreatDoorB16
import Derived.Test.YtdifgaapdnbliaaGreatDoorR3
set_option linter.unusedSimpArgs false
set_option linter.unusedVariables false
namespace Ab
open Go Go.RowKit Go.Proofs
attribute [local irreducible] aws awp aw1 Og Om Oc Oa Ogd Ov Ot awd aw1d awh aw1h Ogh Ohd awl Ogl Ohl awv Ogv Ohv QThen QBlock QFn QFnM QRo QBe ACode AYield
def bytesL (l : List UInt8) : List AV := l.map fun b => AV.int .u8 b.toNat
def bellObj (l : List UInt8) (a : Nat) (c : Int) : AObj := .cells [.pl 1 (bytesL l), .int .i64 a, .int .u32 c]
theorem u32_rng (x : Int) : 0 ≤ IntKind.u32.wrap x ∧ IntKind.u32.wrap x < 2 ^ 32 := by
  have : IntKind.u32.wrap x = x % 4294967296 := by
    simp [IntKind.wrap, IntKind.bits, IntKind.signed]
  rw [this]
  omega
theorem i64_u32 (x : Int) : 0 ≤ IntKind.i64.wrap (IntKind.u32.wrap x) ∧ IntKind.i64.wrap (IntKind.u32.wrap x) < 4294967296 := by
  have := u32_rng x
  rw [w64 (by omega) (by omega)]
  omega
set_option maxHeartbeats 2000000 in
theorem ring_calls (σ : Heap) (d : Nat) (l : List UInt8) (a : Nat) (c : Int) (h : σ[d]? = some (bellObj l a c)) (ha : a ≤ l.length) (hl : l.length ≤ 9223372036854775807) :
    ACalls Tryz.prog 167 [.ptr d 0] σ (fun v σ' => ∃ (n : Int) (a' : Nat) (c' : Int), v = .int .i64 n ∧ 0 ≤ n ∧ n < 2 ^ 32 ∧ a' ≤ l.length ∧ σ' = σ.set d (bellObj l a' c')) := by
  have hd := (List.getElem?_eq_some_iff.1 h).1
  have hs : ∀ X : AObj, (σ.set d X)[d]? = some X := fun X => by simp [hd]
  unfold bellObj at h
  refine acalls_fn Tryz.func167 rfl (enters_fn Tryz.func167 (by decide) rfl) ?_
  simp [Tryz.ntmps167]
  refine ACode_draw0 mixed (by kernel_rfl) ?_
  by_cases he : a = l.length
  · subst he
    by_cases h0 : l.length = 0
    · have h0' : (l.length : Int) = 0 := by omega
      obtain rfl := List.eq_nil_of_length_eq_zero h0
      simp [h, hs, bytesL]
      exact ⟨(i64_u32 _).1, (i64_u32 _).2, _, rfl⟩
    · have h0' : (0 : Int) < (l.length : Int) := by omega
      have h0'' : 0 < l.length := by omega
      simp [h, hs, bytesL, h0', h0'']
      refine ACode_draw0 mixed (by kernel_rfl) ?_
      simp [h, hs, bytesL, h0', h0'']
      exact ⟨(i64_u32 _).1, (i64_u32 _).2, 1, by omega, _, by rw [w64 (by omega) (by omega)]; rfl⟩
  · have he' : ¬ (a : Int) = (l.length : Int) := by omega
    have h0' : (0 : Int) < (l.length : Int) := by omega
    have hlt : a < l.length := by omega
    have hlt' : (a : Int) < (l.length : Int) := by omega
    have hx := w64 (n := (a : Int) + 1) (by omega) (by omega)
    have h0n : 0 < l.length := by omega
    simp [h, hs, bytesL, he, he', h0', h0n, hlt]
    refine ACode_draw0 mixed (by kernel_rfl) ?_
    simp [h, hs, bytesL, he, he', h0', h0n, hlt, hlt', hx]
    exact ⟨(i64_u32 _).1, (i64_u32 _).2, a + 1, by omega, _, rfl⟩
end Ab

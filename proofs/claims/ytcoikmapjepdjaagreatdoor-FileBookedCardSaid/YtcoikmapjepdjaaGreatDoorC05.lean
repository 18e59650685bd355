/-
  FACTS ON THE PROGRAM's TYPES (printed by a program).
-/
import Derived.Test.YtcoikmapjepdjaaGreatDoorProg
import Derived.Test.YtcoikmapjepdjaaGreatDoorC04
set_option linter.unusedSimpArgs false
set_option linter.unusedVariables false
set_option linter.unusedSectionVars false
namespace Ab
open Go Go.Proofs

abbrev tF (t : TypeId) (a : Option (Nat × Bool)) (b : Option TypeId) (c : Bool) (d : Option IntKind) (e : Nat) (f : Bool) (g h : Nat) : Prop := tsa Tryz.prog t = a ∧ telem Tryz.prog t = b ∧ tstr Tryz.prog t = c ∧ tintk Tryz.prog t = d ∧ tcell Tryz.prog t = e ∧ tbool Tryz.prog t = f ∧ tkind Tryz.prog t = g ∧ tby Tryz.prog t = h
abbrev tZ (t : TypeId) (z : AV) : Prop := tz Tryz.prog t = some z
abbrev tK (t : TypeId) (k : Nat) : Prop := tzk Tryz.prog t k = true
abbrev tD (t : TypeId) (j a b : Nat) : Prop := tfld Tryz.prog t j = some (a, b)
abbrev tA (t : TypeId) (j a b : Nat) : Prop := apl Tryz.prog t j = some (a, b)
theorem t8 {A B C D E F G H : Type} {a a1 : A} {b b1 : B} {c c1 : C} {d d1 : D} {e e1 : E} {f f1 : F} {g g1 : G} {h h1 : H} (x : (a, b, c, d, e, f, g, h) = (a1, b1, c1, d1, e1, f1, g1, h1)) : a = a1 ∧ b = b1 ∧ c = c1 ∧ d = d1 ∧ e = e1 ∧ f = f1 ∧ g = g1 ∧ h = h1 := by simpa only [Prod.mk.injEq] using x
theorem tf {t : TypeId} {a : Option (Nat × Bool)} {b : Option TypeId} {c : Bool} {d : Option IntKind} {e : Nat} {f : Bool} {g h : Nat} (x : (tsa Tryz.prog t, telem Tryz.prog t, tstr Tryz.prog t, tintk Tryz.prog t, tcell Tryz.prog t, tbool Tryz.prog t, tkind Tryz.prog t, tby Tryz.prog t) = (a, b, c, d, e, f, g, h)) : tF t a b c d e f g h := t8 x
theorem fZ {t : TypeId} {z : AV} (x : tz Tryz.prog t = some z) : tZ t z := x
theorem fK {t : TypeId} {k : Nat} (x : tzk Tryz.prog t k = true) : tK t k := x
theorem fD {t : TypeId} {j a b : Nat} (x : tfld Tryz.prog t j = some (a, b)) : tD t j a b := x
theorem fA {t : TypeId} {j a b : Nat} (x : apl Tryz.prog t j = some (a, b)) : tA t j a b := x
@[simp] theorem p0 : tF 0 (some (1, false)) none false none 0 false 0 0 := tf (by kernel_rfl)
@[simp] theorem p2 : tF 2 (some (1, false)) none false (some .i64) 1 false 0 8 ∧ tZ 2 (.int .i64 0) ∧ tK 2 1 := ⟨tf (by kernel_rfl), fZ (by kernel_rfl), fK (by kernel_rfl)⟩
@[simp] theorem p3 : tF 3 (some (1, false)) none false (some .i64) 1 false 0 8 ∧ tZ 3 (.int .i64 0) ∧ tK 3 1 := ⟨tf (by kernel_rfl), fZ (by kernel_rfl), fK (by kernel_rfl)⟩
@[simp] theorem p4 : tF 4 (some (1, false)) none false none 2 true 0 1 ∧ tZ 4 (.bool false) ∧ tK 4 1 := ⟨tf (by kernel_rfl), fZ (by kernel_rfl), fK (by kernel_rfl)⟩
@[simp] theorem p5 : tF 5 (some (1, false)) none false (some .u8) 1 false 0 1 ∧ tZ 5 (.int .u8 0) ∧ tK 5 1 := ⟨tf (by kernel_rfl), fZ (by kernel_rfl), fK (by kernel_rfl)⟩
@[simp] theorem p9 : tF 9 (some (1, false)) none true none 3 false 0 16 ∧ tZ 9 (.str []) ∧ tK 9 1 := ⟨tf (by kernel_rfl), fZ (by kernel_rfl), fK (by kernel_rfl)⟩
@[simp] theorem p20 : tF 20 (some (1, false)) none false none 0 false 5 16 ∧ tZ 20 .nili ∧ tK 20 1 := ⟨tf (by kernel_rfl), fZ (by kernel_rfl), fK (by kernel_rfl)⟩
@[simp] theorem p21 : tF 21 (some (1, false)) none false (some .i32) 1 false 0 4 ∧ tZ 21 (.int .i32 0) ∧ tK 21 1 := ⟨tf (by kernel_rfl), fZ (by kernel_rfl), fK (by kernel_rfl)⟩
@[simp] theorem p22 : tF 22 (some (1, false)) (some 5) false none 0 false 2 24 ∧ tZ 22 .nils ∧ tK 22 1 := ⟨tf (by kernel_rfl), fZ (by kernel_rfl), fK (by kernel_rfl)⟩
@[simp] theorem p23 : tF 23 (some (1, false)) none false none 0 false 1 8 ∧ tZ 23 .nilp ∧ tK 23 1 := ⟨tf (by kernel_rfl), fZ (by kernel_rfl), fK (by kernel_rfl)⟩
@[simp] theorem p32 : tF 32 (some (1, false)) (some 3) false none 0 false 2 24 ∧ tZ 32 .nils ∧ tK 32 1 := ⟨tf (by kernel_rfl), fZ (by kernel_rfl), fK (by kernel_rfl)⟩
@[simp] theorem p38 : tF 38 (some (1, false)) (some 32) false none 0 false 2 24 ∧ tZ 38 .nils ∧ tK 38 1 := ⟨tf (by kernel_rfl), fZ (by kernel_rfl), fK (by kernel_rfl)⟩
@[simp] theorem p39 : tF 39 (some (1, false)) none false (some .i64) 1 false 0 8 ∧ tZ 39 (.int .i64 0) ∧ tK 39 1 := ⟨tf (by kernel_rfl), fZ (by kernel_rfl), fK (by kernel_rfl)⟩
@[simp] theorem p57 : tF 57 (some (1, false)) (some 88) false none 0 false 2 24 ∧ tZ 57 .nils ∧ tK 57 1 := ⟨tf (by kernel_rfl), fZ (by kernel_rfl), fK (by kernel_rfl)⟩
@[simp] theorem p60 : tF 60 (some (1, false)) (some 75) false none 0 false 2 24 ∧ tZ 60 .nils ∧ tK 60 1 := ⟨tf (by kernel_rfl), fZ (by kernel_rfl), fK (by kernel_rfl)⟩
@[simp] theorem p61 : tF 61 (some (1, false)) none false none 0 false 0 0 := tf (by kernel_rfl)
@[simp] theorem p66 : tF 66 (some (1, false)) (some 9) false none 0 false 2 24 ∧ tZ 66 .nils ∧ tK 66 1 := ⟨tf (by kernel_rfl), fZ (by kernel_rfl), fK (by kernel_rfl)⟩
@[simp] theorem p67 : tF 67 (some (1, false)) none false none 0 false 0 0 := tf (by kernel_rfl)
@[simp] theorem p73 : tF 73 (some (1, false)) none false (some .i64) 1 false 0 8 ∧ tZ 73 (.int .i64 0) ∧ tK 73 1 := ⟨tf (by kernel_rfl), fZ (by kernel_rfl), fK (by kernel_rfl)⟩
@[simp] theorem p75 : tF 75 (some (6, true)) none false none 0 false 0 72 ∧ tZ 75 (.agg [.int .i64 0, .int .i64 0, .bool false, .bool false, .nils, .nils]) ∧ tK 75 6 ∧ tD 75 0 0 73 ∧ tA 75 0 0 1 ∧ tD 75 1 1 3 ∧ tA 75 1 1 1 ∧ tD 75 2 2 4 ∧ tA 75 2 2 1 ∧ tD 75 3 3 4 ∧ tA 75 3 3 1 ∧ tD 75 4 4 66 ∧ tA 75 4 4 1 ∧ tD 75 5 5 66 ∧ tA 75 5 5 1 := ⟨tf (by kernel_rfl), fZ (by kernel_rfl), fK (by kernel_rfl), fD (by kernel_rfl), fA (by kernel_rfl), fD (by kernel_rfl), fA (by kernel_rfl), fD (by kernel_rfl), fA (by kernel_rfl), fD (by kernel_rfl), fA (by kernel_rfl), fD (by kernel_rfl), fA (by kernel_rfl), fD (by kernel_rfl), fA (by kernel_rfl)⟩
@[simp] theorem p88 : tF 88 (some (3, true)) none false none 0 false 0 40 ∧ tZ 88 (.agg [.int .i64 0, .int .i64 0, .nils]) ∧ tK 88 3 ∧ tD 88 0 0 73 ∧ tA 88 0 0 1 ∧ tD 88 1 1 3 ∧ tA 88 1 1 1 ∧ tD 88 2 2 66 ∧ tA 88 2 2 1 := ⟨tf (by kernel_rfl), fZ (by kernel_rfl), fK (by kernel_rfl), fD (by kernel_rfl), fA (by kernel_rfl), fD (by kernel_rfl), fA (by kernel_rfl), fD (by kernel_rfl), fA (by kernel_rfl)⟩
@[simp] theorem p89 : tF 89 (some (1, false)) none false none 0 false 0 0 := tf (by kernel_rfl)
@[simp] theorem p92 : tF 92 (some (1, false)) none false (some .u64) 1 false 0 8 ∧ tZ 92 (.int .u64 0) ∧ tK 92 1 := ⟨tf (by kernel_rfl), fZ (by kernel_rfl), fK (by kernel_rfl)⟩
@[simp] theorem p93 : tF 93 (some (1, false)) none false none 0 false 0 0 := tf (by kernel_rfl)
@[simp] theorem p95 : tF 95 (some (1, false)) none false none 0 false 0 0 := tf (by kernel_rfl)
@[simp] theorem p104 : tF 104 (some (1, false)) none false none 0 false 5 16 ∧ tZ 104 .nili ∧ tK 104 1 := ⟨tf (by kernel_rfl), fZ (by kernel_rfl), fK (by kernel_rfl)⟩
@[simp] theorem p105 : tF 105 (some (1, false)) none false none 0 false 0 0 := tf (by kernel_rfl)
@[simp] theorem p120 : tF 120 (some (1, false)) none false none 0 false 4 8 ∧ tZ 120 .nilf ∧ tK 120 1 := ⟨tf (by kernel_rfl), fZ (by kernel_rfl), fK (by kernel_rfl)⟩
@[simp] theorem p129 : tF 129 (some (1, false)) (some 177) false none 0 false 2 24 ∧ tZ 129 .nils ∧ tK 129 1 := ⟨tf (by kernel_rfl), fZ (by kernel_rfl), fK (by kernel_rfl)⟩
@[simp] theorem p130 : tF 130 (some (1, false)) none false none 0 false 0 0 := tf (by kernel_rfl)
@[simp] theorem p135 : tF 135 (some (1, false)) none false (some .u32) 1 false 0 4 ∧ tZ 135 (.int .u32 0) ∧ tK 135 1 := ⟨tf (by kernel_rfl), fZ (by kernel_rfl), fK (by kernel_rfl)⟩
@[simp] theorem p137 : tF 137 (some (3, true)) none false none 0 false 0 40 ∧ tZ 137 (.agg [.nils, .int .i64 0, .int .u32 0]) ∧ tK 137 3 ∧ tD 137 0 0 22 ∧ tA 137 0 0 1 ∧ tD 137 1 1 3 ∧ tA 137 1 1 1 ∧ tD 137 2 2 135 ∧ tA 137 2 2 1 := ⟨tf (by kernel_rfl), fZ (by kernel_rfl), fK (by kernel_rfl), fD (by kernel_rfl), fA (by kernel_rfl), fD (by kernel_rfl), fA (by kernel_rfl), fD (by kernel_rfl), fA (by kernel_rfl)⟩
@[simp] theorem p172 : tF 172 (some (1, false)) (some 180) false none 0 false 2 24 ∧ tZ 172 .nils ∧ tK 172 1 := ⟨tf (by kernel_rfl), fZ (by kernel_rfl), fK (by kernel_rfl)⟩
@[simp] theorem p173 : tF 173 (some (1, false)) none false none 0 false 0 0 := tf (by kernel_rfl)
@[simp] theorem p177 : tF 177 (some (2, true)) none false none 0 false 0 16 ∧ tZ 177 (.agg [.int .i64 0, .int .i64 0]) ∧ tK 177 2 ∧ tD 177 0 0 73 ∧ tA 177 0 0 1 ∧ tD 177 1 1 3 ∧ tA 177 1 1 1 := ⟨tf (by kernel_rfl), fZ (by kernel_rfl), fK (by kernel_rfl), fD (by kernel_rfl), fA (by kernel_rfl), fD (by kernel_rfl), fA (by kernel_rfl)⟩
@[simp] theorem p179 : tF 179 (some (2, true)) none false none 0 false 0 32 ∧ tZ 179 (.agg [.bool false, .nils]) ∧ tK 179 2 ∧ tD 179 0 0 4 ∧ tA 179 0 0 1 ∧ tD 179 1 1 66 ∧ tA 179 1 1 1 := ⟨tf (by kernel_rfl), fZ (by kernel_rfl), fK (by kernel_rfl), fD (by kernel_rfl), fA (by kernel_rfl), fD (by kernel_rfl), fA (by kernel_rfl)⟩
@[simp] theorem p180 : tF 180 (some (1, false)) none false none 0 false 1 8 ∧ tZ 180 .nilp ∧ tK 180 1 := ⟨tf (by kernel_rfl), fZ (by kernel_rfl), fK (by kernel_rfl)⟩
@[simp] theorem p205 : tF 205 (some (1, false)) none false none 0 false 1 8 ∧ tZ 205 .nilp ∧ tK 205 1 := ⟨tf (by kernel_rfl), fZ (by kernel_rfl), fK (by kernel_rfl)⟩
@[simp] theorem p207 : tF 207 (some (2, true)) none false none 0 false 0 32 ∧ tZ 207 (.agg [.nilp, .nils]) ∧ tK 207 2 ∧ tD 207 0 0 205 ∧ tA 207 0 0 1 ∧ tD 207 1 1 22 ∧ tA 207 1 1 1 := ⟨tf (by kernel_rfl), fZ (by kernel_rfl), fK (by kernel_rfl), fD (by kernel_rfl), fA (by kernel_rfl), fD (by kernel_rfl), fA (by kernel_rfl)⟩
@[simp] theorem p209 : tF 209 (some (1, false)) none false none 0 false 4 8 ∧ tZ 209 .nilf ∧ tK 209 1 := ⟨tf (by kernel_rfl), fZ (by kernel_rfl), fK (by kernel_rfl)⟩
@[simp] theorem p211 : tF 211 (some (2, true)) none false none 0 false 0 16 ∧ tZ 211 (.agg [.int .i64 0, .int .i64 0]) ∧ tK 211 2 := ⟨tf (by kernel_rfl), fZ (by kernel_rfl), fK (by kernel_rfl)⟩
@[simp] theorem p214 : tF 214 (some (1, false)) none false none 0 false 0 0 := tf (by kernel_rfl)
@[simp] theorem p217 : tF 217 (some (1, false)) none false none 0 false 0 0 := tf (by kernel_rfl)
@[simp] theorem p219 : tF 219 (some (1, false)) none false none 0 false 0 0 := tf (by kernel_rfl)
@[simp] theorem p242 : tF 242 (some (1, false)) none false none 0 false 0 0 := tf (by kernel_rfl)
@[simp] theorem p244 : tF 244 (some (1, false)) none false none 0 false 4 8 ∧ tZ 244 .nilf ∧ tK 244 1 := ⟨tf (by kernel_rfl), fZ (by kernel_rfl), fK (by kernel_rfl)⟩
@[simp] theorem p264 : tF 264 (some (1, false)) (some 57) false none 0 false 2 24 ∧ tZ 264 .nils ∧ tK 264 1 := ⟨tf (by kernel_rfl), fZ (by kernel_rfl), fK (by kernel_rfl)⟩
@[simp] theorem p267 : tF 267 (some (1, true)) none false none 0 false 0 24 ∧ tZ 267 (.agg [.nils]) ∧ tK 267 1 ∧ tD 267 0 0 57 ∧ tA 267 0 0 1 := ⟨tf (by kernel_rfl), fZ (by kernel_rfl), fK (by kernel_rfl), fD (by kernel_rfl), fA (by kernel_rfl)⟩
@[simp] theorem p268 : tF 268 (some (1, false)) none false none 0 false 3 8 ∧ tZ 268 .nilm ∧ tK 268 1 := ⟨tf (by kernel_rfl), fZ (by kernel_rfl), fK (by kernel_rfl)⟩
@[simp] theorem p270 : tF 270 (some (2, true)) none false none 0 false 0 32 ∧ tZ 270 (.agg [.nils, .nilm]) ∧ tK 270 2 ∧ tD 270 0 0 267 ∧ tA 270 0 0 1 ∧ tD 270 1 1 268 ∧ tA 270 1 1 1 := ⟨tf (by kernel_rfl), fZ (by kernel_rfl), fK (by kernel_rfl), fD (by kernel_rfl), fA (by kernel_rfl), fD (by kernel_rfl), fA (by kernel_rfl)⟩
@[simp] theorem p272 : tF 272 (some (1, false)) none false none 0 false 4 8 ∧ tZ 272 .nilf ∧ tK 272 1 := ⟨tf (by kernel_rfl), fZ (by kernel_rfl), fK (by kernel_rfl)⟩
@[simp] theorem p274 : tF 274 (some (1, false)) none false none 0 false 0 0 := tf (by kernel_rfl)
@[simp] theorem p292 : tF 292 (some (1, false)) none false none 0 false 1 8 ∧ tZ 292 .nilp ∧ tK 292 1 := ⟨tf (by kernel_rfl), fZ (by kernel_rfl), fK (by kernel_rfl)⟩
@[simp] theorem p294 : tF 294 (some (1, false)) none false none 0 false 0 0 := tf (by kernel_rfl)
@[simp] theorem p297 : tF 297 (some (1, false)) none false none 0 false 4 8 ∧ tZ 297 .nilf ∧ tK 297 1 := ⟨tf (by kernel_rfl), fZ (by kernel_rfl), fK (by kernel_rfl)⟩
@[simp] theorem p298 : tF 298 (some (1, false)) none false none 0 false 4 8 ∧ tZ 298 .nilf ∧ tK 298 1 := ⟨tf (by kernel_rfl), fZ (by kernel_rfl), fK (by kernel_rfl)⟩
@[simp] theorem p301 : tF 301 (some (1, false)) none false none 0 false 4 8 ∧ tZ 301 .nilf ∧ tK 301 1 := ⟨tf (by kernel_rfl), fZ (by kernel_rfl), fK (by kernel_rfl)⟩
@[simp] theorem p304 : tF 304 (some (2, true)) none false none 0 false 0 16 ∧ tZ 304 (.agg [.nilf, .int .i64 0]) ∧ tK 304 2 ∧ tD 304 0 0 209 ∧ tA 304 0 0 1 ∧ tD 304 1 1 39 ∧ tA 304 1 1 1 := ⟨tf (by kernel_rfl), fZ (by kernel_rfl), fK (by kernel_rfl), fD (by kernel_rfl), fA (by kernel_rfl), fD (by kernel_rfl), fA (by kernel_rfl)⟩
@[simp] theorem p305 : tF 305 (some (1, false)) (some 304) false none 0 false 2 24 ∧ tZ 305 .nils ∧ tK 305 1 := ⟨tf (by kernel_rfl), fZ (by kernel_rfl), fK (by kernel_rfl)⟩
@[simp] theorem p306 : tF 306 (some (1, false)) none false none 0 false 0 0 := tf (by kernel_rfl)
@[simp] theorem p308 : tF 308 (some (1, false)) none false (some .u64) 1 false 0 8 ∧ tZ 308 (.int .u64 0) ∧ tK 308 1 := ⟨tf (by kernel_rfl), fZ (by kernel_rfl), fK (by kernel_rfl)⟩
@[simp] theorem p312 : tF 312 (some (1, false)) none false none 0 false 0 0 := tf (by kernel_rfl)
@[simp] theorem p314 : tF 314 (some (1, false)) none false none 0 false 1 8 ∧ tZ 314 .nilp ∧ tK 314 1 := ⟨tf (by kernel_rfl), fZ (by kernel_rfl), fK (by kernel_rfl)⟩
@[simp] theorem p322 : tF 322 (some (1, false)) none false (some .i64) 1 false 0 8 ∧ tZ 322 (.int .i64 0) ∧ tK 322 1 := ⟨tf (by kernel_rfl), fZ (by kernel_rfl), fK (by kernel_rfl)⟩
@[simp] theorem p323 : tF 323 (some (1, false)) none false none 0 false 0 0 := tf (by kernel_rfl)
@[simp] theorem p352 : tF 352 (some (24, true)) none false none 0 false 0 24 ∧ tZ 352 (.agg [.int .u8 0, .int .u8 0, .int .u8 0, .int .u8 0, .int .u8 0, .int .u8 0, .int .u8 0, .int .u8 0, .int .u8 0, .int .u8 0, .int .u8 0, .int .u8 0, .int .u8 0, .int .u8 0, .int .u8 0, .int .u8 0, .int .u8 0, .int .u8 0, .int .u8 0, .int .u8 0, .int .u8 0, .int .u8 0, .int .u8 0, .int .u8 0]) ∧ tK 352 24 := ⟨tf (by kernel_rfl), fZ (by kernel_rfl), fK (by kernel_rfl)⟩
@[simp] theorem p354 : tF 354 (some (1, false)) none false none 0 false 0 0 := tf (by kernel_rfl)
@[simp] theorem p356 : tF 356 (some (1, false)) none false none 0 false 0 8 ∧ tZ 356 .nilp ∧ tK 356 1 := ⟨tf (by kernel_rfl), fZ (by kernel_rfl), fK (by kernel_rfl)⟩
@[simp] theorem p360 : tF 360 (some (1, false)) none false none 0 false 4 8 ∧ tZ 360 .nilf ∧ tK 360 1 := ⟨tf (by kernel_rfl), fZ (by kernel_rfl), fK (by kernel_rfl)⟩
@[simp] theorem p361 : tF 361 (some (1, false)) none false none 0 false 4 8 ∧ tZ 361 .nilf ∧ tK 361 1 := ⟨tf (by kernel_rfl), fZ (by kernel_rfl), fK (by kernel_rfl)⟩
@[simp] theorem p363 : tF 363 (some (1, true)) none false none 0 false 0 16 ∧ tZ 363 (.agg [.str []]) ∧ tK 363 1 ∧ tD 363 0 0 9 ∧ tA 363 0 0 1 := ⟨tf (by kernel_rfl), fZ (by kernel_rfl), fK (by kernel_rfl), fD (by kernel_rfl), fA (by kernel_rfl)⟩
@[simp] theorem p364 : tF 364 (some (1, false)) none false none 0 false 0 0 := tf (by kernel_rfl)
@[simp] theorem p367 : tF 367 (some (3, true)) none false none 0 false 0 48 ∧ tZ 367 (.agg [.str [], .str [], .nili]) ∧ tK 367 3 ∧ tD 367 0 0 9 ∧ tA 367 0 0 1 ∧ tD 367 1 1 9 ∧ tA 367 1 1 1 ∧ tD 367 2 2 104 ∧ tA 367 2 2 1 := ⟨tf (by kernel_rfl), fZ (by kernel_rfl), fK (by kernel_rfl), fD (by kernel_rfl), fA (by kernel_rfl), fD (by kernel_rfl), fA (by kernel_rfl), fD (by kernel_rfl), fA (by kernel_rfl)⟩
@[simp] theorem p383 : tF 383 (some (1, false)) none false (some .u64) 1 false 0 8 ∧ tZ 383 (.int .u64 0) ∧ tK 383 1 := ⟨tf (by kernel_rfl), fZ (by kernel_rfl), fK (by kernel_rfl)⟩
@[simp] theorem p387 : tF 387 (some (1, false)) none false none 0 false 1 8 ∧ tZ 387 .nilp ∧ tK 387 1 := ⟨tf (by kernel_rfl), fZ (by kernel_rfl), fK (by kernel_rfl)⟩
@[simp] theorem p403 : tF 403 (some (20, true)) none false none 0 false 0 160 ∧ tZ 403 (.agg [.int .u64 0, .int .u64 0, .int .u64 0, .int .u64 0, .int .u64 0, .int .u64 0, .int .u64 0, .int .u64 0, .int .u64 0, .int .u64 0, .int .u64 0, .int .u64 0, .int .u64 0, .int .u64 0, .int .u64 0, .int .u64 0, .int .u64 0, .int .u64 0, .int .u64 0, .int .u64 0]) ∧ tK 403 20 := ⟨tf (by kernel_rfl), fZ (by kernel_rfl), fK (by kernel_rfl)⟩
@[simp] theorem p404 : tF 404 (some (65, true)) none false none 0 false 0 65 := tf (by kernel_rfl)
@[simp] theorem p409 : tF 409 (some (1, false)) none false none 0 false 1 8 ∧ tZ 409 .nilp ∧ tK 409 1 := ⟨tf (by kernel_rfl), fZ (by kernel_rfl), fK (by kernel_rfl)⟩
@[simp] theorem p411 : tF 411 (some (1, true)) none false none 0 false 0 16 ∧ tZ 411 (.agg [.str []]) ∧ tK 411 1 ∧ tD 411 0 0 9 ∧ tA 411 0 0 1 := ⟨tf (by kernel_rfl), fZ (by kernel_rfl), fK (by kernel_rfl), fD (by kernel_rfl), fA (by kernel_rfl)⟩
@[simp] theorem p416 : tF 416 (some (1, false)) none false none 0 false 1 8 ∧ tZ 416 .nilp ∧ tK 416 1 := ⟨tf (by kernel_rfl), fZ (by kernel_rfl), fK (by kernel_rfl)⟩
@[simp] theorem p417 : tF 417 (some (1, false)) none false none 0 false 0 0 := tf (by kernel_rfl)
@[simp] theorem p429 : tF 429 (some (32, true)) none false none 0 false 0 32 ∧ tZ 429 (.agg [.int .u8 0, .int .u8 0, .int .u8 0, .int .u8 0, .int .u8 0, .int .u8 0, .int .u8 0, .int .u8 0, .int .u8 0, .int .u8 0, .int .u8 0, .int .u8 0, .int .u8 0, .int .u8 0, .int .u8 0, .int .u8 0, .int .u8 0, .int .u8 0, .int .u8 0, .int .u8 0, .int .u8 0, .int .u8 0, .int .u8 0, .int .u8 0, .int .u8 0, .int .u8 0, .int .u8 0, .int .u8 0, .int .u8 0, .int .u8 0, .int .u8 0, .int .u8 0]) ∧ tK 429 32 := ⟨tf (by kernel_rfl), fZ (by kernel_rfl), fK (by kernel_rfl)⟩
@[simp] theorem p430 : tF 430 (some (64, true)) none false none 0 false 0 64 ∧ tZ 430 (.agg [.int .u8 0, .int .u8 0, .int .u8 0, .int .u8 0, .int .u8 0, .int .u8 0, .int .u8 0, .int .u8 0, .int .u8 0, .int .u8 0, .int .u8 0, .int .u8 0, .int .u8 0, .int .u8 0, .int .u8 0, .int .u8 0, .int .u8 0, .int .u8 0, .int .u8 0, .int .u8 0, .int .u8 0, .int .u8 0, .int .u8 0, .int .u8 0, .int .u8 0, .int .u8 0, .int .u8 0, .int .u8 0, .int .u8 0, .int .u8 0, .int .u8 0, .int .u8 0, .int .u8 0, .int .u8 0, .int .u8 0, .int .u8 0, .int .u8 0, .int .u8 0, .int .u8 0, .int .u8 0, .int .u8 0, .int .u8 0, .int .u8 0, .int .u8 0, .int .u8 0, .int .u8 0, .int .u8 0, .int .u8 0, .int .u8 0, .int .u8 0, .int .u8 0, .int .u8 0, .int .u8 0, .int .u8 0, .int .u8 0, .int .u8 0, .int .u8 0, .int .u8 0, .int .u8 0, .int .u8 0, .int .u8 0, .int .u8 0, .int .u8 0, .int .u8 0]) ∧ tK 430 64 := ⟨tf (by kernel_rfl), fZ (by kernel_rfl), fK (by kernel_rfl)⟩
theorem tplain_54 : tplain Tryz.prog 177 = some [1, 1] := by kernel_rfl
theorem abuild_54 (parts : List (Nat × AV)) : abuild Tryz.prog 177 parts = (afill (apl Tryz.prog 177) [.int .i64 0, .int .i64 0] parts).map AV.agg := abuild_apl (by kernel_rfl) (by decide) (by kernel_rfl) parts
theorem abuild_59 (parts : List (Nat × AV)) : abuild Tryz.prog 88 parts = (afill (apl Tryz.prog 88) [.int .i64 0, .int .i64 0, .nils] parts).map AV.agg := abuild_apl (by kernel_rfl) (by decide) (by kernel_rfl) parts
theorem abuild_74 (parts : List (Nat × AV)) : abuild Tryz.prog 75 parts = (afill (apl Tryz.prog 75) [.int .i64 0, .int .i64 0, .bool false, .bool false, .nils, .nils] parts).map AV.agg := abuild_apl (by kernel_rfl) (by decide) (by kernel_rfl) parts
theorem tkey_54_163 : tkey Tryz.prog 177 = some [1, 1] := by kernel_rfl
theorem abuild_167 (parts : List (Nat × AV)) : abuild Tryz.prog 179 parts = (afill (apl Tryz.prog 179) [.bool false, .nils] parts).map AV.agg := abuild_apl (by kernel_rfl) (by decide) (by kernel_rfl) parts
theorem abuild_176 (parts : List (Nat × AV)) : abuild Tryz.prog 137 parts = (afill (apl Tryz.prog 137) [.nils, .int .i64 0, .int .u32 0] parts).map AV.agg := abuild_apl (by kernel_rfl) (by decide) (by kernel_rfl) parts
theorem abuild_179 (parts : List (Nat × AV)) : abuild Tryz.prog 207 parts = (afill (apl Tryz.prog 207) [.nilp, .nils] parts).map AV.agg := abuild_apl (by kernel_rfl) (by decide) (by kernel_rfl) parts
theorem abuild_210 (parts : List (Nat × AV)) : abuild Tryz.prog 304 parts = (afill (apl Tryz.prog 304) [.nilf, .int .i64 0] parts).map AV.agg := abuild_apl (by kernel_rfl) (by decide) (by kernel_rfl) parts
theorem abuild_226 (parts : List (Nat × AV)) : abuild Tryz.prog 267 parts = (afill (apl Tryz.prog 267) [.nils] parts).map AV.agg := abuild_apl (by kernel_rfl) (by decide) (by kernel_rfl) parts
theorem tmap_227 : tmap Tryz.prog 268 = some (177, 3) := by kernel_rfl
theorem tkey_54_227 : tkey Tryz.prog 177 = some [1, 1] := by kernel_rfl
theorem abuild_229 (parts : List (Nat × AV)) : abuild Tryz.prog 270 parts = (afill (apl Tryz.prog 270) [.nils, .nilm] parts).map AV.agg := abuild_apl (by kernel_rfl) (by decide) (by kernel_rfl) parts
theorem tplain_246 : tplain Tryz.prog 363 = some [3] := by kernel_rfl
theorem abuild_246 (parts : List (Nat × AV)) : abuild Tryz.prog 363 parts = (afill (apl Tryz.prog 363) [.str []] parts).map AV.agg := abuild_apl (by kernel_rfl) (by decide) (by kernel_rfl) parts
theorem abuild_305 (parts : List (Nat × AV)) : abuild Tryz.prog 367 parts = (afill (apl Tryz.prog 367) [.str [], .str [], .nili] parts).map AV.agg := abuild_apl (by kernel_rfl) (by decide) (by kernel_rfl) parts
theorem tplain_314 : tplain Tryz.prog 411 = some [3] := by kernel_rfl
theorem abuild_314 (parts : List (Nat × AV)) : abuild Tryz.prog 411 parts = (afill (apl Tryz.prog 411) [.str []] parts).map AV.agg := abuild_apl (by kernel_rfl) (by decide) (by kernel_rfl) parts
attribute [simp] tplain_54 abuild_54 abuild_59 abuild_74 tkey_54_163 abuild_167 abuild_176 abuild_179 abuild_210 abuild_226 tmap_227 tkey_54_227 abuild_229 tplain_246 abuild_246 abuild_305 tplain_314 abuild_314
end Ab

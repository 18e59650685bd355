/-
  Texts packed for a claim.
-/
import Derived.Test.YtcoikmapjepdjaaGreatDoorProg
import Derived.Test.YtcoikmapjepdjaaGreatDoorE04
set_option linter.all false
namespace Ab
open Go Go.Proofs
abbrev tF (t:TypeId) (a:Option (Nat × Bool)) (b:Option TypeId) (c:Bool) (d:Option IntKind) (e:Nat) (f:Bool) (g h:Nat):Prop:=tsa Tryz.prog t=a∧Uc Tryz.prog t=b∧Yd Tryz.prog t=c∧Ve Tryz.prog t=d∧Vd Tryz.prog t=e∧Xg Tryz.prog t=f∧Ye Tryz.prog t=g∧tby Tryz.prog t=h
abbrev tZ (t:TypeId) (z:AV):Prop:=tz Tryz.prog t=some z
abbrev tK (t:TypeId) (k:Nat):Prop:=tzk Tryz.prog t k=true
abbrev tD (t:TypeId) (j a b:Nat):Prop:=Vj Tryz.prog t j=some (a,b)
abbrev tA (t:TypeId) (j a b:Nat):Prop:=apl Tryz.prog t j=some (a,b)
theorem t8 {A B C D E F G H:Type} {a a1:A} {b b1:B} {c c1:C} {d d1:D} {e e1:E} {f f1:F} {g g1:G} {h h1:H} (x:(a,b,c,d,e,f,g,h)=(a1,b1,c1,d1,e1,f1,g1,h1)):a=a1∧b=b1∧c=c1∧d=d1∧e=e1∧f=f1∧g=g1∧h=h1:=by simpa only [Prod.mk.injEq] using x
theorem tf {t:TypeId} {a:Option (Nat × Bool)} {b:Option TypeId} {c:Bool} {d:Option IntKind} {e:Nat} {f:Bool} {g h:Nat} (x:(tsa Tryz.prog t,Uc Tryz.prog t,Yd Tryz.prog t,Ve Tryz.prog t,Vd Tryz.prog t,Xg Tryz.prog t,Ye Tryz.prog t,tby Tryz.prog t)=(a,b,c,d,e,f,g,h)):tF t a b c d e f g h:=t8 x
theorem fZ {t:TypeId} {z:AV} (x:tz Tryz.prog t=some z):tZ t z:=x
theorem fK {t:TypeId} {k:Nat} (x:tzk Tryz.prog t k=true):tK t k:=x
theorem fD {t:TypeId} {j a b:Nat} (x:Vj Tryz.prog t j=some (a,b)):tD t j a b:=x
theorem fA {t:TypeId} {j a b:Nat} (x:apl Tryz.prog t j=some (a,b)):tA t j a b:=x
@[simp] theorem p0:tF 0 (some (1,false)) none false none 0 false 0 0:=tf (by kernel_rfl)
@[simp] theorem p2:tF 2 (some (1,false)) none false (some .i64) 1 false 0 8∧tZ 2 (.int .i64 0)∧tK 2 1:=⟨tf (by kernel_rfl),fZ (by kernel_rfl),fK (by kernel_rfl)⟩
@[simp] theorem p3:tF 3 (some (1,false)) none false (some .i64) 1 false 0 8∧tZ 3 (.int .i64 0)∧tK 3 1:=⟨tf (by kernel_rfl),fZ (by kernel_rfl),fK (by kernel_rfl)⟩
@[simp] theorem p4:tF 4 (some (1,false)) none false none 2 true 0 1∧tZ 4 (.bool false)∧tK 4 1:=⟨tf (by kernel_rfl),fZ (by kernel_rfl),fK (by kernel_rfl)⟩
@[simp] theorem p5:tF 5 (some (1,false)) none false (some .u8) 1 false 0 1∧tZ 5 (.int .u8 0)∧tK 5 1:=⟨tf (by kernel_rfl),fZ (by kernel_rfl),fK (by kernel_rfl)⟩
@[simp] theorem p9:tF 9 (some (1,false)) none true none 3 false 0 16∧tZ 9 (.str [])∧tK 9 1:=⟨tf (by kernel_rfl),fZ (by kernel_rfl),fK (by kernel_rfl)⟩
@[simp] theorem p20:tF 20 (some (1,false)) none false none 0 false 5 16∧tZ 20 .nili∧tK 20 1:=⟨tf (by kernel_rfl),fZ (by kernel_rfl),fK (by kernel_rfl)⟩
@[simp] theorem p21:tF 21 (some (1,false)) none false (some .i32) 1 false 0 4∧tZ 21 (.int .i32 0)∧tK 21 1:=⟨tf (by kernel_rfl),fZ (by kernel_rfl),fK (by kernel_rfl)⟩
@[simp] theorem p22:tF 22 (some (1,false)) (some 5) false none 0 false 2 24∧tZ 22 .nils∧tK 22 1:=⟨tf (by kernel_rfl),fZ (by kernel_rfl),fK (by kernel_rfl)⟩
@[simp] theorem p23:tF 23 (some (1,false)) none false none 0 false 1 8∧tZ 23 .nilp∧tK 23 1:=⟨tf (by kernel_rfl),fZ (by kernel_rfl),fK (by kernel_rfl)⟩
@[simp] theorem p25:tF 25 (some (1,false)) (some 34) false none 0 false 2 24∧tZ 25 .nils∧tK 25 1:=⟨tf (by kernel_rfl),fZ (by kernel_rfl),fK (by kernel_rfl)⟩
@[simp] theorem p27:tF 27 (some (2,true)) none false none 0 false 0 32∧tZ 27 (.agg [.int .i64 0,.nils])∧tK 27 2∧tD 27 0 0 3∧tA 27 0 0 1∧tD 27 1 1 25∧tA 27 1 1 1:=⟨tf (by kernel_rfl),fZ (by kernel_rfl),fK (by kernel_rfl),fD (by kernel_rfl),fA (by kernel_rfl),fD (by kernel_rfl),fA (by kernel_rfl)⟩
@[simp] theorem p29:tF 29 (some (1,false)) (some 37) false none 0 false 2 24∧tZ 29 .nils∧tK 29 1:=⟨tf (by kernel_rfl),fZ (by kernel_rfl),fK (by kernel_rfl)⟩
@[simp] theorem p31:tF 31 (some (5,true)) none false none 0 false 0 56∧tZ 31 (.agg [.int .i64 0,.int .i64 0,.int .i64 0,.int .i64 0,.nils])∧tK 31 5∧tD 31 0 0 3∧tA 31 0 0 1∧tD 31 1 1 3∧tA 31 1 1 1∧tD 31 2 2 3∧tA 31 2 2 1∧tD 31 3 3 3∧tA 31 3 3 1∧tD 31 4 4 29∧tA 31 4 4 1:=⟨tf (by kernel_rfl),fZ (by kernel_rfl),fK (by kernel_rfl),fD (by kernel_rfl),fA (by kernel_rfl),fD (by kernel_rfl),fA (by kernel_rfl),fD (by kernel_rfl),fA (by kernel_rfl),fD (by kernel_rfl),fA (by kernel_rfl),fD (by kernel_rfl),fA (by kernel_rfl)⟩
@[simp] theorem p32:tF 32 (some (1,false)) (some 3) false none 0 false 2 24∧tZ 32 .nils∧tK 32 1:=⟨tf (by kernel_rfl),fZ (by kernel_rfl),fK (by kernel_rfl)⟩
@[simp] theorem p34:tF 34 (some (2,true)) none false none 0 false 0 32∧tZ 34 (.agg [.int .i64 0,.nils])∧tK 34 2∧tD 34 0 0 3∧tA 34 0 0 1∧tD 34 1 1 32∧tA 34 1 1 1:=⟨tf (by kernel_rfl),fZ (by kernel_rfl),fK (by kernel_rfl),fD (by kernel_rfl),fA (by kernel_rfl),fD (by kernel_rfl),fA (by kernel_rfl)⟩
@[simp] theorem p37:tF 37 (some (3,true)) none false none 0 false 0 40∧tZ 37 (.agg [.int .i64 0,.int .i64 0,.nils])∧tK 37 3∧tD 37 0 0 3∧tA 37 0 0 1∧tD 37 1 1 3∧tA 37 1 1 1∧tD 37 2 2 32∧tA 37 2 2 1:=⟨tf (by kernel_rfl),fZ (by kernel_rfl),fK (by kernel_rfl),fD (by kernel_rfl),fA (by kernel_rfl),fD (by kernel_rfl),fA (by kernel_rfl),fD (by kernel_rfl),fA (by kernel_rfl)⟩
@[simp] theorem p38:tF 38 (some (1,false)) (some 32) false none 0 false 2 24∧tZ 38 .nils∧tK 38 1:=⟨tf (by kernel_rfl),fZ (by kernel_rfl),fK (by kernel_rfl)⟩
@[simp] theorem p39:tF 39 (some (1,false)) none false (some .i64) 1 false 0 8∧tZ 39 (.int .i64 0)∧tK 39 1:=⟨tf (by kernel_rfl),fZ (by kernel_rfl),fK (by kernel_rfl)⟩
@[simp] theorem p57:tF 57 (some (1,false)) (some 88) false none 0 false 2 24∧tZ 57 .nils∧tK 57 1:=⟨tf (by kernel_rfl),fZ (by kernel_rfl),fK (by kernel_rfl)⟩
@[simp] theorem p60:tF 60 (some (1,false)) (some 75) false none 0 false 2 24∧tZ 60 .nils∧tK 60 1:=⟨tf (by kernel_rfl),fZ (by kernel_rfl),fK (by kernel_rfl)⟩
@[simp] theorem p61:tF 61 (some (1,false)) none false none 0 false 0 0:=tf (by kernel_rfl)
@[simp] theorem p65:tF 65 (some (1,false)) none false none 0 false 3 8∧tZ 65 .nilm∧tK 65 1:=⟨tf (by kernel_rfl),fZ (by kernel_rfl),fK (by kernel_rfl)⟩
@[simp] theorem p66:tF 66 (some (1,false)) (some 9) false none 0 false 2 24∧tZ 66 .nils∧tK 66 1:=⟨tf (by kernel_rfl),fZ (by kernel_rfl),fK (by kernel_rfl)⟩
@[simp] theorem p67:tF 67 (some (1,false)) none false none 0 false 0 0:=tf (by kernel_rfl)
@[simp] theorem p68:tF 68 (some (1,false)) none false none 0 false 4 8∧tZ 68 .nilf∧tK 68 1:=⟨tf (by kernel_rfl),fZ (by kernel_rfl),fK (by kernel_rfl)⟩
@[simp] theorem p71:tF 71 (some (3,true)) none false none 0 false 0 56∧tZ 71 (.agg [.nils,.nils,.int .i64 0])∧tK 71 3∧tD 71 0 0 38∧tA 71 0 0 1∧tD 71 1 1 32∧tA 71 1 1 1∧tD 71 2 2 3∧tA 71 2 2 1:=⟨tf (by kernel_rfl),fZ (by kernel_rfl),fK (by kernel_rfl),fD (by kernel_rfl),fA (by kernel_rfl),fD (by kernel_rfl),fA (by kernel_rfl),fD (by kernel_rfl),fA (by kernel_rfl)⟩
@[simp] theorem p72:tF 72 (some (1,false)) none false none 0 false 4 8∧tZ 72 .nilf∧tK 72 1:=⟨tf (by kernel_rfl),fZ (by kernel_rfl),fK (by kernel_rfl)⟩
@[simp] theorem p73:tF 73 (some (1,false)) none false (some .i64) 1 false 0 8∧tZ 73 (.int .i64 0)∧tK 73 1:=⟨tf (by kernel_rfl),fZ (by kernel_rfl),fK (by kernel_rfl)⟩
@[simp] theorem p75:tF 75 (some (6,true)) none false none 0 false 0 72∧tZ 75 (.agg [.int .i64 0,.int .i64 0,.bool false,.bool false,.nils,.nils])∧tK 75 6∧tD 75 0 0 73∧tA 75 0 0 1∧tD 75 1 1 3∧tA 75 1 1 1∧tD 75 2 2 4∧tA 75 2 2 1∧tD 75 3 3 4∧tA 75 3 3 1∧tD 75 4 4 66∧tA 75 4 4 1∧tD 75 5 5 66∧tA 75 5 5 1:=⟨tf (by kernel_rfl),fZ (by kernel_rfl),fK (by kernel_rfl),fD (by kernel_rfl),fA (by kernel_rfl),fD (by kernel_rfl),fA (by kernel_rfl),fD (by kernel_rfl),fA (by kernel_rfl),fD (by kernel_rfl),fA (by kernel_rfl),fD (by kernel_rfl),fA (by kernel_rfl),fD (by kernel_rfl),fA (by kernel_rfl)⟩
@[simp] theorem p77:tF 77 (some (1,false)) none false none 0 false 4 8∧tZ 77 .nilf∧tK 77 1:=⟨tf (by kernel_rfl),fZ (by kernel_rfl),fK (by kernel_rfl)⟩
@[simp] theorem p78:tF 78 (some (1,false)) none false none 0 false 4 8∧tZ 78 .nilf∧tK 78 1:=⟨tf (by kernel_rfl),fZ (by kernel_rfl),fK (by kernel_rfl)⟩
@[simp] theorem p79:tF 79 (some (1,false)) none false none 0 false 0 0:=tf (by kernel_rfl)
@[simp] theorem p82:tF 82 (some (1,false)) none false (some .u16) 1 false 0 2∧tZ 82 (.int .u16 0)∧tK 82 1:=⟨tf (by kernel_rfl),fZ (by kernel_rfl),fK (by kernel_rfl)⟩
@[simp] theorem p88:tF 88 (some (3,true)) none false none 0 false 0 40∧tZ 88 (.agg [.int .i64 0,.int .i64 0,.nils])∧tK 88 3∧tD 88 0 0 73∧tA 88 0 0 1∧tD 88 1 1 3∧tA 88 1 1 1∧tD 88 2 2 66∧tA 88 2 2 1:=⟨tf (by kernel_rfl),fZ (by kernel_rfl),fK (by kernel_rfl),fD (by kernel_rfl),fA (by kernel_rfl),fD (by kernel_rfl),fA (by kernel_rfl),fD (by kernel_rfl),fA (by kernel_rfl)⟩
@[simp] theorem p89:tF 89 (some (1,false)) none false none 0 false 0 0:=tf (by kernel_rfl)
@[simp] theorem p92:tF 92 (some (1,false)) none false (some .u64) 1 false 0 8∧tZ 92 (.int .u64 0)∧tK 92 1:=⟨tf (by kernel_rfl),fZ (by kernel_rfl),fK (by kernel_rfl)⟩
@[simp] theorem p93:tF 93 (some (1,false)) none false none 0 false 0 0:=tf (by kernel_rfl)
@[simp] theorem p95:tF 95 (some (1,false)) none false none 0 false 0 0:=tf (by kernel_rfl)
@[simp] theorem Uiv:tF 104 (some (1,false)) none false none 0 false 5 16∧tZ 104 .nili∧tK 104 1:=⟨tf (by kernel_rfl),fZ (by kernel_rfl),fK (by kernel_rfl)⟩
@[simp] theorem Wir:tF 105 (some (1,false)) none false none 0 false 0 0:=tf (by kernel_rfl)
@[simp] theorem Xig:tF 120 (some (1,false)) none false none 0 false 4 8∧tZ 120 .nilf∧tK 120 1:=⟨tf (by kernel_rfl),fZ (by kernel_rfl),fK (by kernel_rfl)⟩
@[simp] theorem Zih:tF 129 (some (1,false)) (some 177) false none 0 false 2 24∧tZ 129 .nils∧tK 129 1:=⟨tf (by kernel_rfl),fZ (by kernel_rfl),fK (by kernel_rfl)⟩
@[simp] theorem Wik:tF 130 (some (1,false)) none false none 0 false 0 0:=tf (by kernel_rfl)
@[simp] theorem Yim:tF 135 (some (1,false)) none false (some .u32) 1 false 0 4∧tZ 135 (.int .u32 0)∧tK 135 1:=⟨tf (by kernel_rfl),fZ (by kernel_rfl),fK (by kernel_rfl)⟩
@[simp] theorem Uiq:tF 137 (some (3,true)) none false none 0 false 0 40∧tZ 137 (.agg [.nils,.int .i64 0,.int .u32 0])∧tK 137 3∧tD 137 0 0 22∧tA 137 0 0 1∧tD 137 1 1 3∧tA 137 1 1 1∧tD 137 2 2 135∧tA 137 2 2 1:=⟨tf (by kernel_rfl),fZ (by kernel_rfl),fK (by kernel_rfl),fD (by kernel_rfl),fA (by kernel_rfl),fD (by kernel_rfl),fA (by kernel_rfl),fD (by kernel_rfl),fA (by kernel_rfl)⟩
@[simp] theorem Xiq:tF 143 (some (1,false)) none false none 0 false 1 8∧tZ 143 .nilp∧tK 143 1:=⟨tf (by kernel_rfl),fZ (by kernel_rfl),fK (by kernel_rfl)⟩
@[simp] theorem Vil:tF 148 (some (1,false)) none false none 0 false 4 8∧tZ 148 .nilf∧tK 148 1:=⟨tf (by kernel_rfl),fZ (by kernel_rfl),fK (by kernel_rfl)⟩
@[simp] theorem Uis:tF 150 (some (1,true)) none false none 0 false 0 8∧tZ 150 (.agg [.nilf])∧tK 150 1∧tD 150 0 0 148∧tA 150 0 0 1:=⟨tf (by kernel_rfl),fZ (by kernel_rfl),fK (by kernel_rfl),fD (by kernel_rfl),fA (by kernel_rfl)⟩
@[simp] theorem Uix:tF 164 (some (4,true)) none false none 0 false 0 32∧tZ 164 (.agg [.int .i64 0,.int .i64 0,.int .i64 0,.int .i64 0])∧tK 164 4∧tA 164 0 0 1∧tA 164 1 1 1∧tA 164 2 2 1∧tA 164 3 3 1:=⟨tf (by kernel_rfl),fZ (by kernel_rfl),fK (by kernel_rfl),fA (by kernel_rfl),fA (by kernel_rfl),fA (by kernel_rfl),fA (by kernel_rfl)⟩
@[simp] theorem Xim:tF 170 (some (1,false)) none false none 0 false 4 8∧tZ 170 .nilf∧tK 170 1:=⟨tf (by kernel_rfl),fZ (by kernel_rfl),fK (by kernel_rfl)⟩
@[simp] theorem Uh6:tF 172 (some (1,false)) (some 180) false none 0 false 2 24∧tZ 172 .nils∧tK 172 1:=⟨tf (by kernel_rfl),fZ (by kernel_rfl),fK (by kernel_rfl)⟩
@[simp] theorem Uio:tF 173 (some (1,false)) none false none 0 false 0 0:=tf (by kernel_rfl)
@[simp] theorem Xia:tF 177 (some (2,true)) none false none 0 false 0 16∧tZ 177 (.agg [.int .i64 0,.int .i64 0])∧tK 177 2∧tD 177 0 0 73∧tA 177 0 0 1∧tD 177 1 1 3∧tA 177 1 1 1:=⟨tf (by kernel_rfl),fZ (by kernel_rfl),fK (by kernel_rfl),fD (by kernel_rfl),fA (by kernel_rfl),fD (by kernel_rfl),fA (by kernel_rfl)⟩
@[simp] theorem Uif:tF 179 (some (2,true)) none false none 0 false 0 32∧tZ 179 (.agg [.bool false,.nils])∧tK 179 2∧tD 179 0 0 4∧tA 179 0 0 1∧tD 179 1 1 66∧tA 179 1 1 1:=⟨tf (by kernel_rfl),fZ (by kernel_rfl),fK (by kernel_rfl),fD (by kernel_rfl),fA (by kernel_rfl),fD (by kernel_rfl),fA (by kernel_rfl)⟩
@[simp] theorem Wiq:tF 180 (some (1,false)) none false none 0 false 1 8∧tZ 180 .nilp∧tK 180 1:=⟨tf (by kernel_rfl),fZ (by kernel_rfl),fK (by kernel_rfl)⟩
@[simp] theorem Xin:tF 184 (some (1,false)) (some 60) false none 0 false 2 24∧tZ 184 .nils∧tK 184 1:=⟨tf (by kernel_rfl),fZ (by kernel_rfl),fK (by kernel_rfl)⟩
@[simp] theorem Uiw:tF 186 (some (1,false)) none false none 0 false 3 8∧tZ 186 .nilm∧tK 186 1:=⟨tf (by kernel_rfl),fZ (by kernel_rfl),fK (by kernel_rfl)⟩
@[simp] theorem Uig:tF 191 (some (1,false)) none false none 0 false 4 8∧tZ 191 .nilf∧tK 191 1:=⟨tf (by kernel_rfl),fZ (by kernel_rfl),fK (by kernel_rfl)⟩
@[simp] theorem Xic:tF 192 (some (1,false)) none false none 0 false 1 8∧tZ 192 .nilp∧tK 192 1:=⟨tf (by kernel_rfl),fZ (by kernel_rfl),fK (by kernel_rfl)⟩
@[simp] theorem Yiy:tF 196 (some (2,true)) none false none 0 false 0 16∧tZ 196 (.agg [.int .i64 0,.int .i64 0])∧tK 196 2∧tD 196 0 0 3∧tA 196 0 0 1∧tD 196 1 1 3∧tA 196 1 1 1:=⟨tf (by kernel_rfl),fZ (by kernel_rfl),fK (by kernel_rfl),fD (by kernel_rfl),fA (by kernel_rfl),fD (by kernel_rfl),fA (by kernel_rfl)⟩
@[simp] theorem Ziv:tF 198 (some (5,true)) none false none 0 false 0 104∧tZ 198 (.agg [.nils,.nils,.int .i64 0,.nils,.nils])∧tK 198 5∧tD 198 0 0 71∧tA 198 0 0 3∧tD 198 1 3 32∧tA 198 1 3 1∧tD 198 2 4 32∧tA 198 2 4 1:=⟨tf (by kernel_rfl),fZ (by kernel_rfl),fK (by kernel_rfl),fD (by kernel_rfl),fA (by kernel_rfl),fD (by kernel_rfl),fA (by kernel_rfl),fD (by kernel_rfl),fA (by kernel_rfl)⟩
@[simp] theorem Zit:tF 202 (some (1,false)) none false none 0 false 4 8∧tZ 202 .nilf∧tK 202 1:=⟨tf (by kernel_rfl),fZ (by kernel_rfl),fK (by kernel_rfl)⟩
@[simp] theorem Wim:tF 205 (some (1,false)) none false none 0 false 1 8∧tZ 205 .nilp∧tK 205 1:=⟨tf (by kernel_rfl),fZ (by kernel_rfl),fK (by kernel_rfl)⟩
@[simp] theorem Yh9:tF 207 (some (2,true)) none false none 0 false 0 32∧tZ 207 (.agg [.nilp,.nils])∧tK 207 2∧tD 207 0 0 205∧tA 207 0 0 1∧tD 207 1 1 22∧tA 207 1 1 1:=⟨tf (by kernel_rfl),fZ (by kernel_rfl),fK (by kernel_rfl),fD (by kernel_rfl),fA (by kernel_rfl),fD (by kernel_rfl),fA (by kernel_rfl)⟩
@[simp] theorem Zif:tF 209 (some (1,false)) none false none 0 false 4 8∧tZ 209 .nilf∧tK 209 1:=⟨tf (by kernel_rfl),fZ (by kernel_rfl),fK (by kernel_rfl)⟩
@[simp] theorem Yir:tF 211 (some (2,true)) none false none 0 false 0 16∧tZ 211 (.agg [.int .i64 0,.int .i64 0])∧tK 211 2:=⟨tf (by kernel_rfl),fZ (by kernel_rfl),fK (by kernel_rfl)⟩
@[simp] theorem Vip:tF 214 (some (1,false)) none false none 0 false 0 0:=tf (by kernel_rfl)
@[simp] theorem Vih:tF 217 (some (1,false)) none false none 0 false 0 0:=tf (by kernel_rfl)
@[simp] theorem Uid:tF 219 (some (1,false)) none false none 0 false 0 0:=tf (by kernel_rfl)
@[simp] theorem Wix:tF 221 (some (1,false)) none false none 0 false 0 0:=tf (by kernel_rfl)
@[simp] theorem Yh8:tF 242 (some (1,false)) none false none 0 false 0 0:=tf (by kernel_rfl)
@[simp] theorem Wiy:tF 244 (some (1,false)) none false none 0 false 4 8∧tZ 244 .nilf∧tK 244 1:=⟨tf (by kernel_rfl),fZ (by kernel_rfl),fK (by kernel_rfl)⟩
@[simp] theorem Xit:tF 252 (some (6,true)) none false none 0 false 0 80∧tZ 252 (.agg [.int .i64 0,.int .i64 0,.int .i64 0,.int .i64 0,.nils,.nils])∧tK 252 6∧tD 252 0 0 31∧tA 252 0 0 5∧tD 252 1 5 32∧tA 252 1 5 1:=⟨tf (by kernel_rfl),fZ (by kernel_rfl),fK (by kernel_rfl),fD (by kernel_rfl),fA (by kernel_rfl),fD (by kernel_rfl),fA (by kernel_rfl)⟩
@[simp] theorem Vh6:tF 253 (some (1,false)) none false none 0 false 3 8∧tZ 253 .nilm∧tK 253 1:=⟨tf (by kernel_rfl),fZ (by kernel_rfl),fK (by kernel_rfl)⟩
@[simp] theorem Ziq:tF 254 (some (1,false)) none false none 0 false 4 8∧tZ 254 .nilf∧tK 254 1:=⟨tf (by kernel_rfl),fZ (by kernel_rfl),fK (by kernel_rfl)⟩
@[simp] theorem Vh7:tF 256 (some (5,true)) none false none 0 false 0 40∧tZ 256 (.agg [.int .i64 0,.int .i64 0,.int .i64 0,.int .i64 0,.int .i64 0])∧tK 256 5∧tD 256 0 0 3∧tA 256 0 0 1∧tD 256 1 1 164∧tA 256 1 1 4:=⟨tf (by kernel_rfl),fZ (by kernel_rfl),fK (by kernel_rfl),fD (by kernel_rfl),fA (by kernel_rfl),fD (by kernel_rfl),fA (by kernel_rfl)⟩
@[simp] theorem Xii:tF 264 (some (1,false)) (some 57) false none 0 false 2 24∧tZ 264 .nils∧tK 264 1:=⟨tf (by kernel_rfl),fZ (by kernel_rfl),fK (by kernel_rfl)⟩
@[simp] theorem Vio:tF 267 (some (1,true)) none false none 0 false 0 24∧tZ 267 (.agg [.nils])∧tK 267 1∧tD 267 0 0 57∧tA 267 0 0 1:=⟨tf (by kernel_rfl),fZ (by kernel_rfl),fK (by kernel_rfl),fD (by kernel_rfl),fA (by kernel_rfl)⟩
@[simp] theorem Xiv:tF 268 (some (1,false)) none false none 0 false 3 8∧tZ 268 .nilm∧tK 268 1:=⟨tf (by kernel_rfl),fZ (by kernel_rfl),fK (by kernel_rfl)⟩
@[simp] theorem Vid:tF 270 (some (2,true)) none false none 0 false 0 32∧tZ 270 (.agg [.nils,.nilm])∧tK 270 2∧tD 270 0 0 267∧tA 270 0 0 1∧tD 270 1 1 268∧tA 270 1 1 1:=⟨tf (by kernel_rfl),fZ (by kernel_rfl),fK (by kernel_rfl),fD (by kernel_rfl),fA (by kernel_rfl),fD (by kernel_rfl),fA (by kernel_rfl)⟩
@[simp] theorem Vir:tF 272 (some (1,false)) none false none 0 false 4 8∧tZ 272 .nilf∧tK 272 1:=⟨tf (by kernel_rfl),fZ (by kernel_rfl),fK (by kernel_rfl)⟩
@[simp] theorem Zis:tF 274 (some (1,false)) none false none 0 false 0 0:=tf (by kernel_rfl)
@[simp] theorem Ziu:tF 280 (some (7,true)) none false none 0 false 0 56∧tZ 280 (.agg [.int .i64 0,.int .i64 0,.int .i64 0,.int .i64 0,.int .i64 0,.int .i64 0,.int .i64 0])∧tK 280 7∧tA 280 0 0 1∧tA 280 1 1 1∧tA 280 2 2 1∧tA 280 3 3 1∧tA 280 4 4 1∧tA 280 5 5 1∧tA 280 6 6 1:=⟨tf (by kernel_rfl),fZ (by kernel_rfl),fK (by kernel_rfl),fA (by kernel_rfl),fA (by kernel_rfl),fA (by kernel_rfl),fA (by kernel_rfl),fA (by kernel_rfl),fA (by kernel_rfl),fA (by kernel_rfl)⟩
@[simp] theorem Ziy:tF 281 (some (49,true)) none false none 0 false 0 392∧tK 281 49∧tA 281 0 0 7∧tA 281 1 7 7∧tA 281 2 14 7∧tA 281 3 21 7∧tA 281 4 28 7∧tA 281 5 35 7∧tA 281 6 42 7:=⟨tf (by kernel_rfl),fK (by kernel_rfl),fA (by kernel_rfl),fA (by kernel_rfl),fA (by kernel_rfl),fA (by kernel_rfl),fA (by kernel_rfl),fA (by kernel_rfl),fA (by kernel_rfl)⟩
@[simp] theorem Xik:tF 283 (some (5,true)) none false none 0 false 0 40∧tZ 283 (.agg [.int .i64 0,.int .i64 0,.int .i64 0,.int .i64 0,.int .i64 0])∧tK 283 5∧tA 283 0 0 1∧tA 283 1 1 1∧tA 283 2 2 1∧tA 283 3 3 1∧tA 283 4 4 1:=⟨tf (by kernel_rfl),fZ (by kernel_rfl),fK (by kernel_rfl),fA (by kernel_rfl),fA (by kernel_rfl),fA (by kernel_rfl),fA (by kernel_rfl),fA (by kernel_rfl)⟩
@[simp] theorem Yig:tF 292 (some (1,false)) none false none 0 false 1 8∧tZ 292 .nilp∧tK 292 1:=⟨tf (by kernel_rfl),fZ (by kernel_rfl),fK (by kernel_rfl)⟩
@[simp] theorem Vif:tF 294 (some (1,false)) none false none 0 false 0 0:=tf (by kernel_rfl)
@[simp] theorem Yix:tF 297 (some (1,false)) none false none 0 false 4 8∧tZ 297 .nilf∧tK 297 1:=⟨tf (by kernel_rfl),fZ (by kernel_rfl),fK (by kernel_rfl)⟩
@[simp] theorem Wit:tF 298 (some (1,false)) none false none 0 false 4 8∧tZ 298 .nilf∧tK 298 1:=⟨tf (by kernel_rfl),fZ (by kernel_rfl),fK (by kernel_rfl)⟩
@[simp] theorem Wif:tF 301 (some (1,false)) none false none 0 false 4 8∧tZ 301 .nilf∧tK 301 1:=⟨tf (by kernel_rfl),fZ (by kernel_rfl),fK (by kernel_rfl)⟩
@[simp] theorem Wid:tF 304 (some (2,true)) none false none 0 false 0 16∧tZ 304 (.agg [.nilf,.int .i64 0])∧tK 304 2∧tD 304 0 0 209∧tA 304 0 0 1∧tD 304 1 1 39∧tA 304 1 1 1:=⟨tf (by kernel_rfl),fZ (by kernel_rfl),fK (by kernel_rfl),fD (by kernel_rfl),fA (by kernel_rfl),fD (by kernel_rfl),fA (by kernel_rfl)⟩
@[simp] theorem Zia:tF 305 (some (1,false)) (some 304) false none 0 false 2 24∧tZ 305 .nils∧tK 305 1:=⟨tf (by kernel_rfl),fZ (by kernel_rfl),fK (by kernel_rfl)⟩
@[simp] theorem Yiq:tF 306 (some (1,false)) none false none 0 false 0 0:=tf (by kernel_rfl)
@[simp] theorem Via:tF 308 (some (1,false)) none false (some .u64) 1 false 0 8∧tZ 308 (.int .u64 0)∧tK 308 1:=⟨tf (by kernel_rfl),fZ (by kernel_rfl),fK (by kernel_rfl)⟩
@[simp] theorem Uih:tF 309 (some (1,false)) none false none 0 false 0 0:=tf (by kernel_rfl)
@[simp] theorem Xie:tF 312 (some (1,false)) none false none 0 false 0 0:=tf (by kernel_rfl)
@[simp] theorem Xif:tF 314 (some (1,false)) none false none 0 false 1 8∧tZ 314 .nilp∧tK 314 1:=⟨tf (by kernel_rfl),fZ (by kernel_rfl),fK (by kernel_rfl)⟩
@[simp] theorem Uic:tF 322 (some (1,false)) none false (some .i64) 1 false 0 8∧tZ 322 (.int .i64 0)∧tK 322 1:=⟨tf (by kernel_rfl),fZ (by kernel_rfl),fK (by kernel_rfl)⟩
@[simp] theorem Vix:tF 323 (some (1,false)) none false none 0 false 0 0:=tf (by kernel_rfl)
@[simp] theorem Zim:tF 330 (some (1,false)) none false none 0 false 1 8∧tZ 330 .nilp∧tK 330 1:=⟨tf (by kernel_rfl),fZ (by kernel_rfl),fK (by kernel_rfl)⟩
@[simp] theorem Uh8:tF 332 (some (8,true)) none false none 0 false 0 96∧tZ 332 (.agg [.int .i64 0,.nils,.nils,.int .i64 0,.int .i64 0,.int .i64 0,.int .i64 0,.int .i64 0])∧tK 332 8∧tD 332 0 0 27∧tA 332 0 0 2∧tD 332 1 2 38∧tA 332 1 2 1∧tD 332 2 3 283∧tA 332 2 3 5:=⟨tf (by kernel_rfl),fZ (by kernel_rfl),fK (by kernel_rfl),fD (by kernel_rfl),fA (by kernel_rfl),fD (by kernel_rfl),fA (by kernel_rfl),fD (by kernel_rfl),fA (by kernel_rfl)⟩
@[simp] theorem Zh7:tF 334 (some (1,true)) none false none 0 false 0 8∧tZ 334 (.agg [.nilf])∧tK 334 1∧tD 334 0 0 120∧tA 334 0 0 1:=⟨tf (by kernel_rfl),fZ (by kernel_rfl),fK (by kernel_rfl),fD (by kernel_rfl),fA (by kernel_rfl)⟩
@[simp] theorem Viw:tF 336 (some (1,false)) none false none 0 false 3 8∧tZ 336 .nilm∧tK 336 1:=⟨tf (by kernel_rfl),fZ (by kernel_rfl),fK (by kernel_rfl)⟩
@[simp] theorem Wij:tF 338 (some (1,false)) none false none 0 false 4 8∧tZ 338 .nilf∧tK 338 1:=⟨tf (by kernel_rfl),fZ (by kernel_rfl),fK (by kernel_rfl)⟩
@[simp] theorem Wic:tF 340 (some (1,false)) (some 66) false none 0 false 2 24∧tZ 340 .nils∧tK 340 1:=⟨tf (by kernel_rfl),fZ (by kernel_rfl),fK (by kernel_rfl)⟩
@[simp] theorem Viq:tF 352 (some (24,true)) none false none 0 false 0 24∧tZ 352 (.agg [.int .u8 0,.int .u8 0,.int .u8 0,.int .u8 0,.int .u8 0,.int .u8 0,.int .u8 0,.int .u8 0,.int .u8 0,.int .u8 0,.int .u8 0,.int .u8 0,.int .u8 0,.int .u8 0,.int .u8 0,.int .u8 0,.int .u8 0,.int .u8 0,.int .u8 0,.int .u8 0,.int .u8 0,.int .u8 0,.int .u8 0,.int .u8 0])∧tK 352 24:=⟨tf (by kernel_rfl),fZ (by kernel_rfl),fK (by kernel_rfl)⟩
@[simp] theorem Yit:tF 354 (some (1,false)) none false none 0 false 0 0:=tf (by kernel_rfl)
@[simp] theorem Zid:tF 356 (some (1,false)) none false none 0 false 0 8∧tZ 356 .nilp∧tK 356 1:=⟨tf (by kernel_rfl),fZ (by kernel_rfl),fK (by kernel_rfl)⟩
@[simp] theorem Xiw:tF 360 (some (1,false)) none false none 0 false 4 8∧tZ 360 .nilf∧tK 360 1:=⟨tf (by kernel_rfl),fZ (by kernel_rfl),fK (by kernel_rfl)⟩
@[simp] theorem Uir:tF 361 (some (1,false)) none false none 0 false 4 8∧tZ 361 .nilf∧tK 361 1:=⟨tf (by kernel_rfl),fZ (by kernel_rfl),fK (by kernel_rfl)⟩
@[simp] theorem Yil:tF 363 (some (1,true)) none false none 0 false 0 16∧tZ 363 (.agg [.str []])∧tK 363 1∧tD 363 0 0 9∧tA 363 0 0 1:=⟨tf (by kernel_rfl),fZ (by kernel_rfl),fK (by kernel_rfl),fD (by kernel_rfl),fA (by kernel_rfl)⟩
@[simp] theorem Xip:tF 364 (some (1,false)) none false none 0 false 0 0:=tf (by kernel_rfl)
@[simp] theorem Uh9:tF 367 (some (3,true)) none false none 0 false 0 48∧tZ 367 (.agg [.str [],.str [],.nili])∧tK 367 3∧tD 367 0 0 9∧tA 367 0 0 1∧tD 367 1 1 9∧tA 367 1 1 1∧tD 367 2 2 104∧tA 367 2 2 1:=⟨tf (by kernel_rfl),fZ (by kernel_rfl),fK (by kernel_rfl),fD (by kernel_rfl),fA (by kernel_rfl),fD (by kernel_rfl),fA (by kernel_rfl),fD (by kernel_rfl),fA (by kernel_rfl)⟩
@[simp] theorem Uij:tF 383 (some (1,false)) none false (some .u64) 1 false 0 8∧tZ 383 (.int .u64 0)∧tK 383 1:=⟨tf (by kernel_rfl),fZ (by kernel_rfl),fK (by kernel_rfl)⟩
@[simp] theorem Zii:tF 387 (some (1,false)) none false none 0 false 1 8∧tZ 387 .nilp∧tK 387 1:=⟨tf (by kernel_rfl),fZ (by kernel_rfl),fK (by kernel_rfl)⟩
@[simp] theorem Wis:tF 403 (some (20,true)) none false none 0 false 0 160∧tZ 403 (.agg [.int .u64 0,.int .u64 0,.int .u64 0,.int .u64 0,.int .u64 0,.int .u64 0,.int .u64 0,.int .u64 0,.int .u64 0,.int .u64 0,.int .u64 0,.int .u64 0,.int .u64 0,.int .u64 0,.int .u64 0,.int .u64 0,.int .u64 0,.int .u64 0,.int .u64 0,.int .u64 0])∧tK 403 20:=⟨tf (by kernel_rfl),fZ (by kernel_rfl),fK (by kernel_rfl)⟩
@[simp] theorem Wh9:tF 404 (some (65,true)) none false none 0 false 0 65:=tf (by kernel_rfl)
@[simp] theorem Zil:tF 409 (some (1,false)) none false none 0 false 1 8∧tZ 409 .nilp∧tK 409 1:=⟨tf (by kernel_rfl),fZ (by kernel_rfl),fK (by kernel_rfl)⟩
@[simp] theorem Vh8:tF 411 (some (1,true)) none false none 0 false 0 16∧tZ 411 (.agg [.str []])∧tK 411 1∧tD 411 0 0 9∧tA 411 0 0 1:=⟨tf (by kernel_rfl),fZ (by kernel_rfl),fK (by kernel_rfl),fD (by kernel_rfl),fA (by kernel_rfl)⟩
@[simp] theorem Wil:tF 416 (some (1,false)) none false none 0 false 1 8∧tZ 416 .nilp∧tK 416 1:=⟨tf (by kernel_rfl),fZ (by kernel_rfl),fK (by kernel_rfl)⟩
@[simp] theorem Yid:tF 417 (some (1,false)) none false none 0 false 0 0:=tf (by kernel_rfl)
@[simp] theorem Xid:tF 429 (some (32,true)) none false none 0 false 0 32∧tZ 429 (.agg [.int .u8 0,.int .u8 0,.int .u8 0,.int .u8 0,.int .u8 0,.int .u8 0,.int .u8 0,.int .u8 0,.int .u8 0,.int .u8 0,.int .u8 0,.int .u8 0,.int .u8 0,.int .u8 0,.int .u8 0,.int .u8 0,.int .u8 0,.int .u8 0,.int .u8 0,.int .u8 0,.int .u8 0,.int .u8 0,.int .u8 0,.int .u8 0,.int .u8 0,.int .u8 0,.int .u8 0,.int .u8 0,.int .u8 0,.int .u8 0,.int .u8 0,.int .u8 0])∧tK 429 32:=⟨tf (by kernel_rfl),fZ (by kernel_rfl),fK (by kernel_rfl)⟩
@[simp] theorem Vig:tF 430 (some (64,true)) none false none 0 false 0 64∧tZ 430 (.agg [.int .u8 0,.int .u8 0,.int .u8 0,.int .u8 0,.int .u8 0,.int .u8 0,.int .u8 0,.int .u8 0,.int .u8 0,.int .u8 0,.int .u8 0,.int .u8 0,.int .u8 0,.int .u8 0,.int .u8 0,.int .u8 0,.int .u8 0,.int .u8 0,.int .u8 0,.int .u8 0,.int .u8 0,.int .u8 0,.int .u8 0,.int .u8 0,.int .u8 0,.int .u8 0,.int .u8 0,.int .u8 0,.int .u8 0,.int .u8 0,.int .u8 0,.int .u8 0,.int .u8 0,.int .u8 0,.int .u8 0,.int .u8 0,.int .u8 0,.int .u8 0,.int .u8 0,.int .u8 0,.int .u8 0,.int .u8 0,.int .u8 0,.int .u8 0,.int .u8 0,.int .u8 0,.int .u8 0,.int .u8 0,.int .u8 0,.int .u8 0,.int .u8 0,.int .u8 0,.int .u8 0,.int .u8 0,.int .u8 0,.int .u8 0,.int .u8 0,.int .u8 0,.int .u8 0,.int .u8 0,.int .u8 0,.int .u8 0,.int .u8 0,.int .u8 0])∧tK 430 64:=⟨tf (by kernel_rfl),fZ (by kernel_rfl),fK (by kernel_rfl)⟩
theorem Xeu:Yk Tryz.prog 177=some [1,1]:=by kernel_rfl
theorem Yd6 (parts:List (Nat × AV)):Xe Tryz.prog 177 parts=(Ud (apl Tryz.prog 177) [.int .i64 0,.int .i64 0] parts).map AV.agg:=Uf (by kernel_rfl) (by decide) (by kernel_rfl) parts
theorem Vfu (parts:List (Nat × AV)):Xe Tryz.prog 88 parts=(Ud (apl Tryz.prog 88) [.int .i64 0,.int .i64 0,.nils] parts).map AV.agg:=Uf (by kernel_rfl) (by decide) (by kernel_rfl) parts
theorem Ugp (parts:List (Nat × AV)):Xe Tryz.prog 75 parts=(Ud (apl Tryz.prog 75) [.int .i64 0,.int .i64 0,.bool false,.bool false,.nils,.nils] parts).map AV.agg:=Uf (by kernel_rfl) (by decide) (by kernel_rfl) parts
theorem Xdh:Zq Tryz.prog 186=some (177,75):=by kernel_rfl
theorem Vdc:Xi Tryz.prog 177=some [1,1]:=by kernel_rfl
theorem Wdi (parts:List (Nat × AV)):Xe Tryz.prog 179 parts=(Ud (apl Tryz.prog 179) [.bool false,.nils] parts).map AV.agg:=Uf (by kernel_rfl) (by decide) (by kernel_rfl) parts
theorem Ufz (parts:List (Nat × AV)):Xe Tryz.prog 137 parts=(Ud (apl Tryz.prog 137) [.nils,.int .i64 0,.int .u32 0] parts).map AV.agg:=Uf (by kernel_rfl) (by decide) (by kernel_rfl) parts
theorem Udx (parts:List (Nat × AV)):Xe Tryz.prog 207 parts=(Ud (apl Tryz.prog 207) [.nilp,.nils] parts).map AV.agg:=Uf (by kernel_rfl) (by decide) (by kernel_rfl) parts
theorem Zda (parts:List (Nat × AV)):Xe Tryz.prog 304 parts=(Ud (apl Tryz.prog 304) [.nilf,.int .i64 0] parts).map AV.agg:=Uf (by kernel_rfl) (by decide) (by kernel_rfl) parts
theorem Vey (parts:List (Nat × AV)):Xe Tryz.prog 267 parts=(Ud (apl Tryz.prog 267) [.nils] parts).map AV.agg:=Uf (by kernel_rfl) (by decide) (by kernel_rfl) parts
theorem Wde:Zq Tryz.prog 268=some (177,3):=by kernel_rfl
theorem Ygw:Xi Tryz.prog 177=some [1,1]:=by kernel_rfl
theorem Xgh (parts:List (Nat × AV)):Xe Tryz.prog 270 parts=(Ud (apl Tryz.prog 270) [.nils,.nilm] parts).map AV.agg:=Uf (by kernel_rfl) (by decide) (by kernel_rfl) parts
theorem Ugt:Yk Tryz.prog 363=some [3]:=by kernel_rfl
theorem Xfp (parts:List (Nat × AV)):Xe Tryz.prog 363 parts=(Ud (apl Tryz.prog 363) [.str []] parts).map AV.agg:=Uf (by kernel_rfl) (by decide) (by kernel_rfl) parts
theorem Zhf (parts:List (Nat × AV)):Xe Tryz.prog 367 parts=(Ud (apl Tryz.prog 367) [.str [],.str [],.nili] parts).map AV.agg:=Uf (by kernel_rfl) (by decide) (by kernel_rfl) parts
theorem Yea:Yk Tryz.prog 411=some [3]:=by kernel_rfl
theorem Vd3 (parts:List (Nat × AV)):Xe Tryz.prog 411 parts=(Ud (apl Tryz.prog 411) [.str []] parts).map AV.agg:=Uf (by kernel_rfl) (by decide) (by kernel_rfl) parts
theorem Whq (parts:List (Nat × AV)):Xe Tryz.prog 27 parts=(Ud (apl Tryz.prog 27) [.int .i64 0,.nils] parts).map AV.agg:=Uf (by kernel_rfl) (by decide) (by kernel_rfl) parts
theorem Weu (parts:List (Nat × AV)):Xe Tryz.prog 31 parts=(Ud (apl Tryz.prog 31) [.int .i64 0,.int .i64 0,.int .i64 0,.int .i64 0,.nils] parts).map AV.agg:=Uf (by kernel_rfl) (by decide) (by kernel_rfl) parts
theorem Xfa (parts:List (Nat × AV)):Xe Tryz.prog 34 parts=(Ud (apl Tryz.prog 34) [.int .i64 0,.nils] parts).map AV.agg:=Uf (by kernel_rfl) (by decide) (by kernel_rfl) parts
theorem Ygt (parts:List (Nat × AV)):Xe Tryz.prog 37 parts=(Ud (apl Tryz.prog 37) [.int .i64 0,.int .i64 0,.nils] parts).map AV.agg:=Uf (by kernel_rfl) (by decide) (by kernel_rfl) parts
theorem Xdz:Zq Tryz.prog 65=some (9,3):=by kernel_rfl
theorem Xgr (parts:List (Nat × AV)):Xe Tryz.prog 71 parts=(Ud (apl Tryz.prog 71) [.nils,.nils,.int .i64 0] parts).map AV.agg:=Uf (by kernel_rfl) (by decide) (by kernel_rfl) parts
theorem Who (parts:List (Nat × AV)):Xe Tryz.prog 150 parts=(Ud (apl Tryz.prog 150) [.nilf] parts).map AV.agg:=Uf (by kernel_rfl) (by decide) (by kernel_rfl) parts
theorem Vc6:Um Tryz.prog 164=some (4,3):=by kernel_rfl
theorem Uhg:Yk Tryz.prog 164=some [1,1,1,1]:=by kernel_rfl
theorem Vem:Xi Tryz.prog 164=some [1,1,1,1]:=by kernel_rfl
theorem Ydb (parts:List (Nat × AV)):Xe Tryz.prog 164 parts=(Ud (apl Tryz.prog 164) [.int .i64 0,.int .i64 0,.int .i64 0,.int .i64 0] parts).map AV.agg:=Uf (by kernel_rfl) (by decide) (by kernel_rfl) parts
theorem Xfx:Yk Tryz.prog 196=some [1,1]:=by kernel_rfl
theorem Ve8:Xi Tryz.prog 196=some [1,1]:=by kernel_rfl
theorem Ycu (parts:List (Nat × AV)):Xe Tryz.prog 196 parts=(Ud (apl Tryz.prog 196) [.int .i64 0,.int .i64 0] parts).map AV.agg:=Uf (by kernel_rfl) (by decide) (by kernel_rfl) parts
theorem Zey (parts:List (Nat × AV)):Xe Tryz.prog 198 parts=(Ud (apl Tryz.prog 198) [.nils,.nils,.int .i64 0,.nils,.nils] parts).map AV.agg:=Uf (by kernel_rfl) (by decide) (by kernel_rfl) parts
theorem Vgy (parts:List (Nat × AV)):Xe Tryz.prog 252 parts=(Ud (apl Tryz.prog 252) [.int .i64 0,.int .i64 0,.int .i64 0,.int .i64 0,.nils,.nils] parts).map AV.agg:=Uf (by kernel_rfl) (by decide) (by kernel_rfl) parts
theorem Yfs:Zq Tryz.prog 253=some (256,3):=by kernel_rfl
theorem Wfm:Yk Tryz.prog 256=some [1,1,1,1,1]:=by kernel_rfl
theorem Wdm:Xi Tryz.prog 256=some [1,1,1,1,1]:=by kernel_rfl
theorem Ydi (parts:List (Nat × AV)):Xe Tryz.prog 256 parts=(Ud (apl Tryz.prog 256) [.int .i64 0,.int .i64 0,.int .i64 0,.int .i64 0,.int .i64 0] parts).map AV.agg:=Uf (by kernel_rfl) (by decide) (by kernel_rfl) parts
theorem Zdw:Um Tryz.prog 280=some (7,3):=by kernel_rfl
theorem Ug5:Yk Tryz.prog 280=some [1,1,1,1,1,1,1]:=by kernel_rfl
theorem Yhm:Xi Tryz.prog 280=some [1,1,1,1,1,1,1]:=by kernel_rfl
theorem Xfj (parts:List (Nat × AV)):Xe Tryz.prog 280 parts=(Ud (apl Tryz.prog 280) [.int .i64 0,.int .i64 0,.int .i64 0,.int .i64 0,.int .i64 0,.int .i64 0,.int .i64 0] parts).map AV.agg:=Uf (by kernel_rfl) (by decide) (by kernel_rfl) parts
theorem Ug0:tz Tryz.prog 281=some (.agg [.int .i64 0,.int .i64 0,.int .i64 0,.int .i64 0,.int .i64 0,.int .i64 0,.int .i64 0,.int .i64 0,.int .i64 0,.int .i64 0,.int .i64 0,.int .i64 0,.int .i64 0,.int .i64 0,.int .i64 0,.int .i64 0,.int .i64 0,.int .i64 0,.int .i64 0,.int .i64 0,.int .i64 0,.int .i64 0,.int .i64 0,.int .i64 0,.int .i64 0,.int .i64 0,.int .i64 0,.int .i64 0,.int .i64 0,.int .i64 0,.int .i64 0,.int .i64 0,.int .i64 0,.int .i64 0,.int .i64 0,.int .i64 0,.int .i64 0,.int .i64 0,.int .i64 0,.int .i64 0,.int .i64 0,.int .i64 0,.int .i64 0,.int .i64 0,.int .i64 0,.int .i64 0,.int .i64 0,.int .i64 0,.int .i64 0]):=by kernel_rfl
theorem Zdc:Um Tryz.prog 281=some (7,280):=by kernel_rfl
theorem Yh3:Yk Tryz.prog 281=some [1,1,1,1,1,1,1,1,1,1,1,1,1,1,1,1,1,1,1,1,1,1,1,1,1,1,1,1,1,1,1,1,1,1,1,1,1,1,1,1,1,1,1,1,1,1,1,1,1]:=by kernel_rfl
theorem Ve6:Xi Tryz.prog 281=some [1,1,1,1,1,1,1,1,1,1,1,1,1,1,1,1,1,1,1,1,1,1,1,1,1,1,1,1,1,1,1,1,1,1,1,1,1,1,1,1,1,1,1,1,1,1,1,1,1]:=by kernel_rfl
theorem Whz (parts:List (Nat × AV)):Xe Tryz.prog 281 parts=(Ud (apl Tryz.prog 281) [.int .i64 0,.int .i64 0,.int .i64 0,.int .i64 0,.int .i64 0,.int .i64 0,.int .i64 0,.int .i64 0,.int .i64 0,.int .i64 0,.int .i64 0,.int .i64 0,.int .i64 0,.int .i64 0,.int .i64 0,.int .i64 0,.int .i64 0,.int .i64 0,.int .i64 0,.int .i64 0,.int .i64 0,.int .i64 0,.int .i64 0,.int .i64 0,.int .i64 0,.int .i64 0,.int .i64 0,.int .i64 0,.int .i64 0,.int .i64 0,.int .i64 0,.int .i64 0,.int .i64 0,.int .i64 0,.int .i64 0,.int .i64 0,.int .i64 0,.int .i64 0,.int .i64 0,.int .i64 0,.int .i64 0,.int .i64 0,.int .i64 0,.int .i64 0,.int .i64 0,.int .i64 0,.int .i64 0,.int .i64 0,.int .i64 0] parts).map AV.agg:=Uf (by kernel_rfl) (by decide) (by kernel_rfl) parts
theorem Zdb:Um Tryz.prog 283=some (5,3):=by kernel_rfl
theorem Zfu:Yk Tryz.prog 283=some [1,1,1,1,1]:=by kernel_rfl
theorem Vdi:Xi Tryz.prog 283=some [1,1,1,1,1]:=by kernel_rfl
theorem Zg3 (parts:List (Nat × AV)):Xe Tryz.prog 283 parts=(Ud (apl Tryz.prog 283) [.int .i64 0,.int .i64 0,.int .i64 0,.int .i64 0,.int .i64 0] parts).map AV.agg:=Uf (by kernel_rfl) (by decide) (by kernel_rfl) parts
theorem Whp (parts:List (Nat × AV)):Xe Tryz.prog 332 parts=(Ud (apl Tryz.prog 332) [.int .i64 0,.nils,.nils,.int .i64 0,.int .i64 0,.int .i64 0,.int .i64 0,.int .i64 0] parts).map AV.agg:=Uf (by kernel_rfl) (by decide) (by kernel_rfl) parts
theorem Yeu (parts:List (Nat × AV)):Xe Tryz.prog 334 parts=(Ud (apl Tryz.prog 334) [.nilf] parts).map AV.agg:=Uf (by kernel_rfl) (by decide) (by kernel_rfl) parts
theorem Zf5:Zq Tryz.prog 336=some (3,4):=by kernel_rfl
attribute [simp] Xeu Yd6 Vfu Ugp Xdh Vdc Wdi Ufz Udx Zda Vey Wde Ygw Xgh Ugt Xfp Zhf Yea Vd3 Whq Weu Xfa Ygt Xdz Xgr Who Vc6 Uhg Vem Ydb Xfx Ve8 Ycu Zey Vgy Yfs Wfm Wdm Ydi Zdw Ug5 Yhm Xfj Ug0 Zdc Yh3 Ve6 Whz Zdb Zfu Vdi Zg3 Whp Yeu Zf5
end Ab
